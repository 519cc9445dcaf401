/- mine's find. Conditions: the log reads as lists, nothing is wrong with it, the fuel is enough. -/
import Derived.Test.YtcopnfdknclhnaaGreatMineTellsK37
import Derived.Test.YtcopnfdknclhnaaGreatMineTellsK21
namespace Go.Proofs.YtcopnfdknclhnaaGreat
open Go.RowKit Go.Maps

section
variable {f : Nat} {log full : List (List Int)} {p : PPrints}
theorem findB_nil (h : (fullL log).length = 0) : findB (f + 1) log = silentB := by rw [findB, if_pos h]
theorem findB_mix (h0 : (fullL log).length ≠ 0) (h : (fullL log).length < log.length) : findB (f + 1) log = .mk 4 0 [silentB, findB f (fullL log)] := by rw [findB, if_neg h0, if_pos h]
theorem findB_rest (h0 : (fullL log).length ≠ 0) (h : ¬ (fullL log).length < log.length) : findB (f + 1) log = partB (findB f) (fullL log) := by rw [findB, if_neg h0, if_neg h]
variable (hp : ShowsP full p)
include hp
theorem partB_long (h1 : p.labels.length = 1) (hv : full.any (fun t => decide (1 < t.length)) = true) : partB (findB f) full = .mk 6 0 [stepB (p.labels.headD 0), silentB] := by
  unfold partB; rw [showL_is hp, if_pos h1, if_pos hv]
theorem partB_step (h1 : p.labels.length = 1) (hv : full.any (fun t => decide (1 < t.length)) = false) : partB (findB f) full = stepB (p.labels.headD 0) := by
  unfold partB; rw [showL_is hp, if_pos h1, if_neg (by rw [hv]; exact fun h => nomatch h)]
theorem partB_choose (h1 : p.labels.length ≠ 1) (h : 2 ≤ (grpL (bhB p) p.labels).length) : partB (findB f) full = .mk 4 0 ((grpL (bhB p) p.labels).map fun g => findB f (full.filter fun t => inS g (t.headD 0))) := by
  unfold partB; rw [showL_is hp, if_neg h1, if_pos h]
theorem partB_seq (h1 : p.labels.length ≠ 1) (h : ¬ 2 ≤ (grpL (bhB p) p.labels).length) (h2 : seqP p) : partB (findB f) full = seqT f full p := by
  unfold partB; rw [showL_is hp, if_neg h1, if_neg h, if_pos (show 2 ≤ (grpL (alikeB (leadB p)) p.labels).length from h2)]; rfl
theorem partB_both (h1 : p.labels.length ≠ 1) (h : ¬ 2 ≤ (grpL (bhB p) p.labels).length) (h2 : ¬ seqP p) (h3 : bothP p) : partB (findB f) full = bothT f full p := by
  unfold partB; rw [showL_is hp, if_neg h1, if_neg h, if_neg (show ¬ 2 ≤ (grpL (alikeB (leadB p)) p.labels).length from h2), if_pos (show 2 ≤ (grpL (awayB p) p.labels).length ∧ ((grpL (awayB p) p.labels).all fun g => meetB g p.first && meetB g p.last) = true from h3)]; rfl
theorem partB_loop (h1 : p.labels.length ≠ 1) (h : ¬ 2 ≤ (grpL (bhB p) p.labels).length) (h2 : ¬ seqP p) (h3 : ¬ bothP p) : partB (findB f) full = .mk 6 0 [silentB, .mk 4 0 (p.labels.map stepB)] := by
  unfold partB; rw [showL_is hp, if_neg h1, if_neg h, if_neg (show ¬ 2 ≤ (grpL (alikeB (leadB p)) p.labels).length from h2), if_neg (show ¬ (2 ≤ (grpL (awayB p) p.labels).length ∧ ((grpL (awayB p) p.labels).all fun g => meetB g p.first && meetB g p.last) = true) from h3)]
end
theorem BlkA.flat {P : Nat → Prop} {w : World} {d d' : Nat} {v : Value} {T : PBlk} (h : BlkA P d w v T) (hT : T.kids = []) : BlkA P d' w v T := by
  obtain ⟨A, n, c, e, s, p⟩ := h
  have hn : n = 0 := by rw [← s.len, hT]; rfl
  exact ⟨A, n, c, e, ⟨s.len, s.le, s.cap, s.small, s.nul, fun h => absurd h (by omega)⟩, p⟩
/-- A block that a call has answered, whatever was ahead. -/
theorem BlkA.of_ans {w w0 w' : World} {d : Nat} {v : Value} {T : PBlk} (h : BlkA (fun k => w.heap.size ≤ k) d w' v T) (hb : Below w0.heap.size w0 w) : BlkA (fun k => w0.heap.size ≤ k) d w' v T := h.wide (fun _ _ hk => Nat.le_trans hb.size hk)
set_option maxRecDepth 100000 in
set_option maxHeartbeats 8000000 in
theorem mnFind_step {f : Nat} (IH : FindIH f) : FindIH (f + 1) := fun w A n c log h hf => by
  have IHH := hide2 IH
  have HF := hide2 hf
  have NN := hide2 (show n ≤ 60 by rw [← h.len]; exact hf.n)
  have HL := hide2 h.len
  have B0 := hide2 (boxBelow w (.cells #[.int .i64 0, .int .i64 0, .slice none 0 0] 25))
  have X0 := hide2 (Box.new w #[.int .i64 0, .int .i64 0, .slice none 0 0] 25)
  have CC := hide2 (cloneLists_calls (Sl.keep ListR.kept h B0.out) (by have := NN.out; omega))
  clear h hf IH
  go_enter Tryz.func8, Tryz.ntmps8
  go_upto_region 1 with fail
  generalize w.alloc (.cells #[.int .i64 0, .int .i64 0, .slice none 0 0] 25) = w1 at *
  go_wp2_with fail
  refine CC.out.mono ?_
  rintro e w2 ⟨v2, rfl, ow2, hb2⟩
  have hl2 := ow2.lt
  have CD := hide2 (delA_calls (F := 18) (cv := #[]) (q := emptyB) ow2 (by have := NN.out; omega) (Nat.le_refl _) (fun args w => by kernel_rfl) (fun gr _ => find1_pred w2 gr log))
  have B2 := hide2 hb2
  have HL2 := hide2 hl2
  clear ow2 hb2 hl2 CC
  go_wp2_with fail
  refine CD.out.mono ?_
  rintro e w3 ⟨A3, k, c3, rfl, ow3, hg3⟩
  rw [show (log.filter fun a => !emptyB a) = fullL log from rfl] at ow3
  have D3 := hide2 (show Below w1.heap.size w1 w3 from B2.out.grown hg3 B2.out.size (fun q hq => (HL2.out q hq).1))
  have KL := hide2 (show (fullL log).length = k from ow3.len)
  have KN := hide2 (show k ≤ 60 by rw [← KL.out]; exact Nat.le_trans (List.length_filter_le _ _) HF.out.n)
  obtain ⟨A4, c4, e4, il4⟩ := RowN.lists ow3 (by have := KN.out; omega)
  injection e4 with e41 _ e42
  subst e41 e42
  have IL := hide2 il4
  have D0 := hide2 (B0.out.trans (D3.out.mono B0.out.size))
  have X3 := hide2 (X0.out.keep D3.out)
  have W1 := hide2 (show w.heap.size < w1.heap.size from X0.out.lt)
  clear ow3 hg3 il4 CD
  by_cases hk0 : k = 0
  · have EQ := hide2 (findB_nil (f := f) (log := log) (by rw [KL.out]; exact hk0))
    have CS := hide2 (silent_calls w3 (f + 3))
    have hki : ((k : Int) == 0) = true := by simp [hk0]
    have FB := hide2 (show ∀ (w' : World) (v : Value), BlkA (fun j => w.heap.size ≤ j) (f + 3) w' v (silentB) → Below w.heap.size w w' → AnsBlk (f + 1 + 2) (findB (f + 1) log) w (.returned v) w' from fun w' v hb hw => ⟨v, rfl, by rw [EQ.out]; exact hb, hw⟩)
    clear hk0
    go_wp2_with fail
    refine CS.out.mono ?_
    rintro e w4 ⟨v4, rfl, ⟨A4', n4', c4', rfl, s4, p4⟩, hb4⟩
    have BA4 := hide2 (show BlkA (fun q => w3.heap.size ≤ q) (f + 3) w4 (.agg #[.int .i64 (silentB).kind, .int .i64 (silentB).label, .slice A4' n4' c4']) (silentB) from ⟨A4', n4', c4', rfl, s4, p4⟩)
    obtain ⟨kd4, hkd⟩ : ∃ x, x = (silentB).kind := ⟨_, rfl⟩
    obtain ⟨lb4, hlb⟩ : ∃ x, x = (silentB).label := ⟨_, rfl⟩
    rw [← hkd, ← hlb] at BA4
    rw [← hkd, ← hlb]
    have HB4 := hide2 hb4
    clear s4 p4 hb4 hkd hlb
    have X4 := hide2 (X3.out.keep HB4.out)
    obtain ⟨u0, u1, u2⟩ := X4.out.three
    have fz := fun q => X4.out.frozen q
    have WW := hide2 (blk_set (w := w) BA4.out X4.out HB4.out D0.out (Nat.lt_of_lt_of_le W1.out D3.out.size) (Nat.le_refl _))
    go_wp2
    generalize (((w4.setCell ⟨w.heap.size, 0, none⟩ (.int .i64 kd4)).setCell ⟨w.heap.size, 1, none⟩ (.int .i64 lb4)).setCell ⟨w.heap.size, 2, none⟩ (.slice A4' n4' c4')) = ww at *
    obtain ⟨z0, z1, z2⟩ := WW.out.1.three
    exact bodyPost_ret (v := .agg #[.int .i64 kd4, .int .i64 lb4, .slice A4' n4' c4']) (by simp [results, Tryz.results8, go_sem, z0, z1, z2]) rfl (FB.out ww _ WW.out.2.1 WW.out.2.2)
  · have hki : ((k : Int) == 0) = false := by simp; omega
    have HK0 := hide2 (show (fullL log).length ≠ 0 by rw [KL.out]; exact hk0)
    clear hk0
    by_cases hkn : k < n
    · have EQ := hide2 (findB_mix (f := f) HK0.out (by rw [KL.out, HL.out]; exact hkn))
      have FB := hide2 (show ∀ (w' : World) (v : Value), BlkA (fun j => w.heap.size ≤ j) (f + 3) w' v (.mk 4 0 [silentB, findB f (fullL log)]) → Below w.heap.size w w' → AnsBlk (f + 1 + 2) (findB (f + 1) log) w (.returned v) w' from fun w' v hb hw => ⟨v, rfl, by rw [EQ.out]; exact hb, hw⟩)
      have CS := hide2 (silent_calls w3 (f + 2))
      have FF := hide2 (HF.out.full (by rw [KL.out, HL.out]; exact hkn))
      have hkni : (k : Int) < (n : Int) := by omega
      clear hkn
      go_wp2_with fail
      refine CS.out.mono ?_
      rintro e w4 ⟨v4, rfl, ⟨A4', n4', c4', rfl, s4, p4⟩, hb4⟩
      have BA4 := hide2 (show BlkA (fun q => w3.heap.size ≤ q) (f + 2) w4 (.agg #[.int .i64 (silentB).kind, .int .i64 (silentB).label, .slice A4' n4' c4']) (silentB) from ⟨A4', n4', c4', rfl, s4, p4⟩)
      obtain ⟨kd4, hkd⟩ : ∃ x, x = (silentB).kind := ⟨_, rfl⟩
      obtain ⟨lb4, hlb⟩ : ∃ x, x = (silentB).label := ⟨_, rfl⟩
      rw [← hkd, ← hlb] at BA4
      rw [← hkd, ← hlb]
      have HB4 := hide2 hb4
      clear s4 p4 hb4 hkd hlb
      have CF := hide2 (IHH.out w4 A3 k c3 (fullL log) (Sl.keep ListR.kept IL.out HB4.out) FF.out)
      go_wp2_with fail
      refine CF.out.mono ?_
      rintro e w5 ⟨v5, rfl, ⟨A5', n5', c5', rfl, s5, p5⟩, hb5⟩
      have BA5 := hide2 (show BlkA (fun q => w4.heap.size ≤ q) (f + 2) w5 (.agg #[.int .i64 (findB f (fullL log)).kind, .int .i64 (findB f (fullL log)).label, .slice A5' n5' c5']) (findB f (fullL log)) from ⟨A5', n5', c5', rfl, s5, p5⟩)
      obtain ⟨kd5, hkd⟩ : ∃ x, x = (findB f (fullL log)).kind := ⟨_, rfl⟩
      obtain ⟨lb5, hlb⟩ : ∃ x, x = (findB f (fullL log)).label := ⟨_, rfl⟩
      rw [← hkd, ← hlb] at BA5
      rw [← hkd, ← hlb]
      have HB5 := hide2 hb5
      clear s5 p5 hb5 hkd hlb
      have H35 := hide2 (HB4.out.trans (HB5.out.mono HB4.out.size))
      have RW := hide2 (row_two (BA4.out.keep HB5.out) (BA5.out.of_ans HB4.out))
      have BR := hide2 (boxBelow w5 (.cells #[.int .i64 kd4, .int .i64 lb4, .slice A4' n4' c4', .int .i64 kd5, .int .i64 lb5, .slice A5' n5' c5'] 25))
      have H36 := hide2 (H35.out.trans (BR.out.mono H35.out.size))
      have CB := hide2 (block_calls 4 RW.out (fun _ a ha => by injection ha with ha; subst ha; exact H35.out.size) H36.out)
      go_wp2_with fail
      generalize w5.alloc (.cells #[.int .i64 kd4, .int .i64 lb4, .slice A4' n4' c4', .int .i64 kd5, .int .i64 lb5, .slice A5' n5' c5'] 25) = w5b at *
      refine CB.out.mono ?_
      rintro e w6 ⟨h6, _⟩
      obtain ⟨v6, rfl, ⟨A6', n6', c6', rfl, s6, p6⟩, hb6⟩ := h6
      have BA6 := hide2 (show BlkA (fun q => w3.heap.size ≤ q) (f + 3) w6 (.agg #[.int .i64 (PBlk.mk 4 0 [silentB, findB f (fullL log)]).kind, .int .i64 (PBlk.mk 4 0 [silentB, findB f (fullL log)]).label, .slice A6' n6' c6']) (.mk 4 0 [silentB, findB f (fullL log)]) from ⟨A6', n6', c6', rfl, s6, p6⟩)
      generalize (PBlk.mk 4 0 [silentB, findB f (fullL log)]).kind = kd6 at *
      generalize (PBlk.mk 4 0 [silentB, findB f (fullL log)]).label = lb6 at *
      have HB6 := hide2 hb6
      clear s6 p6 hb6
      have X6 := hide2 (X3.out.keep HB6.out)
      obtain ⟨u0, u1, u2⟩ := X6.out.three
      have fz := fun q => X6.out.frozen q
      have WW := hide2 (blk_set (w := w) BA6.out X6.out HB6.out D0.out (Nat.lt_of_lt_of_le W1.out D3.out.size) (Nat.le_refl _))
      go_wp2
      generalize (((w6.setCell ⟨w.heap.size, 0, none⟩ (.int .i64 kd6)).setCell ⟨w.heap.size, 1, none⟩ (.int .i64 lb6)).setCell ⟨w.heap.size, 2, none⟩ (.slice A6' n6' c6')) = ww at *
      obtain ⟨z0, z1, z2⟩ := WW.out.1.three
      exact bodyPost_ret (v := .agg #[.int .i64 kd6, .int .i64 lb6, .slice A6' n6' c6']) (by simp [results, Tryz.results8, go_sem, z0, z1, z2]) rfl (FB.out ww _ WW.out.2.1 WW.out.2.2)
    · have EQ0 := hide2 (findB_rest (f := f) HK0.out (by rw [KL.out, HL.out]; exact hkn))
      have hkni : ¬ (k : Int) < (n : Int) := by omega
      have SAME := hide2 (fullL_same (log := log) (by rw [KL.out, HL.out]; exact hkn))
      have FU := hide2 (show Fuel (f + 1) (fullL log) by rw [SAME.out]; exact HF.out)
      have HE := hide2 (show ∀ t ∈ fullL log, t.length ≠ 0 from fun t ht => (mem_fullL.1 ht).2)
      have CO := hide2 (mnOf_calls IL.out FU.out.1)
      clear hkn
      go_wp2_with fail
      refine CO.out.mono ?_
      rintro e w4 ⟨p, A1, A2, A3b, A4, n1, c1, n2, c2, n3, c3b, n4, c4, rfl, li, sp, hb4⟩
      have SP := hide2 sp
      have BB5 := hide2 (boxBelow w4 (.cells #[.slice A3 k c3, .slice A1 n1 c1, .slice A2 n2 c2, .slice A3b n3 c3b, .slice A4 n4 c4] 47))
      have H45 := hide2 (hb4.trans (BB5.out.mono hb4.size))
      have LI := hide2 (li.keep BB5.out)
      have TB := hide2 (Box.new w4 #[.slice A3 k c3, .slice A1 n1 c1, .slice A2 n2 c2, .slice A3b n3 c3b, .slice A4 n4 c4] 47)
      have X5 := hide2 (X3.out.keep H45.out)
      have IL5 := hide2 (Sl.keep ListR.kept IL.out H45.out)
      have D5 := hide2 (D0.out.trans (H45.out.mono D0.out.size))
      have W5 := hide2 (show w.heap.size < (w4.alloc (.cells #[.slice A3 k c3, .slice A1 n1 c1, .slice A2 n2 c2, .slice A3b n3 c3b, .slice A4 n4 c4] 47)).heap.size from X5.out.lt)
      have LN := hide2 (show p.labels.length = n1 ∧ n1 ≤ 26 from ⟨li.ip.i1.len, by rw [← li.ip.i1.len]; exact asc_count sp.1.1 (sp.lab FU.out.1)⟩)
      clear li sp hb4 CO
      go_upto_region 7 with fail
      generalize w4.alloc (.cells #[.slice A3 k c3, .slice A1 n1 c1, .slice A2 n2 c2, .slice A3b n3 c3b, .slice A4 n4 c4] 47) = w5 at *
      generalize w4.heap.size = bl at *
      have x1 := TB.out.cell 1
      by_cases hone : n1 = 1
      · have ONE := hide2 (show p.labels.length = 1 by rw [LN.out.1]; exact hone)
        have hni : ((n1 : Int) == 1) = true := by simp [hone]
        have hn0 : 0 < n1 := by omega
        obtain ⟨b1, off1, a, rfl, hb1, ha, q1⟩ := Ints.get LI.out.ip.i1 hn0
        have HA := hide2 (show p.labels.headD 0 = a from by
          have h1 := ha.out
          cases hc : p.labels with
          | nil => rw [hc] at h1; simp at h1
          | cons x t => rw [hc] at h1; simpa using h1)
        rw [Nat.add_zero] at q1
        have CS := hide2 (step_calls w5 (f + 2) a)
        clear hone hb1 ha
        go_wp2_with fail
        refine CS.out.mono ?_
        rintro e w6 ⟨v6, rfl, ⟨A6', n6', c6', rfl, s6, p6⟩, hb6⟩
        have BA6 := hide2 (show BlkA (fun q => w5.heap.size ≤ q) (f + 2) w6 (.agg #[.int .i64 (stepB a).kind, .int .i64 (stepB a).label, .slice A6' n6' c6']) (stepB a) from ⟨A6', n6', c6', rfl, s6, p6⟩)
        obtain ⟨kd6, hkd⟩ : ∃ x, x = (stepB a).kind := ⟨_, rfl⟩
        obtain ⟨lb6, hlb⟩ : ∃ x, x = (stepB a).label := ⟨_, rfl⟩
        rw [← hkd, ← hlb] at BA6
        rw [← hkd, ← hlb]
        have HB6 := hide2 hb6
        clear s6 p6 hb6 hkd hlb
        have BB7 := hide2 (boxBelow w6 (.cells #[.int .i64 kd6, .int .i64 lb6, .slice A6' n6' c6'] 25))
        have TS := hide2 (Box.new w6 #[.int .i64 kd6, .int .i64 lb6, .slice A6' n6' c6'] 25)
        have H57 := hide2 (HB6.out.trans (BB7.out.mono HB6.out.size))
        have BA7 := hide2 (BA6.out.keep BB7.out)
        have CT := hide2 (containsT_calls (Sl.keep ListR.kept IL5.out H57.out) (find2_pred _))
        have HBS := hide2 (show w.heap.size ≠ w6.heap.size by have := W5.out; have := HB6.out.size; omega)
        clear x1 q1 CS
        go_upto_region 9 with fail
        generalize w6.alloc (.cells #[.int .i64 kd6, .int .i64 lb6, .slice A6' n6' c6'] 25) = w7 at *
        generalize w6.heap.size = bs at *
        obtain ⟨v, hv⟩ : ∃ v, (fullL log).any (fun y => decide (1 < y.length)) = v := ⟨_, rfl⟩
        have HV := hide2 hv
        rw [hv] at CT
        clear hv
        cases v
        · have EQ := hide2 (show findB (f + 1) log = stepB a from by rw [EQ0.out, partB_step SP.out ONE.out HV.out, HA.out])
          have FB := hide2 (show ∀ (w' : World) (v : Value), BlkA (fun j => w.heap.size ≤ j) (f + 3) w' v (stepB a) → Below w.heap.size w w' → AnsBlk (f + 1 + 2) (findB (f + 1) log) w (.returned v) w' from fun w' v hb hw => ⟨v, rfl, by rw [EQ.out]; exact hb, hw⟩)
          go_wp2_with fail
          refine CT.out.mono ?_
          rintro e w8 ⟨rfl, hb8⟩
          have H58 := hide2 (H57.out.trans (hb8.mono H57.out.size))
          have BA8 := hide2 ((BA7.out.keep hb8).flat (d' := f + 3) rfl)
          have X8 := hide2 (X5.out.keep H58.out)
          obtain ⟨s0, s1, s2⟩ := (TS.out.keep hb8).three
          have HB8 := hide2 H58.out
          clear hb8 CT
          obtain ⟨kd8, hkd8⟩ : ∃ x, x = kd6 := ⟨_, rfl⟩
          obtain ⟨lb8, hlb8⟩ : ∃ x, x = lb6 := ⟨_, rfl⟩
          obtain ⟨A8', hA8⟩ : ∃ x, x = A6' := ⟨_, rfl⟩
          obtain ⟨n8', hn8⟩ : ∃ x, x = n6' := ⟨_, rfl⟩
          obtain ⟨c8', hc8⟩ : ∃ x, x = c6' := ⟨_, rfl⟩
          subst hkd8 hlb8 hA8 hn8 hc8
          obtain ⟨u0, u1, u2⟩ := X8.out.three
          have fz := fun q => X8.out.frozen q
          have WW := hide2 (blk_set (w := w) BA8.out X8.out HB8.out D5.out W5.out (Nat.le_refl _))
          go_wp2
          generalize (((w8.setCell ⟨w.heap.size, 0, none⟩ (.int .i64 kd8)).setCell ⟨w.heap.size, 1, none⟩ (.int .i64 lb8)).setCell ⟨w.heap.size, 2, none⟩ (.slice A8' n8' c8')) = ww at *
          obtain ⟨z0, z1, z2⟩ := WW.out.1.three
          exact bodyPost_ret (v := .agg #[.int .i64 kd8, .int .i64 lb8, .slice A8' n8' c8']) (by simp [results, Tryz.results8, go_sem, z0, z1, z2]) rfl (FB.out ww _ WW.out.2.1 WW.out.2.2)
        · have EQ := hide2 (show findB (f + 1) log = .mk 6 0 [stepB a, silentB] from by rw [EQ0.out, partB_long SP.out ONE.out HV.out, HA.out])
          have FB := hide2 (show ∀ (w' : World) (v : Value), BlkA (fun j => w.heap.size ≤ j) (f + 3) w' v (.mk 6 0 [stepB a, silentB]) → Below w.heap.size w w' → AnsBlk (f + 1 + 2) (findB (f + 1) log) w (.returned v) w' from fun w' v hb hw => ⟨v, rfl, by rw [EQ.out]; exact hb, hw⟩)
          go_wp2_with fail
          refine CT.out.mono ?_
          rintro e w8 ⟨rfl, hb8⟩
          have H8d := hide2 (hb8.trans ((Below.refl w8.heap.size w8).drew.mono hb8.size))
          have H58 := hide2 (H57.out.trans (H8d.out.mono H57.out.size))
          have BA8 := hide2 (BA7.out.keep H8d.out)
          have CS2 := hide2 (silent_calls w8.drew (f + 2))
          obtain ⟨s0, s1, s2⟩ := (TS.out.keep hb8).three
          have TS8 := hide2 (TS.out.keep H8d.out)
          have hbs := HBS.out
          have hbs2 := Ne.symm HBS.out
          clear hb8 CT
          go_wp2_with fail
          go_region_held3 (fun w' => w'.cell? ⟨bs, 0, none⟩ = some (.int .i64 kd6) ∧ w'.cell? ⟨bs, 1, none⟩ = some (.int .i64 lb6) ∧ w'.cell? ⟨bs, 2, none⟩ = some (.slice A6' n6' c6'))
            (first | go_keep)
            (first
              | (go_at_call 19; (with_reducible refine CS2.out.mono ?_); rintro e w9 ⟨v9, rfl, ⟨A9', n9', c9', rfl, s9, p9⟩, hb9⟩; have BA9 := hide2 (show BlkA (fun q => w8.drew.heap.size ≤ q) (f + 2) w9 (.agg #[.int .i64 (silentB).kind, .int .i64 (silentB).label, .slice A9' n9' c9']) (silentB) from ⟨A9', n9', c9', rfl, s9, p9⟩); obtain ⟨kd9, hkd⟩ : ∃ x, x = (silentB).kind := ⟨_, rfl⟩; obtain ⟨lb9, hlb⟩ : ∃ x, x = (silentB).label := ⟨_, rfl⟩; rw [← hkd, ← hlb] at BA9; rw [← hkd, ← hlb]; have HB9 := hide2 hb9; clear s9 p9 hb9 hkd hlb; have RW := hide2 (row_two (BA8.out.keep HB9.out) (BA9.out.of_ans H58.out)); have BR := hide2 (boxBelow w9 (.cells #[.int .i64 kd6, .int .i64 lb6, .slice A6' n6' c6', .int .i64 kd9, .int .i64 lb9, .slice A9' n9' c9'] 25)); have H59 := hide2 (H58.out.trans (HB9.out.mono H58.out.size)); have H5r := hide2 (H59.out.trans (BR.out.mono H59.out.size)); have CB2 := hide2 (block_calls 6 RW.out (fun _ a ha => by injection ha with ha; subst ha; exact H59.out.size) H5r.out); obtain ⟨t0, t1, t2⟩ := (TS8.out.keep HB9.out).three)
              | (go_at_call 20; (with_reducible refine CB2.out.mono ?_); rintro e w10 ⟨⟨v10, rfl, ⟨A10', n10', c10', rfl, s10, p10⟩, hb10⟩, hb11⟩; have BA10 := hide2 (show BlkA (fun q => w5.heap.size ≤ q) (f + 3) w10 (.agg #[.int .i64 (PBlk.mk 6 0 [stepB a, silentB]).kind, .int .i64 (PBlk.mk 6 0 [stepB a, silentB]).label, .slice A10' n10' c10']) (.mk 6 0 [stepB a, silentB]) from ⟨A10', n10', c10', rfl, s10, p10⟩); obtain ⟨kd10, hkd⟩ : ∃ x, x = (PBlk.mk 6 0 [stepB a, silentB]).kind := ⟨_, rfl⟩; obtain ⟨lb10, hlb⟩ : ∃ x, x = (PBlk.mk 6 0 [stepB a, silentB]).label := ⟨_, rfl⟩; rw [← hkd, ← hlb] at BA10; rw [← hkd, ← hlb]; have HB10 := hide2 hb10; obtain ⟨q0, q1, q2⟩ := (TS8.out.keep (HB9.out.trans ((BR.out.trans (hb11.mono BR.out.size)).mono HB9.out.size))).three; have X10 := hide2 (X5.out.keep hb10); clear s10 p10 hb10 hb11 hkd hlb; obtain ⟨u0, u1, u2⟩ := X10.out.three; have fz := fun q => X10.out.frozen q; have WW := hide2 (blk_set (w := w) BA10.out X10.out HB10.out D5.out W5.out (Nat.le_refl _))))
          go_wp2
          generalize (((w10.setCell ⟨w.heap.size, 0, none⟩ (.int .i64 kd10)).setCell ⟨w.heap.size, 1, none⟩ (.int .i64 lb10)).setCell ⟨w.heap.size, 2, none⟩ (.slice A10' n10' c10')) = ww at *
          obtain ⟨z0, z1, z2⟩ := WW.out.1.three
          exact bodyPost_ret (v := .agg #[.int .i64 kd10, .int .i64 lb10, .slice A10' n10' c10']) (by simp [results, Tryz.results8, go_sem, z0, z1, z2]) rfl (FB.out ww _ WW.out.2.1 WW.out.2.2)
      · have TWO := hide2 (show p.labels.length ≠ 1 by rw [LN.out.1]; exact hone)
        have hni : ((n1 : Int) == 1) = false := by simp; omega
        have x0 := TB.out.cell 0
        have x2 := TB.out.cell 2
        have x3 := TB.out.cell 3
        have x4 := TB.out.cell 4
        have RB := hide2 (Box.new w5 #[Value.func (.func 25) #[logV A3 A1 A2 A3b A4 k c3 n1 c1 n2 c2 n3 c3b n4 c4] #[], Value.func (.func 26) #[logV A3 A1 A2 A3b A4 k c3 n1 c1 n2 c2 n3 c3b n4 c4] #[], Value.func (.func 27) #[logV A3 A1 A2 A3b A4 k c3 n1 c1 n2 c2 n3 c3b n4 c4] #[]] 51)
        have B6 := hide2 (boxBelow w5 (.cells #[Value.func (.func 25) #[logV A3 A1 A2 A3b A4 k c3 n1 c1 n2 c2 n3 c3b n4 c4] #[], Value.func (.func 26) #[logV A3 A1 A2 A3b A4 k c3 n1 c1 n2 c2 n3 c3b n4 c4] #[], Value.func (.func 27) #[logV A3 A1 A2 A3b A4 k c3 n1 c1 n2 c2 n3 c3b n4 c4] #[]] 51))
        have LI6 := hide2 (LI.out.keep B6.out)
        have X6 := hide2 (X5.out.keep B6.out)
        have TB6 := hide2 (TB.out.keep B6.out)
        have D6 := hide2 (D5.out.trans (B6.out.mono D5.out.size))
        have W6 := hide2 (Nat.lt_of_lt_of_le W5.out B6.out.size)
        clear hone
        go_wp2
        clear x0 x1 x2 x3 x4
        generalize w5.alloc (.cells #[Value.func (.func 25) #[logV A3 A1 A2 A3b A4 k c3 n1 c1 n2 c2 n3 c3b n4 c4] #[], Value.func (.func 26) #[logV A3 A1 A2 A3b A4 k c3 n1 c1 n2 c2 n3 c3b n4 c4] #[], Value.func (.func 27) #[logV A3 A1 A2 A3b A4 k c3 n1 c1 n2 c2 n3 c3b n4 c4] #[]] 51) = w6 at *
        generalize w5.heap.size = br at *
        go_loopg [60] 3 (fun gk s60 wr => ∃ q : Nat, s60 = .int .i64 (q : Nat) ∧ Hid (q + gk = 3) ∧ Hid ((0 < q → ¬ 2 ≤ (grpL (bhB p) p.labels).length) ∧ (1 < q → ¬ seqP p) ∧ (2 < q → ¬ bothP p)) ∧ Hid (Below w6.heap.size w6 wr))
        case atStart => exact ⟨0, rfl, hide2 (by omega), hide2 ⟨fun h => absurd h (by omega), fun h => absurd h (by omega), fun h => absurd h (by omega)⟩, hide2 (Below.refl _ _)⟩
        case round =>
          obtain ⟨q, rfl, hgk, NOS, D6r⟩ := hrel
          have LIr := hide2 (LI6.out.keep D6r.out)
          have Xr := hide2 (X6.out.keep D6r.out)
          have RBr := hide2 (RB.out.keep D6r.out)
          have Dr := hide2 (D6.out.trans (D6r.out.mono D6.out.size))
          have Wr := hide2 (Nat.lt_of_lt_of_le W6.out D6r.out.size)
          by_cases hq : q < 3
          · rcases (show q = 0 ∨ q = 1 ∨ q = 2 by omega) with rfl | rfl | rfl
            · have y0 := RBr.out.cell 0
              have HJ := hide2 (show gk - 1 < gk ∧ 1 + (gk - 1) = 3 by have := hgk.out; omega)
              by_cases hP : 2 ≤ (grpL (bhB p) p.labels).length
              · have EQ := hide2 (show findB (f + 1) log = PBlk.mk 4 0 ((grpL (bhB p) p.labels).map fun g => findB f ((fullL log).filter fun t => inS g (t.headD 0))) from by rw [EQ0.out, partB_choose SP.out TWO.out hP])
                have FB := hide2 (show ∀ (w' : World) (v : Value), BlkA (fun j => w.heap.size ≤ j) (f + 3) w' v (PBlk.mk 4 0 ((grpL (bhB p) p.labels).map fun g => findB f ((fullL log).filter fun t => inS g (t.headD 0)))) → Below w.heap.size w w' → AnsBlk (f + 1 + 2) (findB (f + 1) log) w (.returned v) w' from fun w' v hb hw => ⟨v, rfl, by rw [EQ.out]; exact hb, hw⟩)
                have CC := hide2 (show Calls Tryz.prog 25 #[logV A3 A1 A2 A3b A4 k c3 n1 c1 n2 c2 n3 c3b n4 c4] wr (AnsCut (f + 3) true (PBlk.mk 4 0 ((grpL (bhB p) p.labels).map fun g => findB f ((fullL log).filter fun t => inS g (t.headD 0)))) wr) from by have h9 := mnChoose_calls IHH.out LIr.out SP.out FU.out HE.out; rwa [decide_eq_true hP, if_pos hP] at h9)
                clear hP hq
                go_wp2_with fail
                refine CC.out.mono ?_
                rintro e w7 ⟨v7, rfl, ⟨A7', n7', c7', rfl, s7, p7⟩, hb7⟩
                have BA7 := hide2 (show BlkA (fun q => wr.heap.size ≤ q) (f + 3) w7 (.agg #[.int .i64 (PBlk.mk 4 0 ((grpL (bhB p) p.labels).map fun g => findB f ((fullL log).filter fun t => inS g (t.headD 0)))).kind, .int .i64 (PBlk.mk 4 0 ((grpL (bhB p) p.labels).map fun g => findB f ((fullL log).filter fun t => inS g (t.headD 0)))).label, .slice A7' n7' c7']) (PBlk.mk 4 0 ((grpL (bhB p) p.labels).map fun g => findB f ((fullL log).filter fun t => inS g (t.headD 0)))) from ⟨A7', n7', c7', rfl, s7, p7⟩)
                obtain ⟨kd7, hkd⟩ : ∃ x, x = (PBlk.mk 4 0 ((grpL (bhB p) p.labels).map fun g => findB f ((fullL log).filter fun t => inS g (t.headD 0)))).kind := ⟨_, rfl⟩
                obtain ⟨lb7, hlb⟩ : ∃ x, x = (PBlk.mk 4 0 ((grpL (bhB p) p.labels).map fun g => findB f ((fullL log).filter fun t => inS g (t.headD 0)))).label := ⟨_, rfl⟩
                rw [← hkd, ← hlb] at BA7
                rw [← hkd, ← hlb]
                have BB8 := hide2 (boxBelow w7 (.cells #[.int .i64 kd7, .int .i64 lb7, .slice A7' n7' c7'] 25))
                have HB8 := hide2 (hb7.trans (BB8.out.mono hb7.size))
                have TS := hide2 (Box.new w7 #[.int .i64 kd7, .int .i64 lb7, .slice A7' n7' c7'] 25)
                have BA8 := hide2 (BA7.out.keep BB8.out)
                have X8 := hide2 (Xr.out.keep HB8.out)
                clear s7 p7 hb7 hkd hlb CC
                go_upto_region 16 with fail
                generalize w7.alloc (.cells #[.int .i64 kd7, .int .i64 lb7, .slice A7' n7' c7'] 25) = w8 at *
                generalize w7.heap.size = bz at *
                obtain ⟨s0, s1, s2⟩ := TS.out.three
                obtain ⟨kd8, hkd8⟩ : ∃ x, x = kd7 := ⟨_, rfl⟩
                obtain ⟨lb8, hlb8⟩ : ∃ x, x = lb7 := ⟨_, rfl⟩
                obtain ⟨A8', hA8⟩ : ∃ x, x = A7' := ⟨_, rfl⟩
                obtain ⟨n8', hn8⟩ : ∃ x, x = n7' := ⟨_, rfl⟩
                obtain ⟨c8', hc8⟩ : ∃ x, x = c7' := ⟨_, rfl⟩
                subst hkd8 hlb8 hA8 hn8 hc8
                obtain ⟨u0, u1, u2⟩ := X8.out.three
                have fz := fun q => X8.out.frozen q
                have WW := hide2 (blk_set (w := w) BA8.out X8.out HB8.out Dr.out Wr.out (Nat.le_refl _))
                go_wp2
                generalize (((w8.setCell ⟨w.heap.size, 0, none⟩ (.int .i64 kd8)).setCell ⟨w.heap.size, 1, none⟩ (.int .i64 lb8)).setCell ⟨w.heap.size, 2, none⟩ (.slice A8' n8' c8')) = ww at *
                obtain ⟨z0, z1, z2⟩ := WW.out.1.three
                exact bodyPost_ret (v := .agg #[.int .i64 kd8, .int .i64 lb8, .slice A8' n8' c8']) (by simp [results, Tryz.results8, go_sem, z0, z1, z2]) rfl (FB.out ww _ WW.out.2.1 WW.out.2.2)
              · have NOS2 : Hid ((0 < 1 → ¬ 2 ≤ (grpL (bhB p) p.labels).length) ∧ (1 < 1 → ¬ seqP p) ∧ (2 < 1 → ¬ bothP p)) := hide2 ⟨fun _ => hP, fun h => absurd h (by omega), fun h => absurd h (by omega)⟩
                have CC := hide2 (show Calls Tryz.prog 25 #[logV A3 A1 A2 A3b A4 k c3 n1 c1 n2 c2 n3 c3b n4 c4] wr (AnsCut (f + 3) false (zeroB) wr) from by have h9 := mnChoose_calls IHH.out LIr.out SP.out FU.out HE.out; rwa [decide_eq_false hP, if_neg hP] at h9)
                clear hP hq
                go_wp2_with fail
                refine CC.out.mono ?_
                rintro e w7 ⟨v7, rfl, ⟨A7', n7', c7', rfl, s7, p7⟩, hb7⟩
                have BA7 := hide2 (show BlkA (fun q => wr.heap.size ≤ q) (f + 3) w7 (.agg #[.int .i64 (zeroB).kind, .int .i64 (zeroB).label, .slice A7' n7' c7']) (zeroB) from ⟨A7', n7', c7', rfl, s7, p7⟩)
                obtain ⟨kd7, hkd⟩ : ∃ x, x = (zeroB).kind := ⟨_, rfl⟩
                obtain ⟨lb7, hlb⟩ : ∃ x, x = (zeroB).label := ⟨_, rfl⟩
                rw [← hkd, ← hlb] at BA7
                rw [← hkd, ← hlb]
                have BB8 := hide2 (boxBelow w7 (.cells #[.int .i64 kd7, .int .i64 lb7, .slice A7' n7' c7'] 25))
                have HB8 := hide2 (hb7.trans (BB8.out.mono hb7.size))
                have H68 := hide2 (D6r.out.trans (HB8.out.mono D6r.out.size))
                clear s7 p7 hb7 hkd hlb CC
                go_wp2
                go_roundg (gk - 1)
                case measure => exact HJ.out.1
                case rel => exact ⟨1, rfl, hide2 HJ.out.2, NOS2, H68⟩
            · have y0 := RBr.out.cell 1
              have HJ := hide2 (show gk - 1 < gk ∧ 2 + (gk - 1) = 3 by have := hgk.out; omega)
              by_cases hP : seqP p
              · have EQ := hide2 (show findB (f + 1) log = seqT f (fullL log) p from by rw [EQ0.out, partB_seq SP.out TWO.out (NOS.out.1 (by omega)) hP])
                have FB := hide2 (show ∀ (w' : World) (v : Value), BlkA (fun j => w.heap.size ≤ j) (f + 3) w' v (seqT f (fullL log) p) → Below w.heap.size w w' → AnsBlk (f + 1 + 2) (findB (f + 1) log) w (.returned v) w' from fun w' v hb hw => ⟨v, rfl, by rw [EQ.out]; exact hb, hw⟩)
                have CC := hide2 (show Calls Tryz.prog 26 #[logV A3 A1 A2 A3b A4 k c3 n1 c1 n2 c2 n3 c3b n4 c4] wr (AnsCut (f + 3) true (seqT f (fullL log) p) wr) from (mnOrder_calls IHH.out LIr.out SP.out FU.out).mono (fun _ _ h => h.1 hP))
                clear hP hq
                go_wp2_with fail
                refine CC.out.mono ?_
                rintro e w7 ⟨v7, rfl, ⟨A7', n7', c7', rfl, s7, p7⟩, hb7⟩
                have BA7 := hide2 (show BlkA (fun q => wr.heap.size ≤ q) (f + 3) w7 (.agg #[.int .i64 (seqT f (fullL log) p).kind, .int .i64 (seqT f (fullL log) p).label, .slice A7' n7' c7']) (seqT f (fullL log) p) from ⟨A7', n7', c7', rfl, s7, p7⟩)
                obtain ⟨kd7, hkd⟩ : ∃ x, x = (seqT f (fullL log) p).kind := ⟨_, rfl⟩
                obtain ⟨lb7, hlb⟩ : ∃ x, x = (seqT f (fullL log) p).label := ⟨_, rfl⟩
                rw [← hkd, ← hlb] at BA7
                rw [← hkd, ← hlb]
                have BB8 := hide2 (boxBelow w7 (.cells #[.int .i64 kd7, .int .i64 lb7, .slice A7' n7' c7'] 25))
                have HB8 := hide2 (hb7.trans (BB8.out.mono hb7.size))
                have TS := hide2 (Box.new w7 #[.int .i64 kd7, .int .i64 lb7, .slice A7' n7' c7'] 25)
                have BA8 := hide2 (BA7.out.keep BB8.out)
                have X8 := hide2 (Xr.out.keep HB8.out)
                clear s7 p7 hb7 hkd hlb CC
                go_upto_region 16 with fail
                generalize w7.alloc (.cells #[.int .i64 kd7, .int .i64 lb7, .slice A7' n7' c7'] 25) = w8 at *
                generalize w7.heap.size = bz at *
                obtain ⟨s0, s1, s2⟩ := TS.out.three
                obtain ⟨kd8, hkd8⟩ : ∃ x, x = kd7 := ⟨_, rfl⟩
                obtain ⟨lb8, hlb8⟩ : ∃ x, x = lb7 := ⟨_, rfl⟩
                obtain ⟨A8', hA8⟩ : ∃ x, x = A7' := ⟨_, rfl⟩
                obtain ⟨n8', hn8⟩ : ∃ x, x = n7' := ⟨_, rfl⟩
                obtain ⟨c8', hc8⟩ : ∃ x, x = c7' := ⟨_, rfl⟩
                subst hkd8 hlb8 hA8 hn8 hc8
                obtain ⟨u0, u1, u2⟩ := X8.out.three
                have fz := fun q => X8.out.frozen q
                have WW := hide2 (blk_set (w := w) BA8.out X8.out HB8.out Dr.out Wr.out (Nat.le_refl _))
                go_wp2
                generalize (((w8.setCell ⟨w.heap.size, 0, none⟩ (.int .i64 kd8)).setCell ⟨w.heap.size, 1, none⟩ (.int .i64 lb8)).setCell ⟨w.heap.size, 2, none⟩ (.slice A8' n8' c8')) = ww at *
                obtain ⟨z0, z1, z2⟩ := WW.out.1.three
                exact bodyPost_ret (v := .agg #[.int .i64 kd8, .int .i64 lb8, .slice A8' n8' c8']) (by simp [results, Tryz.results8, go_sem, z0, z1, z2]) rfl (FB.out ww _ WW.out.2.1 WW.out.2.2)
              · have NOS2 : Hid ((0 < 2 → ¬ 2 ≤ (grpL (bhB p) p.labels).length) ∧ (1 < 2 → ¬ seqP p) ∧ (2 < 2 → ¬ bothP p)) := hide2 ⟨fun _ => NOS.out.1 (by omega), fun _ => hP, fun h => absurd h (by omega)⟩
                have CC := hide2 (show Calls Tryz.prog 26 #[logV A3 A1 A2 A3b A4 k c3 n1 c1 n2 c2 n3 c3b n4 c4] wr (AnsCut (f + 3) false (zeroB) wr) from (mnOrder_calls IHH.out LIr.out SP.out FU.out).mono (fun _ _ h => h.2 hP))
                clear hP hq
                go_wp2_with fail
                refine CC.out.mono ?_
                rintro e w7 ⟨v7, rfl, ⟨A7', n7', c7', rfl, s7, p7⟩, hb7⟩
                have BA7 := hide2 (show BlkA (fun q => wr.heap.size ≤ q) (f + 3) w7 (.agg #[.int .i64 (zeroB).kind, .int .i64 (zeroB).label, .slice A7' n7' c7']) (zeroB) from ⟨A7', n7', c7', rfl, s7, p7⟩)
                obtain ⟨kd7, hkd⟩ : ∃ x, x = (zeroB).kind := ⟨_, rfl⟩
                obtain ⟨lb7, hlb⟩ : ∃ x, x = (zeroB).label := ⟨_, rfl⟩
                rw [← hkd, ← hlb] at BA7
                rw [← hkd, ← hlb]
                have BB8 := hide2 (boxBelow w7 (.cells #[.int .i64 kd7, .int .i64 lb7, .slice A7' n7' c7'] 25))
                have HB8 := hide2 (hb7.trans (BB8.out.mono hb7.size))
                have H68 := hide2 (D6r.out.trans (HB8.out.mono D6r.out.size))
                clear s7 p7 hb7 hkd hlb CC
                go_wp2
                go_roundg (gk - 1)
                case measure => exact HJ.out.1
                case rel => exact ⟨2, rfl, hide2 HJ.out.2, NOS2, H68⟩
            · have y0 := RBr.out.cell 2
              have HJ := hide2 (show gk - 1 < gk ∧ 3 + (gk - 1) = 3 by have := hgk.out; omega)
              by_cases hP : bothP p
              · have EQ := hide2 (show findB (f + 1) log = bothT f (fullL log) p from by rw [EQ0.out, partB_both SP.out TWO.out (NOS.out.1 (by omega)) (NOS.out.2.1 (by omega)) hP])
                have FB := hide2 (show ∀ (w' : World) (v : Value), BlkA (fun j => w.heap.size ≤ j) (f + 3) w' v (bothT f (fullL log) p) → Below w.heap.size w w' → AnsBlk (f + 1 + 2) (findB (f + 1) log) w (.returned v) w' from fun w' v hb hw => ⟨v, rfl, by rw [EQ.out]; exact hb, hw⟩)
                have CC := hide2 (show Calls Tryz.prog 27 #[logV A3 A1 A2 A3b A4 k c3 n1 c1 n2 c2 n3 c3b n4 c4] wr (AnsCut (f + 3) true (bothT f (fullL log) p) wr) from (mnBeside_calls IHH.out LIr.out SP.out FU.out).mono (fun _ _ h => h.1 hP))
                clear hP hq
                go_wp2_with fail
                refine CC.out.mono ?_
                rintro e w7 ⟨v7, rfl, ⟨A7', n7', c7', rfl, s7, p7⟩, hb7⟩
                have BA7 := hide2 (show BlkA (fun q => wr.heap.size ≤ q) (f + 3) w7 (.agg #[.int .i64 (bothT f (fullL log) p).kind, .int .i64 (bothT f (fullL log) p).label, .slice A7' n7' c7']) (bothT f (fullL log) p) from ⟨A7', n7', c7', rfl, s7, p7⟩)
                obtain ⟨kd7, hkd⟩ : ∃ x, x = (bothT f (fullL log) p).kind := ⟨_, rfl⟩
                obtain ⟨lb7, hlb⟩ : ∃ x, x = (bothT f (fullL log) p).label := ⟨_, rfl⟩
                rw [← hkd, ← hlb] at BA7
                rw [← hkd, ← hlb]
                have BB8 := hide2 (boxBelow w7 (.cells #[.int .i64 kd7, .int .i64 lb7, .slice A7' n7' c7'] 25))
                have HB8 := hide2 (hb7.trans (BB8.out.mono hb7.size))
                have TS := hide2 (Box.new w7 #[.int .i64 kd7, .int .i64 lb7, .slice A7' n7' c7'] 25)
                have BA8 := hide2 (BA7.out.keep BB8.out)
                have X8 := hide2 (Xr.out.keep HB8.out)
                clear s7 p7 hb7 hkd hlb CC
                go_upto_region 16 with fail
                generalize w7.alloc (.cells #[.int .i64 kd7, .int .i64 lb7, .slice A7' n7' c7'] 25) = w8 at *
                generalize w7.heap.size = bz at *
                obtain ⟨s0, s1, s2⟩ := TS.out.three
                obtain ⟨kd8, hkd8⟩ : ∃ x, x = kd7 := ⟨_, rfl⟩
                obtain ⟨lb8, hlb8⟩ : ∃ x, x = lb7 := ⟨_, rfl⟩
                obtain ⟨A8', hA8⟩ : ∃ x, x = A7' := ⟨_, rfl⟩
                obtain ⟨n8', hn8⟩ : ∃ x, x = n7' := ⟨_, rfl⟩
                obtain ⟨c8', hc8⟩ : ∃ x, x = c7' := ⟨_, rfl⟩
                subst hkd8 hlb8 hA8 hn8 hc8
                obtain ⟨u0, u1, u2⟩ := X8.out.three
                have fz := fun q => X8.out.frozen q
                have WW := hide2 (blk_set (w := w) BA8.out X8.out HB8.out Dr.out Wr.out (Nat.le_refl _))
                go_wp2
                generalize (((w8.setCell ⟨w.heap.size, 0, none⟩ (.int .i64 kd8)).setCell ⟨w.heap.size, 1, none⟩ (.int .i64 lb8)).setCell ⟨w.heap.size, 2, none⟩ (.slice A8' n8' c8')) = ww at *
                obtain ⟨z0, z1, z2⟩ := WW.out.1.three
                exact bodyPost_ret (v := .agg #[.int .i64 kd8, .int .i64 lb8, .slice A8' n8' c8']) (by simp [results, Tryz.results8, go_sem, z0, z1, z2]) rfl (FB.out ww _ WW.out.2.1 WW.out.2.2)
              · have NOS2 : Hid ((0 < 3 → ¬ 2 ≤ (grpL (bhB p) p.labels).length) ∧ (1 < 3 → ¬ seqP p) ∧ (2 < 3 → ¬ bothP p)) := hide2 ⟨fun _ => NOS.out.1 (by omega), fun _ => NOS.out.2.1 (by omega), fun _ => hP⟩
                have CC := hide2 (show Calls Tryz.prog 27 #[logV A3 A1 A2 A3b A4 k c3 n1 c1 n2 c2 n3 c3b n4 c4] wr (AnsCut (f + 3) false (zeroB) wr) from (mnBeside_calls IHH.out LIr.out SP.out FU.out).mono (fun _ _ h => h.2 hP))
                clear hP hq
                go_wp2_with fail
                refine CC.out.mono ?_
                rintro e w7 ⟨v7, rfl, ⟨A7', n7', c7', rfl, s7, p7⟩, hb7⟩
                have BA7 := hide2 (show BlkA (fun q => wr.heap.size ≤ q) (f + 3) w7 (.agg #[.int .i64 (zeroB).kind, .int .i64 (zeroB).label, .slice A7' n7' c7']) (zeroB) from ⟨A7', n7', c7', rfl, s7, p7⟩)
                obtain ⟨kd7, hkd⟩ : ∃ x, x = (zeroB).kind := ⟨_, rfl⟩
                obtain ⟨lb7, hlb⟩ : ∃ x, x = (zeroB).label := ⟨_, rfl⟩
                rw [← hkd, ← hlb] at BA7
                rw [← hkd, ← hlb]
                have BB8 := hide2 (boxBelow w7 (.cells #[.int .i64 kd7, .int .i64 lb7, .slice A7' n7' c7'] 25))
                have HB8 := hide2 (hb7.trans (BB8.out.mono hb7.size))
                have H68 := hide2 (D6r.out.trans (HB8.out.mono D6r.out.size))
                clear s7 p7 hb7 hkd hlb CC
                go_wp2
                go_roundg (gk - 1)
                case measure => exact HJ.out.1
                case rel => exact ⟨3, rfl, hide2 HJ.out.2, NOS2, H68⟩
          · obtain rfl : q = 3 := by have := hgk.out; omega
            have EQ := hide2 (show findB (f + 1) log = .mk 6 0 [silentB, .mk 4 0 (p.labels.map stepB)] from by rw [EQ0.out, partB_loop SP.out TWO.out (NOS.out.1 (by omega)) (NOS.out.2.1 (by omega)) (NOS.out.2.2 (by omega))])
            have FB := hide2 (show ∀ (w' : World) (v : Value), BlkA (fun j => w.heap.size ≤ j) (f + 3) w' v (.mk 6 0 [silentB, .mk 4 0 (p.labels.map stepB)]) → Below w.heap.size w w' → AnsBlk (f + 1 + 2) (findB (f + 1) log) w (.returned v) w' from fun w' v hb hw => ⟨v, rfl, by rw [EQ.out]; exact hb, hw⟩)
            have x1 := ((TB6.out.keep D6r.out).cell 1)
            clear hq hgk NOS
            obtain ⟨wE, hwE⟩ : ∃ x : World, x = wr := ⟨_, rfl⟩
            subst hwE
            obtain ⟨go, hgo⟩ : ∃ x : Nat, x = gk := ⟨_, rfl⟩
            subst hgo
            go_wp2
            go_loopg [10, 76] n1 (fun gk s10 s76 wr => ∃ v j, v = s10 ∧ s76 = .int .i64 (j : Nat) ∧ Hid (j + gk = n1) ∧ Hid (OwnBlk wr wE.heap.size (f + 2) v j ((p.labels.take j).map stepB)) ∧ Hid (Below wE.heap.size wE wr))
            case atStart => exact ⟨_, 0, rfl, rfl, hide2 (by omega), hide2 OwnSl.nil, hide2 (Below.refl _ _)⟩
            case round =>
              obtain ⟨v, j, rfl, rfl, hgk, OB, DB⟩ := hrel
              by_cases hj : j < n1
              · have hji : (j : Int) < (n1 : Int) := by omega
                obtain ⟨b1, off1, a, rfl, hb1, ha, q1⟩ := Ints.get (LIr.out.ip.i1.keep DB.out) hj
                have HJ := hide2 (show gk - 1 < gk ∧ (j + 1) + (gk - 1) = n1 ∧ j ≤ 26 by have := hgk.out; have := LN.out; omega)
                have hwj : IntKind.i64.wrap ((j : Int) + 1) = ((j + 1 : Nat) : Int) := by
                  have := HJ.out
                  simp [IntKind.wrap, IntKind.bits, IntKind.signed]; omega
                have CS := hide2 (step_calls wr (f + 1) a)
                clear hb1
                go_wp2_with fail
                refine CS.out.mono ?_
                rintro e w7 ⟨v7, rfl, ⟨A7', n7', c7', rfl, s7, p7⟩, hb7⟩
                have KO := hide2 (kid_ok OB.out DB.out.size s7 p7)
                have OB3 := hide2 (OB.out.keep hb7)
                have D3 := hide2 (DB.out.trans (hb7.mono DB.out.size))
                have hB3 := D3.out.size
                have hj1 : j ≤ 100 := by have := HJ.out; omega
                have TK := hide2 (show (p.labels.take (j + 1)).map stepB = (p.labels.take j).map stepB ++ [stepB a] by rw [List.take_add_one, ha.out]; simp)
                obtain ⟨kd3, hkd⟩ : ∃ x, x = (stepB a).kind := ⟨_, rfl⟩
                obtain ⟨lb3, hlb⟩ : ∃ x, x = (stepB a).label := ⟨_, rfl⟩
                rw [← hkd, ← hlb]
                have HKL := hide2 (And.intro hkd hlb)
                clear s7 p7 hb7 OB hkd hlb CS q1
                go_wp2_with (at_builtin; refine wpList_appBlk rfl _ _ rfl rfl rfl rfl OB3.out HKL.out.1 HKL.out.2 KO.out.1 KO.out.2 hB3 hj1 ?_; intro v8 w8 own8 hg8; have O8 := hide2 own8; have D8 := hide2 (D3.out.grown hg8 hB3 (fun k hk => (OB3.out.lt k hk).1)))
                go_roundg (gk - 1)
                case measure => exact HJ.out.1
                case rel => exact ⟨v8, j + 1, rfl, rfl, hide2 HJ.out.2.1, hide2 (by rw [TK.out]; exact O8.out), D8⟩
              · have hji : ¬ (j : Int) < (n1 : Int) := by omega
                have OF := hide2 (show OwnBlk wr wE.heap.size (f + 2) v j (p.labels.map stepB) from by
                  have := OB.out
                  rwa [List.take_of_length_le (by have := LN.out.1; omega)] at this)
                obtain ⟨AK, cK, rfl, sK, pK⟩ := OF.out.sl2 (by have := LN.out; have := hgk.out; omega)
                have SK := hide2 (And.intro sK pK)
                have CS := hide2 (silent_calls wr (f + 2))
                have HEr := hide2 DB.out
                clear sK pK OB hj hgk
                go_wp2_with fail
                refine CS.out.mono ?_
                rintro e w4 ⟨v4, rfl, ⟨A4', n4', c4', rfl, s4, p4⟩, hb4⟩
                have BA4 := hide2 (show BlkA (fun q => wr.heap.size ≤ q) (f + 2) w4 (.agg #[.int .i64 (silentB).kind, .int .i64 (silentB).label, .slice A4' n4' c4']) (silentB) from ⟨A4', n4', c4', rfl, s4, p4⟩)
                obtain ⟨kd4, hkd⟩ : ∃ x, x = (silentB).kind := ⟨_, rfl⟩
                obtain ⟨lb4, hlb⟩ : ∃ x, x = (silentB).label := ⟨_, rfl⟩
                rw [← hkd, ← hlb] at BA4
                rw [← hkd, ← hlb]
                have HB4 := hide2 hb4
                clear s4 p4 hb4 hkd hlb
                have HE4 := hide2 (HEr.out.trans (HB4.out.mono HEr.out.size))
                have CB := hide2 (block_calls 4 (SK.out.1.keep (BlkQ.kept _ _) HB4.out) SK.out.2 HE4.out)
                clear CS
                go_wp2_with fail
                refine CB.out.mono ?_
                rintro e w5b ⟨⟨v5, rfl, ⟨A5', n5', c5', rfl, s5, p5⟩, hb5⟩, hb5b⟩
                have BA5 := hide2 (show BlkA (fun q => wE.heap.size ≤ q) (f + 2) w5b (.agg #[.int .i64 (PBlk.mk 4 0 (p.labels.map stepB)).kind, .int .i64 (PBlk.mk 4 0 (p.labels.map stepB)).label, .slice A5' n5' c5']) (.mk 4 0 (p.labels.map stepB)) from ⟨A5', n5', c5', rfl, s5, p5⟩)
                obtain ⟨kd5, hkd⟩ : ∃ x, x = (PBlk.mk 4 0 (p.labels.map stepB)).kind := ⟨_, rfl⟩
                obtain ⟨lb5, hlb⟩ : ∃ x, x = (PBlk.mk 4 0 (p.labels.map stepB)).label := ⟨_, rfl⟩
                rw [← hkd, ← hlb] at BA5
                rw [← hkd, ← hlb]
                have HE5 := hide2 hb5
                have BA4b := hide2 ((BA4.out.of_ans HEr.out).keep hb5b)
                have RW := hide2 (row_two BA4b.out BA5.out)
                have BR := hide2 (boxBelow w5b (.cells #[.int .i64 kd4, .int .i64 lb4, .slice A4' n4' c4', .int .i64 kd5, .int .i64 lb5, .slice A5' n5' c5'] 25))
                have HE6 := hide2 (HE5.out.trans (BR.out.mono HE5.out.size))
                have CB2 := hide2 (block_calls 6 RW.out (fun _ a ha => by injection ha with ha; subst ha; exact HE5.out.size) HE6.out)
                clear s5 p5 hb5 hb5b hkd hlb CB
                go_wp2_with fail
                generalize w5b.alloc (.cells #[.int .i64 kd4, .int .i64 lb4, .slice A4' n4' c4', .int .i64 kd5, .int .i64 lb5, .slice A5' n5' c5'] 25) = w5c at *
                refine CB2.out.mono ?_
                rintro e w10 ⟨⟨v10, rfl, ⟨A10', n10', c10', rfl, s10, p10⟩, hb10⟩, hb11⟩
                have BA10 := hide2 (show BlkA (fun q => wE.heap.size ≤ q) (f + 3) w10 (.agg #[.int .i64 (PBlk.mk 6 0 [silentB, .mk 4 0 (p.labels.map stepB)]).kind, .int .i64 (PBlk.mk 6 0 [silentB, .mk 4 0 (p.labels.map stepB)]).label, .slice A10' n10' c10']) (.mk 6 0 [silentB, .mk 4 0 (p.labels.map stepB)]) from ⟨A10', n10', c10', rfl, s10, p10⟩)
                obtain ⟨kd10, hkd⟩ : ∃ x, x = (PBlk.mk 6 0 [silentB, .mk 4 0 (p.labels.map stepB)]).kind := ⟨_, rfl⟩
                obtain ⟨lb10, hlb⟩ : ∃ x, x = (PBlk.mk 6 0 [silentB, .mk 4 0 (p.labels.map stepB)]).label := ⟨_, rfl⟩
                rw [← hkd, ← hlb] at BA10
                rw [← hkd, ← hlb]
                have HB10 := hide2 hb10
                have X10 := hide2 (Xr.out.keep hb10)
                clear s10 p10 hb10 hb11 hkd hlb
                obtain ⟨u0, u1, u2⟩ := X10.out.three
                have fz := fun q => X10.out.frozen q
                have WW := hide2 (blk_set (w := w) BA10.out X10.out HB10.out Dr.out Wr.out (Nat.le_refl _))
                go_wp2
                generalize (((w10.setCell ⟨w.heap.size, 0, none⟩ (.int .i64 kd10)).setCell ⟨w.heap.size, 1, none⟩ (.int .i64 lb10)).setCell ⟨w.heap.size, 2, none⟩ (.slice A10' n10' c10')) = ww at *
                obtain ⟨z0, z1, z2⟩ := WW.out.1.three
                exact bodyPost_ret (v := .agg #[.int .i64 kd10, .int .i64 lb10, .slice A10' n10' c10']) (by simp [results, Tryz.results8, go_sem, z0, z1, z2]) rfl (FB.out ww _ WW.out.2.1 WW.out.2.2)

theorem mnFind : ∀ f, FindIH f
  | 0 => fun w A n c log h hf => by
    have hp : ShowsP log (gotV log 26 26 26 26 0) := by
      have := (gotV_shows hf.1).2
      rwa [if_pos hf.1] at this
    have := hf.2 _ hp
    omega
  | f + 1 => mnFind_step (mnFind f)
end Go.Proofs.YtcopnfdknclhnaaGreat
