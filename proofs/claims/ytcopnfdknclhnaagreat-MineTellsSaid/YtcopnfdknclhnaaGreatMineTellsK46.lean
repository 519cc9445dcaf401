/- The reference's WFind. Conditions: the log reads as lists, nothing is wrong with it, the fuel is enough. -/
import Derived.Test.YtcopnfdknclhnaaGreatMineTellsK45
import Derived.Test.YtcopnfdknclhnaaGreatMineTellsK26
namespace Go.Proofs.YtcopnfdknclhnaaGreat
open Go.RowKit Go.Maps

theorem fullL_next {log : List (List Int)} {k : Nat} {t : List Int} (h : log[k]? = some t) : fullL (log.take (k + 1)) = fullL (log.take k) ++ (if 0 < t.length then [t] else []) := by
  unfold fullL
  rw [List.take_add_one, h, List.filter_append]
  simp only [Option.toList_some]
  congr 1
  by_cases h0 : 0 < t.length
  · rw [if_pos h0]; simp [emptyB]; intro e; rw [e] at h0; simp at h0
  · rw [if_neg h0]
    have : t = [] := List.eq_nil_of_length_eq_zero (by omega)
    subst this
    rfl
set_option maxRecDepth 100000 in
set_option maxHeartbeats 16000000 in
theorem wFind_step {f : Nat} (IH : WFindIH f) : WFindIH (f + 1) := fun w A n c log h hf => by
  have IHH := hide2 IH
  have HF := hide2 hf
  have NN := hide2 (show n ≤ 60 by rw [← h.len]; exact hf.n)
  have HL := hide2 h.len
  have H := hide2 h
  have B0 := hide2 ((boxBelow w (.cells #[.int .i64 0, .int .i64 0, .slice none 0 0] 25)).alloc (by simp) (.cells #[.slice none 0 0] 22))
  have X0 := hide2 ((Box.new w #[.int .i64 0, .int .i64 0, .slice none 0 0] 25).old (.cells #[.slice none 0 0] 22))
  have Y0 := hide2 (Box.newAt (w := w.alloc (.cells #[.int .i64 0, .int .i64 0, .slice none 0 0] 25)) (n := w.heap.size + 1) (by simp) #[.slice none 0 0] 22)
  clear h hf IH
  go_enter Tryz.func11, Tryz.ntmps11
  go_upto_region 2 with fail
  generalize (w.alloc (.cells #[.int .i64 0, .int .i64 0, .slice none 0 0] 25)).alloc (.cells #[.slice none 0 0] 22) = w1 at *
  have W1 := hide2 Y0.out.lt
  go_wp2
  go_loopg [30] n (fun gk u wr => ∃ (k nl : Nat) (AF : Option Addr) (cF : Nat), u = .int .i64 (k : Nat) ∧ Hid (k + gk = n ∧ nl ≤ k) ∧ Hid (RowN wr w.heap.size w1.heap.size (.slice AF nl cF) nl (fullL (log.take k))) ∧ Hid (Below w.heap.size w wr ∧ w1.heap.size ≤ wr.heap.size) ∧ Hid (Box wr w.heap.size 25 #[.int .i64 0, .int .i64 0, .slice none 0 0]) ∧ Hid (Box wr (w.heap.size + 1) 22 #[.slice AF nl cF]))
  case atStart => exact ⟨0, 0, none, 0, rfl, hide2 (by omega), hide2 OwnSl.nil, hide2 ⟨B0.out, Nat.le_refl _⟩, X0, Y0⟩
  case round =>
    clear X0 Y0
    obtain ⟨k, nl, AF, cF, rfl, hgk, RO, DB, X0, Y0⟩ := hrel
    by_cases hlt : k < n
    · have hki : (k : Int) < (n : Int) := by omega
      obtain ⟨b, off, t, vs, rfl, hb, ht, hc, mt, ⟨Bt, dt, e1, it, lt⟩, hmt⟩ := Sl.get (Sl.keep (LowR.kept _) (Sl.lows H.out) DB.out.1) hlt
      have q0 : wr.cell? ⟨b, off + k, none⟩ = some (.slice Bt mt dt) := by have := hc 0 (by omega); rw [e1] at this; simpa using this
      have HJ := hide2 (show gk - 1 < gk ∧ (k + 1) + (gk - 1) = n ∧ k ≤ 60 ∧ nl + 1 ≤ k + 1 ∧ nl ≤ k + 1 by have := hgk.out; have := NN.out; omega)
      have hwk : IntKind.i64.wrap ((k : Int) + 1) = ((k + 1 : Nat) : Int) := by
        have := HJ.out
        simp [IntKind.wrap, IntKind.bits, IntKind.signed]; omega
      have TL := hide2 it.len
      have FX := hide2 (fullL_next (show log[k]? = some t from ht))
      have RD := hide2 (show Reads (LowR w.heap.size) 1 wr [.slice Bt mt dt] [t] from Reads.list1 ⟨mt, ⟨_, dt, rfl, it, lt⟩, hmt⟩)
      have y0 := Y0.out.cell 0
      have hB := DB.out.2
      have h24 : (nl + 1) * 24 ≤ 140737488355328 := by have := HJ.out; omega
      have h26 : nl + 1 ≤ 281474976710656 := by omega
      have KP := hide2 (show ∀ w', wr.grownBy w' (Value.slice AF nl cF).ownBlock → ∀ vs y, LowR w.heap.size wr vs y → LowR w.heap.size w' vs y from fun w' hg vs y hy => hy.grownR hg (fun q hq => by have := (RO.out.lt q hq).1; have := W1.out; omega))
      have W1o := W1.out
      clear hc e1 it lt hb hlt ht
      by_cases h0 : 0 < mt
      · have h0i : (0 : Int) < (mt : Int) := by omega
        have FX2 := hide2 (show fullL (log.take (k + 1)) = fullL (log.take k) ++ [t] by rw [FX.out, if_pos (by rw [TL.out]; exact h0)])
        clear h0
        go_wp2_with (at_builtin; refine wpList_appNewAt (v := .slice AF nl cF) tyLists rfl _ _ rfl [t] _ rfl rfl rfl rfl (by simp [Value.oneCell']) RO.out RD.out rfl hB h26 h24 KP.out ?_; intro v8 w8 own8 hg8 hl8; obtain ⟨A8, c8, rfl, _⟩ := own8.sl (by omega); have O8 := hide2 own8; have hne0 : (Value.slice AF nl cF).ownBlock ≠ some (w.heap.size + 1) := (fun e => by have := (RO.out.lt _ e).1; omega); have hne1 : (Value.slice AF nl cF).ownBlock ≠ some w.heap.size := (fun e => by have := (RO.out.lt _ e).1; omega); have X8 := hide2 (X0.out.grown hg8 hne1); have Y8 := hide2 (Y0.out.grown hg8 hne0); have D8 := hide2 (DB.out.1.grown hg8 DB.out.1.size (fun q hq => by have := (RO.out.lt q hq).1; omega)); have S8 := hide2 (Nat.le_trans hB hg8.size); have y8 := Y8.out.cell 0; have fy := Y8.out.frozen 0)
        have GG := grown_set1 w8 (w.heap.size + 1) 0 (.slice A8 (nl + 1) c8)
        have O9 := hide2 (show RowN (w8.setCell ⟨w.heap.size + 1, 0, none⟩ (.slice A8 (nl + 1) c8)) w.heap.size w1.heap.size (.slice A8 (nl + 1) c8) (nl + 1) (fullL (log.take (k + 1))) from by
          rw [FX2.out]
          refine OwnSl.kept O8.out GG ?_ (fun vs x hx => hx.grownR GG (fun q hq => by injection hq with hq; omega))
          cases hv : (Value.slice A8 (nl + 1) c8).ownBlock with
          | none => exact .inl rfl
          | some q => exact .inr (fun e => by injection e with e; have := (O8.out.lt q hv).1; omega))
        have D9 := hide2 (show Below w.heap.size w (w8.setCell ⟨w.heap.size + 1, 0, none⟩ (.slice A8 (nl + 1) c8)) ∧ w1.heap.size ≤ (w8.setCell ⟨w.heap.size + 1, 0, none⟩ (.slice A8 (nl + 1) c8)).heap.size from ⟨D8.out.grown GG D8.out.size (fun q hq => by injection hq with hq; omega), Nat.le_trans S8.out GG.size⟩)
        have X9 := hide2 (X8.out.grown GG (fun e => by injection e with e; omega))
        have Y9 := hide2 (show Box (w8.setCell ⟨w.heap.size + 1, 0, none⟩ (.slice A8 (nl + 1) c8)) (w.heap.size + 1) 22 #[.slice A8 (nl + 1) c8] from by have := Y8.out.set 0 (.slice A8 (nl + 1) c8); simpa using this)
        clear GG
        go_roundg (gk - 1)
        case measure => exact HJ.out.1
        case rel => exact ⟨k + 1, nl + 1, A8, c8, rfl, hide2 ⟨HJ.out.2.1, HJ.out.2.2.2.1⟩, O9, D9, X9, Y9⟩
      · have h0i : ¬ (0 : Int) < (mt : Int) := by omega
        have FX2 := hide2 (show fullL (log.take (k + 1)) = fullL (log.take k) by rw [FX.out, if_neg (by rw [TL.out]; exact h0), List.append_nil])
        clear h0
        go_wp2
        go_roundg (gk - 1)
        case measure => exact HJ.out.1
        case rel => exact ⟨k + 1, nl, AF, cF, rfl, hide2 ⟨HJ.out.2.1, HJ.out.2.2.2.2⟩, hide2 (by rw [FX2.out]; exact RO.out), DB, X0, Y0⟩
    · have hki : ¬ (k : Int) < (n : Int) := by omega
      have RF := hide2 (show RowN wr w.heap.size w1.heap.size (.slice AF nl cF) nl (fullL log) from by
        have := RO.out
        rwa [List.take_of_length_le (by rw [HL.out]; omega)] at this)
      obtain ⟨w3, hw3⟩ : ∃ x : World, x = wr := ⟨_, rfl⟩
      subst hw3
      obtain ⟨A3, c3, e3, il3⟩ := RowN.lists RF.out (by have := hgk.out; have := NN.out; omega)
      injection e3 with e31 _ e32
      subst e31 e32
      have IL := hide2 il3
      have D0 := hide2 DB.out.1
      have X3 := hide2 X0.out
      have KL := hide2 (show (fullL log).length = nl ∧ nl ≤ n from ⟨RF.out.len, by rw [← RF.out.len, ← HL.out]; exact List.length_filter_le _ _⟩)
      have W3 := hide2 X0.out.lt
      have y3 := Y0.out.cell 0
      clear il3 RO DB X0 hlt hgk
      by_cases hk0 : nl = 0
      · have EQ := hide2 (findB_nil (f := f) (log := log) (by rw [KL.out.1]; exact hk0))
        have hki2 : ((nl : Int) == 0) = true := by simp [hk0]
        have FB := hide2 (show ∀ (w' : World) (v : Value), BlkA (fun j => w.heap.size ≤ j) (f + 3) w' v (silentB) → Below w.heap.size w w' → AnsBlk (f + 1 + 2) (findB (f + 1) log) w (.returned v) w' from fun w' v hb hw => ⟨v, rfl, by rw [EQ.out]; exact hb, hw⟩)
        have BZ := hide2 (show BlkA (fun q => w3.heap.size ≤ q) (f + 3) w3 (.agg #[.int .i64 1, .int .i64 0, .slice none 0 0]) silentB from ⟨none, 0, 0, rfl, Sl.nil0, fun h => absurd h (by omega)⟩)
        clear hk0
        obtain ⟨u0, u1, u2⟩ := X3.out.three
        have fz := fun q => X3.out.frozen q
        have WW := hide2 (blk_set (w := w) BZ.out X3.out (Below.refl _ _) D0.out W3.out (Nat.le_refl _))
        go_wp2
        generalize (((w3.setCell ⟨w.heap.size, 0, none⟩ (.int .i64 1)).setCell ⟨w.heap.size, 1, none⟩ (.int .i64 0)).setCell ⟨w.heap.size, 2, none⟩ (.slice none 0 0)) = ww at *
        obtain ⟨z0, z1, z2⟩ := WW.out.1.three
        exact bodyPost_ret (v := .agg #[.int .i64 1, .int .i64 0, .slice none 0 0]) (by simp [results, Tryz.results11, go_sem, z0, z1, z2]) rfl (FB.out ww _ WW.out.2.1 WW.out.2.2)
      · have hki2 : ((nl : Int) == 0) = false := by simp; omega
        have HK0 := hide2 (show (fullL log).length ≠ 0 by rw [KL.out.1]; exact hk0)
        clear hk0
        by_cases hkn : nl = n
        · have hne : ((nl : Int) != (n : Int)) = false := by simp [hkn]
          have HGE := hide2 (show ¬ (fullL log).length < log.length by have := KL.out; have := HL.out; omega)
          have EQ0 := hide2 (findB_rest (f := f) HK0.out HGE.out)
          have SAME := hide2 (fullL_same HGE.out)
          have FU := hide2 (show Fuel (f + 1) (fullL log) by rw [SAME.out]; exact HF.out)
          have HE := hide2 (show ∀ t ∈ fullL log, t.length ≠ 0 from fun t ht => (mem_fullL.1 ht).2)
          have CO := hide2 (vof_calls IL.out)
          have YL := hide2 Y0.out
          clear hkn
          go_wp2_with fail
          refine CO.out.mono ?_
          rintro e w4 ⟨p, er, A1, A2, A3b, A4, n1, c1, n2, c2, n3, c3b, n4, c4, hof, rfl, i1, i2, i3, i4, hb4⟩
          have SP := hide2 (show ShowsP (fullL log) p from by have := hof.2; rwa [if_pos FU.out.1] at this)
          have BB5 := hide2 (boxBelow w4 (.cells #[.slice A1 n1 c1, .slice A2 n2 c2, .slice A3b n3 c3b, .slice A4 n4 c4] 45))
          have H45 := hide2 (hb4.trans (BB5.out.mono hb4.size))
          have PI := hide2 ((PrI.mk i1 i2 i3 i4).keep BB5.out)
          have TB := hide2 (Box.new w4 #[.slice A1 n1 c1, .slice A2 n2 c2, .slice A3b n3 c3b, .slice A4 n4 c4] 45)
          have X5 := hide2 (X3.out.keep H45.out)
          have Y5 := hide2 (YL.out.keep H45.out)
          have IL5 := hide2 (Sl.keep ListR.kept IL.out H45.out)
          have D5 := hide2 (D0.out.trans (H45.out.mono D0.out.size))
          have W5 := hide2 (show w.heap.size < (w4.alloc (.cells #[.slice A1 n1 c1, .slice A2 n2 c2, .slice A3b n3 c3b, .slice A4 n4 c4] 45)).heap.size from X5.out.lt)
          have LN := hide2 (show p.labels.length = n1 ∧ n1 ≤ 26 from ⟨i1.len, by rw [← i1.len]; exact asc_count SP.out.1.1 (SP.out.lab FU.out.1)⟩)
          have L4 := hide2 i4.len
          clear hof i1 i2 i3 i4 hb4 CO
          go_upto_region 13 with fail
          generalize w4.alloc (.cells #[.slice A1 n1 c1, .slice A2 n2 c2, .slice A3b n3 c3b, .slice A4 n4 c4] 45) = w5 at *
          generalize w4.heap.size = bp at *
          obtain ⟨x0, x1, x2, x3⟩ := TB.out.four
          by_cases hone : n1 = 1
          · have ONE := hide2 (show p.labels.length = 1 by rw [LN.out.1]; exact hone)
            have hni : ((n1 : Int) == 1) = true := by simp [hone]
            have hn0 : 0 < n1 := by omega
            obtain ⟨b1, off1, a, rfl, hb1, ha, q1⟩ := Ints.get PI.out.i1 hn0
            have HA := hide2 (show p.labels.headD 0 = a from by
              have h1 := ha.out
              cases hc : p.labels with
              | nil => rw [hc] at h1; simp at h1
              | cons x t => rw [hc] at h1; simpa using h1)
            rw [Nat.add_zero] at q1
            have BA5 := hide2 (show BlkA (fun q => w5.heap.size ≤ q) (f + 2) w5 (.agg #[.int .i64 2, .int .i64 a, .slice none 0 0]) (stepB a) from ⟨none, 0, 0, rfl, Sl.nil0, fun h => absurd h (by omega)⟩)
            have BB7 := hide2 (boxBelow w5 (.cells #[.int .i64 2, .int .i64 a, .slice none 0 0] 25))
            have TS := hide2 (Box.new w5 #[.int .i64 2, .int .i64 a, .slice none 0 0] 25)
            have BA7 := hide2 (BA5.out.keep BB7.out)
            have X7 := hide2 (X5.out.keep BB7.out)
            have x37 := (TB.out.keep BB7.out).cell 3
            clear hone hb1 ha
            go_upto_region 15 with fail
            clear x0 x1 x2 x3 q1
            generalize hw7 : w5.alloc (.cells #[.int .i64 2, .int .i64 a, .slice none 0 0] 25) = w7 at *
            clear hw7
            obtain ⟨s0, s1, s2⟩ := TS.out.three
            by_cases h4 : 0 < n4
            · have h4i : (0 : Int) < (n4 : Int) := by omega
              have LNG := hide2 (show (fullL log).any (fun t => decide (1 < t.length)) = true from (long_behind SP.out).2 (by rw [L4.out]; exact h4))
              have EQ := hide2 (show findB (f + 1) log = .mk 6 0 [stepB a, silentB] from by rw [EQ0.out, partB_long SP.out ONE.out LNG.out, HA.out])
              have FB := hide2 (show ∀ (w' : World) (v : Value), BlkA (fun j => w.heap.size ≤ j) (f + 3) w' v (.mk 6 0 [stepB a, silentB]) → Below w.heap.size w w' → AnsBlk (f + 1 + 2) (findB (f + 1) log) w (.returned v) w' from fun w' v hb hw => ⟨v, rfl, by rw [EQ.out]; exact hb, hw⟩)
              have BS := hide2 (show BlkA (fun q => w5.heap.size ≤ q) (f + 2) w7 (.agg #[.int .i64 1, .int .i64 0, .slice none 0 0]) silentB from ⟨none, 0, 0, rfl, Sl.nil0, fun h => absurd h (by omega)⟩)
              have RW := hide2 (row_two BA7.out BS.out)
              have BR := hide2 (boxBelow w7 (.cells #[.int .i64 2, .int .i64 a, .slice none 0 0, .int .i64 1, .int .i64 0, .slice none 0 0] 25))
              have H58 := hide2 (BB7.out.trans (BR.out.mono BB7.out.size))
              have S57 := hide2 BB7.out.size
              have BA8 := hide2 (show BlkA (fun q => w5.heap.size ≤ q) (f + 3) (w7.alloc (.cells #[.int .i64 2, .int .i64 a, .slice none 0 0, .int .i64 1, .int .i64 0, .slice none 0 0] 25)) (.agg #[.int .i64 6, .int .i64 0, .slice (some ⟨w7.heap.size, 0, none⟩) 2 2]) (.mk 6 0 [stepB a, silentB]) from ⟨_, 2, 2, rfl, RW.out, fun _ a ha => by injection ha with ha; subst ha; exact S57.out⟩)
              have X8 := hide2 (X5.out.keep H58.out)
              clear h4
              obtain ⟨u0, u1, u2⟩ := X8.out.three
              have fz := fun q => X8.out.frozen q
              have WW := hide2 (blk_set (w := w) BA8.out X8.out H58.out D5.out W5.out (Nat.le_refl _))
              go_wp2
              generalize ((((w7.alloc (.cells #[.int .i64 2, .int .i64 a, .slice none 0 0, .int .i64 1, .int .i64 0, .slice none 0 0] 25)).setCell ⟨w.heap.size, 0, none⟩ (.int .i64 6)).setCell ⟨w.heap.size, 1, none⟩ (.int .i64 0)).setCell ⟨w.heap.size, 2, none⟩ (.slice (some ⟨w7.heap.size, 0, none⟩) 2 2)) = ww at *
              obtain ⟨z0, z1, z2⟩ := WW.out.1.three
              exact bodyPost_ret (v := .agg #[.int .i64 6, .int .i64 0, .slice (some ⟨w7.heap.size, 0, none⟩) 2 2]) (by simp [results, Tryz.results11, go_sem, z0, z1, z2]) rfl (FB.out ww _ WW.out.2.1 WW.out.2.2)
            · have h4i : ¬ (0 : Int) < (n4 : Int) := by omega
              have LNG := hide2 (show (fullL log).any (fun t => decide (1 < t.length)) = false from by
                cases hv : (fullL log).any (fun t => decide (1 < t.length)) with
                | false => rfl
                | true => exact absurd ((long_behind SP.out).1 hv) (by rw [L4.out]; exact h4))
              have EQ := hide2 (show findB (f + 1) log = stepB a from by rw [EQ0.out, partB_step SP.out ONE.out LNG.out, HA.out])
              have FB := hide2 (show ∀ (w' : World) (v : Value), BlkA (fun j => w.heap.size ≤ j) (f + 3) w' v (stepB a) → Below w.heap.size w w' → AnsBlk (f + 1 + 2) (findB (f + 1) log) w (.returned v) w' from fun w' v hb hw => ⟨v, rfl, by rw [EQ.out]; exact hb, hw⟩)
              have BA8 := hide2 (BA7.out.flat (d' := f + 3) rfl)
              clear h4
              obtain ⟨u0, u1, u2⟩ := X7.out.three
              have fz := fun q => X7.out.frozen q
              have WW := hide2 (blk_set (w := w) BA8.out X7.out BB7.out D5.out W5.out (Nat.le_refl _))
              go_wp2
              generalize (((w7.setCell ⟨w.heap.size, 0, none⟩ (.int .i64 2)).setCell ⟨w.heap.size, 1, none⟩ (.int .i64 a)).setCell ⟨w.heap.size, 2, none⟩ (.slice none 0 0)) = ww at *
              obtain ⟨z0, z1, z2⟩ := WW.out.1.three
              exact bodyPost_ret (v := .agg #[.int .i64 2, .int .i64 a, .slice none 0 0]) (by simp [results, Tryz.results11, go_sem, z0, z1, z2]) rfl (FB.out ww _ WW.out.2.1 WW.out.2.2)
          · have TWO := hide2 (show p.labels.length ≠ 1 by rw [LN.out.1]; exact hone)
            have hni : ((n1 : Int) == 1) = false := by simp; omega
            have OK := hide2 (show ∀ x ∈ p.labels, okI x from SP.out.lab FU.out.1)
            have PB := hide2 (show PrB w5 bp p from ⟨A1, A2, A3b, A4, n1, c1, n2, c2, n3, c3b, n4, c4, TB.out, PI.out⟩)
            have LG := hide2 (show LgB w5 (w.heap.size + 1) (fullL log) from ⟨_, _, _, Y5.out, IL5.out⟩)
            have F60 := hide2 (show (fullL log).length ≤ 60 from FU.out.n)
            have B6 := hide2 (boxBelow w5 (.cells #[w1V bp] 58))
            have T9 := hide2 (Box.new w5 #[w1V bp] 58)
            have PB6 := hide2 (PB.out.keep B6.out)
            have LG6 := hide2 (LG.out.keep B6.out)
            have X6 := hide2 (X5.out.keep B6.out)
            have TB6 := hide2 (TB.out.keep B6.out)
            have PI6 := hide2 (PI.out.keep B6.out)
            have D6 := hide2 (D5.out.trans (B6.out.mono D5.out.size))
            have W6 := hide2 (Nat.lt_of_lt_of_le W5.out B6.out.size)
            clear hone
            go_upto_region 19 with fail
            clear x0 x1 x2 x3
            generalize w5.alloc (.cells #[w1V bp] 58) = w6 at *
            generalize w5.heap.size = b9 at T9
            have x0 := TB6.out.cell 0
            have CG := hide2 (wgroups_calls PI6.out.i1 LN.out.2 SP.out.1.1 OK.out (w2_lk p.labels PB6.out T9.out))
            go_wp2_with fail
            refine CG.out.mono ?_
            rintro e w7 ⟨vo, m, rfl, hm, rg, hG, hb7⟩
            have hgb : grpL (fun a b => bhB p a b || bhB p b a) p.labels = grpL (bhB p) p.labels := grpL_both SP.out.1.1
            rw [hgb] at rg
            have ML := hide2 (show (grpL (bhB p) p.labels).length = m from OwnSl.len rg)
            obtain ⟨AG, cG, rfl, ig⟩ := RowG.lists rg (by omega)
            have IG := hide2 ig
            have HM := hide2 hm
            have D7 := hide2 (D6.out.trans (hb7.mono D6.out.size))
            have W7 := hide2 (Nat.lt_of_lt_of_le W6.out hb7.size)
            have X7 := hide2 (X6.out.keep hb7)
            have LG7 := hide2 (LG6.out.keep hb7)
            have PB7 := hide2 (PB6.out.keep hb7)
            have TB7 := hide2 (TB6.out.keep hb7)
            have PI7 := hide2 (PI6.out.keep hb7)
            have T97 := hide2 (T9.out.keep hb7)
            clear rg hG hb7 hm ig CG hgb x0
            by_cases hm1 : 1 < m
            · have hmi : (1 : Int) < (m : Int) := by omega
              have TWO2 := hide2 (show 2 ≤ (grpL (bhB p) p.labels).length by rw [ML.out]; exact hm1)
              have EQ := hide2 (show findB (f + 1) log = PBlk.mk 4 0 ((grpL (bhB p) p.labels).map fun g => findB f ((fullL log).filter fun t => inS g (t.headD 0))) from by rw [EQ0.out, partB_choose SP.out TWO.out TWO2.out])
              have FB := hide2 (show ∀ (w' : World) (v : Value), BlkA (fun j => w.heap.size ≤ j) (f + 3) w' v (PBlk.mk 4 0 ((grpL (bhB p) p.labels).map fun g => findB f ((fullL log).filter fun t => inS g (t.headD 0)))) → Below w.heap.size w w' → AnsBlk (f + 1 + 2) (findB (f + 1) log) w (.returned v) w' from fun w' v hb hw => ⟨v, rfl, by rw [EQ.out]; exact hb, hw⟩)
              have CP := hide2 (wparts_calls IHH.out IG.out 4 (w3_part LG7.out F60.out HE.out) (fun g hg => FU.out.choose HE.out SP.out TWO2.out hg) HM.out)
              clear hm1
              go_wp2_with fail
              refine CP.out.mono ?_
              rintro e w8 ⟨v8, rfl, ⟨A8', n8', c8', rfl, s8, p8⟩, hb8⟩
              have BA8 := hide2 (show BlkA (fun q => w7.heap.size ≤ q) (f + 3) w8 (.agg #[.int .i64 (PBlk.mk 4 0 ((grpL (bhB p) p.labels).map fun g => findB f ((fullL log).filter fun t => inS g (t.headD 0)))).kind, .int .i64 (PBlk.mk 4 0 ((grpL (bhB p) p.labels).map fun g => findB f ((fullL log).filter fun t => inS g (t.headD 0)))).label, .slice A8' n8' c8']) (PBlk.mk 4 0 ((grpL (bhB p) p.labels).map fun g => findB f ((fullL log).filter fun t => inS g (t.headD 0)))) from ⟨A8', n8', c8', rfl, s8, p8⟩)
              obtain ⟨kd8, hkd⟩ : ∃ x, x = (PBlk.mk 4 0 ((grpL (bhB p) p.labels).map fun g => findB f ((fullL log).filter fun t => inS g (t.headD 0)))).kind := ⟨_, rfl⟩
              obtain ⟨lb8, hlb⟩ : ∃ x, x = (PBlk.mk 4 0 ((grpL (bhB p) p.labels).map fun g => findB f ((fullL log).filter fun t => inS g (t.headD 0)))).label := ⟨_, rfl⟩
              rw [← hkd, ← hlb] at BA8
              rw [← hkd, ← hlb]
              have HB8 := hide2 hb8
              clear s8 p8 hb8 hkd hlb
              have XQ := hide2 (X7.out.keep HB8.out)
              clear CP
              obtain ⟨u0, u1, u2⟩ := XQ.out.three
              have fz := fun q => XQ.out.frozen q
              have WW := hide2 (blk_set (w := w) BA8.out XQ.out HB8.out D7.out W7.out (Nat.le_refl _))
              go_wp2
              generalize (((w8.setCell ⟨w.heap.size, 0, none⟩ (.int .i64 kd8)).setCell ⟨w.heap.size, 1, none⟩ (.int .i64 lb8)).setCell ⟨w.heap.size, 2, none⟩ (.slice A8' n8' c8')) = ww at *
              obtain ⟨z0, z1, z2⟩ := WW.out.1.three
              exact bodyPost_ret (v := .agg #[.int .i64 kd8, .int .i64 lb8, .slice A8' n8' c8']) (by simp [results, Tryz.results11, go_sem, z0, z1, z2]) rfl (FB.out ww _ WW.out.2.1 WW.out.2.2)
            · have hmi : ¬ (1 : Int) < (m : Int) := by omega
              have NO1 := hide2 (show ¬ 2 ≤ (grpL (bhB p) p.labels).length by rw [ML.out]; omega)
              clear hm1
              have B8 := hide2 (boxBelow w7 (.cells #[w5V bp] 58))
              have T12 := hide2 (Box.new w7 #[w5V bp] 58)
              have LG8 := hide2 (LG7.out.keep B8.out)
              have PB8 := hide2 (PB7.out.keep B8.out)
              have TB8 := hide2 (TB7.out.keep B8.out)
              have PI8 := hide2 (PI7.out.keep B8.out)
              have T98 := hide2 (T97.out.keep B8.out)
              have X8 := hide2 (X7.out.keep B8.out)
              have D8 := hide2 (D7.out.trans (B8.out.mono D7.out.size))
              have W8 := hide2 (Nat.lt_of_lt_of_le W7.out B8.out.size)
              go_upto_region 24 with fail
              generalize w7.alloc (.cells #[w5V bp] 58) = w8 at *
              generalize w7.heap.size = b12 at T12
              have x0 := TB8.out.cell 0
              have CG := hide2 (wgroups_calls PI8.out.i1 LN.out.2 SP.out.1.1 OK.out (w6_lk p.labels SP.out (by rw [LN.out.1]; exact LN.out.2) PB8.out T12.out))
              go_wp2_with fail
              refine CG.out.mono ?_
              rintro e w9 ⟨vo2, m2, rfl, hm2, rg2, hG2, hb9⟩
              have ML2 := hide2 (show (grpL (alikeB (leadB p)) p.labels).length = m2 from OwnSl.len rg2)
              obtain ⟨AG2, cG2, rfl, ig2⟩ := RowG.lists rg2 (by omega)
              have IG2 := hide2 ig2
              have GR2 := hide2 hG2
              have HM2 := hide2 hm2
              have D9 := hide2 (D8.out.trans (hb9.mono D8.out.size))
              have W9 := hide2 (Nat.lt_of_lt_of_le W8.out hb9.size)
              have X9 := hide2 (X8.out.keep hb9)
              have LG9 := hide2 (LG8.out.keep hb9)
              have PB9 := hide2 (PB8.out.keep hb9)
              have TB9 := hide2 (TB8.out.keep hb9)
              have PI9 := hide2 (PI8.out.keep hb9)
              have T99 := hide2 (T98.out.keep hb9)
              have T129 := hide2 (T12.out.keep hb9)
              clear rg2 hG2 hb9 hm2 ig2 CG x0
              by_cases hm21 : 1 < m2
              · have hmi2 : (1 : Int) < (m2 : Int) := by omega
                have YES := hide2 (show seqP p by unfold seqP; rw [ML2.out]; exact hm21)
                have EQ := hide2 (show findB (f + 1) log = seqT f (fullL log) p from by rw [EQ0.out, partB_seq SP.out TWO.out NO1.out YES.out])
                have FB := hide2 (show ∀ (w' : World) (v : Value), BlkA (fun j => w.heap.size ≤ j) (f + 3) w' v (seqT f (fullL log) p) → Below w.heap.size w w' → AnsBlk (f + 1 + 2) (findB (f + 1) log) w (.returned v) w' from fun w' v hb hw => ⟨v, rfl, by rw [EQ.out]; exact hb, hw⟩)
                clear hm21
                have TR := hide2 (show ∀ a b c, a ∈ p.labels → b ∈ p.labels → c ∈ p.labels → leadB p a b = true → leadB p b c = true → leadB p a c = true from fun a b c _ hb _ h1 h2 => leadB_trans SP.out a b c hb h1 h2)
                go_wp2
                go_loopg [14] m2 (fun gk s14 wr => ∃ (inn : List (List Int)) (AI : Option Addr) (ni cI : Nat), s14 = .slice AI ni cI ∧ Hid (InI (leadB p) (grpL (alikeB (leadB p)) p.labels) inn ∧ ni + gk = m2) ∧ Hid (RowN wr w9.heap.size w9.heap.size (.slice AI ni cI) ni inn) ∧ Hid (Below w9.heap.size w9 wr))
                case atStart => exact ⟨[], none, 0, 0, rfl, hide2 ⟨InI.nil, by omega⟩, hide2 OwnSl.nil, hide2 (Below.refl _ _)⟩
                case round =>
                  obtain ⟨inn, AI, ni, cI, rfl, II, RO, DB⟩ := hrel
                  have HNL := hide2 (show inn.length = ni from RO.out.len)
                  by_cases hlt : ni < m2
                  · have hki : (ni : Int) < (m2 : Int) := by omega
                    have HLT := hide2 hlt
                    clear hlt
                    obtain ⟨wo, hwo⟩ : ∃ x : World, x = wr := ⟨_, rfl⟩
                    subst hwo
                    obtain ⟨go, hgo⟩ : ∃ x : Nat, x = gk := ⟨_, rfl⟩
                    subst hgo
                    go_wp2
                    go_loopg [14, 106] m2 (fun gk s14 s106 wr => ∃ (inn2 : List (List Int)) (A2i : Option Addr) (n2i c2i k : Nat), s14 = .slice A2i n2i c2i ∧ s106 = .int .i64 (k : Nat) ∧ Hid (k + gk = m2 ∧ n2i ≤ m2) ∧ Hid (PassI (leadB p) (grpL (alikeB (leadB p)) p.labels) inn inn2 k) ∧ Hid (RowN wr w9.heap.size w9.heap.size (.slice A2i n2i c2i) n2i inn2) ∧ Hid (Below w9.heap.size w9 wr))
                    case atStart => exact ⟨inn, AI, ni, cI, 0, rfl, rfl, hide2 ⟨by omega, by have := HLT.out; omega⟩, hide2 (PassI.start II.out.1), RO, DB⟩
                    case round =>
                      clear RO DB
                      obtain ⟨inn2, A2i, n2i, c2i, k, rfl, rfl, hgk, PA, RO, DB⟩ := hrel
                      by_cases hk : k < m2
                      · have hk3 : (k : Int) < (m2 : Int) := by omega
                        obtain ⟨bQ, oQ, t, vs, rfl, hbQ, ht, hc, mt, ⟨Bt, dt, e1, it, lt⟩, hmt⟩ := Sl.get (Sl.keep (LowR.kept _) (Sl.lows IG2.out) DB.out) hk
                        have q0 : wr.cell? ⟨bQ, oQ + k, none⟩ = some (.slice Bt mt dt) := by have := hc 0 (by omega); rw [e1] at this; simpa using this
                        have HT := hide2 (show (grpL (alikeB (leadB p)) p.labels)[k]? = some t from ht)
                        have TG := hide2 (show t ∈ (grpL (alikeB (leadB p)) p.labels) from List.mem_of_getElem? ht)
                        have HJ := hide2 (show gk - 1 < gk ∧ (k + 1) + (gk - 1) = m2 ∧ k ≤ 26 ∧ n2i ≤ 26 by have := hgk.out; have := HM2.out; omega)
                        have hwk : IntKind.i64.wrap ((k : Int) + 1) = ((k + 1 : Nat) : Int) := by
                          have := HJ.out
                          simp [IntKind.wrap, IntKind.bits, IntKind.signed]; omega
                        have TNE := hide2 (show t ≠ [] from GR2.out.ne t TG.out)
                        have hm0 : 0 < mt := by
                          have h1 : t.length = mt := it.len
                          have h2 := List.length_pos_iff.2 TNE.out
                          omega
                        obtain ⟨bg, og, g0, rfl, hbg, hg0, qg⟩ := Ints.get it hm0
                        rw [Nat.add_zero] at qg
                        have IT := hide2 it
                        have HBG := hide2 (show bg < w9.heap.size from lt hm0 _ rfl)
                        have HTD := hide2 (show t.headD 0 = g0 from by
                          have h1 := hg0.out
                          cases hc : t with
                          | nil => rw [hc] at h1; simp at h1
                          | cons x y => rw [hc] at h1; simpa using h1)
                        have RDV := hide2 (show IsL wr w9.heap.size (.slice (some ⟨bg, og, none⟩) mt dt) mt t ∧ mt ≤ 17592186043904 from ⟨⟨_, dt, rfl, it, lt⟩, hmt⟩)
                        have QG := hide2 qg
                        have BBA := hide2 (boxBelow wr (.cells #[.slice (some ⟨bg, og, none⟩) mt dt] 35))
                        have T16 := hide2 (Box.new wr #[.slice (some ⟨bg, og, none⟩) mt dt] 35)
                        have S9 := hide2 DB.out.size
                        clear hc e1 it lt hbQ hk ht hmt hbg hg0 qg
                        go_upto_region 31 with fail
                        clear q0
                        generalize hwA : wr.alloc (.cells #[.slice (some ⟨bg, og, none⟩) mt dt] 35) = wA at *
                        clear hwA
                        generalize hb16 : wr.heap.size = b16 at T16
                        have HB16 := hide2 hb16
                        clear hb16
                        obtain ⟨v7, hv7⟩ : ∃ v, v = inn2.any (beginB t) := ⟨_, rfl⟩
                        have HV7 := hide2 hv7
                        have LI := hide2 (RowN.lists (RO.out.keep BBA.out) (by have := HJ.out; omega))
                        have IL := hide2 (show Lists wA A2i n2i c2i inn2 from by
                          obtain ⟨A3i, c3i, e3, il⟩ := LI.out
                          injection e3 with e31 _ e32
                          subst e31 e32
                          exact il)
                        have C7 := hide2 (containsM_calls IL.out (w7_pred (gr := b16 + 1) (fun y hy => GR2.out.ne y (PA.out.I.sub y hy)) TNE.out T16.out (IT.out.keep BBA.out) (by omega) (fun a ha => by injection ha with ha; subst ha; have := HBG.out; have := HB16.out; have := S9.out; show bg ≠ b16 + 1; omega)))
                        rw [← hv7] at C7
                        clear hv7 LI
                        go_wp2_with fail
                        refine C7.out.mono ?_
                        rintro e wB ⟨rfl, hbB⟩
                        have BB := hide2 (BBA.out.trans (hbB.mono BBA.out.size))
                        have T16B := hide2 (T16.out.keep hbB)
                        have ILB := hide2 (Sl.keep ListR.kept IL.out hbB)
                        have DBB := hide2 (DB.out.trans (BB.out.mono DB.out.size))
                        have ROB := hide2 (RO.out.keep BB.out)
                        have ITB := hide2 (IT.out.keep BB.out)
                        have RDB := hide2 (RDV.out.1.keep BB.out)
                        have QGB := hide2 ((BB.out.cell (p := ⟨bg, og, none⟩) (Nat.lt_of_lt_of_le HBG.out S9.out)).trans QG.out)
                        clear hbB C7 IL T16 BBA
                        obtain ⟨gm, hgm⟩ : ∃ x : Nat, x = gk := ⟨_, rfl⟩
                        subst hgm
                        obtain ⟨wm, hwm⟩ : ∃ x : World, x = wr := ⟨_, rfl⟩
                        subst hwm
                        go_wp2
                        go_loopg [17, 116] m2 (fun gk s17 s116 wr => ∃ (b : Bool) (j : Nat), s17 = .bool b ∧ s116 = .int .i64 (j : Nat) ∧ Hid (j + gk = m2) ∧ Hid (b = (!v7 && ((grpL (alikeB (leadB p)) p.labels).take j).all fun k => !waitsB (leadB p) inn2 t k)) ∧ Hid (Below wB.heap.size wB wr))
                        case atStart => exact ⟨!v7, 0, rfl, rfl, hide2 (by omega), hide2 (by simp), hide2 (Below.refl _ _)⟩
                        case round =>
                          obtain ⟨b, j, rfl, rfl, hgj, HB, DJ⟩ := hrel
                          by_cases hj : j < m2
                          · have hji : (j : Int) < (m2 : Int) := by omega
                            have DB9 := hide2 (DBB.out.trans (DJ.out.mono DBB.out.size))
                            obtain ⟨bx, ox, h, vsx, eX, hbx, hhx, hcx, mh, ⟨Bh, dh, e1x, ihx, ltx⟩, hmh⟩ := Sl.get (Sl.keep (LowR.kept _) (Sl.lows IG2.out) DB9.out) hj
                            have qx : wr.cell? ⟨bx, ox + j, none⟩ = some (.slice Bh mh dh) := by have := hcx 0 (by omega); rw [e1x] at this; simpa using this
                            cases eX
                            have HJ2 := hide2 (show gk - 1 < gk ∧ (j + 1) + (gk - 1) = m2 by have := hgj.out; omega)
                            have hwj : IntKind.i64.wrap ((j : Int) + 1) = ((j + 1 : Nat) : Int) := by
                              have := hgj.out
                              have := HM2.out
                              simp [IntKind.wrap, IntKind.bits, IntKind.signed]; omega
                            have HG := hide2 (show h ∈ (grpL (alikeB (leadB p)) p.labels) from List.mem_of_getElem? hhx)
                            have HNE := hide2 (show h ≠ [] from GR2.out.ne h HG.out)
                            have TK := hide2 (show ((grpL (alikeB (leadB p)) p.labels).take (j + 1)).all (fun k => !waitsB (leadB p) inn2 t k) = (((grpL (alikeB (leadB p)) p.labels).take j).all (fun k => !waitsB (leadB p) inn2 t k) && !waitsB (leadB p) inn2 t h) by rw [List.take_add_one, show (grpL (alikeB (leadB p)) p.labels)[j]? = some h from hhx]; simp)
                            have hh0 : 0 < mh := by
                              have h1 : h.length = mh := ihx.len
                              have h2 := List.length_pos_iff.2 HNE.out
                              omega
                            obtain ⟨bh, oh, h0, rfl, hbh, hh1, qh⟩ := Ints.get ihx hh0
                            rw [Nat.add_zero] at qh
                            have HHD := hide2 (show h.headD 0 = h0 ∧ t.headD 0 = g0 from ⟨by
                              have h1 := hh1.out
                              cases hc : h with
                              | nil => rw [hc] at h1; simp at h1
                              | cons x y => rw [hc] at h1; simpa using h1, HTD.out⟩)
                            have BBC := hide2 (boxBelow wr (.cells #[.slice (some ⟨bh, oh, none⟩) mh dh] 35))
                            have T19 := hide2 (Box.new wr #[.slice (some ⟨bh, oh, none⟩) mh dh] 35)
                            have IH2 := hide2 (ihx.keep BBC.out)
                            have HBH := hide2 (show bh < w9.heap.size from ltx hh0 _ rfl)
                            have CH := hide2 ((BBC.out.cell (p := ⟨bh, oh, none⟩) hbh).trans qh)
                            have CG0 := hide2 (((DJ.out.trans (BBC.out.mono DJ.out.size)).cell (p := ⟨bg, og, none⟩) (Nat.lt_of_lt_of_le HBG.out DBB.out.size)).trans QGB.out)
                            have LTH := hide2 (show bh < (wr.alloc (.cells #[.slice (some ⟨bh, oh, none⟩) mh dh] 35)).heap.size ∧ bg < (wr.alloc (.cells #[.slice (some ⟨bh, oh, none⟩) mh dh] 35)).heap.size from ⟨Nat.lt_of_lt_of_le hbh BBC.out.size, Nat.lt_of_lt_of_le HBG.out (Nat.le_trans DB9.out.size BBC.out.size)⟩)
                            have LTH2 := hide2 (show bh < wr.heap.size from hbh)
                            have T16C := hide2 ((T16B.out.keep DJ.out).keep BBC.out)
                            have T12C := hide2 ((T129.out.keep DB9.out).keep BBC.out)
                            have ILC := hide2 (Sl.keep ListR.kept (Sl.keep ListR.kept ILB.out DJ.out) BBC.out)
                            have PBC := hide2 ((PB9.out.keep DB9.out).keep BBC.out)
                            clear ihx ltx hbx hj hmh hhx hcx e1x hbh hh1 qh
                            go_upto_region 35 with fail
                            clear qx
                            generalize hwC : wr.alloc (.cells #[.slice (some ⟨bh, oh, none⟩) mh dh] 35) = wC at *
                            clear hwC
                            generalize hb19 : wr.heap.size = b19 at T19 LTH2
                            clear hb19
                            have BD := hide2 ((Below.refl wC.heap.size wC).drew)
                            have c19 := T19.out.cell 0
                            have c16 := T16C.out.cell 0
                            have c12 := T12C.out.cell 0
                            have ch := CH.out
                            have cg := CG0.out
                            have henter5 : ∀ args w, (callFunc 39 args).run Tryz.prog w = .ok (.enter 39 args) w := fun args w => by kernel_rfl
                            go_wp2_with fail
                            by_cases he : h0 = g0
                            · have hei : (h0 != g0) = false := by simp [he]
                              have HW := hide2 (show waitsB (leadB p) inn2 t h = false by unfold waitsB; rw [HHD.out.1, HHD.out.2, decide_eq_true he]; rfl)
                              clear he
                              refine wp_region_scr 23 (.takes [0, 1, 2, 3, 4, 5, 6, 7, 8, 9, 10, 11, 12, 13, 14, 15, 16, 17, 18, 19, 20, 21, 22] (.fin 23 .done)) (fun w' => w'.cell? ⟨b19, 0, none⟩ = some (.slice (some ⟨bh, oh, none⟩) mh dh) ∧ w'.cell? ⟨b16, 0, none⟩ = some (.slice (some ⟨bg, og, none⟩) mt dt) ∧ w'.cell? ⟨b12, 0, none⟩ = some (w5V bp) ∧ w'.cell? ⟨bh, oh, none⟩ = some (.int .i64 h0) ∧ w'.cell? ⟨bg, og, none⟩ = some (.int .i64 g0)) (by kernel_rfl) (by kernel_rfl) (by kernel_rfl) (fun _ _ _ _ _ h => h) ⟨c19, c16, c12, ch, cg⟩ (fun hHeld => ?_)
                              simp only [Scr.takes]
                              clear c19 c16 c12 ch cg
                              generalize wC.drew = wD at *
                              iterate 6
                                refine tkTake (v := ?_) rfl (by rfl) hHeld (fun w' hSw => ?_) ?_
                                rotate_left
                                · (go_simp; try with_reducible rfl)
                                try simp only [Act.put, List.setIfInBounds_toArray, List.set_cons_zero, List.set_cons_succ]
                              refine tkTake (v := .bool false) rfl (by rfl) hHeld (fun w' hSw => ?_) ?_
                              · (go_simp; try with_reducible rfl)
                              try simp only [Act.put, List.setIfInBounds_toArray, List.set_cons_zero, List.set_cons_succ]
                              refine tkTake (v := .bool false) rfl (by rfl) hHeld (fun w' hSw => ?_) ?_
                              · (go_simp; try with_reducible rfl)
                              try simp only [Act.put, List.setIfInBounds_toArray, List.set_cons_zero, List.set_cons_succ]
                              iterate 8
                                refine tkPassI rfl (by rfl) hHeld ?_
                                try simp only [Act.put, List.setIfInBounds_toArray, List.set_cons_zero, List.set_cons_succ]
                              refine tkTake (v := .bool false) rfl (by rfl) hHeld (fun w' hSw => ?_) ?_
                              · (go_simp; try with_reducible rfl)
                              try simp only [Act.put, List.setIfInBounds_toArray, List.set_cons_zero, List.set_cons_succ]
                              refine tkTake (v := .bool false) rfl (by rfl) hHeld (fun w' hSw => ?_) ?_
                              · (go_simp; try with_reducible rfl)
                              try simp only [Act.put, List.setIfInBounds_toArray, List.set_cons_zero, List.set_cons_succ]
                              iterate 4
                                refine tkPassI rfl (by rfl) hHeld ?_
                                try simp only [Act.put, List.setIfInBounds_toArray, List.set_cons_zero, List.set_cons_succ]
                              refine tkTake (v := .bool false) rfl (by rfl) hHeld (fun w' hSw => ?_) ?_
                              · (go_simp; try with_reducible rfl)
                              try simp only [Act.put, List.setIfInBounds_toArray, List.set_cons_zero, List.set_cons_succ]
                              refine tkEnd rfl (fun Kf hKf => ?_)
                              go_simp
                              refine hKf.out _ _ ?_
                              clear hKf
                              try simp only [Act.put, List.setIfInBounds_toArray, List.set_cons_zero, List.set_cons_succ]
                              refine tkDone ?_
                              clear hHeld
                              have WW := hide2 (DJ.out.trans ((BBC.out.trans (BD.out.mono BBC.out.size)).mono DJ.out.size))
                              cases b
                              · have HN := hide2 (show false = (!v7 && ((grpL (alikeB (leadB p)) p.labels).take (j + 1)).all fun k => !waitsB (leadB p) inn2 t k) by rw [TK.out, ← Bool.and_assoc, ← HB.out, HW.out]; rfl)
                                go_wp2
                                go_roundg (gk - 1)
                                case measure => exact HJ2.out.1
                                case rel => exact ⟨false, j + 1, rfl, rfl, hide2 HJ2.out.2, HN, WW⟩
                              · have HN := hide2 (show true = (!v7 && ((grpL (alikeB (leadB p)) p.labels).take (j + 1)).all fun k => !waitsB (leadB p) inn2 t k) by rw [TK.out, ← Bool.and_assoc, ← HB.out, HW.out]; rfl)
                                go_wp2
                                go_roundg (gk - 1)
                                case measure => exact HJ2.out.1
                                case rel => exact ⟨true, j + 1, rfl, rfl, hide2 HJ2.out.2, HN, WW⟩
                            · have hei : (h0 != g0) = true := by simp [he]
                              obtain ⟨v, hv⟩ : ∃ v, leadB p h0 g0 = v := ⟨_, rfl⟩
                              have HV := hide2 hv
                              have HE0 := hide2 (show decide (h0 = g0) = false from decide_eq_false he)
                              have C1 := hide2 (w5_calls SP.out (by rw [LN.out.1]; exact LN.out.2) h0 g0 (PBC.out.keep BD.out))
                              rw [hv] at C1
                              clear hv he
                              cases v
                              · have HW := hide2 (show waitsB (leadB p) inn2 t h = false by unfold waitsB; rw [HHD.out.1, HHD.out.2, HV.out]; simp)
                                refine wp_region_scr 23 (.takes [0, 1, 2, 3, 4, 5, 6, 7, 8, 9, 10, 11, 12, 13, 14] (.one 15 (.takes [16, 17, 18, 19, 20, 21, 22] (.fin 23 .done)))) (fun w' => w'.cell? ⟨b19, 0, none⟩ = some (.slice (some ⟨bh, oh, none⟩) mh dh) ∧ w'.cell? ⟨b16, 0, none⟩ = some (.slice (some ⟨bg, og, none⟩) mt dt) ∧ w'.cell? ⟨b12, 0, none⟩ = some (w5V bp) ∧ w'.cell? ⟨bh, oh, none⟩ = some (.int .i64 h0) ∧ w'.cell? ⟨bg, og, none⟩ = some (.int .i64 g0)) (by kernel_rfl) (by kernel_rfl) (by kernel_rfl) (fun _ _ _ _ _ h => h) ⟨c19, c16, c12, ch, cg⟩ (fun hHeld => ?_)
                                simp only [Scr.takes]
                                clear c19 c16 c12 ch cg
                                generalize wC.drew = wD at *
                                iterate 6
                                  refine tkTake (v := ?_) rfl (by rfl) hHeld (fun w' hSw => ?_) ?_
                                  rotate_left
                                  · (go_simp; try with_reducible rfl)
                                  try simp only [Act.put, List.setIfInBounds_toArray, List.set_cons_zero, List.set_cons_succ]
                                refine tkTake (v := .bool true) rfl (by rfl) hHeld (fun w' hSw => ?_) ?_
                                · (go_simp; try with_reducible rfl)
                                try simp only [Act.put, List.setIfInBounds_toArray, List.set_cons_zero, List.set_cons_succ]
                                refine tkTake (v := .bool true) rfl (by rfl) hHeld (fun w' hSw => ?_) ?_
                                · (go_simp; try with_reducible rfl)
                                try simp only [Act.put, List.setIfInBounds_toArray, List.set_cons_zero, List.set_cons_succ]
                                iterate 7
                                  refine tkTake (v := ?_) rfl (by rfl) hHeld (fun w' hSw => ?_) ?_
                                  rotate_left
                                  · (go_simp; try with_reducible rfl)
                                  try simp only [Act.put, List.setIfInBounds_toArray, List.set_cons_zero, List.set_cons_succ]
                                refine tkOne rfl (fun Kf hKf => ?_)
                                go_simp
                                refine C1.out.mono ?_
                                rintro e w2 ⟨rfl, hb2⟩
                                have B2 := hide2 (BD.out.trans (hb2.mono BD.out.size))
                                have c19w2 := (T19.out.keep B2.out).cell 0
                                have c16w2 := (T16C.out.keep B2.out).cell 0
                                have c12w2 := (T12C.out.keep B2.out).cell 0
                                have chw2 := (B2.out.cell (p := ⟨bh, oh, none⟩) LTH.out.1).trans CH.out
                                have cgw2 := (B2.out.cell (p := ⟨bg, og, none⟩) LTH.out.2).trans CG0.out
                                clear hb2
                                refine hKf.out _ _ ⟨c19w2, c16w2, c12w2, chw2, cgw2⟩ (fun hHeld => ?_)
                                clear hKf c19w2 c16w2 c12w2 chw2 cgw2
                                try simp only [Act.put, List.setIfInBounds_toArray, List.set_cons_zero, List.set_cons_succ]
                                refine tkTake (v := .bool false) rfl (by rfl) hHeld (fun w' hSw => ?_) ?_
                                · (go_simp; try with_reducible rfl)
                                try simp only [Act.put, List.setIfInBounds_toArray, List.set_cons_zero, List.set_cons_succ]
                                refine tkTake (v := .bool false) rfl (by rfl) hHeld (fun w' hSw => ?_) ?_
                                · (go_simp; try with_reducible rfl)
                                try simp only [Act.put, List.setIfInBounds_toArray, List.set_cons_zero, List.set_cons_succ]
                                iterate 4
                                  refine tkPassI rfl (by rfl) hHeld ?_
                                  try simp only [Act.put, List.setIfInBounds_toArray, List.set_cons_zero, List.set_cons_succ]
                                refine tkTake (v := .bool false) rfl (by rfl) hHeld (fun w' hSw => ?_) ?_
                                · (go_simp; try with_reducible rfl)
                                try simp only [Act.put, List.setIfInBounds_toArray, List.set_cons_zero, List.set_cons_succ]
                                refine tkEnd rfl (fun Kf hKf => ?_)
                                go_simp
                                refine hKf.out _ _ ?_
                                clear hKf
                                try simp only [Act.put, List.setIfInBounds_toArray, List.set_cons_zero, List.set_cons_succ]
                                refine tkDone ?_
                                clear hHeld
                                have WW := hide2 (DJ.out.trans ((BBC.out.trans (B2.out.mono BBC.out.size)).mono DJ.out.size))
                                cases b
                                · have HN := hide2 (show false = (!v7 && ((grpL (alikeB (leadB p)) p.labels).take (j + 1)).all fun k => !waitsB (leadB p) inn2 t k) by rw [TK.out, ← Bool.and_assoc, ← HB.out, HW.out]; rfl)
                                  go_wp2
                                  go_roundg (gk - 1)
                                  case measure => exact HJ2.out.1
                                  case rel => exact ⟨false, j + 1, rfl, rfl, hide2 HJ2.out.2, HN, WW⟩
                                · have HN := hide2 (show true = (!v7 && ((grpL (alikeB (leadB p)) p.labels).take (j + 1)).all fun k => !waitsB (leadB p) inn2 t k) by rw [TK.out, ← Bool.and_assoc, ← HB.out, HW.out]; rfl)
                                  go_wp2
                                  go_roundg (gk - 1)
                                  case measure => exact HJ2.out.1
                                  case rel => exact ⟨true, j + 1, rfl, rfl, hide2 HJ2.out.2, HN, WW⟩
                              · obtain ⟨v8, hv8⟩ : ∃ v, inn2.any (beginB h) = v := ⟨_, rfl⟩
                                have HV8 := hide2 hv8
                                have C2 := hide2 (fun (w2 : World) (hq : Below wC.heap.size wC w2) => containsM_calls (Sl.keep ListR.kept ILC.out hq) (w8_pred (gr := b19 + 1) (fun y hy => GR2.out.ne y (PA.out.I.sub y hy)) HNE.out (T19.out.keep hq) (IH2.out.keep hq) (by omega) (fun a ha => by injection ha with ha; subst ha; have := LTH2.out; show bh ≠ b19 + 1; omega)))
                                rw [hv8] at C2
                                clear hv8
                                cases v8
                                · have HW := hide2 (show waitsB (leadB p) inn2 t h = true by unfold waitsB; rw [HHD.out.1, HHD.out.2, HV.out, HV8.out, HE0.out]; rfl)
                                  refine wp_region_scr 23 (.takes [0, 1, 2, 3, 4, 5, 6, 7, 8, 9, 10, 11, 12, 13, 14] (.one 15 (.takes [16, 17, 18, 19] (.one 20 (.takes [21, 22] (.fin 23 .done)))))) (fun w' => w'.cell? ⟨b19, 0, none⟩ = some (.slice (some ⟨bh, oh, none⟩) mh dh) ∧ w'.cell? ⟨b16, 0, none⟩ = some (.slice (some ⟨bg, og, none⟩) mt dt) ∧ w'.cell? ⟨b12, 0, none⟩ = some (w5V bp) ∧ w'.cell? ⟨bh, oh, none⟩ = some (.int .i64 h0) ∧ w'.cell? ⟨bg, og, none⟩ = some (.int .i64 g0)) (by kernel_rfl) (by kernel_rfl) (by kernel_rfl) (fun _ _ _ _ _ h => h) ⟨c19, c16, c12, ch, cg⟩ (fun hHeld => ?_)
                                  simp only [Scr.takes]
                                  clear c19 c16 c12 ch cg
                                  generalize wC.drew = wD at *
                                  iterate 6
                                    refine tkTake (v := ?_) rfl (by rfl) hHeld (fun w' hSw => ?_) ?_
                                    rotate_left
                                    · (go_simp; try with_reducible rfl)
                                    try simp only [Act.put, List.setIfInBounds_toArray, List.set_cons_zero, List.set_cons_succ]
                                  refine tkTake (v := .bool true) rfl (by rfl) hHeld (fun w' hSw => ?_) ?_
                                  · (go_simp; try with_reducible rfl)
                                  try simp only [Act.put, List.setIfInBounds_toArray, List.set_cons_zero, List.set_cons_succ]
                                  refine tkTake (v := .bool true) rfl (by rfl) hHeld (fun w' hSw => ?_) ?_
                                  · (go_simp; try with_reducible rfl)
                                  try simp only [Act.put, List.setIfInBounds_toArray, List.set_cons_zero, List.set_cons_succ]
                                  iterate 7
                                    refine tkTake (v := ?_) rfl (by rfl) hHeld (fun w' hSw => ?_) ?_
                                    rotate_left
                                    · (go_simp; try with_reducible rfl)
                                    try simp only [Act.put, List.setIfInBounds_toArray, List.set_cons_zero, List.set_cons_succ]
                                  refine tkOne rfl (fun Kf hKf => ?_)
                                  go_simp
                                  refine C1.out.mono ?_
                                  rintro e w2 ⟨rfl, hb2⟩
                                  have B2 := hide2 (BD.out.trans (hb2.mono BD.out.size))
                                  have c19w2 := (T19.out.keep B2.out).cell 0
                                  have c16w2 := (T16C.out.keep B2.out).cell 0
                                  have c12w2 := (T12C.out.keep B2.out).cell 0
                                  have chw2 := (B2.out.cell (p := ⟨bh, oh, none⟩) LTH.out.1).trans CH.out
                                  have cgw2 := (B2.out.cell (p := ⟨bg, og, none⟩) LTH.out.2).trans CG0.out
                                  clear hb2
                                  refine hKf.out _ _ ⟨c19w2, c16w2, c12w2, chw2, cgw2⟩ (fun hHeld => ?_)
                                  clear hKf c19w2 c16w2 c12w2 chw2 cgw2
                                  try simp only [Act.put, List.setIfInBounds_toArray, List.set_cons_zero, List.set_cons_succ]
                                  refine tkTake (v := .bool true) rfl (by rfl) hHeld (fun w' hSw => ?_) ?_
                                  · (go_simp; try with_reducible rfl)
                                  try simp only [Act.put, List.setIfInBounds_toArray, List.set_cons_zero, List.set_cons_succ]
                                  refine tkTake (v := .bool true) rfl (by rfl) hHeld (fun w' hSw => ?_) ?_
                                  · (go_simp; try with_reducible rfl)
                                  try simp only [Act.put, List.setIfInBounds_toArray, List.set_cons_zero, List.set_cons_succ]
                                  iterate 2
                                    refine tkTake (v := ?_) rfl (by rfl) hHeld (fun w' hSw => ?_) ?_
                                    rotate_left
                                    · (go_simp; try with_reducible rfl)
                                    try simp only [Act.put, List.setIfInBounds_toArray, List.set_cons_zero, List.set_cons_succ]
                                  refine tkOne rfl (fun Kf hKf => ?_)
                                  go_simp
                                  refine (C2.out w2 B2.out).mono ?_
                                  rintro e w3 ⟨rfl, hb3⟩
                                  have B3 := hide2 (B2.out.trans (hb3.mono B2.out.size))
                                  have c19w3 := (T19.out.keep B3.out).cell 0
                                  have c16w3 := (T16C.out.keep B3.out).cell 0
                                  have c12w3 := (T12C.out.keep B3.out).cell 0
                                  have chw3 := (B3.out.cell (p := ⟨bh, oh, none⟩) LTH.out.1).trans CH.out
                                  have cgw3 := (B3.out.cell (p := ⟨bg, og, none⟩) LTH.out.2).trans CG0.out
                                  clear hb3
                                  refine hKf.out _ _ ⟨c19w3, c16w3, c12w3, chw3, cgw3⟩ (fun hHeld => ?_)
                                  clear hKf c19w3 c16w3 c12w3 chw3 cgw3
                                  try simp only [Act.put, List.setIfInBounds_toArray, List.set_cons_zero, List.set_cons_succ]
                                  refine tkTake (v := .bool true) rfl (by rfl) hHeld (fun w' hSw => ?_) ?_
                                  · (go_simp; try with_reducible rfl)
                                  try simp only [Act.put, List.setIfInBounds_toArray, List.set_cons_zero, List.set_cons_succ]
                                  refine tkTake (v := .bool true) rfl (by rfl) hHeld (fun w' hSw => ?_) ?_
                                  · (go_simp; try with_reducible rfl)
                                  try simp only [Act.put, List.setIfInBounds_toArray, List.set_cons_zero, List.set_cons_succ]
                                  refine tkEnd rfl (fun Kf hKf => ?_)
                                  go_simp
                                  refine hKf.out _ _ ?_
                                  clear hKf
                                  try simp only [Act.put, List.setIfInBounds_toArray, List.set_cons_zero, List.set_cons_succ]
                                  refine tkDone ?_
                                  clear hHeld
                                  have WW := hide2 (DJ.out.trans ((BBC.out.trans (B3.out.mono BBC.out.size)).mono DJ.out.size))
                                  cases b
                                  · have HN := hide2 (show false = (!v7 && ((grpL (alikeB (leadB p)) p.labels).take (j + 1)).all fun k => !waitsB (leadB p) inn2 t k) by rw [TK.out, ← Bool.and_assoc, ← HB.out, HW.out]; rfl)
                                    go_wp2
                                    go_roundg (gk - 1)
                                    case measure => exact HJ2.out.1
                                    case rel => exact ⟨false, j + 1, rfl, rfl, hide2 HJ2.out.2, HN, WW⟩
                                  · have HN := hide2 (show false = (!v7 && ((grpL (alikeB (leadB p)) p.labels).take (j + 1)).all fun k => !waitsB (leadB p) inn2 t k) by rw [TK.out, ← Bool.and_assoc, ← HB.out, HW.out]; rfl)
                                    go_wp2
                                    go_roundg (gk - 1)
                                    case measure => exact HJ2.out.1
                                    case rel => exact ⟨false, j + 1, rfl, rfl, hide2 HJ2.out.2, HN, WW⟩
                                · have HW := hide2 (show waitsB (leadB p) inn2 t h = false by unfold waitsB; rw [HHD.out.1, HHD.out.2, HV.out, HV8.out, HE0.out]; rfl)
                                  refine wp_region_scr 23 (.takes [0, 1, 2, 3, 4, 5, 6, 7, 8, 9, 10, 11, 12, 13, 14] (.one 15 (.takes [16, 17, 18, 19] (.one 20 (.takes [21, 22] (.fin 23 .done)))))) (fun w' => w'.cell? ⟨b19, 0, none⟩ = some (.slice (some ⟨bh, oh, none⟩) mh dh) ∧ w'.cell? ⟨b16, 0, none⟩ = some (.slice (some ⟨bg, og, none⟩) mt dt) ∧ w'.cell? ⟨b12, 0, none⟩ = some (w5V bp) ∧ w'.cell? ⟨bh, oh, none⟩ = some (.int .i64 h0) ∧ w'.cell? ⟨bg, og, none⟩ = some (.int .i64 g0)) (by kernel_rfl) (by kernel_rfl) (by kernel_rfl) (fun _ _ _ _ _ h => h) ⟨c19, c16, c12, ch, cg⟩ (fun hHeld => ?_)
                                  simp only [Scr.takes]
                                  clear c19 c16 c12 ch cg
                                  generalize wC.drew = wD at *
                                  iterate 6
                                    refine tkTake (v := ?_) rfl (by rfl) hHeld (fun w' hSw => ?_) ?_
                                    rotate_left
                                    · (go_simp; try with_reducible rfl)
                                    try simp only [Act.put, List.setIfInBounds_toArray, List.set_cons_zero, List.set_cons_succ]
                                  refine tkTake (v := .bool true) rfl (by rfl) hHeld (fun w' hSw => ?_) ?_
                                  · (go_simp; try with_reducible rfl)
                                  try simp only [Act.put, List.setIfInBounds_toArray, List.set_cons_zero, List.set_cons_succ]
                                  refine tkTake (v := .bool true) rfl (by rfl) hHeld (fun w' hSw => ?_) ?_
                                  · (go_simp; try with_reducible rfl)
                                  try simp only [Act.put, List.setIfInBounds_toArray, List.set_cons_zero, List.set_cons_succ]
                                  iterate 7
                                    refine tkTake (v := ?_) rfl (by rfl) hHeld (fun w' hSw => ?_) ?_
                                    rotate_left
                                    · (go_simp; try with_reducible rfl)
                                    try simp only [Act.put, List.setIfInBounds_toArray, List.set_cons_zero, List.set_cons_succ]
                                  refine tkOne rfl (fun Kf hKf => ?_)
                                  go_simp
                                  refine C1.out.mono ?_
                                  rintro e w2 ⟨rfl, hb2⟩
                                  have B2 := hide2 (BD.out.trans (hb2.mono BD.out.size))
                                  have c19w2 := (T19.out.keep B2.out).cell 0
                                  have c16w2 := (T16C.out.keep B2.out).cell 0
                                  have c12w2 := (T12C.out.keep B2.out).cell 0
                                  have chw2 := (B2.out.cell (p := ⟨bh, oh, none⟩) LTH.out.1).trans CH.out
                                  have cgw2 := (B2.out.cell (p := ⟨bg, og, none⟩) LTH.out.2).trans CG0.out
                                  clear hb2
                                  refine hKf.out _ _ ⟨c19w2, c16w2, c12w2, chw2, cgw2⟩ (fun hHeld => ?_)
                                  clear hKf c19w2 c16w2 c12w2 chw2 cgw2
                                  try simp only [Act.put, List.setIfInBounds_toArray, List.set_cons_zero, List.set_cons_succ]
                                  refine tkTake (v := .bool true) rfl (by rfl) hHeld (fun w' hSw => ?_) ?_
                                  · (go_simp; try with_reducible rfl)
                                  try simp only [Act.put, List.setIfInBounds_toArray, List.set_cons_zero, List.set_cons_succ]
                                  refine tkTake (v := .bool true) rfl (by rfl) hHeld (fun w' hSw => ?_) ?_
                                  · (go_simp; try with_reducible rfl)
                                  try simp only [Act.put, List.setIfInBounds_toArray, List.set_cons_zero, List.set_cons_succ]
                                  iterate 2
                                    refine tkTake (v := ?_) rfl (by rfl) hHeld (fun w' hSw => ?_) ?_
                                    rotate_left
                                    · (go_simp; try with_reducible rfl)
                                    try simp only [Act.put, List.setIfInBounds_toArray, List.set_cons_zero, List.set_cons_succ]
                                  refine tkOne rfl (fun Kf hKf => ?_)
                                  go_simp
                                  refine (C2.out w2 B2.out).mono ?_
                                  rintro e w3 ⟨rfl, hb3⟩
                                  have B3 := hide2 (B2.out.trans (hb3.mono B2.out.size))
                                  have c19w3 := (T19.out.keep B3.out).cell 0
                                  have c16w3 := (T16C.out.keep B3.out).cell 0
                                  have c12w3 := (T12C.out.keep B3.out).cell 0
                                  have chw3 := (B3.out.cell (p := ⟨bh, oh, none⟩) LTH.out.1).trans CH.out
                                  have cgw3 := (B3.out.cell (p := ⟨bg, og, none⟩) LTH.out.2).trans CG0.out
                                  clear hb3
                                  refine hKf.out _ _ ⟨c19w3, c16w3, c12w3, chw3, cgw3⟩ (fun hHeld => ?_)
                                  clear hKf c19w3 c16w3 c12w3 chw3 cgw3
                                  try simp only [Act.put, List.setIfInBounds_toArray, List.set_cons_zero, List.set_cons_succ]
                                  refine tkTake (v := .bool false) rfl (by rfl) hHeld (fun w' hSw => ?_) ?_
                                  · (go_simp; try with_reducible rfl)
                                  try simp only [Act.put, List.setIfInBounds_toArray, List.set_cons_zero, List.set_cons_succ]
                                  refine tkTake (v := .bool false) rfl (by rfl) hHeld (fun w' hSw => ?_) ?_
                                  · (go_simp; try with_reducible rfl)
                                  try simp only [Act.put, List.setIfInBounds_toArray, List.set_cons_zero, List.set_cons_succ]
                                  refine tkEnd rfl (fun Kf hKf => ?_)
                                  go_simp
                                  refine hKf.out _ _ ?_
                                  clear hKf
                                  try simp only [Act.put, List.setIfInBounds_toArray, List.set_cons_zero, List.set_cons_succ]
                                  refine tkDone ?_
                                  clear hHeld
                                  have WW := hide2 (DJ.out.trans ((BBC.out.trans (B3.out.mono BBC.out.size)).mono DJ.out.size))
                                  cases b
                                  · have HN := hide2 (show false = (!v7 && ((grpL (alikeB (leadB p)) p.labels).take (j + 1)).all fun k => !waitsB (leadB p) inn2 t k) by rw [TK.out, ← Bool.and_assoc, ← HB.out, HW.out]; rfl)
                                    go_wp2
                                    go_roundg (gk - 1)
                                    case measure => exact HJ2.out.1
                                    case rel => exact ⟨false, j + 1, rfl, rfl, hide2 HJ2.out.2, HN, WW⟩
                                  · have HN := hide2 (show true = (!v7 && ((grpL (alikeB (leadB p)) p.labels).take (j + 1)).all fun k => !waitsB (leadB p) inn2 t k) by rw [TK.out, ← Bool.and_assoc, ← HB.out, HW.out]; rfl)
                                    go_wp2
                                    go_roundg (gk - 1)
                                    case measure => exact HJ2.out.1
                                    case rel => exact ⟨true, j + 1, rfl, rfl, hide2 HJ2.out.2, HN, WW⟩
                          · have hji : ¬ (j : Int) < (m2 : Int) := by omega
                            have HFI := hide2 (show b = firstB (leadB p) (grpL (alikeB (leadB p)) p.labels) inn2 t from by
                              have h1 := HB.out
                              rw [List.take_of_length_le (by rw [ML2.out]; omega), HV7.out] at h1
                              exact h1)
                            have ROJ := hide2 (ROB.out.keep DJ.out)
                            have DBJ := hide2 (DBB.out.trans (DJ.out.mono DBB.out.size))
                            clear hj HB
                            cases b
                            · have PN := hide2 (PA.out.skip GR2.out HT.out HFI.out.symm)
                              go_wp2
                              go_roundg (gm - 1)
                              case measure => exact HJ.out.1
                              case rel => exact ⟨inn2, A2i, n2i, c2i, k + 1, rfl, rfl, hide2 ⟨HJ.out.2.1, hgk.out.2⟩, PN, ROJ, DBJ⟩
                            · have PN := hide2 (PA.out.take GR2.out HT.out HFI.out.symm)
                              have LEN := hide2 (show n2i + 1 ≤ m2 by
                                have h1 := PN.out.I.len
                                rw [ML2.out, List.length_append, ROJ.out.len] at h1
                                simpa using h1)
                              have RD := hide2 (show Reads (LowR w9.heap.size) 1 wr [.slice (some ⟨bg, og, none⟩) mt dt] [t] from Reads.list1 ⟨mt, RDB.out.keep DJ.out, RDV.out.2⟩)
                              have hB : w9.heap.size ≤ wr.heap.size := DBJ.out.size
                              have h24 : (n2i + 1) * 24 ≤ 140737488355328 := by have := HJ.out; omega
                              have h26 : n2i + 1 ≤ 281474976710656 := by omega
                              have KP := hide2 (show ∀ w', wr.grownBy w' (Value.slice A2i n2i c2i).ownBlock → ∀ vs y, LowR w9.heap.size wr vs y → LowR w9.heap.size w' vs y from fun w' hg vs y hy => hy.grownR hg (fun q hq => (ROJ.out.lt q hq).1))
                              have c16 := (T16B.out.keep DJ.out).cell 0
                              go_wp2_with (at_builtin; refine wpList_appNewAt (v := .slice A2i n2i c2i) tyLists rfl _ _ rfl [t] _ rfl rfl rfl rfl (by simp [Value.oneCell']) ROJ.out RD.out rfl hB h26 h24 KP.out ?_; intro v8 w8 own8 hg8 hl8; obtain ⟨A8, c8, rfl, _⟩ := own8.sl (by omega); have O8 := hide2 own8; have D8 := hide2 (DBJ.out.grown hg8 hB (fun q hq => (ROJ.out.lt q hq).1)); clear own8 hg8 hl8)
                              go_roundg (gm - 1)
                              case measure => exact HJ.out.1
                              case rel => exact ⟨inn2 ++ [t], A8, n2i + 1, c8, k + 1, rfl, rfl, hide2 ⟨HJ.out.2.1, LEN.out⟩, PN, O8, D8⟩
                      · have hk3 : ¬ (k : Int) < (m2 : Int) := by omega
                        have NEW := hide2 (show ni < n2i ∧ n2i ≤ m2 by
                          have h1 := PassI.fin TR.out GR2.out II.out.1 PA.out (by rw [ML2.out]; omega) (by rw [ML2.out, HNL.out]; exact HLT.out)
                          rw [HNL.out, RO.out.len] at h1
                          exact ⟨h1, hgk.out.2⟩)
                        have HM := hide2 (show m2 - n2i < go ∧ n2i + (m2 - n2i) = m2 by have := II.out.2; have := NEW.out; have := HLT.out; omega)
                        clear hk
                        go_wp2
                        go_roundg (m2 - n2i)
                        case measure => exact HM.out.1
                        case rel => exact ⟨inn2, A2i, n2i, c2i, rfl, hide2 ⟨PA.out.I, HM.out.2⟩, RO, DB⟩
                  · have hki : ¬ (ni : Int) < (m2 : Int) := by omega
                    have LENQ := hide2 (show inn.length = (grpL (alikeB (leadB p)) p.labels).length by
                      have h1 := II.out.1.len
                      rw [ML2.out] at h1 ⊢
                      have h2 := HNL.out
                      omega)
                    have ORD := hide2 (InI.done GR2.out II.out.1 LENQ.out)
                    have HNI := hide2 (show ni ≤ 26 by have := II.out.2; have := HM2.out; omega)
                    have LI := hide2 (RowN.lists RO.out (by have := HNI.out; omega))
                    have IL := hide2 (show Lists wr AI ni cI inn from by
                      obtain ⟨A3i, c3i, e3, il⟩ := LI.out
                      injection e3 with e31 _ e32
                      subst e31 e32
                      exact il)
                    have X10 := hide2 (X9.out.keep DB.out)
                    have LG10 := hide2 (LG9.out.keep DB.out)
                    have D10 := hide2 (D9.out.trans (DB.out.mono D9.out.size))
                    have W10 := hide2 (Nat.lt_of_lt_of_le W9.out DB.out.size)
                    have CP := hide2 (wparts_calls IHH.out IL.out 3 (w4_part LG10.out F60.out) (fun g hg => FU.out.onto SP.out YES.out (II.out.1.sub g hg)) HNI.out)
                    rw [show (PBlk.mk 3 0 (inn.map fun g => findB f (ontoL (fullL log) g))) = seqT f (fullL log) p from by unfold seqT; rw [ORD.out]] at CP
                    clear hlt LI
                    go_wp2_with fail
                    refine CP.out.mono ?_
                    rintro e w11 ⟨v11, rfl, ⟨A11', n11', c11', rfl, s11, p11⟩, hb11⟩
                    have BA11 := hide2 (show BlkA (fun q => wr.heap.size ≤ q) (f + 3) w11 (.agg #[.int .i64 (seqT f (fullL log) p).kind, .int .i64 (seqT f (fullL log) p).label, .slice A11' n11' c11']) (seqT f (fullL log) p) from ⟨A11', n11', c11', rfl, s11, p11⟩)
                    obtain ⟨kd11, hkd⟩ : ∃ x, x = (seqT f (fullL log) p).kind := ⟨_, rfl⟩
                    obtain ⟨lb11, hlb⟩ : ∃ x, x = (seqT f (fullL log) p).label := ⟨_, rfl⟩
                    rw [← hkd, ← hlb] at BA11
                    rw [← hkd, ← hlb]
                    have HB11 := hide2 hb11
                    clear s11 p11 hb11 hkd hlb
                    have XQ := hide2 (X10.out.keep HB11.out)
                    clear CP
                    obtain ⟨u0, u1, u2⟩ := XQ.out.three
                    have fz := fun q => XQ.out.frozen q
                    have WW := hide2 (blk_set (w := w) BA11.out XQ.out HB11.out D10.out W10.out (Nat.le_refl _))
                    go_wp2
                    generalize (((w11.setCell ⟨w.heap.size, 0, none⟩ (.int .i64 kd11)).setCell ⟨w.heap.size, 1, none⟩ (.int .i64 lb11)).setCell ⟨w.heap.size, 2, none⟩ (.slice A11' n11' c11')) = ww at *
                    obtain ⟨z0, z1, z2⟩ := WW.out.1.three
                    exact bodyPost_ret (v := .agg #[.int .i64 kd11, .int .i64 lb11, .slice A11' n11' c11']) (by simp [results, Tryz.results11, go_sem, z0, z1, z2]) rfl (FB.out ww _ WW.out.2.1 WW.out.2.2)
              · have hmi2 : ¬ (1 : Int) < (m2 : Int) := by omega
                have NO2 := hide2 (show ¬ seqP p by unfold seqP; rw [ML2.out]; omega)
                have x0 := TB9.out.cell 0
                have CG := hide2 (wgroups_calls PI9.out.i1 LN.out.2 SP.out.1.1 OK.out (w9_lk p.labels PB9.out T99.out))
                clear hm21
                go_wp2_with fail
                refine CG.out.mono ?_
                rintro e w10 ⟨vo3, m3, rfl, hm3, rg3, hG3, hb10⟩
                have ML3 := hide2 (show (grpL (awayB p) p.labels).length = m3 from OwnSl.len rg3)
                obtain ⟨AG3, cG3, rfl, ig3⟩ := RowG.lists rg3 (by omega)
                have IG3 := hide2 ig3
                have HM3 := hide2 hm3
                have D10 := hide2 (D9.out.trans (hb10.mono D9.out.size))
                have W10 := hide2 (Nat.lt_of_lt_of_le W9.out hb10.size)
                have X10 := hide2 (X9.out.keep hb10)
                have LG10 := hide2 (LG9.out.keep hb10)
                have TB10 := hide2 (TB9.out.keep hb10)
                have PI10 := hide2 (PI9.out.keep hb10)
                clear rg3 hG3 hb10 hm3 ig3 CG x0
                obtain ⟨b0, hb0⟩ : ∃ b : Bool, b = decide (1 < m3) := ⟨_, rfl⟩
                have HB0 := hide2 hb0
                have hgt : ((m3 : Int) > 1) = (b0 = true) := by rw [hb0]; simp; omega
                clear hb0
                go_upto_region 44 with fail
                clear hgt
                go_wp2
                go_loopg [22, 167] m3 (fun gk s22 s167 wr => ∃ (b : Bool) (j : Nat), s22 = .bool b ∧ s167 = .int .i64 (j : Nat) ∧ Hid (j + gk = m3) ∧ Hid (b = (b0 && ((grpL (awayB p) p.labels).take j).all fun g => meetB g p.first && meetB g p.last)) ∧ Hid (wr = w10))
                case atStart => exact ⟨b0, 0, rfl, rfl, hide2 (by omega), hide2 (by simp), hide2 rfl⟩
                case round =>
                  obtain ⟨b, j, rfl, rfl, hgk, HB, HW⟩ := hrel
                  obtain rfl : wr = w10 := HW.out
                  by_cases hj : j < m3
                  · have hji : (j : Int) < (m3 : Int) := by omega
                    obtain ⟨bb, offb, g, Bg, mg, dg, rfl, hbb, hgx, q0, ig, hmg⟩ := Lists.get IG3.out hj
                    have HJ := hide2 (show gk - 1 < gk ∧ (j + 1) + (gk - 1) = m3 ∧ j ≤ 26 by have := hgk.out; have := HM3.out; omega)
                    have hwj : IntKind.i64.wrap ((j : Int) + 1) = ((j + 1 : Nat) : Int) := by
                      have := HJ.out
                      simp [IntKind.wrap, IntKind.bits, IntKind.signed]; omega
                    have y1 := TB10.out.cell 1
                    have y2 := TB10.out.cell 2
                    have C1 := hide2 (wmeets_calls ig PI10.out.i2)
                    have C2 := hide2 (wmeets_calls ig PI10.out.i3)
                    have TK := hide2 (show (((grpL (awayB p) p.labels).take (j + 1)).all fun g => meetB g p.first && meetB g p.last) = ((((grpL (awayB p) p.labels).take j).all fun g => meetB g p.first && meetB g p.last) && (meetB g p.first && meetB g p.last)) by rw [List.take_add_one, hgx.out]; simp)
                    obtain ⟨v1, hv1⟩ : ∃ v, meetB g p.first = v := ⟨_, rfl⟩
                    obtain ⟨v2, hv2⟩ : ∃ v, meetB g p.last = v := ⟨_, rfl⟩
                    rw [hv1] at C1 TK
                    rw [hv2] at C2 TK
                    clear hbb ig hj hv1 hv2
                    cases b
                    · have HN := hide2 (show false = (b0 && ((grpL (awayB p) p.labels).take (j + 1)).all fun g => meetB g p.first && meetB g p.last) by rw [TK.out, ← Bool.and_assoc, ← HB.out]; rfl)
                      go_wp2
                      go_roundg (gk - 1)
                      case measure => exact HJ.out.1
                      case rel => exact ⟨false, j + 1, rfl, rfl, hide2 HJ.out.2.1, HN, hide2 rfl⟩
                    · cases v1
                      · have HN := hide2 (show false = (b0 && ((grpL (awayB p) p.labels).take (j + 1)).all fun g => meetB g p.first && meetB g p.last) by rw [TK.out, ← Bool.and_assoc, ← HB.out]; rfl)
                        go_wp2_with fail
                        refine C1.out.mono ?_
                        rintro e w' ⟨rfl, rfl⟩
                        go_wp2
                        go_roundg (gk - 1)
                        case measure => exact HJ.out.1
                        case rel => exact ⟨false, j + 1, rfl, rfl, hide2 HJ.out.2.1, HN, hide2 rfl⟩
                      · have HN := hide2 (show v2 = (b0 && ((grpL (awayB p) p.labels).take (j + 1)).all fun g => meetB g p.first && meetB g p.last) by rw [TK.out, ← Bool.and_assoc, ← HB.out]; simp)
                        go_wp2_with fail
                        refine C1.out.mono ?_
                        rintro e w' ⟨rfl, rfl⟩
                        go_wp2_with fail
                        refine C2.out.mono ?_
                        rintro e w' ⟨rfl, rfl⟩
                        go_wp2
                        go_roundg (gk - 1)
                        case measure => exact HJ.out.1
                        case rel => exact ⟨v2, j + 1, rfl, rfl, hide2 HJ.out.2.1, HN, hide2 rfl⟩
                  · have hji : ¬ (j : Int) < (m3 : Int) := by omega
                    have HBB := hide2 (show b = true ↔ bothP p from by
                      have h1 := HB.out
                      rw [List.take_of_length_le (by rw [ML3.out]; omega)] at h1
                      rw [h1, HB0.out, Bool.and_eq_true, decide_eq_true_eq]
                      unfold bothP
                      rw [ML3.out]
                      exact Iff.rfl)
                    clear hj hgk HB
                    cases b
                    · have NO3 := hide2 (show ¬ bothP p from fun h => by have := HBB.out.2 h; cases this)
                      have EQ := hide2 (show findB (f + 1) log = .mk 6 0 [silentB, .mk 4 0 (p.labels.map stepB)] from by rw [EQ0.out, partB_loop SP.out TWO.out NO1.out NO2.out NO3.out])
                      have FB := hide2 (show ∀ (w' : World) (v : Value), BlkA (fun j => w.heap.size ≤ j) (f + 3) w' v (.mk 6 0 [silentB, .mk 4 0 (p.labels.map stepB)]) → Below w.heap.size w w' → AnsBlk (f + 1 + 2) (findB (f + 1) log) w (.returned v) w' from fun w' v hb hw => ⟨v, rfl, by rw [EQ.out]; exact hb, hw⟩)
                      clear HBB
                      obtain ⟨wE, hwE⟩ : ∃ x : World, x = wr := ⟨_, rfl⟩
                      subst hwE
                      have B11 := hide2 (boxBelow wE (.cells #[.int .i64 4, .int .i64 0, .slice none 0 0] 25))
                      have T25 := hide2 (Box.new wE #[.int .i64 4, .int .i64 0, .slice none 0 0] 25)
                      have TB11 := hide2 (TB10.out.keep B11.out)
                      have S11 := hide2 (show wE.heap.size < (wE.alloc (.cells #[.int .i64 4, .int .i64 0, .slice none 0 0] 25)).heap.size from T25.out.lt)
                      go_upto_region 52 with fail
                      generalize hw11 : wE.alloc (.cells #[.int .i64 4, .int .i64 0, .slice none 0 0] 25) = w11 at *
                      clear hw11
                      generalize hb25 : wE.heap.size = b25 at T25
                      have HB25 := hide2 hb25
                      clear hb25
                      have x0 := TB11.out.cell 0
                      go_wp2
                      clear x0
                      go_loopg [193] n1 (fun gk s193 wr => ∃ (j : Nat) (v : Value), s193 = .int .i64 (j : Nat) ∧ Hid (j + gk = n1) ∧ Hid (OwnBlk wr w11.heap.size (f + 2) v j ((p.labels.take j).map stepB)) ∧ Hid (Below wE.heap.size wE wr ∧ w11.heap.size ≤ wr.heap.size) ∧ Hid (Box wr b25 25 #[.int .i64 4, .int .i64 0, v]))
                      case atStart => exact ⟨0, _, rfl, hide2 (by omega), hide2 OwnSl.nil, hide2 ⟨B11.out, Nat.le_refl _⟩, T25⟩
                      case round =>
                        clear T25
                        obtain ⟨j, v, rfl, hgj, OB, DB, X25⟩ := hrel
                        obtain ⟨AV, cV, rfl, _⟩ := OB.out.sl2 (by have := hgj.out; have := LN.out; omega)
                        have y2 := X25.out.cell 2
                        by_cases hj : j < n1
                        · have hji : (j : Int) < (n1 : Int) := by omega
                          obtain ⟨b1, off1, a, e1, hb1, ha, q1⟩ := Ints.get (PI10.out.i1.keep DB.out.1) hj
                          subst e1
                          have HJ := hide2 (show gk - 1 < gk ∧ (j + 1) + (gk - 1) = n1 ∧ j ≤ 26 by have := hgj.out; have := LN.out; omega)
                          have hwj : IntKind.i64.wrap ((j : Int) + 1) = ((j + 1 : Nat) : Int) := by
                            have := HJ.out
                            simp [IntKind.wrap, IntKind.bits, IntKind.signed]; omega
                          have TK := hide2 (show (p.labels.take (j + 1)).map stepB = (p.labels.take j).map stepB ++ [stepB a] by rw [List.take_add_one, ha.out]; simp)
                          have hB := DB.out.2
                          have hj1 : j ≤ 100 := by have := HJ.out; omega
                          have hne : (Value.slice AV j cV).ownBlock ≠ some b25 := fun e => by have := (OB.out.lt _ e).1; have := HB25.out; have := S11.out; omega
                          clear hb1 hj
                          go_wp2_with (at_builtin; refine wpList_appBlk (v := .slice AV j cV) (T := stepB a) rfl _ _ rfl rfl rfl rfl OB.out rfl rfl Sl.nil0 (fun h => absurd h (by omega)) hB hj1 ?_; intro v8 w8 own8 hg8; obtain ⟨A8, c8, rfl, _⟩ := own8.sl2 (by omega); have O8 := hide2 own8; have X8 := hide2 (X25.out.grown hg8 hne); have D8 := hide2 (DB.out.1.grown hg8 DB.out.1.size (fun q hq => by have := (OB.out.lt q hq).1; have := S11.out; omega)); have S8 := hide2 (Nat.le_trans hB hg8.size); have y8 := X8.out.cell 2; have fy := X8.out.frozen 2; clear own8 hg8)
                          have GG := grown_set1 w8 b25 2 (.slice A8 (j + 1) c8)
                          have O9 := hide2 (show OwnBlk (w8.setCell ⟨b25, 2, none⟩ (.slice A8 (j + 1) c8)) w11.heap.size (f + 2) (.slice A8 (j + 1) c8) (j + 1) ((p.labels.take (j + 1)).map stepB) from by
                            rw [TK.out]
                            have hlt : b25 < w11.heap.size := by have := HB25.out; have := S11.out; omega
                            refine OwnSl.kept O8.out GG ?_ (fun vs x hx => hx.grown GG (fun q hq hp => by injection hq with hq; omega) (f + 2))
                            cases hv : (Value.slice A8 (j + 1) c8).ownBlock with
                            | none => exact .inl rfl
                            | some q => exact .inr (fun e => by injection e with e; have := (O8.out.lt q hv).1; omega))
                          have D9x := hide2 (show Below wE.heap.size wE (w8.setCell ⟨b25, 2, none⟩ (.slice A8 (j + 1) c8)) ∧ w11.heap.size ≤ (w8.setCell ⟨b25, 2, none⟩ (.slice A8 (j + 1) c8)).heap.size from ⟨D8.out.grown GG D8.out.size (fun q hq => by injection hq with hq; have := HB25.out; omega), Nat.le_trans S8.out GG.size⟩)
                          have X9x := hide2 (show Box (w8.setCell ⟨b25, 2, none⟩ (.slice A8 (j + 1) c8)) b25 25 #[.int .i64 4, .int .i64 0, .slice A8 (j + 1) c8] from by have := X8.out.set 2 (.slice A8 (j + 1) c8); simpa using this)
                          clear GG
                          go_roundg (gk - 1)
                          case measure => exact HJ.out.1
                          case rel => exact ⟨j + 1, .slice A8 (j + 1) c8, rfl, hide2 HJ.out.2.1, O9, D9x, X9x⟩
                        · have hji : ¬ (j : Int) < (n1 : Int) := by omega
                          have OF := hide2 (show OwnBlk wr w11.heap.size (f + 2) (.slice AV j cV) j (p.labels.map stepB) from by
                            have := OB.out
                            rwa [List.take_of_length_le (by have := LN.out.1; omega)] at this)
                          have BA5 := hide2 (show BlkA (fun q => wE.heap.size ≤ q) (f + 2) wr (.agg #[.int .i64 4, .int .i64 0, .slice AV j cV]) (.mk 4 0 (p.labels.map stepB)) from by
                            obtain ⟨A5, c5, e5, s5, p5⟩ := OF.out.sl2 (by have := hgj.out; have := LN.out; omega)
                            injection e5 with e51 _ e52
                            subst e51 e52
                            have h5 : BlkA (fun q => w11.heap.size ≤ q) (f + 2) wr (.agg #[.int .i64 4, .int .i64 0, .slice AV j cV]) (.mk 4 0 (p.labels.map stepB)) := ⟨_, _, _, rfl, s5, fun h a ha => (p5 h a ha)⟩
                            exact h5.wide (fun q _ hq => by have := S11.out; omega))
                          have BS := hide2 (show BlkA (fun q => wE.heap.size ≤ q) (f + 2) wr (.agg #[.int .i64 1, .int .i64 0, .slice none 0 0]) silentB from ⟨none, 0, 0, rfl, Sl.nil0, fun h => absurd h (by omega)⟩)
                          have RW := hide2 (row_two BS.out BA5.out)
                          have BR := hide2 (boxBelow wr (.cells #[.int .i64 1, .int .i64 0, .slice none 0 0, .int .i64 4, .int .i64 0, .slice AV j cV] 25))
                          have H36 := hide2 (DB.out.1.trans (BR.out.mono DB.out.1.size))
                          have SE := hide2 (show wE.heap.size ≤ wr.heap.size from DB.out.1.size)
                          have BA6 := hide2 (show BlkA (fun q => wE.heap.size ≤ q) (f + 3) (wr.alloc (.cells #[.int .i64 1, .int .i64 0, .slice none 0 0, .int .i64 4, .int .i64 0, .slice AV j cV] 25)) (.agg #[.int .i64 6, .int .i64 0, .slice (some ⟨wr.heap.size, 0, none⟩) 2 2]) (.mk 6 0 [silentB, .mk 4 0 (p.labels.map stepB)]) from ⟨_, 2, 2, rfl, RW.out, fun _ a ha => by injection ha with ha; subst ha; exact SE.out⟩)
                          have X6x := hide2 (X10.out.keep H36.out)
                          obtain ⟨yy0, yy1, yy2⟩ := X25.out.three
                          clear hj OB
                          obtain ⟨u0, u1, u2⟩ := X6x.out.three
                          have fz := fun q => X6x.out.frozen q
                          have WW := hide2 (blk_set (w := w) BA6.out X6x.out H36.out D10.out W10.out (Nat.le_refl _))
                          go_wp2
                          generalize ((((wr.alloc (.cells #[.int .i64 1, .int .i64 0, .slice none 0 0, .int .i64 4, .int .i64 0, .slice AV j cV] 25)).setCell ⟨w.heap.size, 0, none⟩ (.int .i64 6)).setCell ⟨w.heap.size, 1, none⟩ (.int .i64 0)).setCell ⟨w.heap.size, 2, none⟩ (.slice (some ⟨wr.heap.size, 0, none⟩) 2 2)) = ww at *
                          obtain ⟨z0, z1, z2⟩ := WW.out.1.three
                          exact bodyPost_ret (v := .agg #[.int .i64 6, .int .i64 0, .slice (some ⟨wr.heap.size, 0, none⟩) 2 2]) (by simp [results, Tryz.results11, go_sem, z0, z1, z2]) rfl (FB.out ww _ WW.out.2.1 WW.out.2.2)
                    · have YES := hide2 (show bothP p from HBB.out.1 rfl)
                      have EQ := hide2 (show findB (f + 1) log = bothT f (fullL log) p from by rw [EQ0.out, partB_both SP.out TWO.out NO1.out NO2.out YES.out])
                      have FB := hide2 (show ∀ (w' : World) (v : Value), BlkA (fun j => w.heap.size ≤ j) (f + 3) w' v (bothT f (fullL log) p) → Below w.heap.size w w' → AnsBlk (f + 1 + 2) (findB (f + 1) log) w (.returned v) w' from fun w' v hb hw => ⟨v, rfl, by rw [EQ.out]; exact hb, hw⟩)
                      have CP := hide2 (wparts_calls IHH.out IG3.out 5 (w4_part LG10.out F60.out) (fun g hg => FU.out.onto SP.out YES.out.1 hg) HM3.out)
                      rw [show (PBlk.mk 5 0 ((grpL (awayB p) p.labels).map fun g => findB f (ontoL (fullL log) g))) = bothT f (fullL log) p from rfl] at CP
                      clear HBB
                      go_wp2_with fail
                      refine CP.out.mono ?_
                      rintro e w11 ⟨v11, rfl, ⟨A11', n11', c11', rfl, s11, p11⟩, hb11⟩
                      have BA11 := hide2 (show BlkA (fun q => wr.heap.size ≤ q) (f + 3) w11 (.agg #[.int .i64 (bothT f (fullL log) p).kind, .int .i64 (bothT f (fullL log) p).label, .slice A11' n11' c11']) (bothT f (fullL log) p) from ⟨A11', n11', c11', rfl, s11, p11⟩)
                      obtain ⟨kd11, hkd⟩ : ∃ x, x = (bothT f (fullL log) p).kind := ⟨_, rfl⟩
                      obtain ⟨lb11, hlb⟩ : ∃ x, x = (bothT f (fullL log) p).label := ⟨_, rfl⟩
                      rw [← hkd, ← hlb] at BA11
                      rw [← hkd, ← hlb]
                      have HB11 := hide2 hb11
                      clear s11 p11 hb11 hkd hlb
                      have XQ := hide2 (X10.out.keep HB11.out)
                      clear CP
                      obtain ⟨u0, u1, u2⟩ := XQ.out.three
                      have fz := fun q => XQ.out.frozen q
                      have WW := hide2 (blk_set (w := w) BA11.out XQ.out HB11.out D10.out W10.out (Nat.le_refl _))
                      go_wp2
                      generalize (((w11.setCell ⟨w.heap.size, 0, none⟩ (.int .i64 kd11)).setCell ⟨w.heap.size, 1, none⟩ (.int .i64 lb11)).setCell ⟨w.heap.size, 2, none⟩ (.slice A11' n11' c11')) = ww at *
                      obtain ⟨z0, z1, z2⟩ := WW.out.1.three
                      exact bodyPost_ret (v := .agg #[.int .i64 kd11, .int .i64 lb11, .slice A11' n11' c11']) (by simp [results, Tryz.results11, go_sem, z0, z1, z2]) rfl (FB.out ww _ WW.out.2.1 WW.out.2.2)
        · have hne : ((nl : Int) != (n : Int)) = true := by simp; omega
          have HLT := hide2 (show (fullL log).length < log.length by have := KL.out; have := HL.out; omega)
          have EQ := hide2 (findB_mix (f := f) HK0.out HLT.out)
          have FB := hide2 (show ∀ (w' : World) (v : Value), BlkA (fun j => w.heap.size ≤ j) (f + 3) w' v (.mk 4 0 [silentB, findB f (fullL log)]) → Below w.heap.size w w' → AnsBlk (f + 1 + 2) (findB (f + 1) log) w (.returned v) w' from fun w' v hb hw => ⟨v, rfl, by rw [EQ.out]; exact hb, hw⟩)
          have CF := hide2 (IHH.out w3 AF nl cF (fullL log) IL.out (HF.out.full HLT.out))
          clear hkn
          go_wp2_with fail
          refine CF.out.mono ?_
          rintro e w5 ⟨v5, rfl, ⟨A5', n5', c5', rfl, s5, p5⟩, hb5⟩
          have BA5 := hide2 (show BlkA (fun q => w3.heap.size ≤ q) (f + 2) w5 (.agg #[.int .i64 (findB f (fullL log)).kind, .int .i64 (findB f (fullL log)).label, .slice A5' n5' c5']) (findB f (fullL log)) from ⟨A5', n5', c5', rfl, s5, p5⟩)
          obtain ⟨kd5, hkd⟩ : ∃ x, x = (findB f (fullL log)).kind := ⟨_, rfl⟩
          obtain ⟨lb5, hlb⟩ : ∃ x, x = (findB f (fullL log)).label := ⟨_, rfl⟩
          rw [← hkd, ← hlb] at BA5
          rw [← hkd, ← hlb]
          have HB5 := hide2 hb5
          clear s5 p5 hb5 hkd hlb
          have BS := hide2 (show BlkA (fun q => w3.heap.size ≤ q) (f + 2) w5 (.agg #[.int .i64 1, .int .i64 0, .slice none 0 0]) silentB from ⟨none, 0, 0, rfl, Sl.nil0, fun h => absurd h (by omega)⟩)
          have RW := hide2 (row_two BS.out BA5.out)
          have BR := hide2 (boxBelow w5 (.cells #[.int .i64 1, .int .i64 0, .slice none 0 0, .int .i64 kd5, .int .i64 lb5, .slice A5' n5' c5'] 25))
          have H36 := hide2 (HB5.out.trans (BR.out.mono HB5.out.size))
          have BA6 := hide2 (show BlkA (fun q => w3.heap.size ≤ q) (f + 3) (w5.alloc (.cells #[.int .i64 1, .int .i64 0, .slice none 0 0, .int .i64 kd5, .int .i64 lb5, .slice A5' n5' c5'] 25)) (.agg #[.int .i64 4, .int .i64 0, .slice (some ⟨w5.heap.size, 0, none⟩) 2 2]) (.mk 4 0 [silentB, findB f (fullL log)]) from ⟨_, 2, 2, rfl, RW.out, fun _ a ha => by injection ha with ha; subst ha; exact HB5.out.size⟩)
          have X6 := hide2 (X3.out.keep H36.out)
          obtain ⟨u0, u1, u2⟩ := X6.out.three
          have fz := fun q => X6.out.frozen q
          have WW := hide2 (blk_set (w := w) BA6.out X6.out H36.out D0.out W3.out (Nat.le_refl _))
          go_wp2
          generalize ((((w5.alloc (.cells #[.int .i64 1, .int .i64 0, .slice none 0 0, .int .i64 kd5, .int .i64 lb5, .slice A5' n5' c5'] 25)).setCell ⟨w.heap.size, 0, none⟩ (.int .i64 4)).setCell ⟨w.heap.size, 1, none⟩ (.int .i64 0)).setCell ⟨w.heap.size, 2, none⟩ (.slice (some ⟨w5.heap.size, 0, none⟩) 2 2)) = ww at *
          obtain ⟨z0, z1, z2⟩ := WW.out.1.three
          exact bodyPost_ret (v := .agg #[.int .i64 4, .int .i64 0, .slice (some ⟨w5.heap.size, 0, none⟩) 2 2]) (by simp [results, Tryz.results11, go_sem, z0, z1, z2]) rfl (FB.out ww _ WW.out.2.1 WW.out.2.2)
end Go.Proofs.YtcopnfdknclhnaaGreat
