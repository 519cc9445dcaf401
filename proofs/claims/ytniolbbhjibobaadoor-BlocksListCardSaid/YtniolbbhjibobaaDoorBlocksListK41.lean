/- Texts melted into one: The contract of jwords: sequences, choices, things side by side. Conditions: the block reads as one, is right and no greater than 40. | The contract of jwords: a loop. Conditions: the block reads as one, is right and no greater than 40. -/
import Derived.Test.YtniolbbhjibobaaDoorBlocksListK40
set_option linter.all false
namespace Go.Proofs.YtniolbbhjibobaaDoor
open Go.RowKit

def JwA (f : Nat) : Prop := ∀ (S : Nat → Prop) (k l most : Int) (A : Option Addr) (n c : Nat) (ks : List PBlk) (w : World), szB (.mk k l ks) ≤ f → f ≤ 40 → wfB (.mk k l ks) → LabOk (.mk k l ks) → 0 ≤ most → most ≤ 8 → BX S w A n c ks →
  Calls Tryd.prog 13 #[.agg #[.int .i64 k, .int .i64 l, .slice A n c], .int .i64 most] w (AnsJw (lang (.mk k l ks)) most w)
theorem labOk_kid {k l : Int} {ks : List PBlk} (h : LabOk (.mk k l ks)) : ∀ b ∈ ks, LabOk b := fun b hb c hc => h c (by rw [labB]; split; exact List.mem_cons_of_mem _ (labK_iff.2 ⟨b, hb, hc⟩); exact labK_iff.2 ⟨b, hb, hc⟩)
theorem few_lab {X : List Int → Prop} {most : Int} {L : List (List Int)} (h : IsW X most L) (hm : most ≤ 8) {ks : List PBlk} (hX : ∀ w, X w → ∀ c ∈ w, c ∈ labK ks) (hk : ∀ b ∈ ks, LabOk b) : L.length ≤ 1000000000000 :=
  few_26 (h.few hm (As := abc) (fun w hw c hc => by obtain ⟨b, hb, hcb⟩ := labK_iff.1 (hX w hw c hc); exact mem_abc (hk b hb c hcb)))
/-- One thing more. -/
def stepN (k most : Int) (Lo Lw : List (List Int)) : List (List Int) := if k = 3 then jsetL (pairsL joinL most Lo Lw) most else if k = 5 then jsetL (pairsL jmixL most Lo Lw) most else jsetL (Lo ++ Lw) most
theorem stepN_is {k most : Int} {P : List PBlk} {x : PBlk} {Lo Lw : List (List Int)} (h : IsW (langN k P) most Lo) (g : IsW (lang x) most Lw) : IsW (langN k (P ++ [x])) most (stepN k most Lo Lw) := by
  unfold stepN
  by_cases h3 : k = 3
  · rw [if_pos h3]
    exact (h.join g).congr (fun w => by unfold langN; simp only [if_pos h3]; exact langS_snoc)
  · rw [if_neg h3]
    by_cases h5 : k = 5
    · rw [if_pos h5]
      exact (h.mix g).congr (fun w => by
        unfold langN
        simp only [if_neg h3, if_pos h5]
        rw [langM_app]
        exact ⟨fun ⟨u, v, h1, h2, h3⟩ => ⟨u, v, h1, h2, langM_one.1 h3⟩, fun ⟨u, v, h1, h2, h3⟩ => ⟨u, v, h1, h2, langM_one.2 h3⟩⟩)
    · rw [if_neg h5]
      exact (h.or g).congr (fun w => by
        unfold langN
        simp only [if_neg h3, if_neg h5]
        rw [langC_iff, langC_iff]
        constructor
        · rintro ⟨b, hb, h⟩
          rcases List.mem_append.1 hb with hb | hb
          · exact .inl ⟨b, hb, h⟩
          · rw [List.mem_singleton.1 hb] at h; exact .inr h
        · rintro (⟨b, hb, h⟩ | h)
          · exact ⟨b, List.mem_append_left _ hb, h⟩
          · exact ⟨x, by simp, h⟩)
set_option maxRecDepth 100000 in
set_option maxHeartbeats 16000000 in
theorem jwords_n {f : Nat} (hJ : JwA f) {S : Nat → Prop} {k l most : Int} {A : Option Addr} {n c : Nat} {b : PBlk} {bs : List PBlk} {w : World} (hk : k = 3 ∨ k = 4 ∨ k = 5) (hz : szK (b :: bs) ≤ f) (hf : f ≤ 39) (hw : wfK (b :: bs)) (hl : ∀ x ∈ b :: bs, LabOk x) (hm0 : 0 ≤ most) (hm8 : most ≤ 8) (h : BX S w A n c (b :: bs)) :
    Calls Tryd.prog 13 #[.agg #[.int .i64 k, .int .i64 l, .slice A n c], .int .i64 most] w (AnsJw (langN k (b :: bs)) most w) := by
  have HL := hide2 (show (b :: bs).length = n from h.2.len)
  have hns := h.2.small
  obtain ⟨m, rfl⟩ : ∃ m, n = m + 1 := ⟨bs.length, HL.out.symm⟩
  have B1 := hide2 (boxBelow w (.cells #[.int .i64 k, .int .i64 l, .slice A (m + 1) c] 24))
  have BB := hide2 (Box.new w #[.int .i64 k, .int .i64 l, .slice A (m + 1) c] 24)
  have H := hide2 (h.keep B1.out)
  have HJ := hide2 hJ
  have W := hide2 hw
  have LO := hide2 hl
  have SZ := hide2 hz
  clear h hJ hw hl hz
  have ek1 : (k == 1) = false := by simp; omega
  have ek2 : (k == 2) = false := by simp; omega
  go_enter Tryd.func13, Tryd.ntmps13
  go_upto_region 1 with fail
  generalize w.alloc (.cells #[.int .i64 k, .int .i64 l, .slice A (m + 1) c] 24) = w1 at *
  obtain ⟨bl, off, kd, lb, ks, X, q, e, rfl, hbl, _, hx, q0, q1, q2, K'⟩ := H.out.get (k := 0) (by omega)
  obtain rfl : b = .mk kd lb ks := by injection hx.out
  simp only [Nat.zero_mul, Nat.add_zero] at q0 q1 q2
  have HT := hide2 H.out.tail
  obtain ⟨C, hC⟩ : ∃ C, (if c = 1 then some (⟨bl, off, none⟩ : Addr) else some ⟨bl, off + 3, none⟩) = C := ⟨_, rfl⟩
  rw [hC] at HT
  have HC := hide2 hC
  have CA := hide2 (HJ.out S kd lb most X q e ks w1 (by have := SZ.out; rw [szK_cons] at this; omega) (by omega) W.out.1 (LO.out _ (List.mem_cons_self ..)) hm0 hm8 K')
  obtain ⟨z0, z1, z2⟩ := BB.out.three
  have hn0 : (0 : Int) < ((m + 1 : Nat) : Int) := by omega
  clear K' hx hC
  go_wp2_with fail
  refine CA.out.mono ?_
  rintro e2 w2 ⟨L0, A0, n0, c0, i0, rfl, o0, hb2⟩
  have I0 := hide2 (show IsW (langN k (.mk kd lb ks :: bs.take 0)) most L0 from i0.congr (fun w => by rw [List.take_zero]; exact langN_one))
  have O0 := hide2 (rowL_base (B' := w.heap.size) (B2' := w.heap.size) o0 B1.out.size B1.out.size)
  have B2 := hide2 (B1.out.trans (hb2.mono B1.out.size))
  have D2 := hide2 hb2
  have X2 := hide2 (BB.out.keep hb2)
  have HT2 := hide2 (HT.out.keep hb2)
  clear i0 o0 hb2 q0 q1 q2 z0 z1 z2 CA
  obtain ⟨z0, z1, z2⟩ := X2.out.three
  have hC := HC.out
  have hm1 : (1 : Int) ≤ ((m + 1 : Nat) : Int) := by omega
  obtain ⟨wd, hwd⟩ : ∃ wd : World, wd = w2 := ⟨_, rfl⟩
  subst hwd
  go_wp2_with fail
  clear z0 z1 z2 hC
  go_loopw [5, 35] (fun s5 v wr => ∃ (sv : Value) (i nn : Nat) (Lo : List (List Int)), sv = s5 ∧ i ≤ m ∧ v = .int .i64 i ∧ Hid (IsW (langN k (.mk kd lb ks :: bs.take i)) most Lo) ∧ Hid (RowL wr w.heap.size w.heap.size sv nn Lo) ∧ Hid (Below wd.heap.size wd wr)) (fun _ v _ => m - (intOf v).toNat)
  case atStart => exact ⟨_, 0, n0, L0, rfl, Nat.zero_le _, rfl, I0, O0, hide2 (Below.refl _ _)⟩
  case round =>
    obtain ⟨sv, i, nn, Lo, rfl, hi, rfl, I_, OB, BR⟩ := hrel
    have BW := hide2 (B2.out.trans (BR.out.mono B2.out.size))
    by_cases hlt : i < m
    · have hki : (i : Int) < (m : Int) := by omega
      obtain ⟨b4, off4, kd4, lb4, ks4, A4, n4, c4, rfl, hb4, _, hx4, q0, q1, q2, K4⟩ := (HT2.out.keep BR.out).get hlt
      have bb4 := boxBelow wr (.cells #[.int .i64 kd4, .int .i64 lb4, .slice A4 n4 c4] 24)
      have HX4 := hide2 hx4.out
      have TK := hide2 (show (PBlk.mk kd lb ks) :: bs.take (i + 1) = (.mk kd lb ks :: bs.take i) ++ [.mk kd4 lb4 ks4] by rw [List.take_add_one, hx4.out]; simp)
      have M4 := hide2 (List.mem_cons_of_mem (PBlk.mk kd lb ks) (List.mem_of_getElem? hx4.out))
      have CT := hide2 (HJ.out S kd4 lb4 most A4 n4 c4 ks4 (wr.alloc (.cells #[.int .i64 kd4, .int .i64 lb4, .slice A4 n4 c4] 24)) (by have := SZ.out; have h2 := szK_mem M4.out; omega) (by omega) (wfK_iff.1 W.out _ M4.out) (LO.out _ M4.out) hm0 hm8 (K4.keep bb4))
      have BT := hide2 (BR.out.trans (bb4.mono BR.out.size))
      have OT := hide2 (RowL.keep OB.out bb4)
      have XT := hide2 ((X2.out.keep BR.out).old (.cells #[.int .i64 kd4, .int .i64 lb4, .slice A4 n4 c4] 24))
      clear bb4 K4 hb4 hx4
      go_wp2_with fail
      refine CT.out.mono ?_
      rintro e5 w5 ⟨Lw, A5, n5, c5, iw, rfl, o5, hb5⟩
      have IW := hide2 iw
      have B5 := hide2 (BT.out.trans (hb5.mono BT.out.size))
      have R5 := hide2 (rowL_base (B' := w.heap.size) (B2' := w.heap.size) o5 (Nat.le_trans BW.out.size (boxBelow wr _).size) (Nat.le_trans BW.out.size (boxBelow wr _).size))
      have O5 := hide2 (RowL.keep OT.out hb5)
      have X5 := hide2 (XT.out.keep hb5)
      have W5 := hide2 (B2.out.trans (B5.out.mono B2.out.size))
      have WP := hide2 (wfK_iff.2 (fun b hb => by
        rcases List.mem_cons.1 hb with rfl | hb
        · exact W.out.1
        · exact wfK_iff.1 W.out.2 b (List.mem_of_mem_take hb) : ∀ b ∈ PBlk.mk kd lb ks :: bs.take i, wfB b))
      have LP := hide2 (fun b hb => by
        rcases List.mem_cons.1 hb with rfl | hb
        · exact LO.out _ (List.mem_cons_self ..)
        · exact LO.out b (List.mem_cons_of_mem _ (List.mem_of_mem_take hb)) : ∀ b ∈ PBlk.mk kd lb ks :: bs.take i, LabOk b)
      have FO := hide2 (I_.out.few hm8 (As := labK (.mk kd lb ks :: bs.take i)) (fun w hw => langN_let WP.out hw))
      have FW := hide2 (IW.out.few hm8 (As := labB (.mk kd4 lb4 ks4)) (fun w hw => lang_letters _ (wfK_iff.1 W.out _ M4.out) w hw))
      have L39 := hide2 (show (labK (.mk kd lb ks :: bs.take i)).length + (labB (.mk kd4 lb4 ks4)).length ≤ 39 by
        have h1 := labK_len (PBlk.mk kd lb ks :: bs.take (i + 1))
        have h2 := congrArg labK TK.out
        rw [labK_app] at h2
        have h3 := congrArg List.length h2
        simp only [List.length_append, labK, List.append_nil] at h3
        have h4 := szK_take bs (i + 1)
        have h5 := SZ.out
        rw [szK_cons] at h5 h1
        simp only [labK, List.length_append] at *
        omega)
      have NX := hide2 (show IsW (langN k (.mk kd lb ks :: bs.take (i + 1))) most (stepN k most Lo Lw) by rw [TK.out]; exact stepN_is I_.out IW.out)
      have NO := hide2 (few_lab I_.out hm8 (fun w hw => langN_let WP.out hw) LP.out)
      have NW := hide2 (few_lab (ks := [.mk kd4 lb4 ks4]) IW.out hm8 (fun w hw c hc => by rw [labK, labK, List.append_nil]; exact lang_letters _ (wfK_iff.1 W.out _ M4.out) w hw c hc) (fun b hb => by rw [List.mem_singleton.1 hb]; exact LO.out _ M4.out))
      clear o5 hb5 iw
      obtain ⟨z0, z1, z2⟩ := X5.out.three
      obtain ⟨As, cs, rfl, LSo⟩ := RowL.lists O5.out (by have := OwnSl.len O5.out; have := NO.out; omega)
      have LSO := hide2 LSo
      have LSW := hide2 (show Lists w5 A5 n5 c5 Lw by
        obtain ⟨A', c', e', h⟩ := RowL.lists R5.out (by have := OwnSl.len R5.out; have := NW.out; omega)
        injection e' with e1 _ e2
        subst e1 e2
        exact h)
      clear LSo
      rcases hk with rfl | rfl | rfl
      · have CP := hide2 (jpairs_calls join_pair LSO.out LSW.out hm8 (Nat.le_trans (join_len hm8 FO.out FW.out L39.out) (by omega)))
        go_wp2_with fail
        refine CP.out.mono ?_
        rintro e6 w6 ⟨A6, n6, c6, rfl, o6, hb6⟩
        have O6 := hide2 (rowL_base (B' := w.heap.size) (B2' := w.heap.size) o6 W5.out.size W5.out.size)
        have B6 := hide2 (B5.out.trans (hb6.mono B5.out.size))
        clear o6 hb6
        go_wp2_with fail
        go_roundw
        case rel => exact ⟨_, i + 1, n6, _, rfl, by omega, by go_num, NX, O6, B6⟩
        case measure => simp [intOf]; omega
      · have bb7 := boxBelow w5 (.cells #[.slice As nn cs, .slice A5 n5 c5] 25)
        have Y7 := Box.new w5 #[.slice As nn cs, .slice A5 n5 c5] 25
        have S1 := hide2 (show Sl (OwnListR w.heap.size) 1 w5 As nn cs Lo by
          obtain ⟨A', c', e', h⟩ := OwnSl.sl O5.out (by have := OwnSl.len O5.out; have := NO.out; omega)
          injection e' with e1 _ e2
          subst e1 e2
          exact h)
        have S2 := hide2 (show Sl (OwnListR w.heap.size) 1 w5 A5 n5 c5 Lw by
          obtain ⟨A', c', e', h⟩ := OwnSl.sl R5.out (by have := OwnSl.len R5.out; have := NW.out; omega)
          injection e' with e1 _ e2
          subst e1 e2
          exact h)
        have CC := hide2 (concatL_calls Y7.two.1 Y7.two.2 (Sl.keep (OwnListR.kept _) S1.out bb7) (Sl.keep (OwnListR.kept _) S2.out bb7) (by have := OwnSl.len O5.out; have := NO.out; have := OwnSl.len R5.out; have := NW.out; omega))
        have B7 := hide2 (B5.out.trans (bb7.mono B5.out.size))
        have W7 := hide2 (W5.out.trans (bb7.mono W5.out.size))
        have hnn : nn + n5 ≤ 2000000000000 := by have := OwnSl.len O5.out; have := NO.out; have := OwnSl.len R5.out; have := NW.out; omega
        clear bb7 Y7
        go_wp2_with fail
        generalize w5.alloc (.cells #[.slice As nn cs, .slice A5 n5 c5] 25) = w6 at *
        refine CC.out.mono ?_
        rintro e7 w7 ⟨A7, c7, rfl, o7, hb7⟩
        have O7 := hide2 o7
        have B8 := hide2 (B7.out.trans (hb7.mono B7.out.size))
        clear o7 hb7
        go_wp2_with fail
        refine (jsetA_calls (w0 := w6) most O7.out (by omega)).mono ?_
        rintro e8 w8 ⟨A8, n8, c8, rfl, o8, hg8⟩
        have O8 := hide2 (rowL_base (B' := w.heap.size) (B2' := w.heap.size) o8 (Nat.le_refl _) W7.out.size)
        have B9 := hide2 (B8.out.grown hg8 B8.out.size (fun kk e => Nat.le_trans B7.out.size (OwnSl.lt O7.out kk e).1))
        clear o8 hg8
        go_wp2_with fail
        go_roundw
        case rel => exact ⟨_, i + 1, n8, _, rfl, by omega, by go_num, NX, O8, B9⟩
        case measure => simp [intOf]; omega
      · have CP := hide2 (jpairs_calls mix_pair LSO.out LSW.out hm8 (Nat.le_trans (mixes_len hm8 FO.out FW.out L39.out) (by omega)))
        go_wp2_with fail
        refine CP.out.mono ?_
        rintro e6 w6 ⟨A6, n6, c6, rfl, o6, hb6⟩
        have O6 := hide2 (rowL_base (B' := w.heap.size) (B2' := w.heap.size) o6 W5.out.size W5.out.size)
        have B6 := hide2 (B5.out.trans (hb6.mono B5.out.size))
        clear o6 hb6
        go_wp2_with fail
        go_roundw
        case rel => exact ⟨_, i + 1, n6, _, rfl, by omega, by go_num, NX, O6, B6⟩
        case measure => simp [intOf]; omega
    · obtain rfl : i = m := by omega
      have IE := hide2 (show IsW (langN k (.mk kd lb ks :: bs)) most Lo by have := I_.out; rwa [List.take_of_length_le (by have := HT2.out.2.len; omega)] at this)
      obtain ⟨A8, c8, rfl, _⟩ := OwnSl.sl OB.out (by
        have := OwnSl.len OB.out
        have := few_lab IE.out hm8 (fun w hw => langN_let W.out hw) LO.out
        omega)
      go_wp2
      go_ret
      exact ⟨Lo, A8, _, c8, IE.out, rfl, OB.out, BW.out⟩
end Go.Proofs.YtniolbbhjibobaaDoor
namespace Go.Proofs.YtniolbbhjibobaaDoor
open Go.RowKit

theorem LoopI.few {X Y : List Int → Prop} {most : Int} {F L : List (List Int)} (h : LoopI X Y most F L) (hm : most ≤ 8) (hl : ∀ w, loopP X Y w → ∀ c ∈ w, c ∈ abc) : Few abc L :=
  ⟨h.asc.nodup, fun w hw => by have := (h.snd w hw).2; omega, fun w hw c hc => hl w (h.snd w hw).1 c hc⟩
theorem few_pairs {most : Int} {A B : List (List Int)} (hm : most ≤ 8) (hA : Few abc A) (hB : Few abc B) : Few abc (jsetL (pairsL joinL most A B) most) := by
  refine ⟨(jsetL_asc _ _).nodup, fun w hw => ?_, fun w hw c hc => ?_⟩
  · have := (jsetL_mem.1 hw).2; omega
  · obtain ⟨x, hx, y, hy, _, h⟩ := mem_pairs.1 (jsetL_mem.1 hw).1
    rw [List.mem_singleton.1 h] at hc
    rcases List.mem_append.1 hc with hc | hc
    · exact hA.let_ x hx c hc
    · exact hB.let_ y hy c hc
/-- Where the loop stands. -/
def LpI (X Y : List Int → Prop) (most : Int) (F G L : List (List Int)) (v : Int) : Prop := LoopI X Y most F L ∧ (v = -1 ∨ ∃ P, LoopI X Y most F P ∧ L = onceMore most G P ∧ v = (P.length : Int))
set_option maxRecDepth 100000 in
set_option maxHeartbeats 16000000 in
theorem jwords_6 {f : Nat} (hJ : JwA f) {S : Nat → Prop} {l most : Int} {A : Option Addr} {n c : Nat} {x y : PBlk} {w : World} (hz : szB x + szB y ≤ f) (hf : f ≤ 39) (hwx : wfB x) (hwy : wfB y) (hlx : LabOk x) (hly : LabOk y) (hm0 : 0 ≤ most) (hm8 : most ≤ 8) (h : BX S w A n c [x, y]) :
    Calls Tryd.prog 13 #[.agg #[.int .i64 6, .int .i64 l, .slice A n c], .int .i64 most] w (AnsJw (loopP (lang x) (lang y)) most w) := by
  obtain rfl : n = 2 := h.2.len.symm
  have B1 := hide2 (boxBelow w (.cells #[.int .i64 6, .int .i64 l, .slice A 2 c] 24))
  have BB := hide2 (Box.new w #[.int .i64 6, .int .i64 l, .slice A 2 c] 24)
  have H := hide2 (h.keep B1.out)
  have LXA := hide2 (show ∀ w, lang x w → ∀ c ∈ w, c ∈ abc from fun w hw c hc => mem_abc (hlx c (lang_letters x hwx w hw c hc)))
  have LYA := hide2 (show ∀ w, lang y w → ∀ c ∈ w, c ∈ abc from fun w hw c hc => mem_abc (hly c (lang_letters y hwy w hw c hc)))
  have LPA := hide2 (show ∀ w, loopP (lang x) (lang y) w → ∀ c ∈ w, c ∈ abc from fun w hw c hc => by
    have h1 := lang_letters (.mk 6 l [x, y]) (Shp.wf (.loop l x y hwx hwy)) w (lang_loop.2 hw) c hc
    rw [labB, if_neg (by decide), labK, labK, labK, List.append_nil] at h1
    exact mem_abc ((List.mem_append.1 h1).elim (hlx c) (hly c)))
  have HJ := hide2 hJ
  have WX := hide2 hwx
  have WY := hide2 hwy
  have OX := hide2 hlx
  have OY := hide2 hly
  clear h hJ hwx hwy hlx hly
  go_enter Tryd.func13, Tryd.ntmps13
  go_upto_region 1 with fail
  generalize w.alloc (.cells #[.int .i64 6, .int .i64 l, .slice A 2 c] 24) = w1 at *
  obtain ⟨bl, off, kx, lx, ksx, X, nx, cx, rfl, hbl, _, hx, q0, q1, q2, KX⟩ := H.out.get (k := 0) (by omega)
  obtain rfl : x = .mk kx lx ksx := by injection hx.out
  simp only [Nat.zero_mul, Nat.add_zero] at q0 q1 q2
  have HT := hide2 H.out.tail
  obtain ⟨C, hC⟩ : ∃ C, (if c = 1 then some (⟨bl, off, none⟩ : Addr) else some ⟨bl, off + 3, none⟩) = C := ⟨_, rfl⟩
  rw [hC] at HT
  have HC := hide2 hC
  have CA := hide2 (HJ.out S kx lx most X nx cx ksx w1 (by omega) (by omega) WX.out OX.out hm0 hm8 KX)
  obtain ⟨z0, z1, z2⟩ := BB.out.three
  clear KX hx hC
  go_wp2_with fail
  refine CA.out.mono ?_
  rintro e2 w2 ⟨L0, A0, n0, c0, i0, rfl, o0, hb2⟩
  have I0 := hide2 i0
  have O0 := hide2 (rowL_base (B' := w.heap.size) (B2' := w.heap.size) o0 B1.out.size B1.out.size)
  have B2 := hide2 (B1.out.trans (hb2.mono B1.out.size))
  have X2 := hide2 (BB.out.keep hb2)
  have HT2 := hide2 (HT.out.keep hb2)
  have F0 := hide2 (i0.few hm8 LXA.out)
  clear i0 o0 hb2 q0 q1 q2 z0 z1 z2 CA
  obtain ⟨z0, z1, z2⟩ := X2.out.three
  have hC := HC.out
  go_wp2_with fail
  refine wp_loop_rounds 3 ?_
  rw [rounds_succ]
  obtain ⟨b4, off4, ky, ly, ksy, Y, ny, cy, rfl, hb4, _, hy, q0, q1, q2, KY⟩ := HT2.out.get (k := 0) (by omega)
  obtain rfl : y = .mk ky ly ksy := by injection hy.out
  simp only [Nat.zero_mul, Nat.add_zero] at q0 q1 q2
  have bb4 := boxBelow w2 (.cells #[.int .i64 ky, .int .i64 ly, .slice Y ny cy] 24)
  have CT := hide2 (HJ.out S ky ly most Y ny cy ksy (w2.alloc (.cells #[.int .i64 ky, .int .i64 ly, .slice Y ny cy] 24)) (by omega) (by omega) WY.out OY.out hm0 hm8 (KY.keep bb4))
  have BT := hide2 (B2.out.trans (bb4.mono B2.out.size))
  have OT := hide2 (RowL.keep O0.out bb4)
  have XT := hide2 (X2.out.old (.cells #[.int .i64 ky, .int .i64 ly, .slice Y ny cy] 24))
  clear bb4 KY hb4 hy hC z0 z1 z2
  go_wp2_with fail
  refine CT.out.mono ?_
  rintro e5 w5 ⟨Lw, A5, n5, c5, iw, rfl, o5, hb5⟩
  have IW := hide2 iw
  have B5 := hide2 (BT.out.trans (hb5.mono BT.out.size))
  have R5 := hide2 (rowL_base (B' := w.heap.size) (B2' := w.heap.size) o5 BT.out.size BT.out.size)
  have O5 := hide2 (RowL.keep OT.out hb5)
  have X5 := hide2 (XT.out.keep hb5)
  have F5 := hide2 (iw.few hm8 LYA.out)
  clear o5 hb5 iw q0 q1 q2
  obtain ⟨z0, z1, z2⟩ := X5.out.three
  have hn0 : n0 ≤ 1000000000000 := by have := OwnSl.len O5.out; have := few_26 F0.out; omega
  have hn5 : n5 ≤ 1000000000000 := by have := OwnSl.len R5.out; have := few_26 F5.out; omega
  obtain ⟨G, hG⟩ : ∃ G, jsetL (pairsL joinL most Lw L0) most = G := ⟨_, rfl⟩
  have HG := hide2 hG
  have IG := hide2 (show IsW (fun w => ∃ u v, w = u ++ v ∧ lang (.mk ky ly ksy) u ∧ lang (.mk kx lx ksx) v) most G by rw [← hG]; exact IW.out.join I0.out)
  have FG := hide2 (show Few abc G by rw [← hG]; exact few_pairs hm8 F5.out F0.out)
  have ST := hide2 (LoopI.start (Y := lang (.mk ky ly ksy)) I0.out)
  clear hG
  obtain ⟨wd, hwd⟩ : ∃ wd : World, wd = w5 := ⟨_, rfl⟩
  subst hwd
  go_wp2_with fail
  clear z0 z1 z2
  go_loopw [5, 10] (fun s5 v wr => ∃ (sv : Value) (nn : Nat) (L : List (List Int)) (p : Int), sv = s5 ∧ v = .int .i64 p ∧ Hid (LpI (lang (.mk kx lx ksx)) (lang (.mk ky ly ksy)) most L0 G L p) ∧ Hid (RowL wr w.heap.size w.heap.size sv nn L) ∧ Hid (Below wd.heap.size wd wr)) (fun _ v _ => (1000000000000 - intOf v).toNat)
  case atStart => exact ⟨_, n0, L0, -1, rfl, rfl, hide2 ⟨ST.out, .inl rfl⟩, O5, hide2 (Below.refl _ _)⟩
  case round =>
    obtain ⟨sv, nn, L, p, rfl, rfl, LP, OB, BR⟩ := hrel
    have BW := hide2 (B5.out.trans (BR.out.mono B5.out.size))
    have FL := hide2 (LP.out.1.few hm8 LPA.out)
    have LN := hide2 (OwnSl.len OB.out)
    have hnn : nn ≤ 1000000000000 := by have := LN.out; have := few_26 FL.out; omega
    obtain ⟨As, cs, rfl, LSo⟩ := RowL.lists OB.out (by omega)
    by_cases hp : p = (nn : Int)
    · have hpb : (p != (nn : Int)) = false := by simp [hp]
      have DONE := hide2 (show IsW (loopP (lang (.mk kx lx ksx)) (lang (.mk ky ly ksy))) most L by
        obtain ⟨h1, h2 | ⟨P, h2, h3, h4⟩⟩ := LP.out
        · omega
        · have hpl : P.length = nn := by omega
          have := LoopI.done h2 I0.out IG.out (by rw [← h3, LN.out, hpl])
          rw [h3, this.2]
          exact this.1)
      subst hp
      go_wp2
      rw [rounds_succ]
      go_wp2
      go_ret
      exact ⟨L, As, nn, cs, DONE.out, rfl, OB.out, BW.out⟩
    · have hpb : (p != (nn : Int)) = true := by simp [hp]
      have LSO := hide2 LSo
      have LSW := hide2 (show Lists wr A5 n5 c5 Lw by
        obtain ⟨A', c', e', h⟩ := RowL.lists (RowL.keep R5.out BR.out) (by omega)
        injection e' with e1 _ e2
        subst e1 e2
        exact h)
      have LSF := hide2 (show Lists wr A0 n0 c0 L0 by
        obtain ⟨A', c', e', h⟩ := RowL.lists (RowL.keep O5.out BR.out) (by omega)
        injection e' with e1 _ e2
        subst e1 e2
        exact h)
      have CP := hide2 (jpairs_calls join_pair LSW.out LSF.out hm8 (Nat.le_trans (join_26 hm8 F5.out F0.out) (by omega)))
      rw [HG.out] at CP
      have NX := hide2 (show LpI (lang (.mk kx lx ksx)) (lang (.mk ky ly ksy)) most L0 G (onceMore most G L) (nn : Int) from ⟨LP.out.1.next (fun w hw => ((IG.out.2 w).1 hw).1), .inr ⟨L, LP.out.1, rfl, by rw [LN.out]⟩⟩)
      have LTP := hide2 (show p < (nn : Int) ∧ -1 ≤ p from by
        obtain ⟨h1, h2 | ⟨P, h2, h3, h4⟩⟩ := LP.out
        · omega
        · have := h2.grows (G := G)
          rw [← h3, LN.out] at this
          omega)
      clear LSo
      go_wp2_with fail
      refine CP.out.mono ?_
      rintro e6 w6 ⟨A6, n6, c6, rfl, o6, hb6⟩
      have R6 := hide2 (rowL_base (B' := w.heap.size) (B2' := w.heap.size) o6 BW.out.size BW.out.size)
      have LSG := hide2 (show Lists w6 A6 n6 c6 G by
        obtain ⟨A', c', e', h⟩ := RowL.lists o6 (by have := OwnSl.len o6; have := few_26 FG.out; omega)
        injection e' with e1 _ e2
        subst e1 e2
        exact h)
      have O6 := hide2 (RowL.keep OB.out hb6)
      have LS6 := hide2 (Sl.keep ListR.kept LSO.out hb6)
      have B6 := hide2 (BR.out.trans (hb6.mono BR.out.size))
      have CP2 := hide2 (jpairs_calls join_pair LS6.out LSG.out hm8 (Nat.le_trans (join_26 hm8 FL.out FG.out) (by omega)))
      obtain ⟨PL, hPL⟩ : ∃ PL, jsetL (pairsL joinL most L G) most = PL := ⟨_, rfl⟩
      have FPL := hide2 (show PL.length ≤ 1000000000000 by rw [← hPL]; exact few_26 (few_pairs hm8 FL.out FG.out))
      have OME := hide2 (show onceMore most G L = jsetL (L ++ PL) most by rw [← hPL]; rfl)
      rw [hPL] at CP2
      clear o6 hb6 hPL
      go_wp2_with fail
      refine CP2.out.mono ?_
      rintro e7 w7 ⟨A7, n7, c7, rfl, o7, hb7⟩
      have hn7 : n7 ≤ 1000000000000 := by have := OwnSl.len o7; have := FPL.out; omega
      have W6 := hide2 (B5.out.trans (B6.out.mono B5.out.size))
      have R7 := hide2 (rowL_base (B' := w.heap.size) (B2' := w.heap.size) o7 W6.out.size W6.out.size)
      have O7 := hide2 (RowL.keep O6.out hb7)
      have B7 := hide2 (B6.out.trans (hb7.mono B6.out.size))
      have W7 := hide2 (B5.out.trans (B7.out.mono B5.out.size))
      have bb8 := boxBelow w7 (.cells #[.slice As nn cs, .slice A7 n7 c7] 25)
      have Y8 := Box.new w7 #[.slice As nn cs, .slice A7 n7 c7] 25
      have S1 := hide2 (show Sl (OwnListR w.heap.size) 1 w7 As nn cs L by
        obtain ⟨A', c', e', h⟩ := OwnSl.sl O7.out (by omega)
        injection e' with e1 _ e2
        subst e1 e2
        exact h)
      have S2 := hide2 (show Sl (OwnListR w.heap.size) 1 w7 A7 n7 c7 PL by
        obtain ⟨A', c', e', h⟩ := OwnSl.sl R7.out (by omega)
        injection e' with e1 _ e2
        subst e1 e2
        exact h)
      have CC := hide2 (concatL_calls Y8.two.1 Y8.two.2 (Sl.keep (OwnListR.kept _) S1.out bb8) (Sl.keep (OwnListR.kept _) S2.out bb8) (by omega))
      have B8 := hide2 (B7.out.trans (bb8.mono B7.out.size))
      have W8 := hide2 (W7.out.trans (bb8.mono W7.out.size))
      clear bb8 Y8 o7 hb7
      go_wp2_with fail
      generalize w7.alloc (.cells #[.slice As nn cs, .slice A7 n7 c7] 25) = w8 at *
      refine CC.out.mono ?_
      rintro e9 w9 ⟨A9, c9, rfl, o9, hb9⟩
      have O9 := hide2 o9
      have B9 := hide2 (B8.out.trans (hb9.mono B8.out.size))
      clear o9 hb9
      go_wp2_with fail
      refine (jsetA_calls (w0 := w8) most O9.out (by omega)).mono ?_
      rintro ea wa ⟨Aa, na, ca, rfl, oa, hga⟩
      have Oa := hide2 (rowL_base (B' := w.heap.size) (B2' := w.heap.size) oa (Nat.le_refl _) W8.out.size)
      have Ba := hide2 (B9.out.grown hga B9.out.size (fun kk e => Nat.le_trans B8.out.size (OwnSl.lt O9.out kk e).1))
      clear oa hga
      go_wp2_with fail
      go_roundw
      case rel => exact ⟨_, na, _, (nn : Int), rfl, rfl, NX, hide2 (by rw [OME.out]; exact Oa.out), Ba⟩
      case measure => have := LTP.out; simp [intOf]; omega
end Go.Proofs.YtniolbbhjibobaaDoor
