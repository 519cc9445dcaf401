/- Texts melted into one: slices.Clone on blocks; a block stored in a row of the call's own. Conditions: the blocks read as some. | The contract of blocks' after: a silent block, a step, a sequence, a choice. Conditions: the block reads as one and is right; what it holds lies below M. -/
import Derived.Test.YtniolbbhjibobaaDoorBlocksListK21
import Derived.Laws.OwnMore
import Derived.Deep.AppendLies
import Derived.Lib.SliceRun
set_option linter.all false
namespace Go.Proofs.YtniolbbhjibobaaDoor
open Go.RowKit

theorem grown_set3 {w : World} {g : Nat} (i j k : Nat) (x y z : Value) : w.grownBy (((w.setCell ⟨g, i, none⟩ x).setCell ⟨g, j, none⟩ y).setCell ⟨g, k, none⟩ z) (some g) :=
  ⟨rfl, rfl, rfl, by simp [World.setCell], fun q _ hne => by
    have hq : q ≠ g := fun e => hne (by rw [e])
    rw [heap_setCell_other _ _ _ _ hq, heap_setCell_other _ _ _ _ hq, heap_setCell_other _ _ _ _ hq]⟩
theorem below_at3 {B g : Nat} {w0 w : World} (h : Below B w0 w) (hb : B ≤ g) (i j k : Nat) (x y z : Value) : Below B w0 (((w.setCell ⟨g, i, none⟩ x).setCell ⟨g, j, none⟩ y).setCell ⟨g, k, none⟩ z) := ((h.setCell hb _).setCell hb _).setCell hb _
theorem OwnB.put {S T : Nat → Prop} {w : World} {B g n cap i m c : Nat} {L ks : List PBlk} {kd lb : Int} {C : Option Addr} (h : OwnB S w B (.slice (some ⟨g, 0, none⟩) n cap) n L) (hi : i < n) (x : BX T w C m c ks) (hT : ∀ k, k < w.heap.size → T k → S k ∧ k ≠ g) :
    OwnB S (((w.setCell ⟨g, i * 3, none⟩ (.int .i64 kd)).setCell ⟨g, i * 3 + 1, none⟩ (.int .i64 lb)).setCell ⟨g, i * 3 + 2, none⟩ (.slice C m c)) B (.slice (some ⟨g, 0, none⟩) n cap) n (L.set i (.mk kd lb ks)) := by
  have hg := grown_set3 (w := w) (g := g) (i * 3) (i * 3 + 1) (i * 3 + 2) (.int .i64 kd) (.int .i64 lb) (.slice C m c)
  obtain ⟨cells, h1, h2, h3⟩ := h
  have hl := h1.1
  refine ⟨_, ((((h1.stored (i * 3) (.int .i64 kd)).1.stored (i * 3 + 1) (.int .i64 lb)).1.stored (i * 3 + 2) (.slice C m c)).1), ⟨by simp [h2.1], fun q y hy => ?_⟩, by rw [List.length_set]; exact h3⟩
  by_cases e : q = i
  · subst e
    rw [List.getElem?_set_self (by omega)] at hy
    injection hy with hy
    subst hy
    refine ⟨fun j => match j with | 0 => .int .i64 kd | 1 => .int .i64 lb | _ => .slice C m c, fun j hj => ?_, ?_⟩
    · match j, hj with
      | 0, _ =>
        rw [List.getElem?_set_ne (by omega), List.getElem?_set_ne (by omega)]
        exact List.getElem?_set_self (by omega)
      | 1, _ =>
        rw [List.getElem?_set_ne (by omega)]
        exact List.getElem?_set_self (by simp; omega)
      | 2, _ => exact List.getElem?_set_self (by simp; omega)
    · refine BlkX.mk' ((x.mono (T := fun k => S k ∧ k ≠ g) hT).grown hg (fun k hk e => ?_) |>.mono (fun k _ hk => ⟨hk.1, fun e => hk.2 ?_⟩)) rfl rfl rfl
      · injection e with e; exact hk.2 e.symm
      · injection e with e; exact e.symm
  · rw [List.getElem?_set_ne (fun e2 => e e2.symm)] at hy
    obtain ⟨vs, a1, a2⟩ := h2.2 q y hy
    refine ⟨vs, fun j hj => ?_, a2.grown hg (fun k hk => hk.2)⟩
    rw [List.getElem?_set_ne (by omega), List.getElem?_set_ne (by omega), List.getElem?_set_ne (by omega)]
    exact a1 j hj
set_option maxRecDepth 100000 in
theorem bwClone_calls {S : Nat → Prop} {w : World} {ad : Addr} {n c : Nat} {xs : List PBlk} (h : BX S w (some ad) n c xs) (hn : n ≤ 1000000) :
    Calls Tryd.prog 33 #[.slice (some ad) n c] w (fun e w' => ∃ v, e = .returned v ∧ OwnB (fun k => S k ∧ k < w.heap.size) w' w.heap.size v n xs ∧ Below w.heap.size w w') := by
  have HB := hide2 (show ∀ o, Below w.heap.size w (w.alloc o) from fun o => (Below.refl _ _).alloc (Nat.le_refl _) _)
  have H := hide2 (h.mono (T := fun k => S k ∧ k < w.heap.size) (fun k hk hs => ⟨hs, hk⟩))
  have O := hide2 (show OwnB (fun k => S k ∧ k < w.heap.size) (w.alloc (.cells #[] 24)) w.heap.size (.slice (some ⟨w.heap.size, 0, none⟩) 0 0) 0 [] from OwnSl.empty (Nat.le_refl _))
  have HT := hide2 (show ∀ k, k < (w.alloc (.cells #[] 24)).heap.size → (S k ∧ k < w.heap.size) → (S k ∧ k < w.heap.size) ∧ (Value.slice (some ⟨w.heap.size, 0, none⟩) 0 0).ownBlock ≠ some k from fun k _ hk => ⟨hk, fun e => by injection e with e; have e : w.heap.size = k := e; omega⟩)
  clear h
  have he := fun (w : World) => Lib.run_eql_slice_nil (P := Tryd.prog) w 22 24 (some ad) n c 0 0 Tryd.underlying22
  go_enter Tryd.func33, Tryd.ntmps33
  go_wp2_with (at_builtin; go_loud (refine wpList_appB rfl _ _ rfl rfl rfl O.out (H.out.keep (HB.out _)) HT.out (HB.out _) (by simp) (by omega) ?_; intro v1 w1 own1 hg1 hb1))
  go_ret
  exact ⟨_, rfl, by simpa using own1, hb1⟩
end Go.Proofs.YtniolbbhjibobaaDoor
namespace Go.Proofs.YtniolbbhjibobaaDoor
open Go.RowKit

theorem bx_one {S : Nat → Prop} {w : World} {b ty : Nat} {k l : Int} {A : Option Addr} {n c : Nat} {ks : List PBlk} (h : Box w b ty #[.int .i64 k, .int .i64 l, .slice A n c]) (hb : S b) (hA : BX S w A n c ks) :
    BX S w (some ⟨b, 0, none⟩) 1 1 [.mk k l ks] := by
  refine ⟨fun _ a ha => by injection ha with ha; subst ha; exact hb, rfl, by omega, by simp only [maxLen]; omega, by omega, fun ha => (by cases ha), fun _ => ⟨b, 0, rfl, h.lt, fun i x hi => ?_⟩⟩
  match i, hi with
  | 0, hi =>
    injection hi with hi
    subst hi
    exact ⟨fun j => [Value.int .i64 k, .int .i64 l, .slice A n c].getD j undef, fun j hj => by
      match j, hj with
      | 0, _ => exact h.cell 0
      | 1, _ => exact h.cell 1
      | 2, _ => exact h.cell 2, BlkX.mk' hA rfl rfl rfl⟩
  | i + 1, hi => simp at hi
theorem aft_2n {l a : Int} (h : l ≠ a) (ks : List PBlk) : afterB (.mk 2 l ks) a = [] := by rw [afterB]; simp [h]
theorem aft_2y (a : Int) (ks : List PBlk) : afterB (.mk 2 a ks) a = [silB] := by rw [afterB]; simp
/-- Where a loop over the things of a block stands: what it has, what is still to come. -/
def AccI (O : List PBlk) (R : List PBlk) (L : List PBlk) (z : Nat) : Prop := O ++ R = L ∧ O.length + z ≤ 100000
section
variable {S : Nat → Prop} {f : Nat} {k l a : Int} {A : Option Addr} {n c : Nat} {ks : List PBlk} {w : World} {M : Nat}
set_option maxRecDepth 100000 in
theorem bwAft_sil : Calls Tryd.prog 21 #[.agg #[.int .i64 1, .int .i64 l, .slice A n c], .int .i64 a] w (AnsL S M (afterB (.mk 1 l ks) a) w) := by
  have B1 := hide2 (boxBelow w (.cells #[.int .i64 1, .int .i64 l, .slice A n c] 24))
  have BB := hide2 (Box.new w #[.int .i64 1, .int .i64 l, .slice A n c] 24)
  go_enter Tryd.func21, Tryd.ntmps21
  go_upto_region 1 with fail
  generalize w.alloc (.cells #[.int .i64 1, .int .i64 l, .slice A n c] 24) = w1 at *
  obtain ⟨z0, z1, z2⟩ := BB.out.three
  go_wp2
  go_ret
  rw [aft_1]
  exact ⟨none, 0, 0, rfl, BX.nil, B1.out⟩
set_option maxRecDepth 100000 in
theorem bwAft_step : Calls Tryd.prog 21 #[.agg #[.int .i64 2, .int .i64 l, .slice A n c], .int .i64 a] w (AnsL S M (afterB (.mk 2 l ks) a) w) := by
  have B1 := hide2 (boxBelow w (.cells #[.int .i64 2, .int .i64 l, .slice A n c] 24))
  have BB := hide2 (Box.new w #[.int .i64 2, .int .i64 l, .slice A n c] 24)
  by_cases hla : l = a
  · subst hla
    go_enter Tryd.func21, Tryd.ntmps21
    go_upto_region 1 with fail
    generalize w.alloc (.cells #[.int .i64 2, .int .i64 l, .slice A n c] 24) = w1 at *
    obtain ⟨z0, z1, z2⟩ := BB.out.three
    go_wp2_with fail
    refine (bwSil_calls (fun q => (q < M ∧ S q) ∨ w.heap.size ≤ q) w1).mono ?_
    rintro e w2 ⟨A2, n2, c2, rfl, hs, hb2⟩
    have S2 := hide2 hs
    have D2 := hide2 (B1.out.trans (hb2.mono B1.out.size))
    clear hs hb2
    go_wp2_with fail
    go_ret
    rw [aft_2y]
    exact ⟨_, 1, 1, rfl, bx_one (Box.new _ _ _) (.inr D2.out.size) (S2.out.keep (boxBelow _ _)), D2.out.trans ((boxBelow _ _).mono D2.out.size)⟩
  · have hne : (l == a) = false := by simp [hla]
    go_enter Tryd.func21, Tryd.ntmps21
    go_upto_region 1 with fail
    generalize w.alloc (.cells #[.int .i64 2, .int .i64 l, .slice A n c] 24) = w1 at *
    obtain ⟨z0, z1, z2⟩ := BB.out.three
    go_wp2
    go_ret
    rw [aft_2n hla]
    exact ⟨none, 0, 0, rfl, BX.nil, B1.out⟩
set_option maxRecDepth 100000 in
theorem bwAft_seq (hS : AftS S f) (hz : szK ks ≤ f) (hf : f ≤ 100000) (hw : wfK ks) (hM : M ≤ w.heap.size) (h : BX (fun q => q < M ∧ S q) w A n c ks) : Calls Tryd.prog 21 #[.agg #[.int .i64 3, .int .i64 l, .slice A n c], .int .i64 a] w (AnsL S M (afterB (.mk 3 l ks) a) w) := by
  have B1 := hide2 (boxBelow w (.cells #[.int .i64 3, .int .i64 l, .slice A n c] 24))
  have BB := hide2 (Box.new w #[.int .i64 3, .int .i64 l, .slice A n c] 24)
  have CS := hide2 (hS A n c ks a (w.alloc (.cells #[.int .i64 3, .int .i64 l, .slice A n c] 24)) M hz hf hw (Nat.le_trans hM B1.out.size) (h.keep B1.out))
  clear hS hz hf hw hM h
  go_enter Tryd.func21, Tryd.ntmps21
  go_upto_region 1 with fail
  generalize w.alloc (.cells #[.int .i64 3, .int .i64 l, .slice A n c] 24) = w1 at *
  obtain ⟨z0, z1, z2⟩ := BB.out.three
  go_wp2_with fail
  refine CS.out.mono ?_
  rintro e w2 ⟨A2, n2, c2, rfl, hs, hb2⟩
  have S2 := hide2 hs
  have D2 := hide2 (B1.out.trans (hb2.mono B1.out.size))
  clear hs hb2
  go_wp2_with fail
  go_ret
  rw [aft_3]
  exact ⟨A2, n2, c2, rfl, S2.out.mono (fun q _ hq => hq.elim .inl (fun h => .inr (Nat.le_trans B1.out.size h))), D2.out⟩
set_option maxRecDepth 100000 in
set_option maxHeartbeats 4000000 in
theorem bwAft_choice (hA : AftA S f) (hz : szK ks ≤ f) (hf : f ≤ 100000) (hw : wfK ks) (hM : M ≤ w.heap.size) (h : BX (fun q => q < M ∧ S q) w A n c ks) : Calls Tryd.prog 21 #[.agg #[.int .i64 4, .int .i64 l, .slice A n c], .int .i64 a] w (AnsL S M (afterB (.mk 4 l ks) a) w) := by
  have B1 := hide2 (boxBelow w (.cells #[.int .i64 4, .int .i64 l, .slice A n c] 24))
  have BB := hide2 (Box.new w #[.int .i64 4, .int .i64 l, .slice A n c] 24)
  have H := hide2 (h.keep B1.out)
  have HL := hide2 (show ks.length = n from h.2.len)
  have hns := h.2.small
  have HA := hide2 hA
  have W := hide2 hw
  have M1 := hide2 (Nat.le_trans hM B1.out.size)
  clear hA hw h
  go_enter Tryd.func21, Tryd.ntmps21
  go_upto_region 1 with fail
  generalize w.alloc (.cells #[.int .i64 4, .int .i64 l, .slice A n c] 24) = w1 at *
  obtain ⟨z0, z1, z2⟩ := BB.out.three
  obtain ⟨wd, hwd⟩ : ∃ wd : World, wd = w1 := ⟨_, rfl⟩
  subst hwd
  go_wp2
  clear z0 z1 z2
  go_loopw [5, 41] (fun s5 v wr => ∃ (sv : Value) (i nn : Nat) (O : List PBlk), sv = s5 ∧ i ≤ n ∧ v = .int .i64 i ∧ Hid (AccI O (afterC (ks.drop i) a) (afterC ks a) (szK (ks.drop i))) ∧ Hid (OwnB (fun k => (k < M ∧ S k) ∨ w.heap.size ≤ k) wr wd.heap.size sv nn O) ∧ Hid (Below wd.heap.size wd wr)) (fun _ v _ => n - (intOf v).toNat)
  case atStart => exact ⟨_, 0, 0, [], rfl, Nat.zero_le _, rfl, hide2 ⟨rfl, by simp; omega⟩, hide2 OwnB.nil, hide2 (Below.refl _ _)⟩
  case round =>
    obtain ⟨sv, i, nn, O, rfl, hi, rfl, AC, OB, BR⟩ := hrel
    by_cases hlt : i < n
    · have hki : (i : Int) < (n : Int) := by omega
      obtain ⟨b4, off4, kd4, lb4, ks4, A4, n4, c4, rfl, hb4, _, hx4, q0, q1, q2, K4⟩ := (H.out.keep BR.out).get hlt
      have bb4 := boxBelow wr (.cells #[.int .i64 kd4, .int .i64 lb4, .slice A4 n4 c4] 24)
      have DR := hide2 (drop_get hx4.out)
      have wf4 := W.out.get hx4.out
      have sz4 := szK_get hx4.out
      have CT := hide2 (HA.out kd4 lb4 A4 n4 c4 ks4 a (wr.alloc (.cells #[.int .i64 kd4, .int .i64 lb4, .slice A4 n4 c4] 24)) M (by omega) hf wf4 (by have := M1.out; have := BR.out.size; simp; omega) (K4.keep bb4))
      obtain ⟨L4, hL4⟩ : ∃ L, afterB (.mk kd4 lb4 ks4) a = L := ⟨_, rfl⟩
      have AN := hide2 (show AccI (O ++ L4) (afterC (ks.drop (i + 1)) a) (afterC ks a) (szK (ks.drop (i + 1))) by
        obtain ⟨e1, e2⟩ := AC.out
        have := aft_len a _ wf4
        rw [DR.out] at e1 e2
        rw [afterC, hL4] at e1
        rw [szK_cons] at e2
        rw [hL4] at this
        exact ⟨by rw [List.append_assoc]; exact e1, by rw [List.length_append]; omega⟩)
      rw [hL4] at CT
      have BT := hide2 (BR.out.trans (bb4.mono BR.out.size))
      have OT := hide2 (OB.out.keep bb4)
      clear bb4 K4 hb4 wf4 sz4 hL4
      go_wp2_with fail
      refine CT.out.mono ?_
      rintro e w5 ⟨A5, n5, c5, rfl, hs5, hb5⟩
      have S5 := hide2 hs5
      have B5 := hide2 (BT.out.trans (hb5.mono BT.out.size))
      have O5 := hide2 (OT.out.keep hb5)
      have hnn : nn + n5 ≤ 100000 := by
        have := AN.out.2
        rw [List.length_append] at this
        have h1 : O.length = nn := by obtain ⟨_, _, _, h⟩ := OB.out; exact h
        have h2 := hs5.2.len
        omega
      have HT5 := hide2 (show ∀ q, q < w5.heap.size → ((q < M ∧ S q) ∨ (wr.alloc (.cells #[.int .i64 kd4, .int .i64 lb4, .slice A4 n4 c4] 24)).heap.size ≤ q) → ((q < M ∧ S q) ∨ w.heap.size ≤ q) ∧ sv.ownBlock ≠ some q from fun q hq hT => by
        have hM1 := M1.out
        have hB1 := B1.out.size
        have hBR := BR.out.size
        simp at hT
        refine ⟨by rcases hT with h | h; exact .inl h; exact .inr (by omega), fun e => ?_⟩
        have := OB.out.lt q e
        omega)
      clear hs5 hb5
      go_wp2_with (at_builtin; go_loud (refine wpList_appB rfl _ _ rfl rfl rfl O5.out S5.out HT5.out B5.out B5.out.size (by omega) ?_; intro v8 w8 own8 hg8 hb8; have O8 := hide2 own8; have B8 := hide2 hb8; clear own8 hg8 hb8))
      go_roundw
      case rel => exact ⟨v8, i + 1, _, _, rfl, by omega, by go_num, AN, O8, B8⟩
      case measure => simp [intOf]; omega
    · obtain rfl : i = n := by omega
      have EQ := hide2 (show O = afterC ks a by have := AC.out.1; rwa [← HL.out, List.drop_length, afterC, List.append_nil] at this)
      have hnn : nn ≤ 100000 := by
        have := AC.out.2
        have h1 : O.length = nn := by obtain ⟨_, _, _, h⟩ := OB.out; exact h
        omega
      obtain ⟨A8, c8, rfl, hs8⟩ := OB.out.bx (by omega) (fun q hq => .inr (Nat.le_trans B1.out.size hq))
      have O8 := hide2 hs8
      clear hs8
      go_wp2
      go_ret
      rw [aft_4, ← EQ.out]
      exact ⟨A8, _, c8, rfl, O8.out, B1.out.trans (BR.out.mono B1.out.size)⟩
end
end Go.Proofs.YtniolbbhjibobaaDoor
