/- The contracts of shape.walk, of the library's IndexFunc and ContainsFunc on transitions, and of the test of shape.Wrong. Conditions: the net is right; the numbers are places of it. -/
import Derived.Test.YtpagenlealddhaaShapeB
namespace Go.Proofs.Ytpagenlealddhaa
open Go.RowKit Go.Maps

/-- Function F, with what it captured, is a test of these transitions. -/
structure IsPredT (F : FuncId) (cap : Array Value) (w : World) (ts : List PTran) (p : PTran → Bool) : Prop where
  enters : ∀ args w, (callFunc F args).run Try.prog w = .ok (.enter F args) w
  calls : ∀ (wr : World) (t : PTran) (A1 : Option Addr) (n1 c1 : Nat) (A2 : Option Addr) (n2 c2 : Nat), Below w.heap.size w wr → t ∈ ts → Ints wr A1 n1 c1 t.pre → Ints wr A2 n2 c2 t.post →
    Calls Try.prog F (#[.agg #[.int .i64 t.label, .slice A1 n1 c1, .slice A2 n2 c2]] ++ cap) wr fun e w' => e = .returned (.bool (p t)) ∧ Below wr.heap.size wr w'

set_option maxRecDepth 100000 in
theorem indexTrans_calls {w : World} {A : Option Addr} {n c : Nat} {ts : List PTran} {F : FuncId} {cap : Array Value} {p : PTran → Bool} (h : Trans w A n c ts) (hp : IsPredT F cap w ts p) :
    Calls Try.prog 167 #[.slice A n c, .func (.func F) #[] cap] w fun e w' => e = .returned (.int .i64 (idxFirst p ts)) ∧ Below w.heap.size w w' := by
  have hn := h.small
  have henter := hp.enters
  have H := hide2 h
  have HP := hide2 hp
  clear h hp
  go_enter Try.func167, Try.ntmps167
  go_wp2
  go_loopw [8] (fun i wr => ∃ k : Nat, k ≤ n ∧ i = .int .i64 k ∧ Hid (∀ j, j < k → ∀ y, ts[j]? = some y → p y = false) ∧ Hid (Below w.heap.size w wr)) (fun i _ => n - (intOf i).toNat)
  case atStart => exact ⟨0, Nat.zero_le _, rfl, fun j hj => absurd hj (by omega), Below.refl _ _⟩
  case round =>
    obtain ⟨k, hk, rfl, hlow, D⟩ := hrel
    by_cases hlt : k < n
    · have hki : (k : Int) < (n : Int) := by omega
      obtain ⟨b, off, t, A1, n1, c1, A2, n2, c2, rfl, hb, ht, q0, q1, q2, i1, i2, _, _⟩ := Trans.get (H.out.keep D.out) hlt
      have CL := hide2 (HP.out.calls wr t A1 n1 c1 A2 n2 c2 D.out (List.mem_of_getElem? ht.out) i1 i2)
      obtain ⟨v, hv⟩ : ∃ v, p t = v := ⟨_, rfl⟩
      have HV := hide2 hv
      rw [hv] at CL
      clear i1 i2 hv
      cases v
      · go_wp2_with (refine CL.out.mono ?_; rintro e w' ⟨rfl, hb'⟩; have HB := hide2 hb'; clear hb')
        go_roundw
        case rel =>
          refine ⟨k + 1, by omega, by go_num, fun j hj y hy => ?_, D.out.trans (HB.out.mono D.out.size)⟩
          by_cases hjk : j = k
          · subst hjk
            have := ht.out
            rw [hy] at this
            injection this with this
            rw [this]
            exact HV.out
          · exact hlow.out j (by omega) y hy
        case measure => simp [intOf]; omega
      · go_wp2_with (refine CL.out.mono ?_; rintro e w' ⟨rfl, hb'⟩; have HB := hide2 hb'; clear hb')
        go_ret
        exact ⟨ret_int (idxFirst_some hlow.out ht.out HV.out).symm, D.out.trans (HB.out.mono D.out.size)⟩
    · go_wp2
      go_ret
      exact ⟨ret_int (idxFirst_none (fun j hj y hy => hlow.out j (by have := H.out.len; omega) y hy)).symm, D.out⟩

set_option maxRecDepth 100000 in
theorem containsTrans_calls {w : World} {A : Option Addr} {n c : Nat} {ts : List PTran} {F : FuncId} {cap : Array Value} {p : PTran → Bool} (h : Trans w A n c ts) (hp : IsPredT F cap w ts p) :
    Calls Try.prog 129 #[.slice A n c, .func (.func F) #[] cap] w fun e w' => e = .returned (.bool (ts.any p)) ∧ Below w.heap.size w w' := by
  have H := hide2 h
  have HP := hide2 hp
  clear h hp
  go_enter Try.func129, Try.ntmps129
  go_wp2_with (refine (indexTrans_calls H.out HP.out).mono ?_; rintro e w' ⟨rfl, hb⟩)
  go_ret
  exact ⟨ret_bool (idxFirst_any _ _), hb⟩

/-- The test of shape.Wrong: an arc to the beginning, or out of the end. -/
theorem back_pred {w : World} {N : PNet} (hok : netOk N = true) {bi bo i o : Nat} (hi : (i : Int) < N.places) (ho : (o : Int) < N.places) (c1 : Box w bi 3 #[.int .i64 i]) (c2 : Box w bo 3 #[.int .i64 o]) :
    IsPredT 130 #[.pointer (some ⟨bi, 0, none⟩), .pointer (some ⟨bo, 0, none⟩)] w N.trans (backT i o) where
  enters := fun args w => by kernel_rfl
  calls := fun wr t A1 n1 d1 A2 n2 d2 hb ht i1 i2 => by
    obtain ⟨k, hk, hkt⟩ := List.getElem_of_mem ht
    have hT := netOk_tran hok (show N.trans[k]? = some t by rw [List.getElem?_eq_getElem hk, hkt])
    have e1 : (n1 : Int) = N.places := by have := hT.2.2.1; rw [i1.len] at this; exact this
    have e2 : (n2 : Int) = N.places := by have := hT.2.2.2.1; rw [i2.len] at this; exact this
    have bb := boxBelow wr (.cells #[.int .i64 t.label, .slice A1 n1 d1, .slice A2 n2 d2] 107)
    obtain ⟨b1, o1, x, rfl, hb1, hx, q1⟩ := Ints.get (k := o) (Ints.keep i1 bb) (by omega)
    obtain ⟨b2, o2, y, rfl, hb2, hy, q2⟩ := Ints.get (k := i) (Ints.keep i2 bb) (by omega)
    have y1 := ((c1.keep hb).old (.cells #[.int .i64 t.label, .slice (some ⟨b1, o1, none⟩) n1 d1, .slice (some ⟨b2, o2, none⟩) n2 d2] 107)).cell 0
    have y2 := ((c2.keep hb).old (.cells #[.int .i64 t.label, .slice (some ⟨b1, o1, none⟩) n1 d1, .slice (some ⟨b2, o2, none⟩) n2 d2] 107)).cell 0
    simp only [List.getElem?_toArray, List.getElem?_cons_zero] at y1 y2
    have hi2 : (i : Int) < (n2 : Int) := by omega
    have ho1 : (o : Int) < (n1 : Int) := by omega
    have FN := hide2 (show backT i o t = (decide (0 < y) || decide (0 < x)) by rw [backT, atL_some hy.out, atL_some hx.out])
    have BB := hide2 bb
    clear hb ht hk hkt hT e1 e2 i1 i2 c1 c2 hi ho hok bb
    show Calls Try.prog 130 #[.agg #[.int .i64 t.label, .slice (some ⟨b1, o1, none⟩) n1 d1, .slice (some ⟨b2, o2, none⟩) n2 d2], .pointer (some ⟨bi, 0, none⟩), .pointer (some ⟨bo, 0, none⟩)] wr _
    rw [FN.out]
    by_cases hpos : 0 < y
    · go_enter Try.func130, Try.ntmps130
      go_wp2
      go_ret
      exact ⟨ret_bool (by simp [hpos]), BB.out⟩
    · go_enter Try.func130, Try.ntmps130
      go_wp2
      all_goals
        go_ret
        exact ⟨ret_bool (by simp; omega), BB.out⟩
end Go.Proofs.Ytpagenlealddhaa
