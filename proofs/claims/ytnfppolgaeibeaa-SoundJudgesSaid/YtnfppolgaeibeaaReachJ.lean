/- IndexFunc on lists of lists, and the test of Path. Conditions: the slice reads as a list of lists. | The contract of Reverse on an own row of numbers. Conditions: the row is its own. | The contract of Path. Conditions: the net, the mark and the goal read as lists. -/
import Derived.Test.YtnfppolgaeibeaaReachA
import Derived.Test.YtnfppolgaeibeaaMarkE
import Derived.Test.YtnfppolgaeibeaaContI
import Derived.Test.YtnfppolgaeibeaaHeld
import Derived.Test.YtnfppolgaeibeaaPlainM
import Derived.Test.YtnfppolgaeibeaaCaseC
namespace Go.Proofs.Ytnfppolgaeibeaa
open Go.RowKit

/-- Function F, with what it captured, is a test of lists. -/
structure IsPredL (F : FuncId) (cap : Array Value) (w : World) (p : List Int → Bool) : Prop where
  enters : ∀ args w, (callFunc F args).run Try.prog w = .ok (.enter F args) w
  calls : ∀ (wr : World) (A : Option Addr) (n c : Nat) (y : List Int), Below w.heap.size w wr → Ints wr A n c y →
    Calls Try.prog F (#[.slice A n c] ++ cap) wr fun e w' => e = .returned (.bool (p y)) ∧ Below wr.heap.size wr w'

set_option maxRecDepth 100000 in
theorem indexLists_calls {w : World} {A : Option Addr} {n c : Nat} {ms : List (List Int)} {F : FuncId} {cap : Array Value} {p : List Int → Bool} (h : Lists w A n c ms) (hp : IsPredL F cap w p) :
    Calls Try.prog 119 #[.slice A n c, .func (.func F) #[] cap] w fun e w' => e = .returned (.int .i64 (idxFirst p ms)) ∧ Below w.heap.size w w' := by
  have hn := h.small
  have henter := hp.enters
  have H := hide2 h
  have HP := hide2 hp
  clear h hp
  go_enter Try.func119, Try.ntmps119
  go_wp2
  go_loopw [8] (fun i wr => ∃ k : Nat, k ≤ n ∧ i = .int .i64 k ∧ Hid (∀ j, j < k → ∀ y, ms[j]? = some y → p y = false) ∧ Hid (Below w.heap.size w wr)) (fun i _ => n - (intOf i).toNat)
  case atStart => exact ⟨0, Nat.zero_le _, rfl, fun j hj => absurd hj (by omega), Below.refl _ _⟩
  case round =>
    obtain ⟨k, hk, rfl, hlow, D⟩ := hrel
    by_cases hlt : k < n
    · have hki : (k : Int) < (n : Int) := by omega
      obtain ⟨b, off, t, vs, rfl, hb, ht, hc, A1, n1, c1, e1, i1, hn1⟩ := Sl.get (Sl.keep ListR.kept H.out D.out) hlt
      have q0 : wr.cell? ⟨b, off + k, none⟩ = some (.slice A1 n1 c1) := by have := hc 0 (by omega); rw [e1] at this; simpa using this
      have CL := hide2 (HP.out.calls wr A1 n1 c1 t D.out i1)
      have HT := hide2 ht
      obtain ⟨v, hv⟩ : ∃ v, p t = v := ⟨_, rfl⟩
      have HV := hide2 hv
      rw [hv] at CL
      clear hv hc e1 i1 ht
      cases v
      · go_wp2_with (refine CL.out.mono ?_; rintro e w' ⟨rfl, hb'⟩; have HB := hide2 hb'; clear hb')
        go_roundw
        case rel =>
          refine ⟨k + 1, by omega, by go_num, fun j hj y hy => ?_, D.out.trans (HB.out.mono D.out.size)⟩
          by_cases hjk : j = k
          · subst hjk
            have := HT.out
            rw [hy] at this
            injection this with this
            rw [this]
            exact HV.out
          · exact hlow.out j (by omega) y hy
        case measure => simp [intOf]; omega
      · go_wp2_with (refine CL.out.mono ?_; rintro e w' ⟨rfl, hb'⟩; have HB := hide2 hb'; clear hb')
        go_ret
        exact ⟨ret_int (idxFirst_some hlow.out HT.out HV.out).symm, D.out.trans (HB.out.mono D.out.size)⟩
    · go_wp2
      go_ret
      exact ⟨ret_int (idxFirst_none (fun j hj y hy => hlow.out j (by have := H.out.len; omega) y hy)).symm, D.out⟩
end Go.Proofs.Ytnfppolgaeibeaa
namespace Go.Proofs.Ytnfppolgaeibeaa
open Go.RowKit

end Go.Proofs.Ytnfppolgaeibeaa
namespace Go.Proofs.Ytnfppolgaeibeaa
open Go.RowKit

theorem FinW.rows {w : World} {B bf bm : Nat} {P : Int} {A : Option Addr} {n c : Nat} {most : Int} {u v z : Value} {mm ms : List (List Int)} {ars : List PArc} {fs : List Int} (h : FinW w B bf bm P A n c most u v z mm ms ars fs) (hl : ms.length ≤ 7200) (ha : ars.length ≤ 7200) (hf : fs.length ≤ 7200) :
    ∃ U cu V cv Z cz, u = .slice U ms.length cu ∧ v = .slice V ars.length cv ∧ z = .slice Z fs.length cz ∧ Lists w U ms.length cu ms ∧ Arcs w V ars.length cv ars ∧ Ints w Z fs.length cz fs := by
  have o1 : OwnSl ListR 1 w B 35 u ms.length ms := h.marks.reread (fun vs x hx => by
    obtain ⟨A, n, c, e, i, l, _⟩ := hx
    exact ⟨A, n, c, e, i, by omega⟩)
  obtain ⟨U, cu, e1, s1⟩ := o1.sl (by omega)
  obtain ⟨V, cv, e2, s2⟩ := h.arcs.sl (by omega)
  obtain ⟨Z, cz, e3, s3⟩ := h.first.sl (by omega)
  exact ⟨U, cu, V, cv, Z, cz, e1, e2, e3, s1, s2, s3⟩

end Go.Proofs.Ytnfppolgaeibeaa
