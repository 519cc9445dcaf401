/- Contracts of package mark, of the references of chapter 1, and of the library's functions on lists of integers that they call. Conditions: the slices read as lists of integers. -/
import Derived.Test.YtnfppolgaeibeaaBase
import Derived.Deep.QuietTactic
import Derived.BigQuiet
namespace Go.Proofs.Ytnfppolgaeibeaa
open Go.RowKit

/-- Function F, with what it captured, is a test of integers that leaves the world alone. -/
structure IsPred (F : FuncId) (cap : Array Value) (w : World) (p : Int → Bool) : Prop where
  enters : ∀ args w, (callFunc F args).run Try.prog w = .ok (.enter F args) w
  calls : ∀ x, Calls Try.prog F (#[.int .i64 x] ++ cap) w fun e w' => e = .returned (.bool (p x)) ∧ w = w'

set_option maxRecDepth 100000 in
theorem indexFuncInts {w : World} {A : Option Addr} {n c : Nat} {xs : List Int} {F : FuncId} {cap : Array Value} {p : Int → Bool} (h : Ints w A n c xs) (hp : IsPred F cap w p) :
    Calls Try.prog 121 #[.slice A n c, .func (.func F) #[] cap] w fun e w' => e = .returned (.int .i64 (idxFirst p xs)) ∧ w = w' := by
  have hn := h.small
  have henter := hp.enters
  go_enter Try.func121, Try.ntmps121
  go_wp2
  go_loop [8] (fun i => ∃ k : Nat, k ≤ n ∧ i = .int .i64 k ∧ Hid (∀ j, j < k → ∀ y, xs[j]? = some y → p y = false)) (fun i => n - (intOf i).toNat)
  case atStart => exact ⟨0, Nat.zero_le _, rfl, fun j hj => absurd hj (by omega)⟩
  case round =>
    obtain ⟨k, hk, rfl, hlow⟩ := hrel
    by_cases hlt : k < n
    · obtain ⟨b, off, x, rfl, hb, hx, hc⟩ := h.get hlt
      have hl := h.len
      have hL := hide2 hl
      clear hl
      by_cases hpx : p x = true
      · have HP := hide2 hpx
        clear hpx
        clear h
        go_wp2_with (refine (hp.calls x).mono ?_; rintro e w' ⟨rfl, rfl⟩; rw [HP.out])
        go_ret
        exact ⟨ret_int (idxFirst_some hlow.out hx.out HP.out).symm, rfl⟩
      · have HP := hide2 (show p x = false by simpa using hpx)
        clear h hpx
        go_wp2_with (refine (hp.calls x).mono ?_; rintro e w' ⟨rfl, rfl⟩; rw [HP.out])
        go_round
        case rel =>
          refine ⟨k + 1, by omega, by go_num, fun j hj y hy => ?_⟩
          by_cases hjk : j = k
          · subst hjk
            have := hx.out
            rw [hy] at this
            injection this with this
            rw [this]
            exact HP.out
          · exact hlow.out j (by omega) y hy
        case measure => simp [intOf]; omega
    · have hL := hide2 h.len
      go_wp2
      go_ret
      exact ⟨ret_int (idxFirst_none (fun j hj y hy => hlow.out j (by have := hL.out; omega) y hy)).symm, rfl⟩

set_option maxRecDepth 100000 in
theorem containsFuncInts {w : World} {A : Option Addr} {n c : Nat} {xs : List Int} {F : FuncId} {cap : Array Value} {p : Int → Bool} (h : Ints w A n c xs) (hp : IsPred F cap w p) :
    Calls Try.prog 92 #[.slice A n c, .func (.func F) #[] cap] w fun e w' => e = .returned (.bool (xs.any p)) ∧ w = w' := by
  go_enter Try.func92, Try.ntmps92
  go_wp2_with (refine (indexFuncInts h hp).mono ?_; rintro e w' ⟨rfl, rfl⟩)
  go_ret
  exact ⟨ret_bool (idxFirst_any _ _), rfl⟩

theorem badN_pred (w : World) : IsPred 165 #[] w badN where
  enters := fun args w => by kernel_rfl
  calls := fun x => by
    go_enter Try.func165, Try.ntmps165
    go_wp2
    all_goals
      go_ret
      exact ⟨ret_bool (by simp [badN]; try omega), rfl⟩
theorem right_calls {w : World} {A : Option Addr} {n c : Nat} {xs : List Int} (h : Ints w A n c xs) :
    Calls Try.prog 154 #[.slice A n c] w fun e w' => e = .returned (.bool (rightB xs)) ∧ w = w' := by
  go_enter Try.func154, Try.ntmps154
  go_wp2_with (refine (containsFuncInts h (badN_pred w)).mono ?_; rintro e w' ⟨rfl, rfl⟩)
  go_ret
  exact ⟨rfl, rfl⟩

set_option maxRecDepth 100000 in
theorem refRight_calls {w : World} {A : Option Addr} {n c : Nat} {xs : List Int} (h : Ints w A n c xs) :
    Calls Try.prog 126 #[.slice A n c] w fun e w' => e = .returned (.bool (rightB xs)) ∧ w = w' := by
  have hn := h.small
  go_enter Try.func126, Try.ntmps126
  go_wp2
  go_loop [3, 8] (fun v i => ∃ k : Nat, k ≤ n ∧ i = .int .i64 k ∧ ∃ b : Bool, v = .bool b ∧ Hid (b = rightB (xs.take k))) (fun _ i => n - (intOf i).toNat)
  case atStart => exact ⟨0, Nat.zero_le _, rfl, true, rfl, rfl⟩
  case round =>
    obtain ⟨k, hk, rfl, v, rfl, hv⟩ := hrel
    by_cases hlt : k < n
    · obtain ⟨b, off, x, rfl, hb, hx, hc⟩ := h.get hlt
      clear h
      cases v
      · go_wp2
        go_round
        case rel =>
          refine ⟨k + 1, by omega, by go_num, false, rfl, ?_⟩
          have h1 := hv.out
          show false = rightB (xs.take (k + 1))
          rw [take_snoc hx.out]
          simp only [rightB, List.any_append] at h1 ⊢
          have h2 : ((List.take k xs).any badN) = true := by simpa using h1.symm
          rw [h2]; rfl
        case measure => simp [intOf]; omega
      · have fin : ∀ b : Bool, (b = true ↔ 0 ≤ x ∧ x ≤ 1000000) → b = rightB (xs.take (k + 1)) := by
          intro b hb
          have h1 := hv.out
          rw [take_snoc hx.out]
          simp only [rightB, List.any_append] at h1 ⊢
          have h2 : ((List.take k xs).any badN) = false := by simpa using h1.symm
          rw [h2]
          cases b
          · simp only [Bool.false_eq_true, false_iff] at hb
            simp [badN]; omega
          · simp only [true_iff] at hb
            simp [badN]; omega
        have FIN := hide2 fin
        clear fin hv
        by_cases h0 : 0 ≤ x
        · by_cases h1 : x ≤ 1000000
          · go_wp2
            go_round
            case rel => exact ⟨k + 1, by omega, by go_num, true, by first | rfl | simp, FIN.out true ⟨fun _ => ⟨h0, h1⟩, fun _ => rfl⟩⟩
            case measure => simp [intOf]; omega
          · go_wp2
            go_round
            case rel => exact ⟨k + 1, by omega, by go_num, false, by first | rfl | simp, FIN.out false ⟨fun h => (by cases h), fun h => (by omega)⟩⟩
            case measure => simp [intOf]; omega
        · go_wp2
          go_round
          case rel => exact ⟨k + 1, by omega, by go_num, false, by first | rfl | simp, FIN.out false ⟨fun h => (by cases h), fun h => (by omega)⟩⟩
          case measure => simp [intOf]; omega
    · have hL := hide2 h.len
      go_wp2
      go_ret
      refine ⟨ret_bool (hv.out.trans ?_), rfl⟩
      rw [List.take_of_length_le (by have := hL.out; omega)]
end Go.Proofs.Ytnfppolgaeibeaa
