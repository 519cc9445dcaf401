/- The contracts of the library's Index and Contains on integers. Conditions: the slices read as lists. -/
import Derived.Test.YtnfppolgaeibeaaMark
namespace Go.Proofs.Ytnfppolgaeibeaa
open Go.RowKit

set_option maxRecDepth 100000 in
theorem indexInt_calls {w : World} {A : Option Addr} {n c : Nat} {xs : List Int} (x : Int) (h : Ints w A n c xs) :
    Calls Try.prog 120 #[.slice A n c, .int .i64 x] w fun e w' => e = .returned (.int .i64 (idxFirst (fun y => x == y) xs)) ∧ w = w' := by
  have hn := h.small
  have H := hide2 h
  clear h
  go_enter Try.func120, Try.ntmps120
  go_wp2
  go_loop [8] (fun v => ∃ k : Nat, k ≤ n ∧ v = .int .i64 k ∧ Hid (∀ j, j < k → ∀ y, xs[j]? = some y → (x == y) = false)) (fun v => n - (intOf v).toNat)
  case atStart => exact ⟨0, Nat.zero_le _, rfl, fun j hj => absurd hj (by omega)⟩
  case round =>
    obtain ⟨k, hk, rfl, lo⟩ := hrel
    by_cases hlt : k < n
    · have hki : (k : Int) < (n : Int) := by omega
      obtain ⟨b, off, y, rfl, hb, hy, qy⟩ := Ints.get H.out hlt
      by_cases he : x = y
      · subst he
        go_wp2
        go_ret
        exact ⟨ret_int (idxFirst_some lo.out hy.out (by simp)).symm, rfl⟩
      · have hne : (x == y) = false := by simpa using he
        have HN := hide2 hne
        clear he
        go_wp2
        go_round
        case rel =>
          refine ⟨k + 1, by omega, by go_num, fun j hj z hz => ?_⟩
          by_cases hjk : j = k
          · subst hjk
            have := hy.out
            rw [hz] at this
            injection this with this
            rw [this]
            exact HN.out
          · exact lo.out j (by omega) z hz
        case measure => simp [intOf]; omega
    · go_wp2
      go_ret
      exact ⟨ret_int (idxFirst_none (fun j hj z hz => lo.out j (by have := H.out.len; omega) z hz)).symm, rfl⟩
set_option maxRecDepth 100000 in
theorem containsInt_calls {w : World} {A : Option Addr} {n c : Nat} {xs : List Int} (x : Int) (h : Ints w A n c xs) :
    Calls Try.prog 87 #[.slice A n c, .int .i64 x] w fun e w' => e = .returned (.bool (xs.any fun y => x == y)) ∧ w = w' := by
  have H := hide2 h
  clear h
  go_enter Try.func87, Try.ntmps87
  go_wp2_with (refine (indexInt_calls x H.out).mono ?_; rintro e w' ⟨rfl, rfl⟩)
  go_ret
  exact ⟨ret_bool (idxFirst_any _ _), rfl⟩
end Go.Proofs.Ytnfppolgaeibeaa
