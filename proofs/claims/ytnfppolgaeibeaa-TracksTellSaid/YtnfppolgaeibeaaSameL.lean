/- The contract of SameLists on lists of lists that read as the same. Conditions: they read as lists. (Cut out of ReachK.) -/
import Derived.Test.YtnfppolgaeibeaaListW
import Derived.Test.YtnfppolgaeibeaaMarkE
namespace Go.Proofs.Ytnfppolgaeibeaa
open Go.RowKit

set_option maxRecDepth 100000 in
theorem sameOne_calls {w : World} {A B : Option Addr} {n c m d : Nat} {xs : List Int} (h : Ints w A n c xs) (g : Ints w B m d xs) :
    Calls Try.prog 96 #[.slice A n c, .slice B m d] w fun e w' => e = .returned (.bool true) ∧ Below w.heap.size w w' := by
  have H := hide2 h
  have G := hide2 g
  clear h g
  go_enter Try.func96, Try.ntmps96
  go_wp2_with ((with_reducible refine (equalInts_calls H.out G.out).mono ?_); rintro e w4 ⟨rfl, dr⟩; have BD := hide2 dr.below; clear dr)
  go_ret
  exact ⟨by simp, BD.out⟩
theorem sameOne_enters : ∀ args w, (callFunc 96 args).run Try.prog w = .ok (.enter 96 args) w := fun args w => by kernel_rfl
set_option maxRecDepth 100000 in
theorem equalLists_same {w : World} {A B : Option Addr} {n c m d : Nat} {xs : List (List Int)} (h : Lists w A n c xs) (g : Lists w B m d xs) :
    Calls Try.prog 95 #[.slice A n c, .slice B m d, .func (.func 96) #[] #[]] w fun e w' => e = .returned (.bool true) ∧ Below w.heap.size w w' := by
  have hn := h.small
  have henter := sameOne_enters
  obtain rfl : n = m := by rw [← h.len, ← g.len]
  have H := hide2 h
  have G := hide2 g
  clear h g
  go_enter Try.func95, Try.ntmps95
  go_wp2
  go_loopw [17] (fun i wr => ∃ k : Nat, k ≤ n ∧ i = .int .i64 k ∧ Hid (Below w.heap.size w wr)) (fun i _ => n - (intOf i).toNat)
  case atStart => exact ⟨0, Nat.zero_le _, rfl, hide2 (Below.refl _ _)⟩
  case round =>
    obtain ⟨k, hk, rfl, D⟩ := hrel
    by_cases hlt : k < n
    · have hki : (k : Int) < (n : Int) := by omega
      obtain ⟨b, off, x, A1, n1, c1, rfl, hb, hx, q0, i1, _⟩ := Lists.get (Sl.keep ListR.kept H.out D.out) hlt
      obtain ⟨b', off', y, A2, n2, c2, rfl, hb', hy, q1, i2, _⟩ := Lists.get (Sl.keep ListR.kept G.out D.out) hlt
      obtain rfl : x = y := by have h1 := hx.out; rw [hy.out] at h1; injection h1 with h1; exact h1.symm
      have I1 := hide2 i1
      have I2 := hide2 i2
      clear hx hy i1 i2
      go_wp2_with ((with_reducible refine (sameOne_calls I1.out I2.out).mono ?_); rintro e w4 ⟨rfl, hb4⟩; have BD := hide2 hb4; clear hb4)
      go_roundw
      case rel => exact ⟨k + 1, by omega, by go_num, hide2 (D.out.trans (BD.out.mono D.out.size))⟩
      case measure => simp [intOf]; omega
    · go_wp2
      go_ret
      exact ⟨rfl, D.out⟩
set_option maxRecDepth 100000 in
theorem sameLists_same {w : World} {A B : Option Addr} {n c m d : Nat} {xs : List (List Int)} (h : Lists w A n c xs) (g : Lists w B m d xs) :
    Calls Try.prog 33 #[.slice A n c, .slice B m d] w fun e w' => e = .returned (.bool true) ∧ Below w.heap.size w w' := by
  have H := hide2 h
  have G := hide2 g
  clear h g
  go_enter Try.func33, Try.ntmps33
  go_wp2_with ((with_reducible refine (equalLists_same H.out G.out).mono ?_); rintro e w4 ⟨rfl, hb4⟩; have BD := hide2 hb4; clear hb4)
  go_ret
  exact ⟨rfl, BD.out⟩
end Go.Proofs.Ytnfppolgaeibeaa
