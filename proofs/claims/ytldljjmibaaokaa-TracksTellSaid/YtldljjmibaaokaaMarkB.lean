/- Contracts of package mark and of the references of chapter 1, part two. Conditions: the slices read as lists of integers. -/
import Derived.Test.YtldljjmibaaokaaMark
namespace Go.Proofs.Ytldljjmibaaokaa
open Go.RowKit

set_option maxRecDepth 100000 in
theorem at_calls {w : World} {A : Option Addr} {n c : Nat} {xs : List Int} (h : Ints w A n c xs) (p : Nat) :
    Calls Try.prog 168 #[.slice A n c, .int .i64 p] w fun e w' => e = .returned (.int .i64 (atL xs p)) ∧ w = w' := by
  have hn := h.small
  by_cases hlt : p < n
  · obtain ⟨b, off, x, rfl, hb, hx, hc⟩ := h.get hlt
    clear h
    go_enter Try.func168, Try.ntmps168
    go_wp2
    go_ret
    exact ⟨ret_int (atL_some hx.out).symm, rfl⟩
  · have hL := hide2 h.len
    clear h
    go_enter Try.func168, Try.ntmps168
    go_wp2
    go_ret
    exact ⟨ret_int (atL_none (by have := hL.out; omega)).symm, rfl⟩

set_option maxRecDepth 100000 in
theorem refAt_calls {w : World} {A : Option Addr} {n c : Nat} {xs : List Int} (h : Ints w A n c xs) (p : Nat) :
    Calls Try.prog 171 #[.slice A n c, .int .i64 p] w fun e w' => e = .returned (.int .i64 (atL xs p)) ∧ w = w' := by
  have hn := h.small
  go_enter Try.func171, Try.ntmps171
  go_wp2
  go_loop [5, 10] (fun v i => ∃ k : Nat, k ≤ n ∧ i = .int .i64 k ∧ ∃ x : Int, v = .int .i64 x ∧ Hid (x = if p < k then atL xs p else 0)) (fun _ i => n - (intOf i).toNat)
  case atStart => exact ⟨0, Nat.zero_le _, rfl, 0, rfl, by simp [Hid]⟩
  case round =>
    obtain ⟨k, hk, rfl, v, rfl, hv⟩ := hrel
    by_cases hlt : k < n
    · obtain ⟨b, off, x, rfl, hb, hx, hc⟩ := h.get hlt
      clear h
      by_cases hkp : k = p
      · subst hkp
        go_wp2
        go_round
        case rel => exact ⟨k + 1, by omega, by go_num, x, rfl, by rw [if_pos (by omega)]; exact (atL_some hx.out).symm⟩
        case measure => simp [intOf]; omega
      · have hkp' : ((k : Int) == (p : Int)) = false := by simp; omega
        have HN := hide2 hkp
        clear hkp
        go_wp2
        go_round
        case rel =>
          refine ⟨k + 1, by omega, by go_num, v, rfl, hv.out.trans ?_⟩
          have := HN.out
          by_cases h1 : p < k
          · rw [if_pos h1, if_pos (by omega)]
          · rw [if_neg h1, if_neg (by omega)]
        case measure => simp [intOf]; omega
    · have hL := hide2 h.len
      go_wp2
      go_ret
      refine ⟨ret_int (hv.out.trans ?_), rfl⟩
      by_cases h1 : p < k
      · rw [if_pos h1]
      · rw [if_neg h1, atL_none (by have := hL.out; omega)]

set_option maxRecDepth 100000 in
theorem covers_calls {w : World} {A B : Option Addr} {n c m d : Nat} {xs ys : List Int} (h : Ints w A n c xs) (g : Ints w B m d ys) :
    Calls Try.prog 137 #[.slice A n c, .slice B m d] w fun e w' => e = .returned (.bool (coversB xs ys)) ∧ w = w' := by
  have hn := h.small
  have hm := g.small
  obtain ⟨M, hM⟩ : ∃ M : Nat, max n m = M := ⟨_, rfl⟩
  have hMb : M ≤ 281474976710656 := by omega
  have hmx : max (n : Int) (m : Int) = (M : Int) := by omega
  have HM := hide2 hM
  clear hM
  go_enter Try.func137, Try.ntmps137
  go_wp2
  clear hmx
  go_loop [11] (fun i => ∃ k : Nat, k ≤ M ∧ i = .int .i64 k ∧ Hid (∀ j, j < k → atL ys j ≤ atL xs j)) (fun i => M - (intOf i).toNat)
  case atStart => exact ⟨0, Nat.zero_le _, rfl, fun j hj => absurd hj (by omega)⟩
  case round =>
    obtain ⟨k, hk, rfl, hlow⟩ := hrel
    by_cases hlt : k < M
    · by_cases hc : atL xs k < atL ys k
      · go_wp2_with (first | ((with_reducible refine (at_calls h k).mono ?_); rintro e w' ⟨rfl, rfl⟩) | ((with_reducible refine (at_calls g k).mono ?_); rintro e w' ⟨rfl, rfl⟩))
        go_ret
        exact ⟨ret_bool (coversB_false hc).symm, rfl⟩
      · go_wp2_with (first | ((with_reducible refine (at_calls h k).mono ?_); rintro e w' ⟨rfl, rfl⟩) | ((with_reducible refine (at_calls g k).mono ?_); rintro e w' ⟨rfl, rfl⟩))
        go_round
        case rel =>
          refine ⟨k + 1, by omega, by go_num, fun j hj => ?_⟩
          by_cases hjk : j = k
          · subst hjk; omega
          · exact hlow.out j (by omega)
        case measure => simp [intOf]; omega
    · have hL := hide2 h.len
      have gL := hide2 g.len
      go_wp2
      go_ret
      refine ⟨ret_bool ?_, rfl⟩
      symm
      rw [coversB_iff]
      intro p hp
      exact hlow.out p (by have := hL.out; have := gL.out; have := HM.out; omega)

end Go.Proofs.Ytldljjmibaaokaa
