/- The contracts of tracks.Wrong and of the reference's VWrong. Conditions: the log reads as lists. -/
import Derived.Test.YtnfppolgaeibeaaTrkA
import Derived.Test.YtnfppolgaeibeaaListW
import Derived.Test.YtnfppolgaeibeaaMark
namespace Go.Proofs.Ytnfppolgaeibeaa
open Go.RowKit

theorem badL_pred (w : World) : IsPred 93 #[] w badL where
  enters := fun args w => by kernel_rfl
  calls := fun x => by
    go_enter Try.func93, Try.ntmps93
    go_wp2
    all_goals
      go_ret
      exact ⟨ret_bool (by simp [badL]; try omega), rfl⟩

set_option maxRecDepth 100000 in
set_option maxHeartbeats 1000000 in
theorem tracksWrong_calls {w : World} {A : Option Addr} {n c : Nat} {log : List (List Int)} (h : Lists w A n c log) :
    Calls Try.prog 30 #[.slice A n c] w fun e w' => e = .returned (.int .i64 (wrongV log)) ∧ w = w' := by
  have hn := h.small
  have HL := hide2 h.len
  have H := hide2 h
  clear h
  by_cases h60 : 60 < n
  · have FN := hide2 (wrongV_full (log := log) (by rw [HL.out]; exact h60))
    have h60i : (60 : Int) < (n : Int) := by omega
    go_enter Try.func30, Try.ntmps30
    go_wp2
    go_ret
    exact ⟨ret_int FN.out.symm, rfl⟩
  · have NL := hide2 (show ¬ 60 < log.length by rw [HL.out]; exact h60)
    have h60i : ¬ (60 : Int) < (n : Int) := by omega
    go_enter Try.func30, Try.ntmps30
    go_wp2
    go_loop [10] (fun i => ∃ k : Nat, k ≤ n ∧ i = .int .i64 k ∧ Hid (∀ (j : Nat) (t : List Int), j < k → log[j]? = some t → badTr t = false)) (fun i => n - (intOf i).toNat)
    case atStart => exact ⟨0, Nat.zero_le _, rfl, fun j t hj => absurd hj (by omega)⟩
    case round =>
      obtain ⟨k, hk, rfl, hlow⟩ := hrel
      by_cases hlt : k < n
      · have hki : (k : Int) < (n : Int) := by omega
        obtain ⟨b, off, x, A1, n1, c1, rfl, hb, hx, q0, i1, hn1⟩ := Lists.get H.out hlt
        have IX := hide2 i1
        have BT := hide2 (show badTr x = (decide (60 < n1) || x.any badL) by rw [badTr, i1.len])
        have NX := hide2 (show badTr x = false → ∀ (j : Nat) (t : List Int), j < k + 1 → log[j]? = some t → badTr t = false from fun hf j t hj ht => by
          by_cases e : j = k
          · subst e
            have := hx.out
            rw [ht] at this
            injection this with this
            rw [this]; exact hf
          · exact hlow.out j t (by omega) ht)
        have FB := hide2 (fun hb => wrongV_bad NL.out (List.mem_of_getElem? hx.out) hb)
        clear i1 hlow hx
        by_cases h1 : 60 < n1
        · have FN := hide2 (FB.out (by rw [BT.out]; simp [h1]))
          have h1i : (60 : Int) < (n1 : Int) := by omega
          go_wp2
          go_ret
          exact ⟨ret_int FN.out.symm, rfl⟩
        · have h1i : ¬ (60 : Int) < (n1 : Int) := by omega
          obtain ⟨s, hs⟩ : ∃ s, x.any badL = s := ⟨_, rfl⟩
          have HS := hide2 hs
          clear hs
          cases s
          · have N1 := hide2 (NX.out (by rw [BT.out, HS.out]; simp [h1]))
            go_wp2_with (refine (containsFuncInts IX.out (badL_pred _)).mono ?_; rintro e w' ⟨rfl, rfl⟩; rw [HS.out])
            go_round
            case rel => exact ⟨k + 1, by omega, by go_num, N1⟩
            case measure => simp [intOf]; omega
          · have FN := hide2 (FB.out (by rw [BT.out, HS.out]; simp))
            go_wp2_with (refine (containsFuncInts IX.out (badL_pred _)).mono ?_; rintro e w' ⟨rfl, rfl⟩; rw [HS.out])
            go_ret
            exact ⟨ret_int FN.out.symm, rfl⟩
      · obtain rfl : k = n := by omega
        have FN := hide2 (wrongV_ok NL.out (fun j t hj ht => hlow.out j t (by rw [← HL.out]; exact hj) ht))
        clear hlow
        go_wp2
        go_ret
        exact ⟨ret_int FN.out.symm, rfl⟩

set_option maxRecDepth 100000 in
set_option maxHeartbeats 2000000 in
theorem vwrong_calls {w : World} {A : Option Addr} {n c : Nat} {log : List (List Int)} (h : Lists w A n c log) :
    Calls Try.prog 31 #[.slice A n c] w fun e w' => e = .returned (.int .i64 (wrongV log)) ∧ w = w' := by
  have hn := h.small
  have HL := hide2 h.len
  have H := hide2 h
  clear h
  by_cases h60 : 60 < n
  · have FN := hide2 (wrongV_full (log := log) (by rw [HL.out]; exact h60))
    have h60i : (60 : Int) < (n : Int) := by omega
    go_enter Try.func31, Try.ntmps31
    go_wp2
    go_ret
    exact ⟨ret_int FN.out.symm, rfl⟩
  · have NL := hide2 (show ¬ 60 < log.length by rw [HL.out]; exact h60)
    have h60i : ¬ (60 : Int) < (n : Int) := by omega
    go_enter Try.func31, Try.ntmps31
    go_wp2
    go_loop [12] (fun i => ∃ k : Nat, k ≤ n ∧ i = .int .i64 k ∧ Hid (∀ (j : Nat) (t : List Int), j < k → log[j]? = some t → badTr t = false)) (fun i => n - (intOf i).toNat)
    case atStart => exact ⟨0, Nat.zero_le _, rfl, fun j t hj => absurd hj (by omega)⟩
    case round =>
      obtain ⟨k, hk, rfl, hlow⟩ := hrel
      by_cases hlt : k < n
      · have hki : (k : Int) < (n : Int) := by omega
        obtain ⟨b, off, x, A1, n1, c1, rfl, hb, hx, q0, i1, hn1⟩ := Lists.get H.out hlt
        have IX := hide2 i1
        have LX := hide2 i1.len
        have NX := hide2 (show badTr x = false → ∀ (j : Nat) (t : List Int), j < k + 1 → log[j]? = some t → badTr t = false from fun hf j t hj ht => by
          by_cases e : j = k
          · subst e
            have := hx.out
            rw [ht] at this
            injection this with this
            rw [this]; exact hf
          · exact hlow.out j t (by omega) ht)
        have FB := hide2 (fun hb => wrongV_bad NL.out (List.mem_of_getElem? hx.out) hb)
        clear i1 hlow hx
        go_wp2
        go_loop [18] (fun i => ∃ q : Nat, q ≤ n1 ∧ i = .int .i64 q ∧ Hid (∀ (j : Nat) (y : Int), j < q → x[j]? = some y → badL y = false ∧ j < 60)) (fun i => n1 - (intOf i).toNat)
        case atStart => exact ⟨0, Nat.zero_le _, rfl, fun j y hj => absurd hj (by omega)⟩
        case round =>
          obtain ⟨q, hq, rfl, hlo2⟩ := hrel
          by_cases hqn : q < n1
          · have hqi : (q : Int) < (n1 : Int) := by omega
            obtain ⟨b', off', y, rfl, hb', hy, qy⟩ := IX.out.get hqn
            have FY := hide2 (fun hb => FB.out (badTr_at hy.out hb))
            have NY := hide2 (show badL y = false → q < 60 → ∀ (j : Nat) (z : Int), j < q + 1 → x[j]? = some z → badL z = false ∧ j < 60 from fun hf h6 j z hj hz => by
              by_cases e : j = q
              · subst e
                have := hy.out
                rw [hz] at this
                injection this with this
                rw [this]; exact ⟨hf, h6⟩
              · exact hlo2.out j z (by omega) hz)
            clear hlo2 hy
            by_cases h1 : y < 1
            · have FN := hide2 (FY.out (.inl (by simp [badL, h1])))
              go_wp2
              go_ret
              exact ⟨ret_int FN.out.symm, rfl⟩
            · by_cases h2 : 26 < y
              · have FN := hide2 (FY.out (.inl (by simp [badL, h2])))
                go_wp2
                go_ret
                exact ⟨ret_int FN.out.symm, rfl⟩
              · by_cases h3 : 60 ≤ q
                · have FN := hide2 (FY.out (.inr h3))
                  have h3i : (60 : Int) ≤ (q : Int) := by omega
                  go_wp2
                  go_ret
                  exact ⟨ret_int FN.out.symm, rfl⟩
                · have N1 := hide2 (NY.out (by simp [badL]; omega) (by omega))
                  have h3i : ¬ (60 : Int) ≤ (q : Int) := by omega
                  go_wp2
                  go_round
                  case rel => exact ⟨q + 1, by omega, by go_num, N1⟩
                  case measure => simp [intOf]; omega
          · obtain rfl : q = n1 := by omega
            have N1 := hide2 (NX.out (badTr_not (fun j y hj hy => hlo2.out j y (by rw [← LX.out]; exact hj) hy)))
            clear hlo2
            go_wp2
            go_round
            case rel => exact ⟨k + 1, by omega, by go_num, N1⟩
            case measure => simp [intOf]; omega
      · obtain rfl : k = n := by omega
        have FN := hide2 (wrongV_ok NL.out (fun j t hj ht => hlow.out j t (by rw [← HL.out]; exact hj) ht))
        clear hlow
        go_wp2
        go_ret
        exact ⟨ret_int FN.out.symm, rfl⟩
end Go.Proofs.Ytnfppolgaeibeaa
