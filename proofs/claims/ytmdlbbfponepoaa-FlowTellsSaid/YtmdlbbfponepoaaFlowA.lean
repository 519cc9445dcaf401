/- Contracts of flow.bounded, flow.Weigh and of the references' cwithin and CWeigh. Conditions: the slices read as lists of integers. -/
import Derived.Test.YtmdlbbfponepoaaPlainD
import Derived.Test.YtmdlbbfponepoaaMarkC
import Derived.Test.YtmdlbbfponepoaaNetN
import Derived.Lib.MinMax
namespace Go.Proofs.Ytmdlbbfponepoaa
open Go.RowKit

theorem outB_pred {w : World} {least : Int} {b : Nat} (h : w.cell? ⟨b, 0, none⟩ = some (.int .i64 least)) : IsPred 122 #[.pointer (some ⟨b, 0, none⟩)] w (outB least) where
  enters := fun args w => by kernel_rfl
  calls := fun x => by
    go_enter Try.func122, Try.ntmps122
    go_wp2
    all_goals
      go_ret
      exact ⟨ret_bool (by simp [outB]; try omega), rfl⟩

set_option maxRecDepth 100000 in
theorem bounded_calls {w : World} {A : Option Addr} {n c : Nat} {xs : List Int} (many least : Int) (h : Ints w A n c xs) :
    Calls Try.prog 62 #[.slice A n c, .int .i64 many, .int .i64 least] w fun e w' => e = .returned (.bool (boundB xs many least)) ∧ Below w.heap.size w w' := by
  have HB := hide2 (boxBelow w)
  have H := hide2 h
  have HL := hide2 h.len
  clear h
  go_enter Try.func62, Try.ntmps62
  by_cases hm : (n : Int) = many
  · have W := hide2 (show boundB xs many least = !xs.any (outB least) from by rw [boundB, HL.out, hm]; simp)
    subst hm
    go_wp2_with fail
    refine (containsFuncInts (H.out.keep (HB.out _)) (outB_pred (least := least) (by simp))).mono ?_
    rintro e w1 ⟨rfl, rfl⟩
    go_wp2
    go_ret
    exact ⟨ret_bool (by rw [W.out]), HB.out _⟩
  · have W := hide2 (show boundB xs many least = false from by rw [boundB, HL.out, decide_eq_false hm]; rfl)
    have hm' := hm
    go_wp2_with fail
    go_ret
    exact ⟨ret_bool (by rw [W.out]), HB.out _⟩

theorem outB_take {xs : List Int} {least x : Int} {k : Nat} (hx : xs[k]? = some x) : (!(xs.take (k + 1)).any (outB least)) = ((!(xs.take k).any (outB least)) && !outB least x) := by
  rw [take_snoc hx]; simp

set_option maxRecDepth 100000 in
theorem within_calls {w : World} {A : Option Addr} {n c : Nat} {xs : List Int} (many least : Int) (h : Ints w A n c xs) :
    Calls Try.prog 65 #[.slice A n c, .int .i64 many, .int .i64 least] w fun e w' => e = .returned (.bool (boundB xs many least)) ∧ w = w' := by
  have hn := h.small
  have HL := hide2 h.len
  go_enter Try.func65, Try.ntmps65
  go_wp2
  go_loop [7, 16] (fun v i => ∃ k : Nat, k ≤ n ∧ i = .int .i64 k ∧ ∃ b : Bool, v = .bool b ∧ Hid (b = (decide ((n : Int) = many) && !(xs.take k).any (outB least)))) (fun _ i => n - (intOf i).toNat)
  case atStart => exact ⟨0, Nat.zero_le _, rfl, _, rfl, by show _ = _; simp; rfl⟩
  case round =>
    obtain ⟨k, hk, rfl, v, rfl, hv⟩ := hrel
    by_cases hlt : k < n
    · obtain ⟨b, off, x, rfl, hb, hx, hc⟩ := h.get hlt
      clear h
      have fin : ∀ b' : Bool, b' = (v && !outB least x) → Hid (b' = (decide ((n : Int) = many) && !(xs.take (k + 1)).any (outB least))) := fun b' e => by
        show _ = _
        rw [e, outB_take hx.out, hv.out, Bool.and_assoc]
      have F := hide2 fin
      clear fin hv
      cases v
      · go_wp2
        go_round
        case rel => exact ⟨k + 1, by omega, by go_num, false, rfl, F.out _ rfl⟩
        case measure => simp [intOf]; omega
      · go_wp2
        all_goals
          go_round
          case rel => exact ⟨k + 1, by omega, by go_num, _, rfl, F.out _ (by by_cases a1 : x < least <;> by_cases a2 : 1000000 < x <;> simp [outB, a1, a2] <;> omega)⟩
          case measure => simp [intOf]; omega
    · obtain rfl : k = n := by omega
      have W := hide2 (show v = boundB xs many least from by rw [hv.out, List.take_of_length_le (by rw [HL.out]; omega), boundB, HL.out])
      go_wp2
      go_ret
      exact ⟨ret_bool W.out, rfl⟩
end Go.Proofs.Ytmdlbbfponepoaa
