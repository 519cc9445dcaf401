/- The contract of the reference's CCount. Conditions: the sequence reads as a list; as many transitions as memory bears. -/
import Derived.Test.YtmdlbbfponepoaaFlowC
namespace Go.Proofs.Ytmdlbbfponepoaa
open Go.RowKit

theorem countL_succ (k : Nat) (seq : List Int) : countL (k + 1) seq = countL k seq ++ [(timesL seq (k : Int) : Int)] := by
  simp [countL, List.range_succ]

set_option maxRecDepth 100000 in
theorem refCount_calls {w : World} {P : Int} {A S : Option Addr} {n c l e0 : Nat} {seq : List Int} (hn : n ≤ 2513169434916) (s : Ints w S l e0 seq) :
    Calls Try.prog 15 #[.agg #[.int .i64 P, .slice A n c], .slice S l e0] w (AnsI n (countL n seq) w) := by
  have HB := hide2 (boxBelow w)
  have hl := s.small
  have SS := hide2 s
  have SL := hide2 s.len
  clear s
  go_enter Try.func15, Try.ntmps15
  go_wp2
  go_loopw [5, 13] (fun v i wr => ∃ k : Nat, k ≤ n ∧ i = .int .i64 k ∧ Hid (OwnInts wr w.heap.size v k (countL k seq)) ∧ Hid (Below w.heap.size w wr)) (fun _ i _ => n - (intOf i).toNat)
  case atStart => exact ⟨0, Nat.zero_le _, rfl, OwnSl.nil, HB.out _⟩
  case round =>
    obtain ⟨k, hk, rfl, own, hb⟩ := hrel
    by_cases hlt : k < n
    · have hkn : (k : Int) < (n : Int) := by omega
      have SR := hide2 (SS.out.keep hb.out)
      go_wp2
      go_loop [7, 18] (fun m i => ∃ j z : Nat, j ≤ l ∧ i = .int .i64 j ∧ m = .int .i64 (z : Int) ∧ z ≤ j ∧ Hid (z = timesL (seq.take j) (k : Int))) (fun _ i => l - (intOf i).toNat)
      case atStart => exact ⟨0, 0, Nat.zero_le _, rfl, rfl, Nat.le_refl _, by show _ = _; simp [timesL]⟩
      case round =>
        obtain ⟨j, z, hj, rfl, rfl, hz, hv⟩ := hrel
        by_cases hjl : j < l
        · obtain ⟨b, off, x, rfl, hbl, hx, hc⟩ := SR.out.get hjl
          have hji : (j : Int) < (l : Int) := by omega
          by_cases hxk : x = (k : Int)
          · subst hxk
            have F := hide2 (show z + 1 = timesL (seq.take (j + 1)) (k : Int) by rw [take_snoc hx.out, timesL_snoc, if_pos rfl, ← hv.out])
            go_wp2
            go_round
            case rel => exact ⟨j + 1, z + 1, by omega, by go_num, by go_num, by omega, F⟩
            case measure => simp [intOf]; omega
          · have F := hide2 (show z = timesL (seq.take (j + 1)) (k : Int) by rw [take_snoc hx.out, timesL_snoc, if_neg hxk, ← hv.out]; rfl)
            have hne : (x == (k : Int)) = false := by simpa using hxk
            clear hxk
            go_wp2
            go_round
            case rel => exact ⟨j + 1, z, by omega, by go_num, rfl, by omega, F⟩
            case measure => simp [intOf]; omega
        · obtain rfl : j = l := by omega
          have F := hide2 (show countL (k + 1) seq = countL k seq ++ [(z : Int)] by rw [countL_succ, hv.out, List.take_of_length_le (by rw [SL.out]; exact Nat.le_refl _)])
          go_wp2_with (at_builtin; refine wpList_appInt rfl _ _ rfl rfl rfl (by first | rfl | simp) own.out hb.out hb.out.size (by omega) ?_; intro v2 w2 own2 hg2 hb2)
          go_roundw
          case rel => exact ⟨k + 1, by omega, by go_num, by rw [F.out]; exact own2, hb2⟩
          case measure => simp [intOf]; omega
    · obtain rfl : k = n := by omega
      go_wp2
      go_ret
      obtain ⟨C, cc, hv, hi⟩ := own.out.sl (by omega)
      exact ⟨C, cc, by rw [← hv]; rfl, hi, hb.out⟩
end Go.Proofs.Ytmdlbbfponepoaa
