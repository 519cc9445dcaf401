/- The law Names as a call: it returns true. Conditions: none. -/
import Derived.Test.YtenpmekibiflaaaOwn
import Derived.Deep.QuietTactic
import Derived.BigQuiet
namespace Go.Proofs.Ytenpmekibiflaaa
open Go.RowKit

theorem names_cells : ∀ i, i < 38 → (#[.int .i64 1000000, .int .i64 16, .int .i64 24, .int .i64 9, .int .i64 26, .int .i64 300, .int .i64 40, .int .i64 400, .int .i64 8, .int .i64 60, .int .i64 60, .int .i64 8, .int .i64 1, .int .i64 2, .int .i64 3, .int .i64 4, .int .i64 1, .int .i64 2, .int .i64 3, .int .i64 4, .int .i64 5, .int .i64 6, .int .i64 1, .int .i64 2, .int .i64 3, .int .i64 4, .int .i64 1, .int .i64 2, .int .i64 3, .int .i64 4, .int .i64 5, .int .i64 1, .int .i64 2, .int .i64 3, .int .i64 1, .int .i64 2, .int .i64 3, .int .i64 (-1)] : Array Value)[i]? = some (.int .i64 (([1000000, 16, 24, 9, 26, 300, 40, 400, 8, 60, 60, 8, 1, 2, 3, 4, 1, 2, 3, 4, 5, 6, 1, 2, 3, 4, 1, 2, 3, 4, 5, 1, 2, 3, 1, 2, 3, -1] : List Int).getD i 0))
  | 0, _ => rfl
  | 1, _ => rfl
  | 2, _ => rfl
  | 3, _ => rfl
  | 4, _ => rfl
  | 5, _ => rfl
  | 6, _ => rfl
  | 7, _ => rfl
  | 8, _ => rfl
  | 9, _ => rfl
  | 10, _ => rfl
  | 11, _ => rfl
  | 12, _ => rfl
  | 13, _ => rfl
  | 14, _ => rfl
  | 15, _ => rfl
  | 16, _ => rfl
  | 17, _ => rfl
  | 18, _ => rfl
  | 19, _ => rfl
  | 20, _ => rfl
  | 21, _ => rfl
  | 22, _ => rfl
  | 23, _ => rfl
  | 24, _ => rfl
  | 25, _ => rfl
  | 26, _ => rfl
  | 27, _ => rfl
  | 28, _ => rfl
  | 29, _ => rfl
  | 30, _ => rfl
  | 31, _ => rfl
  | 32, _ => rfl
  | 33, _ => rfl
  | 34, _ => rfl
  | 35, _ => rfl
  | 36, _ => rfl
  | 37, _ => rfl
  | n + 38, h => absurd h (by omega)

set_option maxRecDepth 100000 in
set_option maxHeartbeats 1000000 in
theorem names_walk {w : World} : Calls Try.prog 11 #[] w fun e w' => e = .returned (.bool true) ∧ Below w.heap.size w w' := by
  have HB := hide2 (show Below w.heap.size w w from Below.refl _ _)
  go_enter Try.func11, Try.ntmps11
  go_wp2
  go_loop [10] (fun i => ∃ k : Nat, k ≤ 9 ∧ i = .int .i64 k) (fun i => 9 - (intOf i).toNat)
  case atStart => exact ⟨0, by omega, rfl⟩
  case round =>
    obtain ⟨k, hk, rfl⟩ := hrel
    by_cases hlt : k < 9
    · have hc : (w.alloc (.cells #[.int .i64 0, .int .i64 1, .int .i64 2, .int .i64 3, .int .i64 4, .int .i64 5, .int .i64 6, .int .i64 7, .int .i64 8] 25)).cell? ⟨w.heap.size, k, none⟩ = some (.int .i64 k) := by
        rw [World.cell?_alloc_new]
        match k, hlt with
        | 0, _ => rfl
        | 1, _ => rfl
        | 2, _ => rfl
        | 3, _ => rfl
        | 4, _ => rfl
        | 5, _ => rfl
        | 6, _ => rfl
        | 7, _ => rfl
        | 8, _ => rfl
      go_wp2
      go_round
      case rel => exact ⟨k + 1, by omega, by go_num⟩
      case measure => simp [intOf]; omega
    · obtain rfl : k = 9 := by omega
      go_wp2
      generalize hW : ((w.alloc (.cells #[.int .i64 0, .int .i64 1, .int .i64 2, .int .i64 3, .int .i64 4, .int .i64 5, .int .i64 6, .int .i64 7, .int .i64 8] 25)).alloc (.cells #[.int .i64 1000000, .int .i64 16, .int .i64 24, .int .i64 9, .int .i64 26, .int .i64 300, .int .i64 40, .int .i64 400, .int .i64 8, .int .i64 60, .int .i64 60, .int .i64 8, .int .i64 1, .int .i64 2, .int .i64 3, .int .i64 4, .int .i64 1, .int .i64 2, .int .i64 3, .int .i64 4, .int .i64 5, .int .i64 6, .int .i64 1, .int .i64 2, .int .i64 3, .int .i64 4, .int .i64 1, .int .i64 2, .int .i64 3, .int .i64 4, .int .i64 5, .int .i64 1, .int .i64 2, .int .i64 3, .int .i64 1, .int .i64 2, .int .i64 3, .int .i64 (-1)] 3)).alloc (.cells #[.int .i64 1000000, .int .i64 16, .int .i64 24, .int .i64 9, .int .i64 26, .int .i64 300, .int .i64 40, .int .i64 400, .int .i64 8, .int .i64 60, .int .i64 60, .int .i64 8, .int .i64 1, .int .i64 2, .int .i64 3, .int .i64 4, .int .i64 1, .int .i64 2, .int .i64 3, .int .i64 4, .int .i64 5, .int .i64 6, .int .i64 1, .int .i64 2, .int .i64 3, .int .i64 4, .int .i64 1, .int .i64 2, .int .i64 3, .int .i64 4, .int .i64 5, .int .i64 1, .int .i64 2, .int .i64 3, .int .i64 1, .int .i64 2, .int .i64 3, .int .i64 (-1)] 3) = W
      have hb : Below w.heap.size w W := by
        rw [← hW]
        exact (((Below.refl _ _).alloc (Nat.le_refl _) _).alloc (by simp) _).alloc (by simp; omega) _
      have hcells : ∀ i, i < 38 → ∃ x, W.cell? ⟨w.heap.size + 1, i, none⟩ = some (.int .i64 x) ∧ W.cell? ⟨w.heap.size + 1 + 1, i, none⟩ = some (.int .i64 x) := by
        intro i hi
        refine ⟨([1000000, 16, 24, 9, 26, 300, 40, 400, 8, 60, 60, 8, 1, 2, 3, 4, 1, 2, 3, 4, 5, 6, 1, 2, 3, 4, 1, 2, 3, 4, 5, 1, 2, 3, 1, 2, 3, -1] : List Int).getD i 0, ?_, ?_⟩
        · rw [← hW, World.cell?_alloc_lt _ _ _ (by simp), show (⟨w.heap.size + 1, i, none⟩ : Addr) = ⟨(w.alloc (.cells #[.int .i64 0, .int .i64 1, .int .i64 2, .int .i64 3, .int .i64 4, .int .i64 5, .int .i64 6, .int .i64 7, .int .i64 8] 25)).heap.size, i, none⟩ from by simp, World.cell?_alloc_new]
          exact names_cells i hi
        · rw [← hW, show (⟨w.heap.size + 1 + 1, i, none⟩ : Addr) = ⟨((w.alloc (.cells #[.int .i64 0, .int .i64 1, .int .i64 2, .int .i64 3, .int .i64 4, .int .i64 5, .int .i64 6, .int .i64 7, .int .i64 8] 25)).alloc (.cells #[.int .i64 1000000, .int .i64 16, .int .i64 24, .int .i64 9, .int .i64 26, .int .i64 300, .int .i64 40, .int .i64 400, .int .i64 8, .int .i64 60, .int .i64 60, .int .i64 8, .int .i64 1, .int .i64 2, .int .i64 3, .int .i64 4, .int .i64 1, .int .i64 2, .int .i64 3, .int .i64 4, .int .i64 5, .int .i64 6, .int .i64 1, .int .i64 2, .int .i64 3, .int .i64 4, .int .i64 1, .int .i64 2, .int .i64 3, .int .i64 4, .int .i64 5, .int .i64 1, .int .i64 2, .int .i64 3, .int .i64 1, .int .i64 2, .int .i64 3, .int .i64 (-1)] 3)).heap.size, i, none⟩ from by simp, World.cell?_alloc_new]
          exact names_cells i hi
      have HB2 := hide2 hb
      have HC := hide2 hcells
      clear hW hb hcells
      go_loopw [23] (fun i wr => ∃ k : Nat, k ≤ 38 ∧ i = .int .i64 k ∧ ∃ q, Hid (wr = W.drewN q)) (fun i _ => 38 - (intOf i).toNat)
      case atStart => exact ⟨0, by omega, rfl, 0, rfl⟩
      case round =>
        obtain ⟨k, hk, rfl, q, hq⟩ := hrel
        by_cases hlt : k < 38
        · obtain ⟨x, h1, h2⟩ := HC.out k hlt
          have h1' : wr.cell? ⟨w.heap.size + 1, k, none⟩ = some (.int .i64 x) := by rw [hq.out]; exact h1
          have h2' : wr.cell? ⟨w.heap.size + 1 + 1, k, none⟩ = some (.int .i64 x) := by rw [hq.out]; exact h2
          have hi : (k : Int) < 38 := by omega
          clear h1 h2
          go_wp2
          go_quiet (fail)
          go_wp2
          go_roundw
          case rel => exact ⟨k + 1, by omega, by go_num, _, by show _ = _; rw [hq.out, World.drewN_drewN]⟩
          case measure => simp [intOf]; omega
        · go_wp2
          go_ret
          refine ⟨rfl, ?_⟩
          rw [hq.out]
          exact HB2.out.trans ⟨rfl, rfl, rfl, Nat.le_refl _, fun _ _ => rfl⟩
end Go.Proofs.Ytenpmekibiflaaa
