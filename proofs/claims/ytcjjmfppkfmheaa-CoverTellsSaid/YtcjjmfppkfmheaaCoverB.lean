/- The contracts of below, emore and EBelow. Conditions: the slices read as lists of one length. -/
import Derived.Test.YtcjjmfppkfmheaaCoverA
import Derived.Test.YtcjjmfppkfmheaaMarkE
namespace Go.Proofs.Ytcjjmfppkfmheaa
open Go.RowKit

theorem getD_at {xs : List Int} {k : Nat} {x : Int} (h : xs[k]? = some x) : xs.getD k 0 = x := by rw [List.getD_eq_getElem?_getD, h]; rfl
theorem belowB_false {xs ys : List Int} {k : Nat} {x y : Int} (hx : xs[k]? = some x) (hy : ys[k]? = some y) (h : emoreB x y = true) : belowB xs ys = false := by
  cases hb : belowB xs ys with
  | false => rfl
  | true =>
    have := (belowB_iff xs ys).1 hb k (List.getElem?_eq_some_iff.1 hy).1
    rw [getD_at hx, getD_at hy, h] at this
    cases this
set_option maxRecDepth 100000 in
theorem emore_calls (w : World) (a b : Int) : Calls Try.prog 63 #[.int .i64 a, .int .i64 b] w fun e w' => e = .returned (.bool (emoreB a b)) ∧ w = w' := by
  by_cases hb : b = -1
  · subst hb
    go_enter Try.func63, Try.ntmps63
    go_wp2
    go_ret
    exact ⟨ret_bool (by simp [emoreB]), rfl⟩
  · by_cases ha : a = -1
    · subst ha
      have HB := hide2 (show emoreB (-1) b = true by rw [emoreB_iff]; exact ⟨hb, .inl rfl⟩)
      go_enter Try.func63, Try.ntmps63
      go_wp2
      go_ret
      exact ⟨ret_bool (by rw [HB.out]; simp [*]), rfl⟩
    · by_cases hlt : b < a
      · have HB := hide2 (show emoreB a b = true by rw [emoreB_iff]; exact ⟨hb, .inr hlt⟩)
        go_enter Try.func63, Try.ntmps63
        go_wp2
        go_ret
        exact ⟨ret_bool (by rw [HB.out]; simp [*]), rfl⟩
      · have HB := hide2 (show emoreB a b = false by rw [emoreB_not]; exact .inr ⟨ha, by omega⟩)
        go_enter Try.func63, Try.ntmps63
        go_wp2
        go_ret
        exact ⟨ret_bool (by rw [HB.out]; simp [*]), rfl⟩
set_option maxRecDepth 100000 in
theorem below_calls {w : World} {A B : Option Addr} {n c d : Nat} {xs ys : List Int} (h : Ints w A n c xs) (g : Ints w B n d ys) :
    Calls Try.prog 58 #[.slice A n c, .slice B n d] w fun e w' => e = .returned (.bool (belowB xs ys)) ∧ w = w' := by
  have hn := h.small
  have HL := hide2 h.len
  have GL := hide2 g.len
  go_enter Try.func58, Try.ntmps58
  go_wp2
  go_loop [9] (fun i => ∃ k : Nat, k ≤ n ∧ i = .int .i64 k ∧ Hid (∀ j, j < k → emoreB (xs.getD j 0) (ys.getD j 0) = false)) (fun i => n - (intOf i).toNat)
  case atStart => exact ⟨0, Nat.zero_le _, rfl, fun j hj => absurd hj (by omega)⟩
  case round =>
    obtain ⟨k, hk, rfl, hlow⟩ := hrel
    by_cases hlt : k < n
    · obtain ⟨b, off, x, rfl, hb, hx, q0⟩ := h.get hlt
      obtain ⟨b', off', y, rfl, hb', hy, q1⟩ := g.get hlt
      have hki : (k : Int) < (n : Int) := by omega
      have NX := hide2 (show emoreB x y = false → ∀ j, j < k + 1 → emoreB (xs.getD j 0) (ys.getD j 0) = false from fun hf j hj => by
        by_cases hjk : j = k
        · subst hjk; rw [getD_at hx.out, getD_at hy.out]; exact hf
        · exact hlow.out j (by omega))
      have BF := hide2 (show emoreB x y = true → belowB xs ys = false from fun ht => belowB_false hx.out hy.out ht)
      clear hx hy h g
      by_cases hyy : y = -1
      · have N1 := hide2 (NX.out (by rw [emoreB_not]; exact .inl hyy))
        subst hyy
        go_wp2
        go_round
        case rel => exact ⟨k + 1, by omega, by go_num, N1⟩
        case measure => simp [intOf]; omega
      · by_cases hxx : x = -1
        · have F1 := hide2 (BF.out (by rw [emoreB_iff]; exact ⟨hyy, .inl hxx⟩))
          subst hxx
          go_wp2
          go_ret
          exact ⟨ret_bool F1.out.symm, rfl⟩
        · have hxb : (x == -1) = false := by simpa using hxx
          have hyb : (y != -1) = true := by simpa using hyy
          by_cases hxy : y < x
          · have F1 := hide2 (BF.out (by rw [emoreB_iff]; exact ⟨hyy, .inr hxy⟩))
            go_wp2
            go_ret
            exact ⟨ret_bool F1.out.symm, rfl⟩
          · have N1 := hide2 (NX.out (by rw [emoreB_not]; exact .inr ⟨hxx, by omega⟩))
            go_wp2
            go_round
            case rel => exact ⟨k + 1, by omega, by go_num, N1⟩
            case measure => simp [intOf]; omega
    · clear h g
      go_wp2
      go_ret
      exact ⟨ret_bool ((belowB_iff xs ys).2 (fun p hp => hlow.out p (by have := GL.out; omega))).symm, rfl⟩
set_option maxRecDepth 100000 in
theorem ebelow_calls {w : World} {A B : Option Addr} {n c d : Nat} {xs ys : List Int} (h : Ints w A n c xs) (g : Ints w B n d ys) :
    Calls Try.prog 62 #[.slice A n c, .slice B n d] w fun e w' => e = .returned (.bool (belowB xs ys)) ∧ Drew w w' := by
  have hn := h.small
  have HL := hide2 h.len
  have GL := hide2 g.len
  go_enter Try.func62, Try.ntmps62
  go_wp2
  go_loopw [8] (fun i wr => ∃ k : Nat, k ≤ n ∧ i = .int .i64 k ∧ Hid (∀ j, j < k → emoreB (xs.getD j 0) (ys.getD j 0) = false) ∧ Drew w wr) (fun i _ => n - (intOf i).toNat)
  case atStart => exact ⟨0, Nat.zero_le _, rfl, fun j hj => absurd hj (by omega), Drew.refl _⟩
  case round =>
    obtain ⟨k, hk, rfl, hlow, hdr⟩ := hrel
    have h' := h.keep hdr.below
    have g' := g.keep hdr.below
    by_cases hlt : k < n
    · obtain ⟨b, off, x, rfl, hb, hx, q0⟩ := h'.get hlt
      obtain ⟨b', off', y, rfl, hb', hy, q1⟩ := g'.get hlt
      have hki : (k : Int) < (n : Int) := by omega
      have NX := hide2 (show emoreB x y = false → ∀ j, j < k + 1 → emoreB (xs.getD j 0) (ys.getD j 0) = false from fun hf j hj => by
        by_cases hjk : j = k
        · subst hjk; rw [getD_at hx.out, getD_at hy.out]; exact hf
        · exact hlow.out j (by omega))
      have BF := hide2 (show emoreB x y = true → belowB xs ys = false from fun ht => belowB_false hx.out hy.out ht)
      obtain ⟨v, hv⟩ : ∃ v, emoreB x y = v := ⟨_, rfl⟩
      rw [hv] at NX BF
      have EM := hide2 (fun (w' : World) => emore_calls w' x y)
      simp only [hv] at EM
      clear hx hy h g h' g' hv
      cases v
      · have N1 := hide2 (NX.out rfl)
        go_wp2_with fail
        go_quiet ((go_at_call 63; exact quietCall (EM.out _)))
        go_wp2
        go_roundw
        case rel => exact ⟨k + 1, by omega, by go_num, N1, hdr.more _⟩
        case measure => simp [intOf]; omega
      · have F1 := hide2 (BF.out rfl)
        go_wp2_with fail
        go_quiet ((go_at_call 63; exact quietCall (EM.out _)))
        go_wp2
        go_ret
        exact ⟨ret_bool F1.out.symm, hdr.more _⟩
    · clear h' g' h g
      go_wp2
      go_ret
      exact ⟨ret_bool ((belowB_iff xs ys).2 (fun p hp => hlow.out p (by have := GL.out; omega))).symm, hdr⟩
end Go.Proofs.Ytcjjmfppkfmheaa
