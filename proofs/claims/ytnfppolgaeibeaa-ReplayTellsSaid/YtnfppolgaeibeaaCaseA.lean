/- Contracts of shape.Start, HStart, SameInts and of the library's Equal on error numbers. Conditions: the slices read as lists of integers. | Contracts of SameInts, SameCase, of the library's Equal on error numbers, of cases.Right, PRight, cases.Begin and PBegin. Conditions: the net and the case read as lists. -/
import Derived.Test.YtnfppolgaeibeaaPlainC
import Derived.Test.YtnfppolgaeibeaaBox
import Derived.Test.YtnfppolgaeibeaaNetD
import Derived.Test.YtnfppolgaeibeaaMarkE
import Derived.Test.YtnfppolgaeibeaaHeld
namespace Go.Proofs.Ytnfppolgaeibeaa
open Go.RowKit

theorem OwnSl.fresh {α : Type} {R : World → (Nat → Value) → α → Prop} {sz : Nat} {w w' : World} {e n n' c : Nat} {v : Value} {xs : List α} {A : Option Addr} (h : OwnSl R sz w' w.heap.size e v n xs) (hv : v = .slice A n' c) : Fresh w A := by
  obtain ⟨cells, h1, _⟩ := h
  rcases h1.2 with ⟨rfl, _⟩ | ⟨g, cap, cur, rfl, hg, _⟩
  · cases hv; exact Fresh.none
  · cases hv; exact Fresh.at hg
/-- What a call answers that hands back a new list of integers, so many. -/
def AnsIF (n : Nat) (xs : List Int) (w : World) (e : Ending) (w' : World) : Prop :=
  ∃ C k, e = .returned (.slice C n k) ∧ Ints w' C n k xs ∧ Below w.heap.size w w' ∧ Fresh w C

set_option maxRecDepth 100000 in
theorem one_calls (w : World) (P i : Int) (hP : P ≤ 16) :
    Calls Try.prog 45 #[.int .i64 P, .int .i64 i] w (AnsIF P.toNat (oneL P.toNat i) w) := by
  obtain ⟨n, hn⟩ : ∃ n : Nat, P.toNat = n := ⟨_, rfl⟩
  have hm : max P 0 = (n : Int) := by omega
  have hn16 : n ≤ 16 := by omega
  rw [hn]
  clear hn
  go_enter Try.func45, Try.ntmps45
  by_cases h : 0 ≤ i ∧ i < (n : Int)
  · obtain ⟨k, rfl⟩ : ∃ k : Nat, i = (k : Int) := ⟨i.toNat, by omega⟩
    have hk : k < n := by omega
    have hki : (k : Int) < (n : Int) := by omega
    have hk0 : (0 : Int) ≤ (k : Int) := by omega
    clear h
    go_wp2_with (at_make; refine wpList_mk Try.underlying35 infoInt rfl rfl _ _ rfl n rfl rfl (by first | rfl | exact hm) (by first | rfl | exact hm) (by omega) (by omega) (Below.refl _ _) (Nat.le_refl _) ?_; intro w1 own1 hg1 hb1; have hcell : w1.cell? ⟨w.heap.size, k, none⟩ = some (.int .i64 0) := (by rw [own1.cellAt k (by omega)]; simp [hk]); have hfz : w1.frozen? ⟨w.heap.size, k, none⟩ = false := own1.frozenAt k)
    have HST := hide2 (own1.stored k (.int .i64 1)).1
    go_ret
    have o2 := HST.out
    rw [show (List.replicate n (Value.int .i64 0)).set k (.int .i64 1) = (oneL n (k : Int)).map (Value.int .i64) by rw [← oneL_set, List.map_set, List.map_replicate]] at o2
    obtain ⟨C, cc, hv, hi⟩ := Ints.of_own o2 (by omega)
    exact ⟨C, cc, by rw [← hv]; rfl, hi, hb1.setCell (Nat.le_refl _) _, by cases hv; exact Fresh.at (Nat.le_refl _)⟩
  · have HF := hide2 (oneL_out n i h)
    by_cases h0 : 0 ≤ i
    · have h1 : (n : Int) ≤ i := by omega
      clear h
      go_wp2_with (at_make; refine wpList_mk Try.underlying35 infoInt rfl rfl _ _ rfl n rfl rfl (by first | rfl | exact hm) (by first | rfl | exact hm) (by omega) (by omega) (Below.refl _ _) (Nat.le_refl _) ?_; intro w1 own1 hg1 hb1)
      go_ret
      have o2 := own1
      rw [show List.replicate n (Value.int .i64 0) = (oneL n i).map (Value.int .i64) by rw [← HF.out, List.map_replicate]] at o2
      obtain ⟨C, cc, hv, hi⟩ := Ints.of_own o2 (by omega)
      exact ⟨C, cc, by rw [← hv]; rfl, hi, hb1, by cases hv; exact Fresh.at (Nat.le_refl _)⟩
    · clear h
      go_wp2_with (at_make; refine wpList_mk Try.underlying35 infoInt rfl rfl _ _ rfl n rfl rfl (by first | rfl | exact hm) (by first | rfl | exact hm) (by omega) (by omega) (Below.refl _ _) (Nat.le_refl _) ?_; intro w1 own1 hg1 hb1)
      go_ret
      have o2 := own1
      rw [show List.replicate n (Value.int .i64 0) = (oneL n i).map (Value.int .i64) by rw [← HF.out, List.map_replicate]] at o2
      obtain ⟨C, cc, hv, hi⟩ := Ints.of_own o2 (by omega)
      exact ⟨C, cc, by rw [← hv]; rfl, hi, hb1, by cases hv; exact Fresh.at (Nat.le_refl _)⟩

set_option maxRecDepth 100000 in
theorem start_calls (w : World) (P i : Int) (A : Option Addr) (n c : Nat) :
    Calls Try.prog 15 #[.agg #[.int .i64 P, .slice A n c], .int .i64 i] w (AnsIF (min P 16).toNat (oneL (min P 16).toNat i) w) := by
  have HB := hide2 (boxBelow w)
  obtain ⟨m, hm⟩ : ∃ m : Int, min P 16 = m := ⟨_, rfl⟩
  have h16 : m ≤ 16 := by omega
  rw [show (min P 16).toNat = m.toNat by rw [hm]]
  go_enter Try.func15, Try.ntmps15
  go_wp2_with fail
  refine (one_calls _ m i h16).mono ?_
  rintro e w1 ⟨C, k, rfl, hi, hb, hf⟩
  clear hm
  have HI := hide2 hi
  have HF := hide2 (hf.mono (show w.heap.size ≤ _ by simp))
  have B1 := hide2 ((HB.out (.cells #[.int .i64 P, .slice A n c] 27)).trans (hb.mono (by simp)))
  clear hi hb hf
  go_wp2
  go_ret
  exact ⟨C, k, rfl, HI.out, B1.out, HF.out⟩

set_option maxRecDepth 100000 in
theorem refStart_calls (w : World) (P i : Int) (A : Option Addr) (n c : Nat) :
    Calls Try.prog 16 #[.agg #[.int .i64 P, .slice A n c], .int .i64 i] w (AnsIF (min P 16).toNat (oneL (min P 16).toNat i) w) := by
  have HB := hide2 (boxBelow w)
  obtain ⟨m, hm⟩ : ∃ m : Int, min P 16 = m := ⟨_, rfl⟩
  have h16 : m ≤ 16 := by omega
  rw [show (min P 16).toNat = m.toNat by rw [hm]]
  go_enter Try.func16, Try.ntmps16
  go_wp2
  go_loopw [5, 10] (fun v j wr => ∃ k : Nat, k ≤ m.toNat ∧ j = .int .i64 k ∧ Hid (OwnInts wr w.heap.size v k (oneL k i)) ∧ Hid (Below w.heap.size w wr)) (fun _ j _ => m.toNat - (intOf j).toNat)
  case atStart => exact ⟨0, Nat.zero_le _, rfl, OwnSl.nil, HB.out _⟩
  case round =>
    obtain ⟨k, hk, rfl, own, hb⟩ := hrel
    by_cases hlt : (k : Int) < m
    · by_cases hki : (k : Int) = i
      · have F := hide2 (show oneL (k + 1) i = oneL k i ++ [1] by rw [oneL_succ, if_pos hki])
        subst hki
        go_wp2_with (at_builtin; refine wpList_appInt rfl _ _ rfl rfl rfl (by first | rfl | simp) own.out hb.out hb.out.size (by omega) ?_; intro v2 w2 own2 hg2 hb2)
        go_roundw
        case rel => exact ⟨k + 1, by omega, by go_num, by rw [F.out]; exact own2, hb2⟩
        case measure => simp [intOf]; omega
      · have F := hide2 (show oneL (k + 1) i = oneL k i ++ [0] by rw [oneL_succ, if_neg hki])
        have hne : ((k : Int) == i) = false := by simpa using hki
        clear hki
        go_wp2_with (at_builtin; refine wpList_appInt rfl _ _ rfl rfl rfl (by first | rfl | simp) own.out hb.out hb.out.size (by omega) ?_; intro v2 w2 own2 hg2 hb2)
        go_roundw
        case rel => exact ⟨k + 1, by omega, by go_num, by rw [F.out]; exact own2, hb2⟩
        case measure => simp [intOf]; omega
    · have hkm : k = m.toNat := by omega
      have hkm' := hide2 hkm
      clear hkm
      go_wp2
      go_ret
      obtain ⟨C, cc, hv, hi⟩ := own.out.sl (by omega)
      rw [← hkm'.out]
      exact ⟨C, cc, by rw [← hv]; rfl, hi, hb.out, OwnSl.fresh own.out hv⟩
end Go.Proofs.Ytnfppolgaeibeaa
namespace Go.Proofs.Ytnfppolgaeibeaa
open Go.RowKit

end Go.Proofs.Ytnfppolgaeibeaa
