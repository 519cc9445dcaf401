/- Where a round of the reference stands, edge by edge: the plain law; what both answer. No program in sight. -/
import Derived.Test.YtnidicfanbkgjaaAlnA
import Derived.Test.YtnidicfanbkgjaaTongJ
namespace Go.Proofs.Ytnidicfanbkgjaa

section
variable {ars : List PArc} {lb : Int → Int} {tr : List Int} {n : Nat} {p0 : List (List Int) × Bool}
def stK (ars : List PArc) (lb : Int → Int) (tr : List Int) (n : Nat) (p0 : List (List Int) × Bool) (k : Nat) : List (List Int) × Bool := ((List.range k).flatMap (edK ars lb tr n)).foldl relE p0
def stA (ars : List PArc) (lb : Int → Int) (tr : List Int) (n : Nat) (p0 : List (List Int) × Bool) (k q : Nat) : List (List Int) × Bool := ((ars.take q).flatMap (edA lb tr k)).foldl relE (stK ars lb tr n p0 k)
def stM (ars : List PArc) (lb : Int → Int) (tr : List Int) (n : Nat) (p0 : List (List Int) × Bool) (k m : Nat) : List (List Int) × Bool := ((List.range m).flatMap (edM tr k)).foldl relE (stA ars lb tr n p0 k ars.length)
theorem stK_zero : stK ars lb tr n p0 0 = p0 := rfl
theorem stA_zero (k : Nat) : stA ars lb tr n p0 k 0 = stK ars lb tr n p0 k := by simp [stA]
theorem stA_succ {k q : Nat} {a : PArc} (h : ars[q]? = some a) : stA ars lb tr n p0 k (q + 1) = (edA lb tr k a).foldl relE (stA ars lb tr n p0 k q) := by
  unfold stA
  rw [take_snoc h, List.flatMap_append, List.foldl_append]
  simp
theorem stM_zero (k : Nat) : stM ars lb tr n p0 k 0 = stA ars lb tr n p0 k ars.length := by simp [stM]
theorem stM_succ (k m : Nat) : stM ars lb tr n p0 k (m + 1) = (edM tr k m).foldl relE (stM ars lb tr n p0 k m) := by
  unfold stM
  rw [List.range_succ, List.flatMap_append, List.foldl_append]
  simp
theorem stM_full (k : Nat) : stM ars lb tr n p0 k n = stK ars lb tr n p0 (k + 1) := by
  unfold stM stA stK
  rw [List.take_length, ← List.foldl_append, ← List.foldl_append, List.range_succ, List.flatMap_append]
  congr 1
  simp [edK]
theorem stK_all : stK ars lb tr n p0 (tr.length + 1) = (edAll ars lb tr n).foldl relE p0 := rfl
theorem sub_K {k : Nat} (hk : k ≤ tr.length + 1) : ∀ e ∈ (List.range k).flatMap (edK ars lb tr n), e ∈ edAll ars lb tr n := fun e he => by
  unfold edAll
  obtain ⟨j, hj, h⟩ := List.mem_flatMap.1 he
  exact List.mem_flatMap.2 ⟨j, List.mem_range.2 (by have := List.mem_range.1 hj; omega), h⟩
theorem sub_A {k q : Nat} (hk : k < tr.length + 1) : ∀ e ∈ (ars.take q).flatMap (edA lb tr k), e ∈ edAll ars lb tr n := fun e he => by
  obtain ⟨a, ha, h⟩ := List.mem_flatMap.1 he
  exact mem_edAll.2 ⟨k, hk, .inl ⟨a, List.mem_of_mem_take ha, h⟩⟩
theorem sub_M {k m : Nat} (hk : k < tr.length + 1) (hm : m ≤ n) : ∀ e ∈ (List.range m).flatMap (edM tr k), e ∈ edAll ars lb tr n := fun e he => by
  obtain ⟨j, hj, h⟩ := List.mem_flatMap.1 he
  exact mem_edAll.2 ⟨k, hk, .inr ⟨j, by have := List.mem_range.1 hj; omega, h⟩⟩
theorem inv_K (M : Mono relE (edAll ars lb tr n) (CosI (Ed ars lb tr) tr.length n) sumT) (h : CosI (Ed ars lb tr) tr.length n p0.1) {k : Nat} (hk : k ≤ tr.length + 1) : CosI (Ed ars lb tr) tr.length n (stK ars lb tr n p0 k).1 := (M.passTo _ (sub_K hk) p0 h).inv
theorem inv_A (M : Mono relE (edAll ars lb tr n) (CosI (Ed ars lb tr) tr.length n) sumT) (h : CosI (Ed ars lb tr) tr.length n p0.1) {k : Nat} (hk : k < tr.length + 1) (q : Nat) : CosI (Ed ars lb tr) tr.length n (stA ars lb tr n p0 k q).1 := (M.passTo _ (sub_A hk) _ (inv_K M h (Nat.le_of_lt hk))).inv
theorem inv_M (M : Mono relE (edAll ars lb tr n) (CosI (Ed ars lb tr) tr.length n) sumT) (h : CosI (Ed ars lb tr) tr.length n p0.1) {k m : Nat} (hk : k < tr.length + 1) (hm : m ≤ n) : CosI (Ed ars lb tr) tr.length n (stM ars lb tr n p0 k m).1 := (M.passTo _ (sub_M hk hm) _ (inv_A M h hk _)).inv
theorem inv_E (M : Mono relE (edAll ars lb tr n) (CosI (Ed ars lb tr) tr.length n) sumT) {p : List (List Int) × Bool} (h : CosI (Ed ars lb tr) tr.length n p.1) {e : PRel} (he : e ∈ edAll ars lb tr n) : CosI (Ed ars lb tr) tr.length n (relE p e).1 := (M.passTo [e] (fun x hx => by rw [List.mem_singleton.1 hx]; exact he) p h).inv
/-- The table as it is made. -/
def fars (n k : Nat) : List (List Int) := List.replicate k (List.replicate n far)
theorem fars_succ (n k : Nat) : fars n (k + 1) = fars n k ++ [List.replicate n far] := by simp [fars, List.replicate_succ']
def firstT (n k : Nat) : List (List Int) := setT (fars n k) 0 0 0
theorem fars_at {n k i m : Nat} (hi : i < k) (hm : m < n) : (fars n k)[i]? = some (List.replicate n far) ∧ (List.replicate n far)[m]? = some far := ⟨by simp [fars, hi], by simp [hm]⟩
theorem CosI.start (hn : 0 < n) : CosI (Ed ars lb tr) tr.length n (firstT n (tr.length + 1)) := by
  obtain ⟨h0, h1⟩ := fars_at (n := n) (k := tr.length + 1) (i := 0) (m := 0) (by omega) hn
  have key : ∀ i m, i < tr.length + 1 → m < n → atT (firstT n (tr.length + 1)) i m = if i = 0 ∧ m = 0 then 0 else far := fun i m hi hm => by
    unfold firstT
    rw [atT_set h0 h1]
    split
    · rfl
    · obtain ⟨g0, g1⟩ := fars_at (n := n) (k := tr.length + 1) hi hm
      exact atT_eq g0 g1
  refine ⟨by unfold firstT; rw [setT_eq h0]; simp [fars], fun k r hr => ?_, fun k m hk hm => ?_, fun k m hk hm hlt => ?_, ?_⟩
  · unfold firstT at hr
    rw [setT_eq h0, List.getElem?_set] at hr
    split at hr
    · split at hr
      · injection hr with hr; subst hr; simp
      · cases hr
    · have := List.mem_of_getElem? hr
      unfold fars at this
      rw [List.eq_of_mem_replicate this]; simp
  · rw [key k m hk hm]
    unfold far
    split <;> omega
  · rw [key k m hk hm] at hlt ⊢
    split
    · rename_i e
      obtain ⟨rfl, rfl⟩ := e
      exact .nil
    · rename_i e
      rw [if_neg e] at hlt
      omega
  · rw [key 0 0 (by omega) hn, if_pos ⟨rfl, rfl⟩]
end

/-! ### what both answer -/
def CostP (N : PNet) (i o : Int) (tr : List Int) (c e : Int) : Prop :=
  if (tongS N i o).2 ≠ 0 then c = 0 ∧ e = (tongS N i o).2 else if 60 < tr.length then c = 0 ∧ e = 2 else match findL (tongS N i o).1.marks (endL N o) with
    | none => c = 0 ∧ e = 3
    | some k => e = 0 ∧ IsMin (Ed (tongS N i o).1.arcs (atI (labL N)) tr) ((tr.length : Int), (k : Int)) c
theorem CostP.uniq {N : PNet} {i o : Int} {tr : List Int} {c e d f : Int} (h : CostP N i o tr c e) (g : CostP N i o tr d f) : c = d ∧ e = f := by
  unfold CostP at h g
  split at h
  · rename_i h1
    rw [if_pos h1] at g
    omega
  · rename_i h1
    rw [if_neg h1] at g
    split at h
    · rename_i h2
      rw [if_pos h2] at g
      omega
    · rename_i h2
      rw [if_neg h2] at g
      split at h
      · rename_i h3
        rw [h3] at g
        simp only at g
        omega
      · rename_i k h3
        rw [h3] at g
        simp only at g
        exact ⟨h.2.uniq g.2, by omega⟩
theorem tongS_sp {N : PNet} {i o : Int} {s : PSp} (h : tongS N i o = (s, 0)) : SpOk N 300 s := by
  unfold tongS at h
  split at h
  · have h2 : (graphL N (oneL (min N.places 16).toNat i) 300).2 = 0 := by rw [h]
    have := (graphL_most h2).2
    rw [h] at this
    exact this
  · rename_i h0
    injection h with _ h2
    exact absurd h2 h0
theorem costP_err {N : PNet} {i o : Int} {tr : List Int} {s : PSp} {k : Int} (h : tongS N i o = (s, k)) (hk : k ≠ 0) : CostP N i o tr 0 k := by
  unfold CostP
  rw [h, if_pos hk]
  exact ⟨rfl, rfl⟩
theorem costP_long {N : PNet} {i o : Int} {tr : List Int} {s : PSp} (h : tongS N i o = (s, 0)) (hl : 60 < tr.length) : CostP N i o tr 0 2 := by
  unfold CostP
  rw [h, if_neg (by simp), if_pos hl]
  first | exact ⟨rfl, rfl⟩ | trivial
theorem costP_none {N : PNet} {i o : Int} {tr : List Int} {s : PSp} (h : tongS N i o = (s, 0)) (hl : ¬ 60 < tr.length) (hf : findL s.marks (endL N o) = none) : CostP N i o tr 0 3 := by
  unfold CostP
  rw [h, if_neg (by simp), if_neg hl]
  simp only [hf]
  first | exact ⟨rfl, rfl⟩ | trivial
theorem costP_some {N : PNet} {i o : Int} {tr : List Int} {s : PSp} {k : Nat} {c : Int} (h : tongS N i o = (s, 0)) (hl : ¬ 60 < tr.length) (hf : findL s.marks (endL N o) = some k) (hm : IsMin (Ed s.arcs (atI (labL N)) tr) ((tr.length : Int), (k : Int)) c) : CostP N i o tr c 0 := by
  unfold CostP
  rw [h, if_neg (by simp), if_neg hl]
  simp only [hf]
  first | exact ⟨rfl, hm⟩ | exact ⟨trivial, hm⟩
end Go.Proofs.Ytnidicfanbkgjaa
