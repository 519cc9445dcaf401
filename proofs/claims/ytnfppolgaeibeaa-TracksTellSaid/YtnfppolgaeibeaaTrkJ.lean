/- What the reference's VOf lists, and that it is what Of answers: the plain law. -/
import Derived.Test.YtnfppolgaeibeaaTrkI
namespace Go.Proofs.Ytnfppolgaeibeaa

def rng (k : Nat) : List Int := (List.range k).map fun i : Nat => (i : Int) + 1
theorem rng_succ (k : Nat) : rng (k + 1) = rng k ++ [(k : Int) + 1] := by simp [rng, List.range_succ]
theorem rng_len (k : Nat) : (rng k).length = k := by simp [rng]
theorem mem_rng {k : Nat} {x : Int} : x ∈ rng k ↔ 1 ≤ x ∧ x ≤ k := by
  unfold rng
  rw [List.mem_map]
  constructor
  · rintro ⟨i, hi, rfl⟩
    have := List.mem_range.1 hi
    omega
  · rintro ⟨h1, h2⟩
    exact ⟨(x - 1).toNat, List.mem_range.2 (by omega), by omega⟩
theorem rng_asc : ∀ k : Nat, (rng k).Pairwise (· < ·)
  | 0 => by simp [rng]
  | k + 1 => by
    rw [rng_succ, List.pairwise_append]
    refine ⟨rng_asc k, List.pairwise_singleton _ _, fun a ha b hb => ?_⟩
    have := (mem_rng.1 ha).2
    rw [List.mem_singleton] at hb
    omega
def onR (log : List (List Int)) (p : Int → List Int → Bool) (k : Nat) : List Int := (rng k).filter fun a => log.any (p a)
theorem onR_yes {log : List (List Int)} {p : Int → List Int → Bool} {k : Nat} (h : log.any (p ((k : Int) + 1)) = true) : onR log p (k + 1) = onR log p k ++ [(k : Int) + 1] := by
  unfold onR
  rw [rng_succ, List.filter_append]
  simp [h]
theorem onR_no {log : List (List Int)} {p : Int → List Int → Bool} {k : Nat} (h : log.any (p ((k : Int) + 1)) = false) : onR log p (k + 1) = onR log p k := by
  unfold onR
  rw [rng_succ, List.filter_append]
  simp only [List.filter_cons, List.filter_nil, h, List.append_nil, if_neg Bool.false_ne_true]
theorem onR_len (log : List (List Int)) (p : Int → List Int → Bool) (k : Nat) : (onR log p k).length ≤ k := by
  have := List.length_filter_le (fun a => log.any (p a)) (rng k)
  rw [rng_len] at this
  exact this
theorem onR_asc (log : List (List Int)) (p : Int → List Int → Bool) (k : Nat) : (onR log p k).Pairwise (· < ·) := List.Pairwise.sublist List.filter_sublist (rng_asc k)
theorem mem_onR {log : List (List Int)} {p : Int → List Int → Bool} {k : Nat} {x : Int} : x ∈ onR log p k ↔ (1 ≤ x ∧ x ≤ k) ∧ ∃ t ∈ log, p x t = true := by
  unfold onR
  rw [List.mem_filter, mem_rng, List.any_eq_true]
def behI (log : List (List Int)) (a : Int) (j : Nat) : List (Int × Int) := ((rng j).filter fun b => log.any (p5 a b)).map fun b => (a, b)
theorem behI_yes {log : List (List Int)} {a : Int} {j : Nat} (h : log.any (p5 a ((j : Int) + 1)) = true) : behI log a (j + 1) = behI log a j ++ [(a, (j : Int) + 1)] := by
  unfold behI
  rw [rng_succ, List.filter_append]
  simp [h]
theorem behI_no {log : List (List Int)} {a : Int} {j : Nat} (h : log.any (p5 a ((j : Int) + 1)) = false) : behI log a (j + 1) = behI log a j := by
  unfold behI
  rw [rng_succ, List.filter_append]
  simp only [List.filter_cons, List.filter_nil, h, List.append_nil, if_neg Bool.false_ne_true]
theorem behI_len (log : List (List Int)) (a : Int) (j : Nat) : (behI log a j).length ≤ j := by
  unfold behI
  rw [List.length_map]
  have := List.length_filter_le (fun b => log.any (p5 a b)) (rng j)
  rw [rng_len] at this
  exact this
theorem mem_behI {log : List (List Int)} {a : Int} {j : Nat} {q : Int × Int} : q ∈ behI log a j ↔ q.1 = a ∧ (1 ≤ q.2 ∧ q.2 ≤ j) ∧ ∃ t ∈ log, p5 a q.2 t = true := by
  unfold behI
  rw [List.mem_map]
  constructor
  · rintro ⟨b, hb, rfl⟩
    rw [List.mem_filter, mem_rng, List.any_eq_true] at hb
    exact ⟨rfl, hb⟩
  · rintro ⟨h1, h2, h3⟩
    refine ⟨q.2, ?_, by rw [← h1]⟩
    rw [List.mem_filter, mem_rng, List.any_eq_true]
    exact ⟨h2, h3⟩
theorem behI_asc (log : List (List Int)) (a : Int) (j : Nat) : (behI log a j).Pairwise pairLt := by
  unfold behI
  rw [List.pairwise_map]
  exact (List.Pairwise.sublist List.filter_sublist (rng_asc j)).imp fun h => .inr ⟨rfl, h⟩
def behB (log : List (List Int)) (k : Nat) : List (Int × Int) := (rng k).flatMap fun a => behI log a 26
theorem behB_succ (log : List (List Int)) (k : Nat) : behB log (k + 1) = behB log k ++ behI log ((k : Int) + 1) 26 := by
  unfold behB
  rw [rng_succ, List.flatMap_append]
  simp
theorem behB_len (log : List (List Int)) : ∀ k : Nat, (behB log k).length ≤ 26 * k
  | 0 => by simp [behB, rng]
  | k + 1 => by
    rw [behB_succ, List.length_append]
    have := behB_len log k
    have := behI_len log ((k : Int) + 1) 26
    omega
theorem mem_behB {log : List (List Int)} {k : Nat} {q : Int × Int} : q ∈ behB log k ↔ (1 ≤ q.1 ∧ q.1 ≤ k) ∧ (1 ≤ q.2 ∧ q.2 ≤ 26) ∧ ∃ t ∈ log, p5 q.1 q.2 t = true := by
  unfold behB
  rw [List.mem_flatMap]
  constructor
  · rintro ⟨a, ha, h⟩
    obtain ⟨e, h2, h3⟩ := mem_behI.1 h
    subst e
    exact ⟨mem_rng.1 ha, h2, h3⟩
  · rintro ⟨h1, h2, h3⟩
    exact ⟨q.1, mem_rng.2 h1, mem_behI.2 ⟨rfl, h2, h3⟩⟩
theorem behB_asc (log : List (List Int)) : ∀ k : Nat, (behB log k).Pairwise pairLt
  | 0 => by simp [behB, rng]
  | k + 1 => by
    rw [behB_succ, List.pairwise_append]
    refine ⟨behB_asc log k, behI_asc _ _ _, fun a ha b hb => ?_⟩
    have h1 := (mem_behB.1 ha).1.2
    have h2 := (mem_behI.1 hb).1
    exact .inl (by omega)
/-- As far as it has come: labels to k1, first to k2, last to k3, the pairs of the labels to k, and of the next to j. -/
def gotV (log : List (List Int)) (k1 k2 k3 k j : Nat) : PPrints := ⟨onR log p2 k1, onR log p3 k2, onR log p4 k3, behB log k ++ behI log ((k : Int) + 1) j⟩
theorem gotV_start (log : List (List Int)) : gotV log 0 0 0 0 0 = emptyP := by simp [gotV, emptyP, onR, behB, behI, rng]
theorem gotV_next (log : List (List Int)) (k1 k2 k3 k : Nat) : gotV log k1 k2 k3 k 26 = gotV log k1 k2 k3 (k + 1) 0 := by
  simp [gotV, behB_succ, behI, rng]
theorem gotV_len (log : List (List Int)) (k1 k2 k3 k j : Nat) : (gotV log k1 k2 k3 k j).labels.length ≤ k1 ∧ (gotV log k1 k2 k3 k j).first.length ≤ k2 ∧ (gotV log k1 k2 k3 k j).last.length ≤ k3 ∧ (gotV log k1 k2 k3 k j).behind.length ≤ 26 * k + j := by
  refine ⟨onR_len _ _ _, onR_len _ _ _, onR_len _ _ _, ?_⟩
  show (behB log k ++ behI log ((k : Int) + 1) j).length ≤ _
  rw [List.length_append]
  have := behB_len log k
  have := behI_len log ((k : Int) + 1) j
  omega
theorem gotV_shows {log : List (List Int)} (h : wrongV log = 0) : OfP log (gotV log 26 26 26 26 0) 0 := by
  refine ⟨h.symm, ?_⟩
  rw [if_pos h]
  obtain ⟨_, hall⟩ := wrongV_zero h
  have hd : ∀ {t : List Int} {x : Int}, t ∈ log → x ∈ t → 1 ≤ x ∧ x ≤ (26 : Nat) := fun ht hx => (hall _ ht).2 _ hx
  have hb : behB log 26 ++ behI log (((26 : Nat) : Int) + 1) 0 = behB log 26 := by simp [behI, rng]
  refine ⟨⟨onR_asc _ _ _, fun x => ?_⟩, ⟨onR_asc _ _ _, fun x => ?_⟩, ⟨onR_asc _ _ _, fun x => ?_⟩, ?_⟩
  · show x ∈ onR log p2 26 ↔ _
    rw [mem_onR]
    unfold allP p2
    constructor
    · rintro ⟨_, t, ht, hp⟩
      obtain ⟨y, hy, e⟩ := List.any_eq_true.1 hp
      simp only [beq_iff_eq] at e
      exact ⟨t, ht, e ▸ hy⟩
    · rintro ⟨t, ht, hx⟩
      exact ⟨hd ht hx, t, ht, List.any_eq_true.2 ⟨x, hx, by simp⟩⟩
  · show x ∈ onR log p3 26 ↔ _
    rw [mem_onR]
    unfold firstP p3
    constructor
    · rintro ⟨_, t, ht, hp⟩
      exact ⟨t, ht, of_decide_eq_true hp⟩
    · rintro ⟨t, ht, hx⟩
      exact ⟨hd ht (List.mem_of_head? hx), t, ht, decide_eq_true hx⟩
  · show x ∈ onR log p4 26 ↔ _
    rw [mem_onR]
    unfold lastP p4
    constructor
    · rintro ⟨_, t, ht, hp⟩
      exact ⟨t, ht, of_decide_eq_true hp⟩
    · rintro ⟨t, ht, hx⟩
      exact ⟨hd ht (List.mem_of_getLast? hx), t, ht, decide_eq_true hx⟩
  · show (behB log 26 ++ behI log (((26 : Nat) : Int) + 1) 0).Pairwise pairLt ∧ ∀ x, x ∈ behB log 26 ++ behI log (((26 : Nat) : Int) + 1) 0 ↔ _
    rw [hb]
    refine ⟨behB_asc _ _, fun q => ?_⟩
    rw [mem_behB]
    unfold behP
    constructor
    · rintro ⟨_, _, t, ht, hp⟩
      exact ⟨t, ht, p5_iff.1 hp⟩
    · rintro ⟨t, ht, k, h1, h2⟩
      exact ⟨hd ht (List.mem_of_getElem? h1), hd ht (List.mem_of_getElem? h2), t, ht, p5_iff.2 ⟨k, h1, h2⟩⟩
end Go.Proofs.Ytnfppolgaeibeaa
