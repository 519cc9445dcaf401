/- The plain law of covering: where a mark has more than one that it comes of, and covers, it has without bound. No program in sight. -/
import Derived.Test.YtcjjmfppkfmheaaPlainE
namespace Go.Proofs.Ytcjjmfppkfmheaa

/-- Has a more than b, -1 being more than any number? -/
def emoreB (a b : Int) : Bool := decide (b ≠ -1) && (decide (a = -1) || decide (b < a))
theorem emoreB_iff (a b : Int) : emoreB a b = true ↔ b ≠ -1 ∧ (a = -1 ∨ b < a) := by simp [emoreB]
theorem emoreB_not (a b : Int) : emoreB a b = false ↔ (b = -1 ∨ (a ≠ -1 ∧ a ≤ b)) := by
  rw [← Bool.not_eq_true, emoreB_iff]
  by_cases h1 : b = -1 <;> by_cases h2 : a = -1 <;> simp [h1, h2]
/-- Nowhere more. -/
def belowB (a b : List Int) : Bool := (List.range b.length).all fun p => !emoreB (a.getD p 0) (b.getD p 0)
theorem belowB_iff (a b : List Int) : belowB a b = true ↔ ∀ p, p < b.length → emoreB (a.getD p 0) (b.getD p 0) = false := by simp [belowB]
/-- Where a mark has no bound, in the end: where it had none; where it has more than one that it comes of, and covers. -/
inductive Inf (L : List (List Int)) (m : List Int) : Nat → Prop
  | old {p : Nat} (h : m.getD p 0 = -1) : Inf L m p
  | new {p : Nat} (y : List Int) (hy : y ∈ L) (hb : y.getD p 0 ≠ -1) (hm : y.getD p 0 < m.getD p 0) (h : ∀ q, q < m.length → emoreB (y.getD q 0) (m.getD q 0) = true → Inf L m q) : Inf L m p
open Classical in
noncomputable def closeInf (L : List (List Int)) (m : List Int) : List Int := (List.range m.length).map fun p => if Inf L m p then -1 else m.getD p 0
/-- On the way: only what must be without bound is. -/
structure OnWay (L : List (List Int)) (m x : List Int) : Prop where
  len : x.length = m.length
  at_ : ∀ p, p < m.length → (x.getD p 0 = -1 ∧ Inf L m p) ∨ x.getD p 0 = m.getD p 0
theorem OnWay.start (L : List (List Int)) (m : List Int) : OnWay L m m := ⟨rfl, fun _ _ => .inr rfl⟩
/-- One that is covered now: what it has more of may be without bound. -/
theorem OnWay.inf {L : List (List Int)} {m x y : List Int} (h : OnWay L m x) (hy : y ∈ L) (hb : belowB y x = true) {p : Nat} (hp : p < m.length) (hb1 : y.getD p 0 ≠ -1) (hm : y.getD p 0 < x.getD p 0) : Inf L m p := by
  rcases h.at_ p hp with ⟨_, h1⟩ | h1
  · exact h1
  · refine .new y hy hb1 (by rw [← h1]; exact hm) (fun q hq he => ?_)
    have hbq := (belowB_iff y x).1 hb q (by rw [h.len]; exact hq)
    rcases h.at_ q hq with ⟨_, h2⟩ | h2
    · exact h2
    · rw [h2, he] at hbq; cases hbq
theorem getD_set (x : List Int) (p q : Nat) (v : Int) : (x.set p v).getD q 0 = if p = q ∧ q < x.length then v else x.getD q 0 := by
  simp only [List.getD_eq_getElem?_getD]
  by_cases e : p = q
  · subst e
    by_cases h : p < x.length
    · rw [if_pos ⟨rfl, h⟩, List.getElem?_set_self h]; rfl
    · rw [if_neg (fun h' => h h'.2)]
      rw [List.getElem?_eq_none (by simp; omega), List.getElem?_eq_none (by omega)]
  · rw [if_neg (fun h' => e h'.1), List.getElem?_set_ne e]
theorem OnWay.set {L : List (List Int)} {m x : List Int} (h : OnWay L m x) {p : Nat} (hi : Inf L m p) : OnWay L m (x.set p (-1)) := by
  refine ⟨by rw [List.length_set, h.len], fun q hq => ?_⟩
  rw [getD_set]
  by_cases e : p = q ∧ q < x.length
  · rw [if_pos e]; exact .inl ⟨rfl, e.1 ▸ hi⟩
  · rw [if_neg e]; exact h.at_ q hq
/-- Nothing is left to be done. -/
def Quiet (y x : List Int) : Prop := belowB y x = true → ∀ p, p < x.length → x.getD p 0 ≠ -1 → y.getD p 0 ≠ -1 → y.getD p 0 < x.getD p 0 → False
def Still (L : List (List Int)) (x : List Int) : Prop := ∀ y ∈ L, Quiet y x
theorem OnWay.done {L : List (List Int)} {m x : List Int} (h : OnWay L m x) (hs : Still L x) : x = closeInf L m := by
  have key : ∀ p, Inf L m p → p < m.length → x.getD p 0 = -1 := by
    intro p hp
    induction hp with
    | @old p hm =>
      intro hl
      rcases h.at_ p hl with ⟨h1, _⟩ | h1
      · exact h1
      · rw [h1, hm]
    | @new p y hy hb hm _ ih =>
      intro hl
      rcases h.at_ p hl with ⟨h1, _⟩ | h1
      · exact h1
      · refine Classical.byContradiction fun hno => ?_
        refine hs y hy ((belowB_iff y x).2 (fun q hq => ?_)) p (by rw [h.len]; exact hl) hno hb (by rw [h1]; exact hm)
        rw [h.len] at hq
        cases he : emoreB (y.getD q 0) (m.getD q 0) with
        | true => rw [ih q hq he hq]; rw [emoreB_not]; exact .inl rfl
        | false =>
          rcases h.at_ q hq with ⟨h2, _⟩ | h2
          · rw [h2, emoreB_not]; exact .inl rfl
          · rw [h2]; exact he
  unfold closeInf
  apply List.ext_getElem (by rw [h.len]; simp)
  intro p h1 h2
  have hl : p < m.length := by rw [← h.len]; exact h1
  have e : x[p] = x.getD p 0 := by simp [List.getD_eq_getElem?_getD, List.getElem?_eq_getElem h1]
  rw [e, List.getElem_map, List.getElem_range]
  by_cases hi : Inf L m p
  · rw [if_pos hi]; exact key p hi hl
  · rw [if_neg hi]
    rcases h.at_ p hl with ⟨_, h3⟩ | h3
    · exact absurd h3 hi
    · exact h3
/-- How many have a bound yet. -/
def bounded (x : List Int) : Nat := (x.filter fun v => decide (v ≠ -1)).length
theorem bounded_set {x : List Int} {p : Nat} (hp : p < x.length) (h : x.getD p 0 ≠ -1) : bounded (x.set p (-1)) + 1 = bounded x := by
  induction x generalizing p with
  | nil => simp at hp
  | cons v x ih =>
    cases p with
    | zero =>
      have hv : v ≠ -1 := h
      simp [bounded, hv]
    | succ p =>
      have := ih (p := p) (by simpa using hp) h
      simp only [List.set_cons_succ, bounded] at this ⊢
      by_cases hv : v = -1
      · simp [hv] at this ⊢; exact this
      · simp [hv] at this ⊢; omega
theorem belowB_set {y x : List Int} (h : belowB y x = true) (p : Nat) : belowB y (x.set p (-1)) = true := by
  rw [belowB_iff] at h ⊢
  intro q hq
  rw [List.length_set] at hq
  rw [getD_set]
  split
  · rw [emoreB_not]; exact .inl rfl
  · exact h q hq
/-- Within a round of growing: what is gone through, what has come of it, whether there is to be one more. -/
structure GrowS (L : List (List Int)) (ms xs0 : List Int) (done : List (List Int)) (xs : List Int) (ag : Bool) : Prop where
  way : OnWay L ms xs
  same : ag = false → xs = xs0 ∧ ∀ y ∈ done, Quiet y xs0
  less : ag = true → bounded xs < bounded xs0
structure InS (L : List (List Int)) (ms xs0 : List Int) (done : List (List Int)) (y : List Int) (p : Nat) (xs : List Int) (ag : Bool) : Prop where
  way : OnWay L ms xs
  bel : belowB y xs = true
  same : ag = false → xs = xs0 ∧ (∀ y ∈ done, Quiet y xs0) ∧ ∀ q, q < p → xs0.getD q 0 ≠ -1 → y.getD q 0 ≠ -1 → y.getD q 0 < xs0.getD q 0 → False
  less : ag = true → bounded xs < bounded xs0
theorem GrowS.start {L : List (List Int)} {ms xs : List Int} (h : OnWay L ms xs) : GrowS L ms xs [] xs false := ⟨h, fun _ => ⟨rfl, fun y hy => by cases hy⟩, fun h => by cases h⟩
section
variable {L : List (List Int)} {ms xs0 : List Int} {done : List (List Int)} {y xs : List Int} {p : Nat} {ag : Bool}
theorem GrowS.pass (h : GrowS L ms xs0 done xs ag) (hb : belowB y xs = false) : GrowS L ms xs0 (done ++ [y]) xs ag := by
  refine ⟨h.way, fun ha => ?_, h.less⟩
  obtain ⟨h1, h2⟩ := h.same ha
  refine ⟨h1, fun z hz => ?_⟩
  rcases List.mem_append.1 hz with h3 | h3
  · exact h2 z h3
  · rw [List.mem_singleton.1 h3]
    intro hb'
    rw [← h1, hb] at hb'
    cases hb'
theorem GrowS.enter (h : GrowS L ms xs0 done xs ag) (hb : belowB y xs = true) : InS L ms xs0 done y 0 xs ag :=
  ⟨h.way, hb, fun ha => ⟨(h.same ha).1, (h.same ha).2, fun q hq => absurd hq (by omega)⟩, h.less⟩
theorem InS.skip (h : InS L ms xs0 done y p xs ag) (hc : xs.getD p 0 ≠ -1 → y.getD p 0 ≠ -1 → y.getD p 0 < xs.getD p 0 → False) : InS L ms xs0 done y (p + 1) xs ag := by
  refine ⟨h.way, h.bel, fun ha => ?_, h.less⟩
  obtain ⟨h1, h2, h3⟩ := h.same ha
  refine ⟨h1, h2, fun q hq => ?_⟩
  by_cases e : q = p
  · subst e; rw [← h1]; exact hc
  · exact h3 q (by omega)
theorem InS.hit (h : InS L ms xs0 done y p xs ag) (hy : y ∈ L) (hp : p < xs.length) (h1 : xs.getD p 0 ≠ -1) (h2 : y.getD p 0 ≠ -1) (h3 : y.getD p 0 < xs.getD p 0) : InS L ms xs0 done y (p + 1) (xs.set p (-1)) true := by
  refine ⟨h.way.set (h.way.inf hy h.bel (by rw [← h.way.len]; exact hp) h2 h3), belowB_set h.bel p, fun ha => (by cases ha), fun _ => ?_⟩
  have hs := bounded_set hp h1
  cases ag with
  | true =>
    have := h.less rfl
    omega
  | false =>
    have := (h.same rfl).1
    subst this
    omega
theorem InS.leave (h : InS L ms xs0 done y p xs ag) (hp : xs.length ≤ p) : GrowS L ms xs0 (done ++ [y]) xs ag := by
  refine ⟨h.way, fun ha => ?_, h.less⟩
  obtain ⟨h1, h2, h3⟩ := h.same ha
  refine ⟨h1, fun z hz => ?_⟩
  rcases List.mem_append.1 hz with h4 | h4
  · exact h2 z h4
  · rw [List.mem_singleton.1 h4]
    intro _ q hq
    exact h3 q (by rw [h1] at hp; omega)
end
theorem bounded_le (x : List Int) : bounded x ≤ x.length := List.length_filter_le _ _
end Go.Proofs.Ytcjjmfppkfmheaa
