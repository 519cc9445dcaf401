/- The plain law of the reference's rounds: each place is looked at anew, for a number of rounds. No program in sight. -/
import Derived.Test.YtcjjmfppkfmheaaCoverD
namespace Go.Proofs.Ytcjjmfppkfmheaa

theorem setD_same {x : List Int} {p : Nat} (h : x.getD p 0 = -1) : x.set p (-1) = x := by
  by_cases hp : p < x.length
  · apply List.ext_getElem (by simp)
    intro q h1 h2
    rw [List.getElem_set]
    split
    · rename_i e
      subst e
      rw [List.getD_eq_getElem?_getD, List.getElem?_eq_getElem h2] at h
      exact h.symm
    · rfl
  · rw [List.set_eq_of_length_le (by omega)]
/-- Within a round, at a line's mark y, ahead of place p. -/
structure InE (L : List (List Int)) (ms xs0 : List Int) (done : List (List Int)) (y : List Int) (p : Nat) (xs : List Int) : Prop where
  way : OnWay L ms xs
  still : Still L xs0 → xs = xs0
  alt : bounded xs < bounded xs0 ∨ (xs = xs0 ∧ (∀ z ∈ done, Quiet z xs0) ∧ (belowB y xs0 = true → ∀ q, q < p → xs0.getD q 0 ≠ -1 → y.getD q 0 ≠ -1 → y.getD q 0 < xs0.getD q 0 → False))
/-- Between two marks. -/
structure OnE (L : List (List Int)) (ms xs0 : List Int) (done : List (List Int)) (xs : List Int) : Prop where
  way : OnWay L ms xs
  still : Still L xs0 → xs = xs0
  alt : bounded xs < bounded xs0 ∨ (xs = xs0 ∧ ∀ z ∈ done, Quiet z xs0)
/-- Between two rounds. -/
structure RdE (L : List (List Int)) (ms : List Int) (r : Nat) (xs : List Int) : Prop where
  way : OnWay L ms xs
  alt : Still L xs ∨ bounded xs + r ≤ ms.length
section
variable {L : List (List Int)} {ms xs0 xs : List Int} {done : List (List Int)} {y : List Int} {p r : Nat}
theorem RdE.start : RdE L ms 0 ms := ⟨OnWay.start L ms, .inr (bounded_le ms)⟩
theorem RdE.enter (h : RdE L ms r xs) : OnE L ms xs [] xs := ⟨h.way, fun _ => rfl, .inr ⟨rfl, fun z hz => by cases hz⟩⟩
theorem OnE.enter (h : OnE L ms xs0 done xs) : InE L ms xs0 done y 0 xs := ⟨h.way, h.still, h.alt.imp id fun h1 => ⟨h1.1, h1.2, fun _ q hq => absurd hq (by omega)⟩⟩
theorem InE.miss (h : InE L ms xs0 done y p xs) (hc : belowB y xs = true → xs.getD p 0 ≠ -1 → y.getD p 0 ≠ -1 → y.getD p 0 < xs.getD p 0 → False) : InE L ms xs0 done y (p + 1) xs := by
  refine ⟨h.way, h.still, h.alt.imp id fun h1 => ⟨h1.1, h1.2.1, fun hb q hq => ?_⟩⟩
  by_cases e : q = p
  · subst e
    rw [← h1.1] at hb ⊢
    exact hc hb
  · exact h1.2.2 hb q (by omega)
theorem InE.hit (h : InE L ms xs0 done y p xs) (hy : y ∈ L) (hp : p < xs.length) (hb : belowB y xs = true) (he : emoreB (xs.getD p 0) (y.getD p 0) = true) : InE L ms xs0 done y (p + 1) (xs.set p (-1)) := by
  obtain ⟨h1, h2⟩ := (emoreB_iff _ _).1 he
  by_cases hx : xs.getD p 0 = -1
  · rw [setD_same hx]
    exact h.miss fun _ h3 => absurd hx h3
  · have h3 : y.getD p 0 < xs.getD p 0 := by rcases h2 with h2 | h2; exact absurd h2 hx; exact h2
    have hs := bounded_set hp hx
    refine ⟨h.way.set (h.way.inf hy hb (by rw [← h.way.len]; exact hp) h1 h3), fun st => ?_, .inl ?_⟩
    · have := h.still st
      subst this
      exact absurd (st y hy hb p hp hx h1 h3) id
    · rcases h.alt with h4 | h4
      · omega
      · rw [← h4.1]; omega
theorem InE.leave (h : InE L ms xs0 done y p xs) (hp : xs.length ≤ p) : OnE L ms xs0 (done ++ [y]) xs := by
  refine ⟨h.way, h.still, h.alt.imp id fun h1 => ⟨h1.1, fun z hz => ?_⟩⟩
  rcases List.mem_append.1 hz with h4 | h4
  · exact h1.2.1 z h4
  · rw [List.mem_singleton.1 h4]
    intro hb q hq
    exact h1.2.2 hb q (by rw [h1.1] at hp; omega)
theorem RdE.next (h0 : RdE L ms r xs0) (h : OnE L ms xs0 L xs) : RdE L ms (r + 1) xs := by
  refine ⟨h.way, ?_⟩
  rcases h0.alt with st | hb
  · rw [h.still st]; exact .inl st
  · rcases h.alt with h1 | h1
    · exact .inr (by omega)
    · rw [h1.1]; exact .inl h1.2
theorem RdE.end_ (h : RdE L ms r xs) (hr : ms.length < r) : xs = closeInf L ms := by
  refine h.way.done ?_
  rcases h.alt with st | hb
  · exact st
  · exact absurd hb (by omega)
end
end Go.Proofs.Ytcjjmfppkfmheaa
