/- What the sets of tracks.Of hold so far: the plain law. No program in sight. -/
import Derived.Test.YtnfppolgaeibeaaTrkA
namespace Go.Proofs.Ytnfppolgaeibeaa

structure TrP (log : List (List Int)) (k : Nat) (t : List Int) (j : Nat) (S1 S2 S3 : List Int) (S4 : List (Int × Int)) : Prop where
  m1 : ∀ x, x ∈ S1 ↔ (allP (log.take k) x ∨ x ∈ t.take j)
  m2 : ∀ x, x ∈ S2 ↔ (firstP (log.take k) x ∨ (0 < j ∧ t.head? = some x))
  m3 : ∀ x, x ∈ S3 ↔ (lastP (log.take k) x ∨ (0 < j ∧ j = t.length ∧ t.getLast? = some x))
  m4 : ∀ p : Int × Int, p ∈ S4 ↔ (behP (log.take k) p ∨ ∃ i, i + 1 < j ∧ t[i]? = some p.1 ∧ t[i + 1]? = some p.2)
  l1 : S1.length ≤ 61 * k + j
  l2 : S2.length ≤ 61 * k + j
  l3 : S3.length ≤ 61 * k + j
  l4 : S4.length ≤ 61 * k + j
section
variable {log : List (List Int)} {k : Nat} {t : List Int} {j : Nat} {S1 S2 S3 : List Int} {S4 : List (Int × Int)}
theorem TrP.start (log : List (List Int)) : TrP log 0 [] 0 [] [] [] [] := by
  refine ⟨fun x => ?_, fun x => ?_, fun x => ?_, fun p => ?_, by simp, by simp, by simp, by simp⟩
  · constructor
    · intro h; cases h
    · rintro (⟨t, ht, _⟩ | h)
      · simp at ht
      · simp at h
  · constructor
    · intro h; cases h
    · rintro (⟨t, ht, _⟩ | h)
      · simp at ht
      · omega
  · constructor
    · intro h; cases h
    · rintro (⟨t, ht, _⟩ | h)
      · simp at ht
      · omega
  · constructor
    · intro h; cases h
    · rintro (⟨t, ht, _⟩ | ⟨i, h, _⟩)
      · simp at ht
      · omega
theorem TrP.enter (h : TrP log k [] 0 S1 S2 S3 S4) (t : List Int) : TrP log k t 0 S1 S2 S3 S4 := by
  obtain ⟨h1, h2, h3, h4, l1, l2, l3, l4⟩ := h
  refine ⟨fun x => by rw [h1]; simp, fun x => by rw [h2]; simp, fun x => by rw [h3]; simp, fun p => by rw [h4]; simp, l1, l2, l3, l4⟩
theorem TrP.step (h : TrP log k t j S1 S2 S3 S4) {a : Int} (ha : t[j]? = some a) {T2 T3 : List Int} {T4 : List (Int × Int)}
    (e2 : T2 = if j = 0 then a :: S2 else S2) (e3 : T3 = if j + 1 = t.length then a :: S3 else S3) (e4 : (j = 0 ∧ T4 = S4) ∨ ∃ b i, j = i + 1 ∧ t[i]? = some b ∧ T4 = (b, a) :: S4) : TrP log k t (j + 1) (a :: S1) T2 T3 T4 := by
  obtain ⟨h1, h2, h3, h4, l1, l2, l3, l4⟩ := h
  have hj := (List.getElem?_eq_some_iff.1 ha).1
  refine ⟨fun x => ?_, fun x => ?_, fun x => ?_, fun p => ?_, by rw [List.length_cons]; omega, ?_, ?_, ?_⟩
  · rw [List.mem_cons, h1, take_snoc ha, List.mem_append, List.mem_singleton]
    constructor
    · rintro (h | h | h)
      · exact .inr (.inr h)
      · exact .inl h
      · exact .inr (.inl h)
    · rintro (h | h | h)
      · exact .inr (.inl h)
      · exact .inr (.inr h)
      · exact .inl h
  · subst e2
    split
    · rename_i e
      subst e
      rw [List.mem_cons, h2]
      have hh : t.head? = some a := by
        cases t with
        | nil => simp at hj
        | cons b t => simpa using ha
      rw [hh]
      constructor
      · rintro (h | h | h)
        · exact .inr ⟨by omega, by rw [h]⟩
        · exact .inl h
        · omega
      · rintro (h | ⟨_, h⟩)
        · exact .inr (.inl h)
        · injection h with h
          exact .inl h.symm
    · rename_i e
      rw [h2]
      constructor
      · rintro (h | h)
        · exact .inl h
        · exact .inr ⟨by omega, h.2⟩
      · rintro (h | h)
        · exact .inl h
        · exact .inr ⟨by omega, h.2⟩
  · subst e3
    split
    · rename_i e
      have hh : t.getLast? = some a := by
        rw [List.getLast?_eq_getElem?, show t.length - 1 = j by omega]; exact ha
      rw [List.mem_cons, h3, hh]
      constructor
      · rintro (h | h | h)
        · exact .inr ⟨by omega, e, by rw [h]⟩
        · exact .inl h
        · omega
      · rintro (h | ⟨_, _, h⟩)
        · exact .inr (.inl h)
        · injection h with h
          exact .inl h.symm
    · rename_i e
      rw [h3]
      constructor
      · rintro (h | h)
        · exact .inl h
        · omega
      · rintro (h | h)
        · exact .inl h
        · omega
  · rcases e4 with ⟨e, rfl⟩ | ⟨b, i, e, hb, rfl⟩
    · subst e
      rw [h4]
      constructor
      · rintro (h | ⟨i, h, _⟩)
        · exact .inl h
        · omega
      · rintro (h | ⟨i, h, _⟩)
        · exact .inl h
        · omega
    · subst e
      rw [List.mem_cons, h4]
      constructor
      · rintro (h | h | ⟨q, h, g⟩)
        · subst h
          exact .inr ⟨i, by omega, hb, ha⟩
        · exact .inl h
        · exact .inr ⟨q, by omega, g⟩
      · rintro (h | ⟨q, h, g1, g2⟩)
        · exact .inr (.inl h)
        · by_cases eq : q = i
          · subst eq
            rw [hb] at g1
            rw [ha] at g2
            injection g1 with g1
            injection g2 with g2
            exact .inl (Prod.ext g1.symm g2.symm)
          · exact .inr (.inr ⟨q, by omega, g1, g2⟩)
  · subst e2
    split
    · rw [List.length_cons]; omega
    · omega
  · subst e3
    split
    · rw [List.length_cons]; omega
    · omega
  · rcases e4 with ⟨_, rfl⟩ | ⟨b, i, _, _, rfl⟩
    · omega
    · rw [List.length_cons]; omega
theorem mem_snoc {log : List (List Int)} {k : Nat} {t : List Int} (h : log[k]? = some t) (u : List Int) : u ∈ log.take (k + 1) ↔ u ∈ log.take k ∨ u = t := by
  rw [take_snoc h, List.mem_append, List.mem_singleton]
theorem TrP.leave (h : TrP log k t t.length S1 S2 S3 S4) (ht : log[k]? = some t) (hl : t.length ≤ 60) : TrP log (k + 1) [] 0 S1 S2 S3 S4 := by
  obtain ⟨h1, h2, h3, h4, l1, l2, l3, l4⟩ := h
  refine ⟨fun x => ?_, fun x => ?_, fun x => ?_, fun p => ?_, by omega, by omega, by omega, by omega⟩
  · rw [h1, List.take_length]
    unfold allP
    constructor
    · rintro (⟨u, hu, hx⟩ | hx)
      · exact .inl ⟨u, (mem_snoc ht u).2 (.inl hu), hx⟩
      · exact .inl ⟨t, (mem_snoc ht t).2 (.inr rfl), hx⟩
    · rintro (⟨u, hu, hx⟩ | hx)
      · rcases (mem_snoc ht u).1 hu with hu | rfl
        · exact .inl ⟨u, hu, hx⟩
        · exact .inr hx
      · simp at hx
  · rw [h2]
    unfold firstP
    constructor
    · rintro (⟨u, hu, hx⟩ | ⟨_, hx⟩)
      · exact .inl ⟨u, (mem_snoc ht u).2 (.inl hu), hx⟩
      · exact .inl ⟨t, (mem_snoc ht t).2 (.inr rfl), hx⟩
    · rintro (⟨u, hu, hx⟩ | hx)
      · rcases (mem_snoc ht u).1 hu with hu | rfl
        · exact .inl ⟨u, hu, hx⟩
        · refine .inr ⟨?_, hx⟩
          cases u with
          | nil => cases hx
          | cons b u => simp
      · omega
  · rw [h3]
    unfold lastP
    constructor
    · rintro (⟨u, hu, hx⟩ | ⟨_, _, hx⟩)
      · exact .inl ⟨u, (mem_snoc ht u).2 (.inl hu), hx⟩
      · exact .inl ⟨t, (mem_snoc ht t).2 (.inr rfl), hx⟩
    · rintro (⟨u, hu, hx⟩ | hx)
      · rcases (mem_snoc ht u).1 hu with hu | rfl
        · exact .inl ⟨u, hu, hx⟩
        · refine .inr ⟨?_, rfl, hx⟩
          cases u with
          | nil => cases hx
          | cons b u => simp
      · omega
  · rw [h4]
    unfold behP
    constructor
    · rintro (⟨u, hu, hx⟩ | ⟨i, _, hx⟩)
      · exact .inl ⟨u, (mem_snoc ht u).2 (.inl hu), hx⟩
      · exact .inl ⟨t, (mem_snoc ht t).2 (.inr rfl), i, hx⟩
    · rintro (⟨u, hu, i, hx⟩ | ⟨i, h, _⟩)
      · rcases (mem_snoc ht u).1 hu with hu | rfl
        · exact .inl ⟨u, hu, i, hx⟩
        · exact .inr ⟨i, (List.getElem?_eq_some_iff.1 hx.2).1, hx⟩
      · omega
theorem TrP.fin (h : TrP log log.length [] 0 S1 S2 S3 S4) : (∀ x, x ∈ S1 ↔ allP log x) ∧ (∀ x, x ∈ S2 ↔ firstP log x) ∧ (∀ x, x ∈ S3 ↔ lastP log x) ∧ ∀ p, p ∈ S4 ↔ behP log p := by
  obtain ⟨h1, h2, h3, h4, _⟩ := h
  rw [List.take_length] at h1 h2 h3 h4
  refine ⟨fun x => by rw [h1]; simp, fun x => by rw [h2]; simp, fun x => by rw [h3]; simp, fun p => by rw [h4]; simp⟩
end
end Go.Proofs.Ytnfppolgaeibeaa
