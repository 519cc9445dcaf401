/- The plain law of tracks: what is wrong with a log, what it shows. No program in sight. -/
import Derived.Test.YtnfppolgaeibeaaSipA
namespace Go.Proofs.Ytnfppolgaeibeaa

def badL (a : Int) : Bool := decide (a < 1) || decide (26 < a)
def badTr (t : List Int) : Bool := decide (60 < t.length) || t.any badL
def wrongV (log : List (List Int)) : Int := if 60 < log.length then 4 else if log.any badTr = true then 2 else 0
theorem wrongV_full {log : List (List Int)} (h : 60 < log.length) : wrongV log = 4 := by rw [wrongV, if_pos h]
theorem wrongV_bad {log : List (List Int)} (h : ¬ 60 < log.length) {t : List Int} (ht : t ∈ log) (hb : badTr t = true) : wrongV log = 2 := by
  rw [wrongV, if_neg h, if_pos (List.any_eq_true.2 ⟨t, ht, hb⟩)]
theorem wrongV_ok {log : List (List Int)} (h : ¬ 60 < log.length) (hb : ∀ (j : Nat) (t : List Int), j < log.length → log[j]? = some t → badTr t = false) : wrongV log = 0 := by
  rw [wrongV, if_neg h, if_neg]
  rw [Bool.not_eq_true, List.any_eq_false]
  intro t ht
  obtain ⟨j, hj, rfl⟩ := List.getElem_of_mem ht
  rw [hb j _ hj (List.getElem?_eq_getElem hj)]
  simp
theorem wrongV_zero {log : List (List Int)} (h : wrongV log = 0) : log.length ≤ 60 ∧ ∀ t ∈ log, t.length ≤ 60 ∧ ∀ x ∈ t, 1 ≤ x ∧ x ≤ 26 := by
  unfold wrongV at h
  split at h
  · omega
  · split at h
    · omega
    · rename_i h1 h2
      refine ⟨by omega, fun t ht => ?_⟩
      rw [Bool.not_eq_true, List.any_eq_false] at h2
      have := h2 t ht
      unfold badTr at this
      rw [Bool.not_eq_true, Bool.or_eq_false_iff, decide_eq_false_iff_not, List.any_eq_false] at this
      refine ⟨by omega, fun x hx => ?_⟩
      have := this.2 x hx
      unfold badL at this
      simp only [Bool.or_eq_true, decide_eq_true_eq, not_or] at this
      omega
theorem badTr_at {t : List Int} {k : Nat} {x : Int} (h : t[k]? = some x) (hb : badL x = true ∨ 60 ≤ k) : badTr t = true := by
  unfold badTr
  rw [Bool.or_eq_true, decide_eq_true_eq]
  rcases hb with hb | hb
  · exact .inr (List.any_eq_true.2 ⟨x, List.mem_of_getElem? h, hb⟩)
  · have := (List.getElem?_eq_some_iff.1 h).1
    exact .inl (by omega)
theorem badTr_not {t : List Int} (h : ∀ (k : Nat) (x : Int), k < t.length → t[k]? = some x → badL x = false ∧ k < 60) : badTr t = false := by
  unfold badTr
  rw [Bool.or_eq_false_iff, decide_eq_false_iff_not, List.any_eq_false]
  constructor
  · intro hl
    have := (h 60 _ hl (List.getElem?_eq_getElem hl)).2
    omega
  · intro x hx
    obtain ⟨k, hk, rfl⟩ := List.getElem_of_mem hx
    rw [(h k _ hk (List.getElem?_eq_getElem hk)).1]
    simp

/-! ### onto -/
def inS (labels : List Int) (a : Int) : Bool := labels.any fun y => a == y
def ontoL (log : List (List Int)) (labels : List Int) : List (List Int) := log.map fun t => t.filter fun a => inS labels a
theorem ontoL_snoc (log : List (List Int)) (labels t : List Int) : ontoL (log ++ [t]) labels = ontoL log labels ++ [t.filter fun a => inS labels a] := by simp [ontoL]

/-! ### what it shows -/
/-- Rising strictly, told by what is on it. -/
theorem strict_same {α : Type} {R : α → α → Prop} (asy : ∀ a b, R a b → R b a → False) : ∀ {xs ys : List α}, xs.Pairwise R → ys.Pairwise R → (∀ x, x ∈ xs ↔ x ∈ ys) → xs = ys
  | [], [], _, _, _ => rfl
  | [], y :: ys, _, _, h => by have := (h y).2 (by simp); simp at this
  | x :: xs, [], _, _, h => by have := (h x).1 (by simp); simp at this
  | x :: xs, y :: ys, hx, hy, h => by
    obtain ⟨hx1, hx2⟩ := List.pairwise_cons.1 hx
    obtain ⟨hy1, hy2⟩ := List.pairwise_cons.1 hy
    have e : x = y := by
      rcases List.mem_cons.1 ((h x).1 (by simp)) with e | e
      · exact e
      · rcases List.mem_cons.1 ((h y).2 (by simp)) with e' | e'
        · exact e'.symm
        · exact (asy _ _ (hy1 x e) (hx1 y e')).elim
    subst e
    rw [strict_same asy hx2 hy2 (fun z => ?_)]
    constructor
    · intro hz
      rcases List.mem_cons.1 ((h z).1 (by simp [hz])) with e | e
      · subst e
        exact (asy _ _ (hx1 z hz) (hx1 z hz)).elim
      · exact e
    · intro hz
      rcases List.mem_cons.1 ((h z).2 (by simp [hz])) with e | e
      · subst e
        exact (asy _ _ (hy1 z hz) (hy1 z hz)).elim
      · exact e
def pairLt (p q : Int × Int) : Prop := p.1 < q.1 ∨ (p.1 = q.1 ∧ p.2 < q.2)
theorem pairLt_asymm (p q : Int × Int) (h : pairLt p q) (g : pairLt q p) : False := by unfold pairLt at h g; omega
def allP (log : List (List Int)) (x : Int) : Prop := ∃ t ∈ log, x ∈ t
def firstP (log : List (List Int)) (x : Int) : Prop := ∃ t ∈ log, t.head? = some x
def lastP (log : List (List Int)) (x : Int) : Prop := ∃ t ∈ log, t.getLast? = some x
def behP (log : List (List Int)) (p : Int × Int) : Prop := ∃ t ∈ log, ∃ k : Nat, t[k]? = some p.1 ∧ t[k + 1]? = some p.2
structure PPrints where
  labels : List Int
  first : List Int
  last : List Int
  behind : List (Int × Int)
def emptyP : PPrints := ⟨[], [], [], []⟩
def ShowsP (log : List (List Int)) (p : PPrints) : Prop :=
  (p.labels.Pairwise (· < ·) ∧ ∀ x, x ∈ p.labels ↔ allP log x) ∧ (p.first.Pairwise (· < ·) ∧ ∀ x, x ∈ p.first ↔ firstP log x) ∧ (p.last.Pairwise (· < ·) ∧ ∀ x, x ∈ p.last ↔ lastP log x) ∧ (p.behind.Pairwise pairLt ∧ ∀ x, x ∈ p.behind ↔ behP log x)
theorem ShowsP.uniq {log : List (List Int)} {p q : PPrints} (h : ShowsP log p) (g : ShowsP log q) : p = q := by
  obtain ⟨⟨h1, h2⟩, ⟨h3, h4⟩, ⟨h5, h6⟩, ⟨h7, h8⟩⟩ := h
  obtain ⟨⟨g1, g2⟩, ⟨g3, g4⟩, ⟨g5, g6⟩, ⟨g7, g8⟩⟩ := g
  have e1 : p.labels = q.labels := asc_same h1 g1 (fun x => (h2 x).trans (g2 x).symm)
  have e2 : p.first = q.first := asc_same h3 g3 (fun x => (h4 x).trans (g4 x).symm)
  have e3 : p.last = q.last := asc_same h5 g5 (fun x => (h6 x).trans (g6 x).symm)
  have e4 : p.behind = q.behind := strict_same pairLt_asymm h7 g7 (fun x => (h8 x).trans (g8 x).symm)
  cases p; cases q
  simp only at e1 e2 e3 e4
  subst e1 e2 e3 e4
  rfl
/-- What Of answers. -/
def OfP (log : List (List Int)) (p : PPrints) (e : Int) : Prop := e = wrongV log ∧ if wrongV log = 0 then ShowsP log p else p = emptyP
theorem OfP.uniq {log : List (List Int)} {p q : PPrints} {e f : Int} (h : OfP log p e) (g : OfP log q f) : p = q ∧ e = f := by
  obtain ⟨h1, h2⟩ := h
  obtain ⟨g1, g2⟩ := g
  refine ⟨?_, h1.trans g1.symm⟩
  split at h2
  · rename_i h0
    rw [if_pos h0] at g2
    exact h2.uniq g2
  · rename_i h0
    rw [if_neg h0] at g2
    rw [h2, g2]
end Go.Proofs.Ytnfppolgaeibeaa
