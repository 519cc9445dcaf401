/- Blocks, plain: what is wrong with one. No program in sight. -/
import Derived.Test.YtnfppolgaeibeaaPlainA
namespace Go.Proofs.Ytnfppolgaeibeaa

inductive PBlk where
  | mk (kind label : Int) (kids : List PBlk)
def PBlk.kind : PBlk → Int | .mk k _ _ => k
def PBlk.label : PBlk → Int | .mk _ l _ => l
def PBlk.kids : PBlk → List PBlk | .mk _ _ ks => ks
/-- What is wrong with a block itself. -/
def headB (k l : Int) (n : Nat) : Int :=
  if k < 1 ∨ 6 < k then 5 else if k = 2 ∧ (l < 1 ∨ 26 < l) then 2 else if (k < 3 ∧ 0 < n) ∨ (3 ≤ k ∧ n = 0) ∨ (k = 6 ∧ n ≠ 2) then 1 else 0
def stepC (g : PBlk → Nat → Nat × Int) (s : Nat × Int) (k : PBlk) : Nat × Int := if s.2 = 0 then g k s.1 else s
/-- How many there are, and what is wrong. -/
def chkB : Nat → PBlk → Nat → Nat × Int
  | 0, _, had => (had + 1, 4)
  | f + 1, b, had => if 40 < had + 1 then (had + 1, 4) else if headB b.kind b.label b.kids.length ≠ 0 then (had + 1, headB b.kind b.label b.kids.length) else b.kids.foldl (stepC (chkB f)) (had + 1, 0)
def wrongB (b : PBlk) : Int := (chkB 41 b 0).2
theorem stepC_stay {g : PBlk → Nat → Nat × Int} {s : Nat × Int} (h : s.2 ≠ 0) : ∀ l : List PBlk, l.foldl (stepC g) s = s := fun l => by
  induction l with
  | nil => rfl
  | cons a l ih => rw [List.foldl_cons, stepC, if_neg h]; exact ih
theorem foldC_take {g : PBlk → Nat → Nat × Int} {s : Nat × Int} {l : List PBlk} {i : Nat} {x : PBlk} (h : l[i]? = some x) : (l.take (i + 1)).foldl (stepC g) s = stepC g ((l.take i).foldl (stepC g) s) x := by
  rw [List.take_add_one, h, List.foldl_append]; rfl
theorem foldC_bad {g : PBlk → Nat → Nat × Int} {s : Nat × Int} {l : List PBlk} {i : Nat} (h : ((l.take i).foldl (stepC g) s).2 ≠ 0) : l.foldl (stepC g) s = (l.take i).foldl (stepC g) s := by
  have e := List.take_append_drop i l
  rw [← e, List.foldl_append, e]
  exact stepC_stay h _

theorem chkB_ok : ∀ (f : Nat) (b : PBlk) (had : Nat), (chkB f b had).2 = 0 → had + 1 ≤ (chkB f b had).1 ∧ (chkB f b had).1 ≤ 40
  | 0, b, had, h => by rw [chkB] at h; cases h
  | f + 1, b, had, h => by
    have key : ∀ (l : List PBlk) (s : Nat × Int), (l.foldl (stepC (chkB f)) s).2 = 0 → s.2 = 0 ∧ s.1 ≤ (l.foldl (stepC (chkB f)) s).1 ∧ (s.1 ≤ 40 → (l.foldl (stepC (chkB f)) s).1 ≤ 40) := fun l => by
      induction l with
      | nil => exact fun s h => ⟨h, Nat.le_refl _, id⟩
      | cons a l ih =>
        intro s h
        rw [List.foldl_cons] at h ⊢
        obtain ⟨i1, i2, i3⟩ := ih _ h
        by_cases hs : s.2 = 0
        · rw [stepC, if_pos hs] at i1 i2 i3 ⊢
          obtain ⟨j1, j2⟩ := chkB_ok f a s.1 i1
          exact ⟨hs, by omega, fun _ => i3 j2⟩
        · rw [stepC, if_neg hs] at i1
          exact absurd i1 hs
    rw [chkB] at h ⊢
    split at h
    · cases h
    · rename_i h1
      rw [if_neg h1]
      split at h
      · rename_i h2; exact absurd h h2
      · rename_i h2
        rw [if_neg h2]
        obtain ⟨_, k2, k3⟩ := key _ _ h
        exact ⟨k2, k3 (by simp only; omega)⟩
end Go.Proofs.Ytnfppolgaeibeaa
