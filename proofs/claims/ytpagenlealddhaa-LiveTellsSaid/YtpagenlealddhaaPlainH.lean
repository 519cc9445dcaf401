/- What can be reached in a finite graph: by looking deeper and deeper, each node once; in plain Lean. Conditions: none. -/
import Derived.Test.YtpagenlealddhaaPlainE
namespace Go.Proofs.Ytpagenlealddhaa

section
variable {α : Type} [DecidableEq α]
theorem nodup_len : ∀ (l all : List α), l.Nodup → (∀ x ∈ l, x ∈ all) → l.length ≤ all.length
  | [], _, _, _ => by simp
  | a :: l, all, hn, hs => by
    have ha : a ∈ all := hs a (by simp)
    have hal : a ∉ l := (List.nodup_cons.1 hn).1
    have := nodup_len l (all.erase a) (List.nodup_cons.1 hn).2 (fun x hx => (List.mem_erase_of_ne (a := x) (b := a) (by intro e; subst e; exact hal hx)).2 (hs x (by simp [hx])))
    rw [List.length_erase_of_mem ha] at this
    have : 0 < all.length := List.length_pos_of_mem ha
    simp only [List.length_cons]
    omega
theorem nodup_full {l all : List α} (hn : l.Nodup) (hs : ∀ x ∈ l, x ∈ all) (hl : all.length ≤ l.length) {x : α} (hx : x ∈ all) : x ∈ l := by
  by_cases h : x ∈ l
  · exact h
  · exfalso
    have := nodup_len (x :: l) all (List.nodup_cons.2 ⟨h, hn⟩) (fun y hy => by
      rcases List.mem_cons.1 hy with rfl | hy
      · exact hx
      · exact hs y hy)
    simp only [List.length_cons] at this
    omega

inductive Reach (s : α → List α) : α → α → Prop
  | refl (x : α) : Reach s x x
  | step {x y z : α} (h : y ∈ s x) (g : Reach s y z) : Reach s x z
omit [DecidableEq α] in
theorem Reach.last {s : α → List α} {x y z : α} (h : Reach s x y) (g : z ∈ s y) : Reach s x z := by
  induction h with
  | refl x => exact .step g (.refl _)
  | step a _ ih => exact .step a (ih g)
omit [DecidableEq α] in
theorem Reach.closed {s : α → List α} {R : List α} (hc : ∀ y ∈ R, ∀ z ∈ s y, z ∈ R) {x y : α} (h : Reach s x y) (hx : x ∈ R) : y ∈ R := by
  induction h with
  | refl x => exact hx
  | step a _ ih => exact ih (hc _ hx _ a)
omit [DecidableEq α] in
theorem Reach.closedP {s : α → List α} {R : α → Prop} (hc : ∀ y, R y → ∀ z ∈ s y, R z) {x y : α} (h : Reach s x y) (hx : R x) : R y := by
  induction h with
  | refl x => exact hx
  | step a _ ih => exact ih (hc _ hx _ a)

/-- All that is found from x on, where had were found before; no deeper than so many. -/
def dfs (s : α → List α) : Nat → List α → α → List α
  | 0, had, _ => had
  | f + 1, had, x => if x ∈ had then had else (s x).foldl (dfs s f) (x :: had)

/-- What was found is of all, and each once. -/
structure Had (all had : List α) : Prop where
  nodup : had.Nodup
  sub : ∀ x ∈ had, x ∈ all
structure Found (s : α → List α) (all had R : List α) (src : α → Prop) : Prop where
  good : Had all R
  more : ∀ x ∈ had, x ∈ R
  seen : ∀ y ∈ R, y ∈ had ∨ ∀ z ∈ s y, z ∈ R
  from_ : ∀ y ∈ R, y ∈ had ∨ ∃ x, src x ∧ Reach s x y
  len : had.length ≤ R.length

theorem dfs_fold {s : α → List α} {all : List α} {f : Nat} (ih : ∀ (had : List α) (x : α), Had all had → x ∈ all → all.length ≤ had.length + f → Found s all had (dfs s f had x) (· = x) ∧ x ∈ dfs s f had x) :
    ∀ (L acc : List α), (∀ z ∈ L, z ∈ all) → Had all acc → all.length ≤ acc.length + f → Found s all acc (L.foldl (dfs s f) acc) (· ∈ L) ∧ ∀ z ∈ L, z ∈ L.foldl (dfs s f) acc
  | [], acc, _, hg, _ => ⟨⟨hg, fun _ h => h, fun y h => .inl h, fun y h => .inl h, Nat.le_refl _⟩, fun z h => by simp at h⟩
  | a :: L, acc, hL, hg, hl => by
    obtain ⟨F, hx⟩ := ih acc a hg (hL a (by simp)) hl
    obtain ⟨G, hz⟩ := dfs_fold ih L (dfs s f acc a) (fun z h => hL z (by simp [h])) F.good (by have := F.len; omega)
    refine ⟨⟨G.good, fun x h => G.more x (F.more x h), fun y h => ?_, fun y h => ?_, Nat.le_trans F.len G.len⟩, fun z h => ?_⟩
    · rcases G.seen y h with h1 | h1
      · rcases F.seen y h1 with h2 | h2
        · exact .inl h2
        · exact .inr fun z hz' => G.more z (h2 z hz')
      · exact .inr h1
    · rcases G.from_ y h with h1 | ⟨x, h1, h2⟩
      · rcases F.from_ y h1 with h3 | ⟨x, h3, h4⟩
        · exact .inl h3
        · exact .inr ⟨x, by simp [h3], h4⟩
      · exact .inr ⟨x, by simp [h1], h2⟩
    · rcases List.mem_cons.1 h with rfl | h
      · exact G.more _ hx
      · exact hz z h

theorem dfs_found {s : α → List α} {all : List α} (hs : ∀ x ∈ all, ∀ y ∈ s x, y ∈ all) : ∀ (f : Nat) (had : List α) (x : α), Had all had → x ∈ all → all.length ≤ had.length + f →
    Found s all had (dfs s f had x) (· = x) ∧ x ∈ dfs s f had x := by
  intro f
  induction f with
  | zero =>
    intro had x hg hx hl
    have : x ∈ had := nodup_full hg.nodup hg.sub (by omega) hx
    exact ⟨⟨hg, fun _ h => h, fun y h => .inl h, fun y h => .inl h, Nat.le_refl _⟩, this⟩
  | succ f ih =>
    intro had x hg hx hl
    unfold dfs
    by_cases h : x ∈ had
    · rw [if_pos h]
      exact ⟨⟨hg, fun _ h => h, fun y h => .inl h, fun y h => .inl h, Nat.le_refl _⟩, h⟩
    · rw [if_neg h]
      have hg' : Had all (x :: had) := ⟨List.nodup_cons.2 ⟨h, hg.nodup⟩, fun y hy => by
        rcases List.mem_cons.1 hy with rfl | hy
        · exact hx
        · exact hg.sub y hy⟩
      obtain ⟨F, hz⟩ := dfs_fold ih (s x) (x :: had) (hs x hx) hg' (by simp only [List.length_cons]; omega)
      refine ⟨⟨F.good, fun y hy => F.more y (by simp [hy]), fun y hy => ?_, fun y hy => ?_, ?_⟩, F.more x (by simp)⟩
      · rcases F.seen y hy with h1 | h1
        · rcases List.mem_cons.1 h1 with rfl | h1
          · exact .inr hz
          · exact .inl h1
        · exact .inr h1
      · rcases F.from_ y hy with h1 | ⟨z, h1, h2⟩
        · rcases List.mem_cons.1 h1 with rfl | h1
          · exact .inr ⟨_, rfl, .refl _⟩
          · exact .inl h1
        · exact .inr ⟨x, rfl, .step h1 h2⟩
      · have := F.len; simp only [List.length_cons] at this; omega

/-- From nothing on: just what is reached. -/
theorem dfs_reach {s : α → List α} {all : List α} (hs : ∀ x ∈ all, ∀ y ∈ s x, y ∈ all) (x : α) (hx : x ∈ all) (f : Nat) (hf : all.length ≤ f) :
    Had all (dfs s f [] x) ∧ ∀ y, y ∈ dfs s f [] x ↔ Reach s x y := by
  obtain ⟨F, h⟩ := dfs_found hs f [] x ⟨List.nodup_nil, fun x h => by simp at h⟩ hx (by simpa using hf)
  refine ⟨F.good, fun y => ⟨fun hy => ?_, fun hy => ?_⟩⟩
  · rcases F.from_ y hy with h1 | ⟨z, rfl, h2⟩
    · simp at h1
    · exact h2
  · refine hy.closed (fun y hy z hz => ?_) h
    rcases F.seen y hy with h1 | h1
    · simp at h1
    · exact h1 z hz
theorem dfs_all {s : α → List α} {all : List α} (hs : ∀ x ∈ all, ∀ y ∈ s x, y ∈ all) (hn : all.Nodup) (x : α) (hx : x ∈ all) (f : Nat) (hf : all.length ≤ f) :
    all.length ≤ (dfs s f [] x).length ↔ ∀ y ∈ all, Reach s x y := by
  obtain ⟨hg, hr⟩ := dfs_reach hs x hx f hf
  refine ⟨fun hl y hy => (hr y).1 (nodup_full hg.nodup hg.sub hl hy), fun h => nodup_len _ _ hn (fun y hy => (hr y).2 (h y hy))⟩
end
end Go.Proofs.Ytpagenlealddhaa
