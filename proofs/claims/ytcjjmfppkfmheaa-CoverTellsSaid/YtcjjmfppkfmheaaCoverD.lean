/- The plain law of the covering tree: knot by knot, each with the marks that it comes of. No program in sight. -/
import Derived.Test.YtcjjmfppkfmheaaCoverC
namespace Go.Proofs.Ytcjjmfppkfmheaa

structure PKnot where
  up : Int
  tran : Int
  mark : List Int
/-- A knot, and the marks that it comes of, the first one first. -/
abbrev LKnot := PKnot × List (List Int)
theorem Inf.sub {L L' : List (List Int)} {m : List Int} (h : ∀ y, y ∈ L → y ∈ L') {p : Nat} (hi : Inf L m p) : Inf L' m p := by
  induction hi with
  | old h0 => exact .old h0
  | new y hy hb hm _ ih => exact .new y (h y hy) hb hm ih
theorem closeInf_same {L L' : List (List Int)} {m : List Int} (h : ∀ y, y ∈ L ↔ y ∈ L') : closeInf L m = closeInf L' m := by
  unfold closeInf
  apply List.map_congr_left
  intro p _
  have : Inf L m p ↔ Inf L' m p := ⟨Inf.sub (fun y => (h y).1), Inf.sub (fun y => (h y).2)⟩
  by_cases hi : Inf L m p
  · rw [if_pos hi, if_pos (this.1 hi)]
  · rw [if_neg hi, if_neg (fun h' => hi (this.2 h'))]
theorem closeInf_len (L : List (List Int)) (m : List Int) : (closeInf L m).length = m.length := by simp [closeInf]
theorem fireC_len (t : PTran) (m : List Int) : (fireC t m).length = m.length := fireTo_len t m _
/-- The knot that one comes to by transition i. -/
noncomputable def nextK (x : LKnot) (k i : Nat) (t : PTran) : LKnot := (⟨(k : Int), (i : Int), closeInf (x.2 ++ [x.1.mark]) (fireC t x.1.mark)⟩, x.2 ++ [x.1.mark])
noncomputable def pushK (most : Nat) (x : LKnot) (k i : Nat) (t : PTran) (ks : List LKnot) : Option (List LKnot) :=
  if belowB t.pre x.1.mark = true then (if ks.length = most then none else some (ks ++ [nextK x k i t])) else some ks
noncomputable def foldK (most : Nat) (x : LKnot) (k : Nat) (ts : List PTran) (o : Option (List LKnot)) : Option (List LKnot) := ts.zipIdx.foldl (fun o p => o.bind fun ks => pushK most x k p.2 p.1 ks) o
theorem foldK_snoc (most : Nat) (x : LKnot) (k : Nat) (ts : List PTran) (t : PTran) (o : Option (List LKnot)) : foldK most x k (ts ++ [t]) o = (foldK most x k ts o).bind fun ks => pushK most x k ts.length t ks := by
  unfold foldK
  rw [List.zipIdx_append, List.foldl_append]
  simp
theorem foldK_none (most : Nat) (x : LKnot) (k : Nat) : ∀ (ts : List PTran), foldK most x k ts none = none := by
  intro ts
  unfold foldK
  generalize ts.zipIdx = l
  induction l with
  | nil => rfl
  | cons a l ih => exact ih
theorem foldK_ended {most : Nat} {x : LKnot} {k : Nat} {ts : List PTran} {o : Option (List LKnot)} (j : Nat) (h : foldK most x k (ts.take j) o = none) : foldK most x k ts o = none := by
  have e := List.take_append_drop j ts
  unfold foldK at h ⊢
  rw [← e, List.zipIdx_append, List.foldl_append, h]
  generalize (ts.drop j).zipIdx (0 + (ts.take j).length) = l
  induction l with
  | nil => rfl
  | cons a l ih => exact ih
def seenK (x : LKnot) : Bool := x.2.any fun y => y == x.1.mark
noncomputable def stepK (most : Nat) (ts : List PTran) (k : Nat) (ks : List LKnot) : Option (List LKnot) :=
  match ks[k]? with
  | some x => if seenK x = true then some ks else foldK most x k ts (some ks)
  | none => some ks
/-- On from knot to knot. -/
noncomputable def goK (most : Nat) (ts : List PTran) : Nat → Nat → List LKnot → Option (List LKnot)
  | 0, _, ks => some ks
  | g + 1, k, ks => if k < ks.length then (stepK most ts k ks).bind (goK most ts g (k + 1)) else some ks
noncomputable def treeL (N : PNet) (m : List Int) (most : Int) : List PKnot × Int :=
  if 1 ≤ most ∧ most ≤ 300 ∧ fitsB N m = true then (match goK most.toNat N.trans most.toNat 0 [(⟨-1, -1, m⟩, [])] with
    | some ks => (ks.map fun x => x.1, 0)
    | none => ([], 4)) else ([], 2)
/-- What holds of the tree all along. -/
structure TreeOk (n most : Nat) (ks : List LKnot) : Prop where
  few : ks.length ≤ most
  some_ : 0 < ks.length
  lens : ∀ x ∈ ks, x.1.mark.length = n ∧ ∀ y ∈ x.2, y.length = n
  up : ∀ (j : Nat) (x : LKnot), ks[j]? = some x → (x.1.up = -1 ∧ x.2 = []) ∨ ∃ (u : Nat) (z : LKnot), u < j ∧ x.1.up = (u : Int) ∧ ks[u]? = some z ∧ x.2 = z.2 ++ [z.1.mark]
theorem TreeOk.start {n most : Nat} {m : List Int} (hm : m.length = n) (h : 1 ≤ most) : TreeOk n most [(⟨-1, -1, m⟩, [])] :=
  ⟨h, by simp, fun x hx => by rw [List.mem_singleton.1 hx]; exact ⟨hm, fun y hy => by cases hy⟩, fun j x hx => by
    cases j with
    | zero => simp at hx; subst hx; exact .inl ⟨rfl, rfl⟩
    | succ j => simp at hx⟩
theorem TreeOk.push {n most : Nat} {ks ks' : List LKnot} {x : LKnot} {k i : Nat} {t : PTran} (h : TreeOk n most ks) (hx : ks[k]? = some x) (hp : pushK most x k i t ks = some ks') : TreeOk n most ks' ∧ ks <+: ks' := by
  unfold pushK at hp
  split at hp
  · split at hp
    · cases hp
    · rename_i hl
      simp only [Option.some.injEq] at hp
      subst hp
      have hk := (List.getElem?_eq_some_iff.1 hx).1
      have hfew := h.few
      have hxl := h.lens x (List.mem_of_getElem? hx)
      refine ⟨⟨by simp; omega, by simp, fun y hy => ?_, fun j y hy => ?_⟩, List.prefix_append _ _⟩
      · rcases List.mem_append.1 hy with h1 | h1
        · exact h.lens y h1
        · rw [List.mem_singleton.1 h1]
          refine ⟨by simp only [nextK]; rw [closeInf_len, fireC_len]; exact hxl.1, fun z hz => ?_⟩
          rcases List.mem_append.1 hz with h2 | h2
          · exact hxl.2 z h2
          · rw [List.mem_singleton.1 h2]; exact hxl.1
      · by_cases hj : j < ks.length
        · rw [List.getElem?_append_left hj] at hy
          rcases h.up j y hy with h1 | ⟨u, z, h1, h2, h3, h4⟩
          · exact .inl h1
          · exact .inr ⟨u, z, h1, h2, by rw [List.getElem?_append_left (by omega)]; exact h3, h4⟩
        · rw [List.getElem?_append_right (by omega)] at hy
          have hj0 : j - ks.length = 0 := by
            rcases Nat.eq_zero_or_pos (j - ks.length) with h1 | h1
            · exact h1
            · rw [List.getElem?_eq_none (by simp; omega)] at hy; cases hy
          rw [hj0] at hy
          simp at hy
          subst hy
          exact .inr ⟨k, x, by omega, rfl, by rw [List.getElem?_append_left hk]; exact hx, rfl⟩
  · simp only [Option.some.injEq] at hp
    subst hp
    exact ⟨h, List.prefix_rfl⟩
theorem prefixK_at {a b : List LKnot} (h : a <+: b) {k : Nat} {x : LKnot} (hx : a[k]? = some x) : b[k]? = some x := by
  obtain ⟨c, rfl⟩ := h
  rw [List.getElem?_append_left (List.getElem?_eq_some_iff.1 hx).1]
  exact hx
end Go.Proofs.Ytcjjmfppkfmheaa
