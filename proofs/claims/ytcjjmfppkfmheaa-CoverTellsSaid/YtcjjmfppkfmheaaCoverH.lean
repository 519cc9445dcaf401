/- What grow keeps while it runs; loops with a ghost; marks among the deferred calls. Conditions: none. -/
import Derived.Test.YtcjjmfppkfmheaaCoverG
import Derived.Test.YtcjjmfppkfmheaaCaseE
namespace Go.Proofs.Ytcjjmfppkfmheaa
open Go.RowKit

/-- A loop by a number that no cell holds. -/
theorem wpIn_loop_ghost {F : Fence} {n : Nat} {P : Program} {Q : Exit → Act → World → Prop} {c : Code} {a : Act} {w : World} (I : Nat → Act → World → Prop) (m : Nat) (h0 : I m a w)
    (round : ∀ m a w, I m a w → c.wpIn F n P (Exit.then (fun a' w' => ∃ m', m' < m ∧ I m' a' w') Q) a w) : (Code.loop c).wpIn F n P Q a w := by
  have key : ∀ f m a w, m < f → I m a w → Code.roundsIn F n P c Q f a w := by
    intro f
    induction f with
    | zero => intro m a w hm; omega
    | succ f ih =>
      intro m a w hm hI
      rw [roundsIn_succ]
      refine wpIn_mono (round m a w hI) ?_
      intro e a' w' h
      cases e <;> first | exact h | skip
      obtain ⟨m', h1, h2⟩ := h
      exact ih m' a' w' (by omega) h2
  exact wpIn_loop_rounds (m + 1) (key _ m a w (Nat.lt_succ_self _) h0)

theorem setCell_heap_ne (W : World) (p : Addr) (v : Value) {k : Nat} (h : k ≠ p.block) : (W.setCell p v).heap[k]? = W.heap[k]? := by
  simp only [World.setCell, Array.getElem?_modify]
  rw [if_neg (fun e => h e.symm)]
theorem own_setOther {α : Type} {R : World → (Nat → Value) → α → Prop} {sz : Nat} {w : World} {B e : Nat} {v : Value} {n : Nat} {xs : List α} (h : OwnSl R sz w B e v n xs) {p : Addr} {u : Value} (hne : v.ownBlock ≠ some p.block) (hR : ∀ vs x, R w vs x → R (w.setCell p u) vs x) : OwnSl R sz (w.setCell p u) B e v n xs := by
  obtain ⟨cells, o1, o2, o3⟩ := h
  exact ⟨cells, ownsRow_setCell_other o1 hne _, ⟨o2.1, fun i x hx => by obtain ⟨vs, a, b⟩ := o2.2 i x hx; exact ⟨vs, a, hR _ _ b⟩⟩, o3⟩

theorem KpAt.drew {N b1 b2 : Nat} {A B : World} (h : KpAt N b1 b2 A B) : KpAt N b1 b2 A B.drew := ⟨h.1.drew, h.2.1, h.2.2⟩
theorem KpAt.setCell {N b1 b2 : Nat} {A B : World} (h : KpAt N b1 b2 A B) {p : Addr} (hp : N ≤ p.block) (h1 : b1 ≠ p.block) (h2 : b2 ≠ p.block) (u : Value) : KpAt N b1 b2 A (B.setCell p u) := ⟨h.1.setCell hp u, (setCell_heap_ne B p u h1).trans h.2.1, (setCell_heap_ne B p u h2).trans h.2.2⟩
/-- A mark: the block for the rounds' deferred calls. -/
def markOf (D : Nat) : Deferred := { target := .collected D, args := #[] }

/-- The memory of grow: the box of the mark (its block is called z), the mark's row, the box of 'again', the marks of the loops gone through. -/
structure GrowW (w : World) (z0 : Nat) (v : Value) (n b7 : Nat) (Ds : List Nat) (xs : List Int) (ag : Bool) (W : World) : Prop where
  low : ∀ q, v.ownBlock = some q → z0 ≤ q ∧ q < w.heap.size
  lo0 : z0 ≤ w.heap.size
  hb7 : w.heap.size < b7
  lt7 : b7 < W.heap.size
  box : W.cell? ⟨w.heap.size, 0, none⟩ = some v
  flag : W.cell? ⟨b7, 0, none⟩ = some (.bool ag)
  free : W.frozen? ⟨b7, 0, none⟩ = false
  own : OwnInts W z0 v n xs
  below : Below z0 w W
  marks : ∀ D ∈ Ds, W.heap[D]? = some (.deferred (some [])) ∧ w.heap.size ≤ D
  nodup : Ds.Nodup
section
variable {w : World} {z0 : Nat} {v : Value} {n b7 : Nat} {Ds : List Nat} {xs : List Int} {ag : Bool} {W W' : World}
theorem GrowW.grown (h : GrowW w z0 v n b7 Ds xs ag W) {Bd : Nat} {row : Option Nat} (hg : W.grownBy W' row) (hr : ∀ r, row = some r → Bd ≤ r ∧ ∃ o : Obj, W.heap[r]? = some o ∧ o.isCells = false) (hBd : w.heap.size ≤ Bd) (hDs : ∀ D ∈ Ds, D < Bd) : GrowW w z0 v n b7 Ds xs ag W' := by
  have hr' : ∀ r, row = some r → ∃ o : Obj, W.heap[r]? = some o ∧ o.isCells = false := fun r e => (hr r e).2
  have hne : v.ownBlock = none ∨ v.ownBlock ≠ row := by
    cases hv : v.ownBlock with
    | none => exact .inl rfl
    | some q =>
      refine .inr fun e => ?_
      have h1 := (h.low q hv).2
      have h2 := (hr q e.symm).1
      omega
  refine ⟨h.low, h.lo0, h.hb7, Nat.lt_of_lt_of_le h.lt7 hg.size, cell_kept h.box hg hr', cell_kept h.flag hg hr', (frozen_kept h.flag hg hr').trans h.free, h.own.kept hg hne (fun _ _ hx => hx), h.below.grown hg (Nat.le_trans h.lo0 h.below.size) (fun k e => Nat.le_trans h.lo0 (Nat.le_trans hBd (hr k e).1)), fun D hD => ⟨(hg.block D (Array.getElem?_eq_some_iff.1 (h.marks D hD).1).1 (fun e => ?_)).trans (h.marks D hD).1, (h.marks D hD).2⟩, h.nodup⟩
  have := (hr D e.symm).1
  have := hDs D hD
  omega
theorem GrowW.drew (h : GrowW w z0 v n b7 Ds xs ag W) : GrowW w z0 v n b7 Ds xs ag W.drew :=
  h.grown (Bd := W.heap.size) (grownDrew' W none) (fun r e => by cases e) h.below.size (fun D hD => (Array.getElem?_eq_some_iff.1 (h.marks D hD).1).1)
theorem GrowW.setOther (h : GrowW w z0 v n b7 Ds xs ag W) {b : Nat} (hb : w.heap.size < b) (hb7 : b ≠ b7) (u : Value) : GrowW w z0 v n b7 Ds xs ag (W.setCell ⟨b, 0, none⟩ u) :=
  ⟨h.low, h.lo0, h.hb7, by simpa using h.lt7, (World.cell?_setCell_other W ⟨b, 0, none⟩ ⟨w.heap.size, 0, none⟩ u (ne_block (by omega))).trans h.box, (World.cell?_setCell_other W ⟨b, 0, none⟩ ⟨b7, 0, none⟩ u (ne_block hb7)).trans h.flag, (World.frozen?_setCell W ⟨b, 0, none⟩ ⟨b7, 0, none⟩ u).trans h.free,
    own_setOther h.own (fun e => by have := (h.low b e).2; omega) (fun _ _ hx => hx), h.below.setCell (p := ⟨b, 0, none⟩) (Nat.le_trans h.lo0 (Nat.le_of_lt hb)) u, fun D hD => ⟨(KeepsOthers.setCell W ⟨b, 0, none⟩ u).same D _ (h.marks D hD).1 rfl, (h.marks D hD).2⟩, h.nodup⟩
theorem GrowW.flagOn (h : GrowW w z0 v n b7 Ds xs ag W) (bb : Bool) : GrowW w z0 v n b7 Ds xs bb (W.setCell ⟨b7, 0, none⟩ (.bool bb)) :=
  ⟨h.low, h.lo0, h.hb7, by simpa using h.lt7, (World.cell?_setCell_other W ⟨b7, 0, none⟩ ⟨w.heap.size, 0, none⟩ _ (ne_block (by have := h.hb7; omega))).trans h.box, World.cell?_setCell_same' W ⟨b7, 0, none⟩ (.bool bb) (by rw [h.flag]; rfl), (World.frozen?_setCell W ⟨b7, 0, none⟩ ⟨b7, 0, none⟩ (.bool bb)).trans h.free,
    own_setOther h.own (fun e => by have h1 := (h.low b7 e).2; have := h.hb7; omega) (fun _ _ hx => hx), h.below.setCell (p := ⟨b7, 0, none⟩) (Nat.le_trans h.lo0 (Nat.le_of_lt h.hb7)) _, fun D hD => ⟨(KeepsOthers.setCell W ⟨b7, 0, none⟩ (.bool bb)).same D _ (h.marks D hD).1 rfl, (h.marks D hD).2⟩, h.nodup⟩
theorem GrowW.putM {g cap : Nat} (h : GrowW w z0 (.slice (some ⟨g, 0, none⟩) n cap) n b7 Ds xs ag W) (p : Nat) (y : Int) : GrowW w z0 (.slice (some ⟨g, 0, none⟩) n cap) n b7 Ds (xs.set p y) ag (W.setCell ⟨g, p, none⟩ (.int .i64 y)) := by
  have hg := h.low g rfl
  have h7 := h.hb7
  have ne : ∀ b, b ≠ g → (⟨g, p, none⟩ : Addr) ≠ ⟨b, 0, none⟩ := fun b hb e => hb (congrArg Addr.block e).symm
  exact ⟨h.low, h.lo0, h.hb7, by simpa using h.lt7, (World.cell?_setCell_other W ⟨g, p, none⟩ ⟨w.heap.size, 0, none⟩ _ (ne _ (by omega))).trans h.box, (World.cell?_setCell_other W ⟨g, p, none⟩ ⟨b7, 0, none⟩ _ (ne _ (by omega))).trans h.flag, (World.frozen?_setCell W ⟨g, p, none⟩ ⟨b7, 0, none⟩ _).trans h.free,
    h.own.put p y, h.below.setCell (p := ⟨g, p, none⟩) hg.1 _, fun D hD => ⟨(KeepsOthers.setCell W ⟨g, p, none⟩ _).same D _ (h.marks D hD).1 rfl, (h.marks D hD).2⟩, h.nodup⟩
/-- A new box of 'again'. -/
theorem GrowW.newFlag (h : GrowW w z0 v n b7 Ds xs ag W) (bb : Bool) (t : TypeId) : GrowW w z0 v n W.heap.size Ds xs bb (W.alloc (.cells #[.bool bb] t)) := by
  have h' := h.grown (Bd := W.heap.size) (World.grownBy_alloc W (.cells #[.bool bb] t) none) (fun r e => by cases e) h.below.size (fun D hD => (Array.getElem?_eq_some_iff.1 (h.marks D hD).1).1)
  have hn := newCell W (.bool bb) t
  exact ⟨h.low, h.lo0, Nat.lt_trans h.hb7 h.lt7, by simp, h'.box, hn.1, hn.2, h'.own, h'.below, h'.marks, h'.nodup⟩
theorem GrowW.more (h : GrowW w z0 v n b7 Ds xs ag W) {D : Nat} (hD : W.heap[D]? = some (.deferred (some []))) (hw : w.heap.size ≤ D) (hn : ∀ d ∈ Ds, d < D) : GrowW w z0 v n b7 (D :: Ds) xs ag W :=
  { h with
    marks := fun d hd => (List.mem_cons.1 hd).elim (fun e => e ▸ ⟨hD, hw⟩) (fun hd => h.marks d hd)
    nodup := List.nodup_cons.2 ⟨fun hm => Nat.lt_irrefl _ (hn D hm), h.nodup⟩ }
theorem GrowW.shut {D : Nat} (h : GrowW w z0 v n b7 (D :: Ds) xs ag W) : GrowW w z0 v n b7 Ds xs ag (W.putObj D (.deferred none)) := by
  have hD := h.marks D (List.mem_cons_self ..)
  have hg := grownBy_putObj' W D (.deferred none)
  have hr' : ∀ r, some D = some r → ∃ o : Obj, W.heap[r]? = some o ∧ o.isCells = false := fun r e => by cases e; exact ⟨_, hD.1, rfl⟩
  refine ⟨h.low, h.lo0, h.hb7, Nat.lt_of_lt_of_le h.lt7 hg.size, cell_kept h.box hg hr', cell_kept h.flag hg hr', (frozen_kept h.flag hg hr').trans h.free, h.own.kept hg (.inr fun e => ?_) (fun _ _ hx => hx), h.below.grown hg (Nat.le_trans h.lo0 h.below.size) (fun k e => by cases e; exact Nat.le_trans h.lo0 hD.2), fun d hd => ⟨(World.putObj_heap_other (fun e => ?_)).trans (h.marks d (List.mem_cons_of_mem _ hd)).1, (h.marks d (List.mem_cons_of_mem _ hd)).2⟩, (List.nodup_cons.1 h.nodup).2⟩
  · have := (h.low D e).2
    have := hD.2
    omega
  · exact (List.nodup_cons.1 h.nodup).1 (e ▸ hd)
theorem GrowW.start {bb : Bool} {t t2 : TypeId} (own : OwnInts w z0 v n xs) (h0 : z0 ≤ w.heap.size) : GrowW w z0 v n (w.heap.size + 1) [] xs bb ((w.alloc (.cells #[v] t)).alloc (.cells #[.bool bb] t2)) := by
  have n1 := newCell w v t
  have n2 := newCell (w.alloc (.cells #[v] t)) (.bool bb) t2
  rw [World.size_alloc] at n2
  have b2 := (Below.refl (w.heap.size + 1) (w.alloc (.cells #[v] t))).alloc (by simp) (.cells #[.bool bb] t2)
  have b0 : Below w.heap.size w ((w.alloc (.cells #[v] t)).alloc (.cells #[.bool bb] t2)) := ((Below.refl _ w).alloc (Nat.le_refl _) _).alloc (by simp) _
  exact ⟨own.lt, h0, Nat.lt_succ_self _, by simp, (b2.cell (p := ⟨w.heap.size, 0, none⟩) (Nat.lt_succ_self _)).trans n1.1, n2.1, n2.2, own.keep IntR.kept b0, b0.mono h0, (fun D hD => by cases hD), List.nodup_nil⟩
theorem grow_leaves {F : Fence} {m : Nat} {P : Program} {fn : Func} {tmps : Array Value} {R : Ending → World → Prop} (hL : ∀ W', GrowW w z0 v n b7 [] xs ag W' → LeavesIn F m P fn tmps R [] .returning W') : ∀ (Ds : List Nat) (W : World), GrowW w z0 v n b7 Ds xs ag W → LeavesInM F m P fn tmps R (Ds.map markOf) .returning W
  | [], W, h => hL W h
  | D :: Ds, W, h => ⟨by simp, .inl ⟨D, W.putObj D (.deferred none), rfl, run_takeDeferred (h.marks D (List.mem_cons_self ..)).1, grow_leaves hL Ds _ h.shut⟩⟩
end
end Go.Proofs.Ytcjjmfppkfmheaa
