/- Rows of lists whose cells stand at the head of blocks of integers, of the call's own or longer: read, laid anew. Conditions: none; plain lemmas on memory. -/
import Derived.Test.YtcopnfdknclhnaaGreatMineTellsK07
namespace Go.Proofs.YtcopnfdknclhnaaGreat
open Go.RowKit

theorem Sl.tail1 {α : Type} {R : World → (Nat → Value) → α → Prop} {w : World} {b off n c : Nat} {x : α} {xs : List α} (h : Sl R 1 w (some ⟨b, off, none⟩) n c (x :: xs)) :
    Sl R 1 w (if c = 1 then some ⟨b, off, none⟩ else some ⟨b, off + 1, none⟩) (n - 1) (c - 1) xs := by
  have hl := h.len
  simp at hl
  refine ⟨by omega, by have := h.le; omega, by have := h.cap; omega, by have := h.small; omega, fun hn => ?_, fun hn => ?_⟩
  · split at hn <;> cases hn
  · have hc : c ≠ 1 := by have := h.le; omega
    rw [if_neg hc]
    obtain ⟨b', off', e, hb, hcell⟩ := h.cells (by omega)
    injection e with e
    injection e with e1 e2 _
    subst e1 e2
    refine ⟨b, off + 1, rfl, hb, fun i y hy => ?_⟩
    obtain ⟨vs, h1, h2⟩ := hcell (i + 1) y (by simpa using hy)
    refine ⟨vs, fun j hj => ?_, h2⟩
    have := h1 j hj
    rw [show off + ((i + 1) * 1 + j) = off + 1 + (i * 1 + j) from by omega] at this
    exact this
/-- Block g is of integers, and the first n are xs. -/
structure HasI (w : World) (g n cap : Nat) (xs : List Int) : Prop where
  len : xs.length = n
  le : n ≤ cap
  cap : cap ≤ maxLen
  blk : ∃ cur, w.heap[g]? = some (.cells cur 3 (0, 0)) ∧ cur.toList.take n = xs.map (Value.int .i64)
section
variable {w w' : World} {g n cap : Nat} {xs : List Int}
theorem HasI.lt (h : HasI w g n cap xs) : g < w.heap.size := by
  obtain ⟨cur, hb, _⟩ := h.blk
  exact (Array.getElem?_eq_some_iff.1 hb).1
theorem HasI.cell (h : HasI w g n cap xs) {i : Nat} {x : Int} (hx : xs[i]? = some x) : w.cell? ⟨g, i, none⟩ = some (.int .i64 x) := by
  obtain ⟨cur, hb, ht⟩ := h.blk
  have hi : i < n := by rw [← h.len]; exact (List.getElem?_eq_some_iff.1 hx).1
  have h1 : (cur.toList.take n)[i]? = (xs.map (Value.int .i64))[i]? := by rw [ht]
  rw [List.getElem?_take_of_lt hi, List.getElem?_map, hx] at h1
  simp only [World.cell?, hb]
  simp only [Option.isSome_none, Bool.false_eq_true, if_false]
  rw [← Array.getElem?_toList, h1]
  rfl
theorem HasI.ints (h : HasI w g n cap xs) (hn : n ≤ 281474976710656) : Ints w (some ⟨g, 0, none⟩) n cap xs :=
  ⟨h.len, h.le, h.cap, hn, fun e => (by cases e), fun _ => ⟨g, 0, rfl, h.lt, fun i x hx => ⟨fun _ => .int .i64 x, fun j hj => by
    obtain rfl : j = 0 := by omega
    rw [show 0 + (i * 1 + 0) = i by omega]
    exact h.cell hx, rfl⟩⟩⟩
theorem HasI.same (h : HasI w g n cap xs) (hb : w'.heap[g]? = w.heap[g]?) : HasI w' g n cap xs := by
  obtain ⟨cur, h1, h2⟩ := h.blk
  exact ⟨h.len, h.le, h.cap, cur, hb.trans h1, h2⟩
theorem HasI.kept (h : HasI w g n cap xs) {row : Option Nat} (hg : w.grownBy w' row) (hne : row ≠ some g) : HasI w' g n cap xs := h.same (hg.block g h.lt (Ne.symm hne))
theorem HasI.keep (h : HasI w g n cap xs) (hb : Below w.heap.size w w') : HasI w' g n cap xs := h.same (hb.block g h.lt)
theorem HasI.of_own {B : Nat} (h : OwnInts w B (.slice (some ⟨g, 0, none⟩) n cap) n xs) : HasI w g n cap xs ∧ B ≤ g := by
  have h3 := h.len
  have h1 := h.row
  rcases h1.2 with ⟨e, _⟩ | ⟨g', cap', cur, e, hB, hb, a1, a2, a3, a4⟩
  · cases e
  · injection e with e1 _ e3
    injection e1 with e1
    injection e1 with e1
    subst e1 e3
    exact ⟨⟨h3, a1, a2, cur, hb, by rw [Nat.mul_one] at a4; exact a4⟩, hB⟩
/-- The first one alone. -/
theorem HasI.one {x : Int} (h : HasI w g n cap (x :: xs)) : HasI w g 1 1 [x] := by
  obtain ⟨cur, h1, h2⟩ := h.blk
  refine ⟨rfl, Nat.le_refl _, by simp [maxLen], cur, h1, ?_⟩
  have hn : n = xs.length + 1 := by rw [← h.len]; rfl
  have h3 := congrArg (List.take 1) h2
  rw [List.take_take, show min 1 n = 1 by omega] at h3
  simpa using h3
end

/-- A list in a block that P allows. -/
def ApR (P : Nat → Prop) : World → (Nat → Value) → List Int → Prop := fun w vs xs => ∃ g n cap, vs 0 = .slice (some ⟨g, 0, none⟩) n cap ∧ HasI w g n cap xs ∧ P g ∧ n ≤ 17592186043904
theorem ApR.kept (P : Nat → Prop) : Kept (ApR P) := fun _ _ _ _ hb ⟨g, n, cap, e, h, p, l⟩ => ⟨g, n, cap, e, h.keep hb, p, l⟩
theorem ApR.list {P : Nat → Prop} {w : World} {vs : Nat → Value} {xs : List Int} (h : ApR P w vs xs) : ListR w vs xs := by
  obtain ⟨g, n, cap, e, h, p, l⟩ := h
  exact ⟨_, n, cap, e, h.ints (by omega), l⟩
theorem ApR.good (P : Nat → Prop) : Good (ApR P) 1 where
  kept := ApR.kept P
  one := fun w vs x h j hj => ListR.good.one w vs x h.list j hj
  pos := by omega
theorem ApR.wide {P Q : Nat → Prop} {w : World} (hp : ∀ k, k < w.heap.size → P k → Q k) {vs : Nat → Value} {xs : List Int} (h : ApR P w vs xs) : ApR Q w vs xs := by
  obtain ⟨g, n, cap, e, h, p, l⟩ := h
  exact ⟨g, n, cap, e, h, hp g h.lt p, l⟩
/-- What is in a block that the row does not hold stays. -/
theorem ApR.grown {P : Nat → Prop} {w w' : World} {row : Option Nat} (hg : w.grownBy w' row) (hne : ∀ k, row = some k → ¬ P k) {vs : Nat → Value} {xs : List Int} (h : ApR P w vs xs) : ApR P w' vs xs := by
  obtain ⟨g, n, cap, e, h, p, l⟩ := h
  exact ⟨g, n, cap, e, h.kept hg (fun e => hne g e p), p, l⟩
theorem ApR.grownRow {P : Nat → Prop} {w w' : World} {B2 size n e : Nat} {v : Value} {cells : List Value} (hown : w.ownsRow B2 e size v n cells) (hne : 3 ≠ e) (hg : w.grownBy w' v.ownBlock) {vs : Nat → Value} {xs : List Int} (h : ApR P w vs xs) : ApR P w' vs xs := by
  obtain ⟨g, n, cap, ev, h, p, l⟩ := h
  refine ⟨g, n, cap, ev, h.kept hg (fun e => ?_), p, l⟩
  obtain ⟨cur, h1, _⟩ := h.blk
  rcases hown.2 with ⟨rfl, _⟩ | ⟨g', cap', cur', rfl, _, hb, _⟩
  · cases e
  · injection e with e
    change g' = g at e
    subst e
    rw [hb] at h1
    injection h1 with h1
    injection h1 with _ h1 _
    exact hne h1.symm
abbrev RowP (w : World) (P : Nat → Prop) (B2 : Nat) (v : Value) (n : Nat) (L : List (List Int)) : Prop := OwnSl (ApR P) 1 w B2 35 v n L
abbrev RowG (w : World) (B B2 : Nat) (v : Value) (n : Nat) (L : List (List Int)) : Prop := RowP w (fun k => B ≤ k) B2 v n L
/-- The list v of the call's. -/
def IsI (w : World) (P : Nat → Prop) (v : Value) (n : Nat) (xs : List Int) : Prop := ∃ g cap, v = .slice (some ⟨g, 0, none⟩) n cap ∧ HasI w g n cap xs ∧ P g
section
variable {w w' : World} {P : Nat → Prop} {B B2 g n cap : Nat} {L : List (List Int)}
theorem RowP.keep {v : Value} (h : RowP w P B2 v n L) (hb : Below w.heap.size w w') : RowP w' P B2 v n L := OwnSl.keep (ApR.kept _) h hb
theorem RowP.wide {Q : Nat → Prop} {v : Value} (hp : ∀ k, k < w.heap.size → P k → Q k) (h : RowP w P B2 v n L) : RowP w Q B2 v n L := by
  obtain ⟨cells, h1, h2, h3⟩ := h
  exact ⟨cells, h1, ⟨h2.1, fun i x hx => by obtain ⟨vs, a, r⟩ := h2.2 i x hx; exact ⟨vs, a, r.wide hp⟩⟩, h3⟩
theorem RowP.grown {v : Value} (h : RowP w P B2 v n L) {row : Option Nat} (hg : w.grownBy w' row) (hne : ∀ k, row = some k → ¬ P k) (hv : v.ownBlock = none ∨ v.ownBlock ≠ row) : RowP w' P B2 v n L :=
  OwnSl.kept h hg hv (fun _ _ hx => hx.grown hg hne)
theorem RowG.keep {v : Value} (h : RowG w B B2 v n L) (hb : Below w.heap.size w w') : RowG w' B B2 v n L := OwnSl.keep (ApR.kept _) h hb
theorem RowG.lists {v : Value} (h : RowP w P B2 v n L) (hn : n ≤ 5864062014805) : ∃ A c, v = .slice A n c ∧ Lists w A n c L := by
  obtain ⟨A, c, rfl, s⟩ := h.sl (by omega)
  exact ⟨A, c, rfl, s.len, s.le, s.cap, s.small, s.nul, fun hn => by
    obtain ⟨b, off, e, hb, hx⟩ := s.cells hn
    exact ⟨b, off, e, hb, fun i x hi => by obtain ⟨vs, a, r⟩ := hx i x hi; exact ⟨vs, a, r.list⟩⟩⟩
theorem RowG.at (h : RowG w B B2 (.slice (some ⟨g, 0, none⟩) n cap) n L) {j : Nat} {a : List Int} (ha : L[j]? = some a) : ∃ A m c, w.cell? ⟨g, j, none⟩ = some (.slice A m c) ∧ IsI w (fun k => B ≤ k) (.slice A m c) m a ∧ m ≤ 17592186043904 := by
  obtain ⟨cells, h1, h2, h3⟩ := h
  obtain ⟨vs, e, b, m, c, ev, hm, hp, hl⟩ := h2.2 j a ha
  have e0 := e 0 (by omega)
  rw [ev] at e0
  have hj : j < n := by rw [← h3]; exact (List.getElem?_eq_some_iff.1 ha).1
  exact ⟨_, m, c, by rw [h1.cellAt j (by omega)]; simpa using e0, ⟨b, c, rfl, hm, hp⟩, hl⟩
theorem RowG.frozen (h : RowG w B B2 (.slice (some ⟨g, 0, none⟩) n cap) n L) (j : Nat) : w.frozen? ⟨g, j, none⟩ = false := by
  obtain ⟨cells, h1, _⟩ := h
  exact h1.frozenAt j
theorem IsI.put {v u : Value} {m i : Nat} {x : List Int} (h : RowP w P B2 (.slice (some ⟨g, 0, none⟩) n cap) n L) (o : IsI w P v m x) : IsI (w.setCell ⟨g, i, none⟩ u) P v m x := by
  obtain ⟨cells, h1, _⟩ := h
  obtain ⟨b, c, e, hh, hp⟩ := o
  have r : ApR (fun k => k = b) w (fun _ => .slice (some ⟨b, 0, none⟩) 0 c) [] := ⟨b, 0, c, rfl, ⟨rfl, Nat.zero_le _, hh.cap, by obtain ⟨cur, q, _⟩ := hh.blk; exact ⟨cur, q, by simp⟩⟩, rfl, by omega⟩
  have hg := grownG w g i u
  by_cases e2 : g = b
  · subst e2
    exfalso
    obtain ⟨cur, q, _⟩ := hh.blk
    rcases h1.2 with ⟨e, _⟩ | ⟨g', cap', cur', e, _, hb, _⟩
    · cases e
    · injection e with e1
      injection e1 with e1
      injection e1 with e1
      subst e1
      rw [hb] at q
      injection q with q
      injection q with _ q _
      exact absurd q (by decide)
  · exact ⟨b, c, e, hh.kept hg (fun e3 => e2 (by injection e3)), hp⟩
theorem intsAt_put {v : Value} {m : Nat} {x : List Int} (h : RowG w B B2 (.slice (some ⟨g, 0, none⟩) n cap) n L) (o : IsI w (fun k => B ≤ k) v m x) (i : Nat) (u : Value) : IsI (w.setCell ⟨g, i, none⟩ u) (fun k => B ≤ k) v m x := o.put h
theorem RowG.put (h : RowG w B B2 (.slice (some ⟨g, 0, none⟩) n cap) n L) (i : Nat) {v : Value} {m : Nat} {a : List Int} (hv : IsI w (fun k => B ≤ k) v m a) (hm : m ≤ 17592186043904) : RowG (w.setCell ⟨g, i, none⟩ v) B B2 (.slice (some ⟨g, 0, none⟩) n cap) n (L.set i a) := by
  have hv2 := hv.put (i := i) (u := v) h
  obtain ⟨cells, h1, h2, h3⟩ := h
  have hg : w.grownBy (w.setCell ⟨g, i, none⟩ v) (Value.slice (some ⟨g, 0, none⟩) n cap).ownBlock := ⟨rfl, rfl, rfl, by simp [World.setCell], fun k _ hne => heap_setCell_other _ _ _ _ (fun e => hne (by rw [e]; rfl))⟩
  refine ⟨_, (h1.stored i v).1, ⟨by simpa using h2.1, fun k x hx => ?_⟩, by simpa using h3⟩
  rw [List.getElem?_set] at hx
  split at hx
  · rename_i e
    subst e
    split at hx
    · rename_i hlt
      injection hx with hx
      subst hx
      obtain ⟨b, c, e1, e2, e3⟩ := hv2
      refine ⟨fun _ => v, fun j hj => ?_, b, m, c, e1, e2, e3, hm⟩
      obtain rfl : j = 0 := by omega
      rw [List.getElem?_set, if_pos (by omega), if_pos (by have := h2.1; omega)]
    · cases hx
  · rename_i hne
    obtain ⟨vs, e, hR⟩ := h2.2 k x hx
    refine ⟨vs, fun j hj => ?_, ApR.grownRow h1 (by decide) hg hR⟩
    rw [List.getElem?_set, if_neg (by omega)]
    exact e j hj
theorem RowG.anyCell (h : RowG w B B2 (.slice (some ⟨g, 0, none⟩) n cap) n L) {j : Nat} (hj : j < n) : (w.cell? ⟨g, j, none⟩).isSome = true := by
  obtain ⟨A, m, c, e, _⟩ := h.at (j := j) (List.getElem?_eq_getElem (by rw [h.len]; exact hj))
  rw [e]; rfl
theorem RowG.ints {m c : Nat} {A : Option Addr} {a : List Int} (h : IsI w P (.slice A m c) m a) (hm : m ≤ 17592186043904) : Ints w A m c a := by
  obtain ⟨b, c', e, i, _⟩ := h
  injection e with e1 _ e2
  rw [e1, e2]; exact i.ints (by omega)
theorem IsI.keep {v : Value} {a : List Int} (h : IsI w P v n a) (hb : Below w.heap.size w w') : IsI w' P v n a := by
  obtain ⟨b, c', e, i, p⟩ := h
  exact ⟨b, c', e, i.keep hb, p⟩
end
end Go.Proofs.YtcopnfdknclhnaaGreat
