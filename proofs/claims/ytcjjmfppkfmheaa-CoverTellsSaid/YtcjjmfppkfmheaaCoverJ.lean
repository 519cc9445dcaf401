/- The memory of Tree: the knots' row, whose marks lie in rows of ints or below N. Conditions: none. -/
import Derived.Test.YtcjjmfppkfmheaaCoverI
import Derived.Test.YtcjjmfppkfmheaaBox
namespace Go.Proofs.Ytcjjmfppkfmheaa
open Go.RowKit

/-- A list below N or in a row of ints. -/
def Far (N : Nat) (w : World) (A : Option Addr) (n : Nat) : Prop := ∀ b off, A = some ⟨b, off, none⟩ → 0 < n → b < N ∨ ∃ cs fr, w.heap[b]? = some (.cells cs 3 fr)
def SafeB (N : Nat) (w : World) (b : Nat) : Prop := b < N ∨ ∃ cs fr, w.heap[b]? = some (.cells cs 3 fr)
theorem Far.same {N : Nat} {w w' : World} {A : Option Addr} {n c : Nat} {xs : List Int} (h : Far N w A n) (i : Ints w A n c xs) (hs : w.heap.size ≤ w'.heap.size) (hb : ∀ b, b < w.heap.size → SafeB N w b → w'.heap[b]? = w.heap[b]?) : Far N w' A n ∧ Ints w' A n c xs := by
  constructor
  · intro b off hA hn
    rcases h b off hA hn with h1 | ⟨cs, fr, h1⟩
    · exact .inl h1
    · exact .inr ⟨cs, fr, (hb b (Array.getElem?_eq_some_iff.1 h1).1 (.inr ⟨cs, fr, h1⟩)).trans h1⟩
  · refine ⟨i.len, i.le, i.cap, i.small, i.nul, fun hn => ?_⟩
    obtain ⟨b, off, e, hlt, hc⟩ := i.cells hn
    refine ⟨b, off, e, Nat.lt_of_lt_of_le hlt hs, fun j x hx => ?_⟩
    obtain ⟨vs, h1, h2⟩ := hc j x hx
    exact ⟨vs, fun q hq => (World.cell?_of_block (hb b hlt (h b off e hn))).trans (h1 q hq), h2⟩
theorem Far.own {N B n c : Nat} {w : World} {A : Option Addr} {xs : List Int} (h : OwnInts w B (.slice A n c) n xs) : Far N w A n := by
  intro b off hA hn
  obtain ⟨cells, h1, _⟩ := h
  rcases h1.2 with ⟨e, _⟩ | ⟨g, cap, cur, e, _, hh, _⟩
  · subst hA; cases e
  · subst hA
    injection e with e1 _ _
    injection e1 with e1
    injection e1 with e1
    subst e1
    exact .inr ⟨cur, _, hh⟩
theorem Far.low {N n c : Nat} {w : World} {A : Option Addr} {xs : List Int} (h : Ints w A n c xs) (hN : w.heap.size ≤ N) (w' : World) : Far N w' A n := by
  intro b off hA hn
  obtain ⟨b', off', e, hlt, _⟩ := h.cells hn
  rw [hA] at e
  injection e with e
  injection e with e
  subst e
  exact .inl (Nat.lt_of_lt_of_le hlt hN)

def MkR (N : Nat) : World → (Nat → Value) → PKnot → Prop := fun w vs k => vs 0 = .int .i64 k.up ∧ vs 1 = .int .i64 k.tran ∧ ∃ A n c, vs 2 = .slice A n c ∧ Ints w A n c k.mark ∧ Far N w A n
theorem MkR.same {N : Nat} {w w' : World} (hs : w.heap.size ≤ w'.heap.size) (hb : ∀ b, b < w.heap.size → SafeB N w b → w'.heap[b]? = w.heap[b]?) {vs : Nat → Value} {k : PKnot} (h : MkR N w vs k) : MkR N w' vs k := by
  obtain ⟨h0, h1, A, n, c, h2, h3, h4⟩ := h
  have := h4.same h3 hs hb
  exact ⟨h0, h1, A, n, c, h2, this.2, this.1⟩
theorem MkR.kept (N : Nat) : Kept (MkR N) := fun _ _ _ _ hb h => MkR.same hb.size (fun b hlt _ => hb.block b hlt) h
theorem MkR.knot {N : Nat} {w : World} {vs : Nat → Value} {k : PKnot} (h : MkR N w vs k) : KnotR w vs k := by
  obtain ⟨h0, h1, A, n, c, h2, h3, _⟩ := h
  exact ⟨h0, h1, A, n, c, h2, h3⟩
theorem SafeB.ne {N : Nat} {w : World} {b g : Nat} (h : SafeB N w b) (hg : N ≤ g) {cs : Array Value} {ty : Nat} {fr : Nat × Nat} (ht : w.heap[g]? = some (.cells cs ty fr)) (hne : ty ≠ 3) : b ≠ g := by
  rintro rfl
  rcases h with h | ⟨cs', fr', h⟩
  · omega
  · rw [ht] at h
    injection h with h
    injection h with _ h
    exact hne h
theorem own_at {w : World} {B e s n : Nat} {v : Value} {c : List Value} (h : w.ownsRow B e s v n c) {g : Nat} (hg : v.ownBlock = some g) : B ≤ g ∧ ∃ cur, w.heap[g]? = some (.cells cur e (0, 0)) := by
  rcases h.2 with ⟨rfl, _⟩ | ⟨g', cap, cur, rfl, h1, hh, _⟩
  · cases hg
  · simp only [Value.ownBlock, Option.some.injEq] at hg
    subst hg
    exact ⟨h1, cur, hh⟩
/-- The knots' row turns: the marks stay. -/
theorem MkR.grown {N n : Nat} {w w' : World} {v : Value} {cells : List Value} (ho : w.ownsRow N 100 3 v n cells) (hg : w.grownBy w' v.ownBlock) {vs : Nat → Value} {k : PKnot} (h : MkR N w vs k) : MkR N w' vs k :=
  MkR.same hg.size (fun b hlt hs => hg.block b hlt (fun e => by
    obtain ⟨h1, cur, h2⟩ := own_at ho e.symm
    exact hs.ne h1 h2 (by decide) rfl)) h
/-- A box that holds no ints turns. -/
theorem MkR.boxed {N b ty : Nat} {w : World} {cs : Array Value} (hx : Box w b ty cs) (hN : N ≤ b) (hty : ty ≠ 3) (j : Nat) (u : Value) {vs : Nat → Value} {k : PKnot} (h : MkR N w vs k) : MkR N (w.setCell ⟨b, j, none⟩ u) vs k :=
  by
  unfold Box at hx
  exact MkR.same (by simp) (fun b' _ hs => setCell_heap_ne w ⟨b, j, none⟩ u (hs.ne (g := b) hN hx hty)) h

structure TreeM (N bT : Nat) (P : Int) (A : Option Addr) (n c : Nat) (ks : List LKnot) (v : Value) (W : World) : Prop where
  lo : N ≤ bT
  box : Box W bT 102 #[.int .i64 P, .slice A n c, v]
  own : OwnSl (MkR N) 3 W N 100 v ks.length (ks.map fun x => x.1)
section
variable {N bT : Nat} {P : Int} {A : Option Addr} {n c : Nat} {ks : List LKnot} {v : Value} {W W' : World}
theorem TreeM.keep (h : TreeM N bT P A n c ks v W) (hb : Below W.heap.size W W') : TreeM N bT P A n c ks v W' := ⟨h.lo, h.box.keep hb, h.own.keep (MkR.kept N) hb⟩
theorem TreeM.tree (h : TreeM N bT P A n c ks v W) (hf : ks.length ≤ 300) : ∃ Am cm, v = .slice Am ks.length cm ∧ TreeAt W bT Am ks.length cm ks := by
  obtain ⟨Am, cm, hv, hs⟩ := h.own.sl (by omega)
  refine ⟨Am, cm, hv, h.box.lt, ?_, hs.len, hs.le, hs.cap, hs.small, hs.nul, fun hn => ?_⟩
  · rw [h.box.cell 2, hv]; rfl
  · obtain ⟨b, off, e, hlt, hc⟩ := hs.cells hn
    refine ⟨b, off, e, hlt, fun i x hx => ?_⟩
    obtain ⟨vs, h1, h2⟩ := hc i x hx
    exact ⟨vs, h1, h2.knot⟩
/-- The first knot: its row, and the tree's box. -/
theorem TreeM.start {Ac : Option Addr} {m cc : Nat} {xs : List Int} (i : Ints W Ac m cc xs) (far : Far N W Ac m) (hN : N ≤ W.heap.size) :
    TreeM N (W.heap.size + 1) P A n c [(⟨-1, -1, xs⟩, [])] (.slice (some ⟨W.heap.size, 0, none⟩) 1 1) ((W.alloc (.cells #[.int .i64 (-1), .int .i64 (-1), .slice Ac m cc] 100)).alloc (.cells #[.int .i64 P, .slice A n c, .slice (some ⟨W.heap.size, 0, none⟩) 1 1] 102)) := by
  have b0 : Below W.heap.size W ((W.alloc (.cells #[.int .i64 (-1), .int .i64 (-1), .slice Ac m cc] 100)).alloc (.cells #[.int .i64 P, .slice A n c, .slice (some ⟨W.heap.size, 0, none⟩) 1 1] 102)) := ((Below.refl _ W).alloc (Nat.le_refl _) _).alloc (by simp) _
  have hk := far.same i b0.size (fun b hlt _ => b0.block b hlt)
  have hr : Box ((W.alloc (.cells #[.int .i64 (-1), .int .i64 (-1), .slice Ac m cc] 100)).alloc (.cells #[.int .i64 P, .slice A n c, .slice (some ⟨W.heap.size, 0, none⟩) 1 1] 102)) W.heap.size 100 #[.int .i64 (-1), .int .i64 (-1), .slice Ac m cc] := (Box.new W _ _).old _
  refine ⟨by omega, Box.newAt (by simp) _ _, [.int .i64 (-1), .int .i64 (-1), .slice Ac m cc], ⟨rfl, .inr ⟨W.heap.size, 1, _, rfl, hN, hr, Nat.le_refl _, by simp [maxLen], rfl, rfl⟩⟩, Reads.one (vs := fun j => match j with | 0 => .int .i64 (-1) | 1 => .int .i64 (-1) | _ => .slice Ac m cc) ⟨rfl, rfl, Ac, m, cc, rfl, hk.2, hk.1⟩ rfl (fun j hj => ?_), rfl⟩
  match j, hj with
  | 0, _ => rfl
  | 1, _ => rfl
  | 2, _ => rfl
theorem TreeM.boxGrown (h : TreeM N bT P A n c ks v W) (hg : W.grownBy W' v.ownBlock) : Box W' bT 102 #[.int .i64 P, .slice A n c, v] := by
  obtain ⟨cells, o1, _⟩ := h.own
  exact h.box.grown hg (fun e => by
    obtain ⟨_, cur, h2⟩ := own_at o1 e
    have h3 := h.box
    unfold Box at h3
    rw [h2] at h3
    injection h3 with h3
    injection h3 with _ h3
    exact absurd h3 (by decide))
theorem TreeM.otherGrown (h : TreeM N bT P A n c ks v W) (hg : W.grownBy W' v.ownBlock) {b ty : Nat} {cs : Array Value} (hx : Box W b ty cs) (hne : ty ≠ 100) : Box W' b ty cs := by
  obtain ⟨cells, o1, _⟩ := h.own
  exact hx.grown hg (fun e => by
    obtain ⟨_, cur, h2⟩ := own_at o1 e
    unfold Box at hx
    rw [h2] at hx
    injection hx with h3
    injection h3 with _ h3
    exact absurd h3.symm hne)
theorem TreeM.keepRow (h : TreeM N bT P A n c ks v W) : ∀ w', W.grownBy w' v.ownBlock → ∀ vs y, MkR N W vs y → MkR N w' vs y := by
  obtain ⟨cells, o1, _⟩ := h.own
  exact fun w' hg vs y hk => MkR.grown o1 hg hk
/-- A knot more, stored. -/
theorem TreeM.more (h : TreeM N bT P A n c ks v W) {g cap : Nat} {x : LKnot} (own : OwnSl (MkR N) 3 W' N 100 (.slice (some ⟨g, 0, none⟩) (ks.length + 1) cap) (ks.length + 1) ((ks.map fun x => x.1) ++ [x.1])) (hg : W.grownBy W' v.ownBlock) : TreeM N bT P A n c (ks ++ [x]) (.slice (some ⟨g, 0, none⟩) (ks.length + 1) cap) (W'.setCell ⟨bT, 2, none⟩ (.slice (some ⟨g, 0, none⟩) (ks.length + 1) cap)) := by
  obtain ⟨cells, o1, _⟩ := h.own
  have hx' : Box W' bT 102 #[.int .i64 P, .slice A n c, v] := h.box.grown hg (fun e => by
    obtain ⟨_, cur, h2⟩ := own_at o1 e
    have h3 := h.box
    unfold Box at h3
    rw [h2] at h3
    injection h3 with h3
    injection h3 with _ h3
    exact absurd h3 (by decide))
  refine ⟨h.lo, hx'.set 2 _, ?_⟩
  have hne : (Value.slice (some ⟨g, 0, none⟩) (ks.length + 1) cap).ownBlock ≠ some bT := fun e => by
    obtain ⟨cells', p1, _⟩ := own
    obtain ⟨_, cur, h2⟩ := own_at p1 e
    unfold Box at hx'
    rw [h2] at hx'
    injection hx' with h3
    injection h3 with _ h3
    exact absurd h3 (by decide)
  have := own_setOther (p := ⟨bT, 2, none⟩) (u := .slice (some ⟨g, 0, none⟩) (ks.length + 1) cap) own hne (fun vs k hk => MkR.boxed hx' h.lo (by decide) 2 _ hk)
  simpa using this
end
end Go.Proofs.Ytcjjmfppkfmheaa
