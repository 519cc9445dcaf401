/- The memory of DGraph: a space in a box, its two rows. Conditions: none. -/
import Derived.Test.YtmnacahoamkokaaReachG
import Derived.Test.YtmnacahoamkokaaEnabF
namespace Go.Proofs.Ytmnacahoamkokaa
open Go.RowKit

abbrev Z0 : Value := .slice none 0 0
structure GraW (w : World) (B b8 : Nat) (u v : Value) (ms : List (List Int)) (ars : List PArc) : Prop where
  lo : B ≤ b8
  box : Box w b8 48 #[u, v]
  marks : OwnSl (MarkR b8 u v Z0) 1 w B 33 u ms.length ms
  arcs : OwnSl ArcR 3 w B 147 v ars.length ars
section
variable {w w' : World} {B b8 : Nat} {u v : Value} {ms : List (List Int)} {ars : List PArc}
theorem GraW.keep (h : GraW w B b8 u v ms ars) (hb : Below w.heap.size w w') : GraW w' B b8 u v ms ars :=
  ⟨h.lo, h.box.keep hb, h.marks.keep (MarkR.kept _ _ _ _) hb, h.arcs.keep ArcR.kept hb⟩
theorem GraW.apart (h : GraW w B b8 u v ms ars) {C : Option Addr} {l : Nat} (hf : Fresh w C) : Apart4 b8 u v Z0 C l := by
  intro b off e _
  have hb : w.heap.size ≤ b := hf _ e
  have h0 := h.box.lt
  exact ⟨by omega, fun e2 => (by have := (h.marks.lt b e2).2; omega), fun e2 => (by have := (h.arcs.lt b e2).2; omega), fun e2 => (by cases e2)⟩
theorem GraW.mark (h : GraW w B b8 u v ms ars) {g k cap : Nat} {ms' : List (List Int)} (hk : k = ms'.length) (own : OwnSl (fun _ vs x => MarkR b8 u v Z0 w vs x) 1 w' B 33 (.slice (some ⟨g, 0, none⟩) k cap) k ms') (hg : w.grownBy w' u.ownBlock) (hat : u.ownBlock = some g ∨ w.heap.size ≤ g) :
    GraW (w'.setCell ⟨b8, 0, none⟩ (.slice (some ⟨g, 0, none⟩) k cap)) B b8 (.slice (some ⟨g, 0, none⟩) k cap) v ms' ars ∧ Keep4 b8 w u v Z0 (w'.setCell ⟨b8, 0, none⟩ (.slice (some ⟨g, 0, none⟩) k cap)) (.slice (some ⟨g, 0, none⟩) k cap) v Z0 := by
  subst hk
  have KK := keep4_row (i := 0) (k := ms'.length) (cap := cap) hg hat (u := u) (v := v) (z := Z0) (bf := b8) (.inl rfl) (.inr ⟨rfl, rfl⟩) (.inl rfl) (.inl rfl) (.slice (some ⟨g, 0, none⟩) ms'.length cap)
  obtain ⟨_, o1, _⟩ := id h.marks
  obtain ⟨_, o2, _⟩ := id h.arcs
  have b1 : Box w' b8 48 #[u, v] := h.box.grown hg (own_neBox o1 h.box (by decide))
  have a1 : OwnSl ArcR 3 w' B 147 v ars.length ars := h.arcs.turn hg (own_ne o2 o1 (by decide)) (fun _ _ hx => hx)
  obtain ⟨_, q1, _⟩ := id own
  obtain ⟨_, q2, _⟩ := id a1
  have gs := grown_setCell w' b8 0 (.slice (some ⟨g, 0, none⟩) ms'.length cap)
  exact ⟨⟨h.lo, by simpa using b1.set 0 (.slice (some ⟨g, 0, none⟩) ms'.length cap), own.turn gs (.inr (own_neBox q1 b1 (by decide))) (fun vs x hx => KK.mark hx), a1.turn gs (.inr (own_neBox q2 b1 (by decide))) (fun _ _ hx => hx)⟩, KK⟩
theorem GraW.arc (h : GraW w B b8 u v ms ars) {g k cap : Nat} {ars' : List PArc} (hk : k = ars'.length) (own : OwnSl ArcR 3 w' B 147 (.slice (some ⟨g, 0, none⟩) k cap) k ars') (hg : w.grownBy w' v.ownBlock) (hat : v.ownBlock = some g ∨ w.heap.size ≤ g) :
    GraW (w'.setCell ⟨b8, 1, none⟩ (.slice (some ⟨g, 0, none⟩) k cap)) B b8 u (.slice (some ⟨g, 0, none⟩) k cap) ms ars' ∧ Keep4 b8 w u v Z0 (w'.setCell ⟨b8, 1, none⟩ (.slice (some ⟨g, 0, none⟩) k cap)) u (.slice (some ⟨g, 0, none⟩) k cap) Z0 := by
  subst hk
  have KK := keep4_row (i := 1) (k := ars'.length) (cap := cap) hg hat (u := u) (v := v) (z := Z0) (bf := b8) (.inr (.inl rfl)) (.inl rfl) (.inr ⟨rfl, rfl⟩) (.inl rfl) (.slice (some ⟨g, 0, none⟩) ars'.length cap)
  obtain ⟨_, o1, _⟩ := id h.marks
  obtain ⟨_, o2, _⟩ := id h.arcs
  have b1 : Box w' b8 48 #[u, v] := h.box.grown hg (own_neBox o2 h.box (by decide))
  have k1 : OwnSl (fun _ vs x => MarkR b8 u v Z0 w vs x) 1 w' B 33 u ms.length ms := h.marks.turn hg (own_ne o1 o2 (by decide)) (fun _ _ hx => hx)
  obtain ⟨_, q1, _⟩ := id k1
  obtain ⟨_, q2, _⟩ := id own
  have gs := grown_setCell w' b8 1 (.slice (some ⟨g, 0, none⟩) ars'.length cap)
  exact ⟨⟨h.lo, by simpa using b1.set 1 (.slice (some ⟨g, 0, none⟩) ars'.length cap), k1.turn gs (.inr (own_neBox q1 b1 (by decide))) (fun vs x hx => KK.mark hx), own.turn gs (.inr (own_neBox q2 b1 (by decide))) (fun _ _ hx => hx)⟩, KK⟩
theorem GraW.space {b ty : Nat} {cs : Array Value} (h : GraW w B b8 u v ms ars) (hx : Box w b ty cs) (hcs : ∀ (j : Nat) (x : Int), cs[j]? ≠ some (.int .i64 x)) (hb : b < B) (hw : Beside b w w') (hos : w'.os = w.os) (htape : w'.tape = w.tape) (hout : w'.output = w.output) (hl : ms.length ≤ 7200) (ha : ars.length ≤ 7200) :
    ∃ U cu V cv, u = .slice U ms.length cu ∧ v = .slice V ars.length cv ∧ Lists w' U ms.length cu ms ∧ Arcs w' V ars.length cv ars := by
  have hg : w.grownBy w' (some b) := ⟨hos, htape, hout, Nat.le_of_eq hw.1.symm, fun k _ hk => hw.2 k (fun e => hk (by rw [e]))⟩
  have o1 : OwnSl ListR 1 w' B 33 u ms.length ms := h.marks.turn hg (.inr (fun e => by have := (h.marks.lt b e).1; omega)) (fun vs x hx' => by
    obtain ⟨A, n, c, e, i, l, _⟩ := hx'
    exact ⟨A, n, c, e, i.beside hx hcs hw, by omega⟩)
  have o2 : OwnSl ArcR 3 w' B 147 v ars.length ars := h.arcs.turn hg (.inr (fun e => by have := (h.arcs.lt b e).1; omega)) (fun vs x hx' => hx')
  obtain ⟨U, cu, e1, s1⟩ := o1.sl (by omega)
  obtain ⟨V, cv, e2, s2⟩ := o2.sl (by omega)
  exact ⟨U, cu, V, cv, e1, e2, s1, s2⟩
end
/-- The start: the given mark alone. -/
theorem GraW.start {w W : World} {A : Option Addr} {n c r : Nat} {xs : List Int} (h : Ints w A n c xs) (hn : n ≤ 16) (hr : w.heap.size ≤ r) (hb : Below w.heap.size w W) (hx : Box W (r + 1) 48 #[.slice (some ⟨r, 0, none⟩) 1 1, Z0]) (ho : W.heap[r]? = some (.cells #[.slice A n c] 33)) :
    GraW W r (r + 1) (.slice (some ⟨r, 0, none⟩) 1 1) Z0 [xs] [] := by
  refine ⟨by omega, hx, ⟨[.slice A n c], ⟨by simp, .inr ⟨r, 1, #[.slice A n c], rfl, Nat.le_refl _, ho, Nat.le_refl _, by simp [maxLen], by simp, by simp⟩⟩, Reads.one (vs := fun _ => .slice A n c) ⟨A, n, c, rfl, h.keep hb, hn, fun b off e h0 => ?_⟩ rfl (fun j hj => (by obtain rfl : j = 0 := (by omega); rfl)), rfl⟩, OwnSl.nil⟩
  obtain ⟨b', off', e', hlt, _⟩ := h.cells h0
  rw [e] at e'
  injection e' with e'
  injection e' with e1 _
  subst e1
  refine ⟨by omega, fun e2 => ?_, fun e2 => (by cases e2), fun e2 => (by cases e2)⟩
  have : r = b := by injection e2
  omega
theorem GraW.start2 {w0 : World} {A : Option Addr} {n c : Nat} {xs : List Int} (h : Ints w0 A n c xs) (hn : n ≤ 16) :
    GraW ((w0.alloc (.cells #[.slice A n c] 33)).alloc (.cells #[.slice (some ⟨w0.heap.size, 0, none⟩) 1 1, .slice none 0 0] 48)) w0.heap.size (w0.heap.size + 1) (.slice (some ⟨w0.heap.size, 0, none⟩) 1 1) (.slice none 0 0) [xs] [] ∧
    Below w0.heap.size w0 ((w0.alloc (.cells #[.slice A n c] 33)).alloc (.cells #[.slice (some ⟨w0.heap.size, 0, none⟩) 1 1, .slice none 0 0] 48)) := by
  have hb2 : Below w0.heap.size w0 ((w0.alloc (.cells #[.slice A n c] 33)).alloc (.cells #[.slice (some ⟨w0.heap.size, 0, none⟩) 1 1, .slice none 0 0] 48)) := ((Below.refl _ _).alloc (Nat.le_refl _) _).alloc (by simp) _
  refine ⟨GraW.start h hn (Nat.le_refl _) hb2 (Box.newAt (by simp) _ _) ?_, hb2⟩
  rw [heap_alloc_old _ _ (by simp)]
  exact heap_alloc_new w0 _
end Go.Proofs.Ytmnacahoamkokaa
