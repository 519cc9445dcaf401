/- The memory of the finder: its box, its map and its three rows. Conditions: none. -/
import Derived.Test.YtmnacahoamkokaaReachA
import Derived.Test.YtmnacahoamkokaaArcW
import Derived.Test.YtmnacahoamkokaaCaseL
import Derived.Test.YtmnacahoamkokaaOwnC
import Derived.Test.YtmnacahoamkokaaBox
namespace Go.Proofs.Ytmnacahoamkokaa
open Go.RowKit

theorem own_neBox {w : World} {B e s n b ty : Nat} {v : Value} {c : List Value} {cs : Array Value} (h : w.ownsRow B e s v n c) (hx : Box w b ty cs) (hne : e ≠ ty) : v.ownBlock ≠ some b := by
  intro e
  rcases h.2 with ⟨rfl, _⟩ | ⟨g, cap, cur, rfl, _, hh, _⟩
  · cases e
  · simp only [Value.ownBlock, Option.some.injEq] at e
    subst e
    unfold Box at hx
    rw [hx] at hh
    injection hh with hh
    injection hh with _ hh
    exact hne hh.symm
theorem AtM.obj {w : World} {b : Nat} {ms : List (List Int)} (h : AtM w b ms) : ∃ es c, w.heap[b]? = some (.map es c) := by
  obtain ⟨D, ⟨es, clock, h1, _⟩, _⟩ := h
  exact ⟨es, clock, h1⟩
theorem own_neMap {w : World} {B e s n b : Nat} {v : Value} {c : List Value} {ms : List (List Int)} (h : w.ownsRow B e s v n c) (hx : AtM w b ms) : v.ownBlock ≠ some b := by
  intro e
  obtain ⟨es, cl, hm⟩ := hx.obj
  rcases h.2 with ⟨rfl, _⟩ | ⟨g, cap, cur, rfl, _, hh, _⟩
  · cases e
  · simp only [Value.ownBlock, Option.some.injEq] at e
    subst e
    rw [hm] at hh
    injection hh with hh
    cases hh
theorem box_neMap {w : World} {b b' ty : Nat} {cs : Array Value} {ms : List (List Int)} (hx : Box w b ty cs) (h : AtM w b' ms) : b ≠ b' := by
  intro e
  subst e
  obtain ⟨es, cl, hm⟩ := h.obj
  unfold Box at hx
  rw [hm] at hx
  injection hx with hx
  cases hx
/-- A list that lies in none of the finder's blocks. -/
def Apart4 (bf : Nat) (u v z : Value) (A : Option Addr) (n : Nat) : Prop := ∀ b off, A = some ⟨b, off, none⟩ → 0 < n → b ≠ bf ∧ u.ownBlock ≠ some b ∧ v.ownBlock ≠ some b ∧ z.ownBlock ≠ some b
theorem Ints.same {w w' : World} {A : Option Addr} {n c : Nat} {xs : List Int} (h : Ints w A n c xs) (hs : w.heap.size ≤ w'.heap.size) (hb : ∀ b off, A = some ⟨b, off, none⟩ → 0 < n → b < w.heap.size → w'.heap[b]? = w.heap[b]?) : Ints w' A n c xs :=
  ⟨h.len, h.le, h.cap, h.small, h.nul, fun hn => by
    obtain ⟨b, off, e, hlt, hc⟩ := h.cells hn
    refine ⟨b, off, e, Nat.lt_of_lt_of_le hlt hs, fun i x hx => ?_⟩
    obtain ⟨vs, h1, h2⟩ := hc i x hx
    exact ⟨vs, fun j hj => (World.cell?_of_block (hb b off e hn hlt)).trans (h1 j hj), h2⟩⟩
def Keep4 (bf : Nat) (w : World) (u v z : Value) (w' : World) (u' v' z' : Value) : Prop := ∀ (A : Option Addr) (n c : Nat) (xs : List Int), Ints w A n c xs → Apart4 bf u v z A n → Ints w' A n c xs ∧ Apart4 bf u' v' z' A n
theorem Keep4.trans {bf : Nat} {w w1 w2 : World} {u v z u1 v1 z1 u2 v2 z2 : Value} (h : Keep4 bf w u v z w1 u1 v1 z1) (g : Keep4 bf w1 u1 v1 z1 w2 u2 v2 z2) : Keep4 bf w u v z w2 u2 v2 z2 := fun A n c xs a b => by
  obtain ⟨a1, b1⟩ := h A n c xs a b
  exact g A n c xs a1 b1
theorem Keep4.of_below {bf : Nat} {w w' : World} {u v z : Value} (hb : Below w.heap.size w w') : Keep4 bf w u v z w' u v z := fun _ _ _ _ a b => ⟨a.keep hb, b⟩
def MarkR (bf : Nat) (u v z : Value) : World → (Nat → Value) → List Int → Prop := fun w vs xs => ∃ A n c, vs 0 = .slice A n c ∧ Ints w A n c xs ∧ n ≤ 16 ∧ Apart4 bf u v z A n
theorem Keep4.mark {bf : Nat} {w w' : World} {u v z u' v' z' : Value} (h : Keep4 bf w u v z w' u' v' z') {vs : Nat → Value} {xs : List Int} (m : MarkR bf u v z w vs xs) : MarkR bf u' v' z' w' vs xs := by
  obtain ⟨A, n, c, e, i, l, p⟩ := m
  obtain ⟨i', p'⟩ := h A n c xs i p
  exact ⟨A, n, c, e, i', l, p'⟩
theorem MarkR.kept (bf : Nat) (u v z : Value) : Kept (MarkR bf u v z) := fun _ _ _ _ hb h => (Keep4.of_below hb).mark h
theorem Reads.turn {α : Type} {R R' : World → (Nat → Value) → α → Prop} {sz : Nat} {w w' : World} {cs : List Value} {xs : List α} (h : Reads R sz w cs xs) (hR : ∀ vs x, R w vs x → R' w' vs x) : Reads R' sz w' cs xs :=
  ⟨h.1, fun i x hx => by obtain ⟨vs, a, b⟩ := h.2 i x hx; exact ⟨vs, a, hR _ _ b⟩⟩
theorem OwnSl.turn {α : Type} {R R' : World → (Nat → Value) → α → Prop} {sz : Nat} {w w' : World} {B e : Nat} {v : Value} {n : Nat} {xs : List α} (h : OwnSl R sz w B e v n xs) {row : Option Nat} (hg : w.grownBy w' row) (hne : v.ownBlock = none ∨ v.ownBlock ≠ row) (hR : ∀ vs x, R w vs x → R' w' vs x) : OwnSl R' sz w' B e v n xs := by
  obtain ⟨cells, h1, h2, h3⟩ := h
  exact ⟨cells, h1.kept hg hne, h2.turn hR, h3⟩
theorem OwnSl.reread {α : Type} {R R' : World → (Nat → Value) → α → Prop} {sz : Nat} {w : World} {B e : Nat} {v : Value} {n : Nat} {xs : List α} (h : OwnSl R sz w B e v n xs) (hR : ∀ vs x, R w vs x → R' w vs x) : OwnSl R' sz w B e v n xs := by
  obtain ⟨cells, h1, h2, h3⟩ := h
  exact ⟨cells, h1, h2.turn hR, h3⟩
theorem grown_setCell (w : World) (b i : Nat) (v : Value) : w.grownBy (w.setCell ⟨b, i, none⟩ v) (some b) :=
  ⟨rfl, rfl, rfl, by simp [World.setCell], fun k _ hk => heap_setCell_other _ _ _ _ (fun e => hk (by rw [e]))⟩
/-- The finder's memory: its map has mm, its rows have ms, ars and fs. -/
structure FinW (w : World) (B bf bm : Nat) (P : Int) (A : Option Addr) (n c : Nat) (most : Int) (u v z : Value) (mm ms : List (List Int)) (ars : List PArc) (fs : List Int) : Prop where
  lo : B ≤ bf
  lom : B ≤ bm
  box : Box w bf 144 #[.int .i64 P, .slice A n c, .int .i64 most, .map (some bm), u, v, z]
  map : AtM w bm mm
  marks : OwnSl (MarkR bf u v z) 1 w B 33 u ms.length ms
  arcs : OwnSl ArcR 3 w B 147 v ars.length ars
  first : OwnInts w B z fs.length fs
section
variable {w w' : World} {B bf bm : Nat} {P : Int} {A : Option Addr} {n c : Nat} {most : Int} {u v z : Value} {mm ms : List (List Int)} {ars : List PArc} {fs : List Int}
theorem FinW.keep (h : FinW w B bf bm P A n c most u v z mm ms ars fs) (hb : Below w.heap.size w w') : FinW w' B bf bm P A n c most u v z mm ms ars fs :=
  ⟨h.lo, h.lom, h.box.keep hb, h.map.keep hb, h.marks.keep (MarkR.kept _ _ _ _) hb, h.arcs.keep ArcR.kept hb, h.first.keep IntR.kept hb⟩
/-- A mark is entered into the map. -/
theorem FinW.entry (h : FinW w B bf bm P A n c most u v z mm ms ars fs) {mm' : List (List Int)} (hm : AtM w' bm mm') (hg : w.grownBy w' (some bm)) : FinW w' B bf bm P A n c most u v z mm' ms ars fs ∧ ∀ (A : Option Addr) (n c : Nat) (xs : List Int), Ints w A n c xs → Ints w' A n c xs := by
  have nm : ∀ (A : Option Addr) (n c : Nat) (xs : List Int), Ints w A n c xs → Ints w' A n c xs := fun A n c xs hi => by
    refine hi.same hg.size (fun b off e hn hlt => hg.block b hlt (fun e2 => ?_))
    injection e2 with e2
    subst e2
    obtain ⟨es, cl, hmo⟩ := h.map.obj
    obtain ⟨b', off', e', hlt', hc⟩ := hi.cells hn
    rw [e] at e'
    injection e' with e'
    injection e' with e1 e2
    subst e1
    obtain ⟨vs, a, b⟩ := hc 0 _ (List.getElem?_eq_getElem (by rw [hi.len]; exact hn))
    have := a 0 (by omega)
    unfold World.cell? at this
    rw [hmo] at this
    cases this
  have bx : bf ≠ bm := box_neMap h.box h.map
  obtain ⟨_, o1, _⟩ := id h.marks
  obtain ⟨_, o2, _⟩ := id h.arcs
  obtain ⟨_, o3, _⟩ := id h.first
  refine ⟨⟨h.lo, h.lom, h.box.grown hg (fun e => bx (by injection e with e; exact e.symm)), hm, h.marks.turn hg (.inr (own_neMap o1 h.map)) (fun vs x hx => ?_), h.arcs.turn hg (.inr (own_neMap o2 h.map)) (fun vs x hx => hx), h.first.turn hg (.inr (own_neMap o3 h.map)) (fun vs x hx => hx)⟩, nm⟩
  obtain ⟨A, n, c, e, i, l, p⟩ := hx
  exact ⟨A, n, c, e, nm _ _ _ _ i, l, p⟩
/-- One of the finder's rows has grown, and its new header is stored. -/
theorem keep4_row {w w' : World} {bf : Nat} {u v z y : Value} {g k cap i : Nat} (hg : w.grownBy w' y.ownBlock) (hat : y.ownBlock = some g ∨ w.heap.size ≤ g) (hy : y = u ∨ y = v ∨ y = z) {u' v' z' : Value} (hu : u' = u ∨ (y = u ∧ u' = .slice (some ⟨g, 0, none⟩) k cap)) (hv : v' = v ∨ (y = v ∧ v' = .slice (some ⟨g, 0, none⟩) k cap)) (hz : z' = z ∨ (y = z ∧ z' = .slice (some ⟨g, 0, none⟩) k cap)) (V : Value) :
    Keep4 bf w u v z (w'.setCell ⟨bf, i, none⟩ V) u' v' z' := by
  intro A n c xs hi ha
  have key : ∀ b off, A = some ⟨b, off, none⟩ → 0 < n → b < w.heap.size ∧ b ≠ bf ∧ y.ownBlock ≠ some b ∧ g ≠ b := fun b off e hn => by
    obtain ⟨b', off', e', hlt, _⟩ := hi.cells hn
    rw [e] at e'
    injection e' with e'
    injection e' with e1 _
    subst e1
    obtain ⟨p0, p1, p2, p3⟩ := ha b off e hn
    have hyb : y.ownBlock ≠ some b := by rcases hy with rfl | rfl | rfl <;> assumption
    refine ⟨hlt, p0, hyb, fun e2 => ?_⟩
    subst e2
    rcases hat with h | h
    · exact hyb h
    · omega
  refine ⟨hi.same (by simpa [World.setCell] using hg.size) (fun b off e hn hlt => ?_), fun b off e hn => ?_⟩
  · obtain ⟨_, k1, k2, _⟩ := key b off e hn
    exact (heap_setCell_other _ _ _ _ k1).trans (hg.block b hlt (fun e2 => k2 e2.symm))
  · obtain ⟨p0, p1, p2, p3⟩ := ha b off e hn
    have kg := (key b off e hn).2.2.2
    have ng : (Value.slice (some ⟨g, 0, none⟩) k cap).ownBlock ≠ some b := fun e2 => kg (by injection e2)
    refine ⟨p0, ?_, ?_, ?_⟩
    · rcases hu with rfl | ⟨_, rfl⟩ <;> assumption
    · rcases hv with rfl | ⟨_, rfl⟩ <;> assumption
    · rcases hz with rfl | ⟨_, rfl⟩ <;> assumption
theorem FinW.mark (h : FinW w B bf bm P A n c most u v z mm ms ars fs) {g k cap : Nat} {ms' : List (List Int)} (hk : k = ms'.length) (own : OwnSl (fun _ vs x => MarkR bf u v z w vs x) 1 w' B 33 (.slice (some ⟨g, 0, none⟩) k cap) k ms') (hg : w.grownBy w' u.ownBlock) (hat : u.ownBlock = some g ∨ w.heap.size ≤ g) :
    FinW (w'.setCell ⟨bf, 4, none⟩ (.slice (some ⟨g, 0, none⟩) k cap)) B bf bm P A n c most (.slice (some ⟨g, 0, none⟩) k cap) v z mm ms' ars fs ∧ Keep4 bf w u v z (w'.setCell ⟨bf, 4, none⟩ (.slice (some ⟨g, 0, none⟩) k cap)) (.slice (some ⟨g, 0, none⟩) k cap) v z := by
  subst hk
  have KK := keep4_row (i := 4) (k := ms'.length) (cap := cap) hg hat (u := u) (v := v) (z := z) (bf := bf) (.inl rfl) (.inr ⟨rfl, rfl⟩) (.inl rfl) (.inl rfl) (.slice (some ⟨g, 0, none⟩) ms'.length cap)
  obtain ⟨_, o1, _⟩ := id h.marks
  obtain ⟨_, o2, _⟩ := id h.arcs
  obtain ⟨_, o3, _⟩ := id h.first
  have b1 : Box w' bf 144 #[.int .i64 P, .slice A n c, .int .i64 most, .map (some bm), u, v, z] := h.box.grown hg (own_neBox o1 h.box (by decide))
  have m1 : AtM w' bm mm := h.map.of_block (hg.block bm h.map.lt (fun e => own_neMap o1 h.map e.symm))
  have a1 : OwnSl ArcR 3 w' B 147 v ars.length ars := h.arcs.turn hg (own_ne o2 o1 (by decide)) (fun _ _ hx => hx)
  have f1 : OwnInts w' B z fs.length fs := h.first.turn hg (own_ne o3 o1 (by decide)) (fun _ _ hx => hx)
  obtain ⟨_, q1, _⟩ := id own
  obtain ⟨_, q2, _⟩ := id a1
  obtain ⟨_, q3, _⟩ := id f1
  have gs := grown_setCell w' bf 4 (.slice (some ⟨g, 0, none⟩) ms'.length cap)
  refine ⟨⟨h.lo, h.lom, by simpa using b1.set 4 (.slice (some ⟨g, 0, none⟩) ms'.length cap), m1.of_block (heap_setCell_other _ _ _ _ (box_neMap b1 m1).symm),
    own.turn gs (.inr (own_neBox q1 b1 (by decide))) (fun vs x hx => KK.mark hx), a1.turn gs (.inr (own_neBox q2 b1 (by decide))) (fun _ _ hx => hx), f1.turn gs (.inr (own_neBox q3 b1 (by decide))) (fun _ _ hx => hx)⟩, KK⟩
theorem FinW.firstPut (h : FinW w B bf bm P A n c most u v z mm ms ars fs) {g k cap : Nat} {fs' : List Int} (hk : k = fs'.length) (own : OwnInts w' B (.slice (some ⟨g, 0, none⟩) k cap) k fs') (hg : w.grownBy w' z.ownBlock) (hat : z.ownBlock = some g ∨ w.heap.size ≤ g) :
    FinW (w'.setCell ⟨bf, 6, none⟩ (.slice (some ⟨g, 0, none⟩) k cap)) B bf bm P A n c most u v (.slice (some ⟨g, 0, none⟩) k cap) mm ms ars fs' ∧ Keep4 bf w u v z (w'.setCell ⟨bf, 6, none⟩ (.slice (some ⟨g, 0, none⟩) k cap)) u v (.slice (some ⟨g, 0, none⟩) k cap) := by
  subst hk
  have KK := keep4_row (i := 6) (k := fs'.length) (cap := cap) hg hat (u := u) (v := v) (z := z) (bf := bf) (.inr (.inr rfl)) (.inl rfl) (.inl rfl) (.inr ⟨rfl, rfl⟩) (.slice (some ⟨g, 0, none⟩) fs'.length cap)
  obtain ⟨_, o1, _⟩ := id h.marks
  obtain ⟨_, o2, _⟩ := id h.arcs
  obtain ⟨_, o3, _⟩ := id h.first
  have b1 : Box w' bf 144 #[.int .i64 P, .slice A n c, .int .i64 most, .map (some bm), u, v, z] := h.box.grown hg (own_neBox o3 h.box (by decide))
  have m1 : AtM w' bm mm := h.map.of_block (hg.block bm h.map.lt (fun e => own_neMap o3 h.map e.symm))
  have a1 : OwnSl ArcR 3 w' B 147 v ars.length ars := h.arcs.turn hg (own_ne o2 o3 (by decide)) (fun _ _ hx => hx)
  have k1 : OwnSl (fun _ vs x => MarkR bf u v z w vs x) 1 w' B 33 u ms.length ms := h.marks.turn hg (own_ne o1 o3 (by decide)) (fun _ _ hx => hx)
  obtain ⟨_, q1, _⟩ := id k1
  obtain ⟨_, q2, _⟩ := id a1
  obtain ⟨_, q3, _⟩ := id own
  have gs := grown_setCell w' bf 6 (.slice (some ⟨g, 0, none⟩) fs'.length cap)
  refine ⟨⟨h.lo, h.lom, by simpa using b1.set 6 (.slice (some ⟨g, 0, none⟩) fs'.length cap), m1.of_block (heap_setCell_other _ _ _ _ (box_neMap b1 m1).symm),
    k1.turn gs (.inr (own_neBox q1 b1 (by decide))) (fun vs x hx => KK.mark hx), a1.turn gs (.inr (own_neBox q2 b1 (by decide))) (fun _ _ hx => hx), own.turn gs (.inr (own_neBox q3 b1 (by decide))) (fun _ _ hx => hx)⟩, KK⟩
theorem FinW.arc (h : FinW w B bf bm P A n c most u v z mm ms ars fs) {g k cap : Nat} {ars' : List PArc} (hk : k = ars'.length) (own : OwnSl ArcR 3 w' B 147 (.slice (some ⟨g, 0, none⟩) k cap) k ars') (hg : w.grownBy w' v.ownBlock) (hat : v.ownBlock = some g ∨ w.heap.size ≤ g) :
    FinW (w'.setCell ⟨bf, 5, none⟩ (.slice (some ⟨g, 0, none⟩) k cap)) B bf bm P A n c most u (.slice (some ⟨g, 0, none⟩) k cap) z mm ms ars' fs ∧ Keep4 bf w u v z (w'.setCell ⟨bf, 5, none⟩ (.slice (some ⟨g, 0, none⟩) k cap)) u (.slice (some ⟨g, 0, none⟩) k cap) z := by
  subst hk
  have KK := keep4_row (i := 5) (k := ars'.length) (cap := cap) hg hat (u := u) (v := v) (z := z) (bf := bf) (.inr (.inl rfl)) (.inl rfl) (.inr ⟨rfl, rfl⟩) (.inl rfl) (.slice (some ⟨g, 0, none⟩) ars'.length cap)
  obtain ⟨_, o1, _⟩ := id h.marks
  obtain ⟨_, o2, _⟩ := id h.arcs
  obtain ⟨_, o3, _⟩ := id h.first
  have b1 : Box w' bf 144 #[.int .i64 P, .slice A n c, .int .i64 most, .map (some bm), u, v, z] := h.box.grown hg (own_neBox o2 h.box (by decide))
  have m1 : AtM w' bm mm := h.map.of_block (hg.block bm h.map.lt (fun e => own_neMap o2 h.map e.symm))
  have f1 : OwnInts w' B z fs.length fs := h.first.turn hg (own_ne o3 o2 (by decide)) (fun _ _ hx => hx)
  have k1 : OwnSl (fun _ vs x => MarkR bf u v z w vs x) 1 w' B 33 u ms.length ms := h.marks.turn hg (own_ne o1 o2 (by decide)) (fun _ _ hx => hx)
  obtain ⟨_, q1, _⟩ := id k1
  obtain ⟨_, q2, _⟩ := id own
  obtain ⟨_, q3, _⟩ := id f1
  have gs := grown_setCell w' bf 5 (.slice (some ⟨g, 0, none⟩) ars'.length cap)
  refine ⟨⟨h.lo, h.lom, by simpa using b1.set 5 (.slice (some ⟨g, 0, none⟩) ars'.length cap), m1.of_block (heap_setCell_other _ _ _ _ (box_neMap b1 m1).symm),
    k1.turn gs (.inr (own_neBox q1 b1 (by decide))) (fun vs x hx => KK.mark hx), own.turn gs (.inr (own_neBox q2 b1 (by decide))) (fun _ _ hx => hx), f1.turn gs (.inr (own_neBox q3 b1 (by decide))) (fun _ _ hx => hx)⟩, KK⟩
end
end Go.Proofs.Ytmnacahoamkokaa
