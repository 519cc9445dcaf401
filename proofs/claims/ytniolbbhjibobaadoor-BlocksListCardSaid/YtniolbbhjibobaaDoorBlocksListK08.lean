/- What a space reads ars: lists of lists of integers, and arcs; live.Right and GRight. Conditions: the slices read ars lists. | The contracts of GRight, live.Dead and GDead. Conditions: the slices read as lists. | The contracts of GDead, GStuck, slices.Max, live.Bound and GBound. Conditions: the slices read as lists. | The contracts of slices.Max on integers, live.Bound and GBound. Conditions: the slices read as lists. | Lists that a call owns, side by side in a row that it owns; the contract of live.links. Conditions: the slices read as lists; the ends that links takes for places lie among the marks. | The contract of live.links, both ways. Conditions: the slices read as lists; the ends that links takes for places lie among the marks. | What live.spread finds: the plain law of its rounds. Conditions: the arcs are between marks. | The contracts of live.spread and of slices.Contains on bools. Conditions: the arcs are between marks; what to start from are marks. | The contracts of slices.Contains on bools and of live.Home. Conditions: the slices read as lists. | The contract of live.Live. Conditions: the slices read as lists. | What GReach finds: the plain law of its rounds; Home and Live told by it. Conditions: the arcs are between marks. | Rows of bools that a call owns, side by side in a row that it owns, and how many are false. Conditions: none. | The contract of GReach. Conditions: the arcs are between marks. | The contract of GHome. Conditions: the slices read as lists. | The contract of GLive. Conditions: the slices read as lists. -/
import Derived.Test.YtniolbbhjibobaaDoorBlocksListK07
import Derived.Test.YtniolbbhjibobaaDoorBlocksListK02
import Derived.Test.YtniolbbhjibobaaDoorBlocksListK04
import Derived.Test.YtniolbbhjibobaaDoorBlocksListK05
set_option linter.all false
namespace Go.Proofs.YtniolbbhjibobaaDoor
open Go.RowKit

end Go.Proofs.YtniolbbhjibobaaDoor
namespace Go.Proofs.YtniolbbhjibobaaDoor
open Go.RowKit Go.Maps

/-! ### transitions that never fire -/
def cntA (ars : List PArc) (t : Int) : Nat := (ars.filter fun a => a.tran == t).length
/-- Block b is a map that counts, by transitions, these arcs. -/
def CountM (w : World) (b : Nat) (l : List PArc) : Prop :=
  ∃ D : DataW Unit, w.ownsMap Tryd.prog 3 (plainElem Tryd.prog 3) b l.length D ∧ ∀ t : Int, (Lit.int .i64 t).wf = true → D.atKey (.int .i64 t) (.lit (.int .i64 0)) = .lit (.int .i64 (cntA l t))
theorem CountM.made (w : World) : CountM (w.alloc (.map #[] 0)) w.heap.size [] := ⟨.map [], World.ownsMap_made _ _ _ _, fun _ _ => rfl⟩
theorem CountM.of_block {w w' : World} {b : Nat} {l : List PArc} (h : CountM w b l) (hb : w'.heap[b]? = w.heap[b]?) : CountM w' b l := by
  obtain ⟨D, h1, h2⟩ := h
  exact ⟨D, ownsMap_of_block h1 hb, h2⟩
theorem CountM.lt {w : World} {b : Nat} {l : List PArc} (h : CountM w b l) : b < w.heap.size := by
  obtain ⟨D, h1, _⟩ := h
  exact h1.lt
theorem CountM.keep {w w' : World} {b : Nat} {l : List PArc} (h : CountM w b l) (hb : Below w.heap.size w w') : CountM w' b l := h.of_block (hb.block b h.lt)
end Go.Proofs.YtniolbbhjibobaaDoor
namespace Go.Proofs.YtniolbbhjibobaaDoor
open Go.RowKit Go.Maps

end Go.Proofs.YtniolbbhjibobaaDoor
namespace Go.Proofs.YtniolbbhjibobaaDoor
open Go.RowKit

end Go.Proofs.YtniolbbhjibobaaDoor
namespace Go.Proofs.YtniolbbhjibobaaDoor
open Go.RowKit

def LinkW (w : World) (B g n : Nat) (ls : List (List Int)) : Prop :=
  ∃ cells : List Value, w.ownsRow B 32 1 (.slice (some ⟨g, 0, none⟩) n n) n cells ∧ ls.length = n ∧ (∀ (k : Nat) (x : List Int), ls[k]? = some x → ∃ v, cells[k]? = some v ∧ OwnInts w B v x.length x) ∧
    (∀ (k l : Nat) (u v : Value), k ≠ l → cells[k]? = some u → cells[l]? = some v → u.ownBlock = none ∨ u.ownBlock ≠ v.ownBlock)
section
variable {w w' : World} {B g n : Nat} {ls : List (List Int)}
theorem LinkW.made (h : w.ownsRow B 32 1 (.slice (some ⟨g, 0, none⟩) n n) n (List.replicate n (.slice none 0 0))) : LinkW w B g n (List.replicate n []) := by
  refine ⟨_, h, List.length_replicate, fun k x hx => ?_, fun k l u v _ hu _ => ?_⟩
  · obtain ⟨hk, rfl⟩ := List.getElem?_eq_some_iff.1 hx
    rw [List.length_replicate] at hk
    refine ⟨_, List.getElem?_replicate_of_lt hk, ?_⟩
    rw [List.getElem_replicate]
    exact OwnSl.nil
  · obtain ⟨hk, rfl⟩ := List.getElem?_eq_some_iff.1 hu
    rw [List.getElem_replicate]
    exact .inl rfl
theorem LinkW.keep (h : LinkW w B g n ls) (hb : Below w.heap.size w w') : LinkW w' B g n ls := by
  obtain ⟨cells, h1, h2, h3, h4⟩ := h
  refine ⟨cells, h1.kept (row := none) ⟨hb.os, hb.tape, hb.output, hb.size, fun k hk _ => hb.block k hk⟩ (.inr (by simp [Value.ownBlock])), h2, fun k x hx => ?_, h4⟩
  obtain ⟨v, a, b⟩ := h3 k x hx
  exact ⟨v, a, b.keep IntR.kept hb⟩
theorem LinkW.base {B' : Nat} (h : LinkW w B g n ls) (hB : B' ≤ B) : LinkW w B' g n ls := by
  obtain ⟨cells, h1, h2, h3, h4⟩ := h
  refine ⟨cells, ⟨h1.1, ?_⟩, h2, fun k x hx => ?_, h4⟩
  · rcases h1.2 with e | ⟨g1, cap, cur, e1, e2, e3⟩
    · exact .inl e
    · exact .inr ⟨g1, cap, cur, e1, Nat.le_trans hB e2, e3⟩
  obtain ⟨v, a, b⟩ := h3 k x hx
  exact ⟨v, a, b.base hB⟩
theorem LinkW.lt (h : LinkW w B g n ls) : B ≤ g ∧ g < w.heap.size := by
  obtain ⟨cells, h1, _⟩ := h
  exact h1.lt g rfl
theorem LinkW.get (h : LinkW w B g n ls) {k : Nat} (hk : k < n) : ∃ v x, ls[k]? = some x ∧ w.cell? ⟨g, k, none⟩ = some v ∧ OwnInts w B v x.length x := by
  obtain ⟨cells, h1, h2, h3, _⟩ := h
  have hx : ls[k]? = some (ls[k]'(by omega)) := List.getElem?_eq_getElem _
  obtain ⟨v, a, b⟩ := h3 k _ hx
  exact ⟨v, _, hx, by rw [h1.cellAt k (by omega)]; exact a, b⟩
/-- One list, appended to, and laid in its place again. -/
theorem LinkW.put {w1 : World} (h : LinkW w B g n ls) {i g' cap : Nat} {x : List Int} {y : Int} {v : Value} (hx : ls[i]? = some x) (hv : w.cell? ⟨g, i, none⟩ = some v) (hg : w.grownBy w1 v.ownBlock)
    (own : OwnInts w1 B (.slice (some ⟨g', 0, none⟩) (x.length + 1) cap) (x.length + 1) (x ++ [y])) (lies : v.ownBlock = some g' ∨ w.heap.size ≤ g') :
    w1.cell? ⟨g, i, none⟩ = some v ∧ w1.frozen? ⟨g, i, none⟩ = false ∧ LinkW (w1.setCell ⟨g, i, none⟩ (.slice (some ⟨g', 0, none⟩) (x.length + 1) cap)) B g n (ls.set i (x ++ [y])) := by
  obtain ⟨cells, h1, h2, h3, h4⟩ := h
  have hi : i < n := by rw [← h2]; exact (List.getElem?_eq_some_iff.1 hx).1
  obtain ⟨v', a, b⟩ := h3 i x hx
  have hvv : v' = v := by
    rw [h1.cellAt i (by omega), a] at hv
    injection hv
  subst hvv
  have r1 := h1.kept hg (by
    obtain ⟨cs, b1, _⟩ := b
    rcases own_ne b1 h1 (by decide) with e | e
    · exact .inr (by rw [e]; simp [Value.ownBlock])
    · exact .inr (fun e2 => e e2.symm))
  have hgne : g ≠ g' := by
    intro e
    subst e
    obtain ⟨cs, b1, _⟩ := own
    rcases own_ne b1 r1 (by decide) with e | e
    · cases e
    · exact e rfl
  have hlt := (h1.lt g rfl).2
  refine ⟨by rw [r1.cellAt i (by omega)]; exact a, r1.frozenAt i, ⟨_, (r1.stored i _).1, by rw [List.length_set]; exact h2, fun k z hz => ?_, fun k l u t hkl hu ht => ?_⟩⟩
  · by_cases hki : k = i
    · subst hki
      rw [List.getElem?_set_self (by omega)] at hz
      injection hz with hz
      subst hz
      refine ⟨_, List.getElem?_set_self (by have := h1.1; omega), ?_⟩
      rw [List.length_append]
      refine OwnInts.of_row (ownsRow_setCell_other own.row (fun e => ?_) _)
      simp only [Value.ownBlock, Option.some.injEq] at e
      exact hgne e.symm
    · rw [List.getElem?_set_ne (fun e => hki e.symm)] at hz
      obtain ⟨t, c, d⟩ := h3 k z hz
      refine ⟨t, by rw [List.getElem?_set_ne (fun e => hki e.symm)]; exact c, ?_⟩
      refine OwnInts.of_row (ownsRow_setCell_other ((d.row).kept hg (h4 k i t v' hki c a)) ?_ _)
      obtain ⟨cs, d1, _⟩ := d
      rcases own_ne d1 h1 (by decide) with e | e
      · rw [e]; simp
      · exact e
  · by_cases hki : k = i
    · subst hki
      rw [List.getElem?_set_self (by have := h1.1; omega)] at hu
      rw [List.getElem?_set_ne hkl] at ht
      injection hu with hu
      subst hu
      refine .inr (fun e => ?_)
      rcases lies with e2 | e2
      · rcases h4 k l v' t hkl a ht with e3 | e3
        · rw [e3] at e2; cases e2
        · exact e3 (by rw [e2]; exact e)
      · have hl : l < ls.length := by have := (List.getElem?_eq_some_iff.1 ht).1; have := h1.1; omega
        obtain ⟨t', c, d⟩ := h3 l _ (List.getElem?_eq_getElem hl)
        rw [ht] at c
        injection c with c
        subst c
        have := (d.lt g' e.symm).2
        omega
    · rw [List.getElem?_set_ne (fun e => hki e.symm)] at hu
      by_cases hli : l = i
      · subst hli
        rw [List.getElem?_set_self (by have := h1.1; omega)] at ht
        injection ht with ht
        subst ht
        have hl : k < ls.length := by have := (List.getElem?_eq_some_iff.1 hu).1; have := h1.1; omega
        obtain ⟨t', c, d⟩ := h3 k _ (List.getElem?_eq_getElem hl)
        rw [hu] at c
        injection c with c
        subst c
        rcases lies with e2 | e2
        · rcases h4 k l u v' hki hu a with e3 | e3
          · exact .inl e3
          · exact .inr (fun e => e3 (e.trans e2.symm))
        · refine .inr (fun e => ?_)
          have := (d.lt g' e).2
          omega
      · rw [List.getElem?_set_ne (fun e => hli e.symm)] at ht
        exact h4 k l u t hkl hu ht
theorem LinkW.lists (h : LinkW w B g n ls) (hn : n ≤ 281474976710656) (hl : ∀ x ∈ ls, x.length ≤ 17592186043904) : Lists w (some ⟨g, 0, none⟩) n n ls := by
  obtain ⟨cells, h1, h2, h3, h4⟩ := h
  have hr : Reads ListR 1 w cells ls := by
    refine ⟨by rw [h1.1, h2], fun i x hx => ?_⟩
    obtain ⟨v, a, b⟩ := h3 i x hx
    have hlen := hl x (List.mem_of_getElem? hx)
    obtain ⟨A, c, e, s⟩ := b.sl (by omega)
    exact ⟨fun _ => v, fun j hj => (by
      obtain rfl : j = 0 := by omega
      simpa using a), A, x.length, c, e, s, hlen⟩
  obtain ⟨A, c, e, s⟩ := OwnSl.sl (⟨cells, h1, hr, h2⟩ : OwnSl ListR 1 w B 32 (.slice (some ⟨g, 0, none⟩) n n) n ls) hn
  injection e with e1 e2 e3
  subst e1 e3
  exact s
end

/-! ### what leads where -/
def linkAt (key val : PArc → Int) (ars : List PArc) (k : Int) : List Int := (ars.filter fun a => key a == k).map val
end Go.Proofs.YtniolbbhjibobaaDoor
namespace Go.Proofs.YtniolbbhjibobaaDoor
open Go.RowKit

end Go.Proofs.YtniolbbhjibobaaDoor
namespace Go.Proofs.YtniolbbhjibobaaDoor
open Go.RowKit

def nxt (ars : List PArc) (k : Int) : List Int := linkAt PArc.to_ PArc.from_ ars k
def Inn (n : Nat) (x : Int) : Prop := 0 ≤ x ∧ x < (n : Int)
theorem nxt_in {ars : List PArc} {n : Nat} (h : ∀ a ∈ ars, Inn n a.from_) {k z : Int} (hz : z ∈ nxt ars k) : Inn n z := by
  obtain ⟨a, ha, rfl⟩ := List.mem_map.1 hz
  exact h a (List.mem_filter.1 ha).1

structure SpI (ars : List PArc) (n : Nat) (src : List Int) (bs : List Bool) (todo : List Int) : Prop where
  len : bs.length = n
  had : ∀ k : Nat, bs[k]? = some true → ∃ s ∈ src, Reach (nxt ars) s (k : Int)
  due : ∀ x ∈ todo, Inn n x ∧ ∃ s ∈ src, Reach (nxt ars) s x
  from_ : ∀ s ∈ src, s ∈ todo ∨ bs[s.toNat]? = some true
  next : ∀ k : Nat, bs[k]? = some true → ∀ z ∈ nxt ars (k : Int), z ∈ todo ∨ bs[z.toNat]? = some true
section
variable {ars : List PArc} {n : Nat} {src todo : List Int} {bs : List Bool} {x : Int}
theorem SpI.start (h : ∀ s ∈ src, Inn n s) : SpI ars n src (List.replicate n false) src where
  len := by simp
  had := fun k hk => by
    obtain ⟨hl, e⟩ := List.getElem?_eq_some_iff.1 hk
    rw [List.getElem_replicate] at e
    cases e
  due := fun x hx => ⟨h x hx, x, hx, .refl _⟩
  from_ := fun s hs => .inl hs
  next := fun k hk => by
    obtain ⟨hl, e⟩ := List.getElem?_eq_some_iff.1 hk
    rw [List.getElem_replicate] at e
    cases e
theorem SpI.skip (h : SpI ars n src bs (todo ++ [x])) (hx : bs[x.toNat]? = some true) : SpI ars n src bs todo where
  len := h.len
  had := h.had
  due := fun y hy => h.due y (List.mem_append_left _ hy)
  from_ := fun s hs => by
    rcases h.from_ s hs with a | a
    · rcases List.mem_append.1 a with b | b
      · exact .inl b
      · rw [List.mem_singleton.1 b]; exact .inr hx
    · exact .inr a
  next := fun k hk z hz => by
    rcases h.next k hk z hz with a | a
    · rcases List.mem_append.1 a with b | b
      · exact .inl b
      · rw [List.mem_singleton.1 b]; exact .inr hx
    · exact .inr a
theorem SpI.take (h : SpI ars n src bs (todo ++ [x])) (ha : ∀ a ∈ ars, Inn n a.from_) : SpI ars n src (bs.set x.toNat true) (todo ++ nxt ars x) := by
  obtain ⟨hxn, s0, hs0, hr0⟩ := h.due x (List.mem_append_right _ (List.mem_singleton.2 rfl))
  have hxl : x.toNat < bs.length := by have := h.len; have := hxn.1; have := hxn.2; omega
  have hset : (bs.set x.toNat true)[x.toNat]? = some true := List.getElem?_set_self hxl
  have hmore : ∀ j : Nat, bs[j]? = some true → (bs.set x.toNat true)[j]? = some true := fun j hj => by
    by_cases e : x.toNat = j
    · subst e; exact hset
    · rw [List.getElem?_set_ne e]; exact hj
  have hback : ∀ j : Nat, (bs.set x.toNat true)[j]? = some true → (j : Int) = x ∨ bs[j]? = some true := fun j hj => by
    by_cases e : x.toNat = j
    · left; have := hxn.1; omega
    · rw [List.getElem?_set_ne e] at hj; exact .inr hj
  have hmove : ∀ z : Int, z ∈ todo ++ [x] ∨ bs[z.toNat]? = some true → z ∈ todo ++ nxt ars x ∨ (bs.set x.toNat true)[z.toNat]? = some true := fun z hz => by
    rcases hz with a | a
    · rcases List.mem_append.1 a with b | b
      · exact .inl (List.mem_append_left _ b)
      · rw [List.mem_singleton.1 b]; exact .inr hset
    · exact .inr (hmore _ a)
  refine ⟨by rw [List.length_set]; exact h.len, fun k hk => ?_, fun y hy => ?_, fun s hs => hmove s (h.from_ s hs), fun k hk z hz => ?_⟩
  · rcases hback k hk with e | e
    · rw [e]; exact ⟨s0, hs0, hr0⟩
    · exact h.had k e
  · rcases List.mem_append.1 hy with b | b
    · exact h.due y (List.mem_append_left _ b)
    · exact ⟨nxt_in ha b, s0, hs0, hr0.last b⟩
  · rcases hback k hk with e | e
    · rw [e] at hz; exact .inl (List.mem_append_right _ hz)
    · exact hmove z (h.next k e z hz)
theorem SpI.done (h : SpI ars n src bs []) (hs : ∀ s ∈ src, Inn n s) (ha : ∀ a ∈ ars, Inn n a.from_) (k : Nat) (_ : k < n) : bs[k]? = some true ↔ ∃ s ∈ src, Reach (nxt ars) s (k : Int) := by
  refine ⟨h.had k, fun ⟨s, h1, h2⟩ => ?_⟩
  have hc : ∀ y : Int, (Inn n y ∧ bs[y.toNat]? = some true) → ∀ z ∈ nxt ars y, (Inn n z ∧ bs[z.toNat]? = some true) := fun y hy z hz => by
    refine ⟨nxt_in ha hz, ?_⟩
    rcases h.next y.toNat hy.2 z (by rw [Int.toNat_of_nonneg hy.1.1]; exact hz) with a | a
    · simp at a
    · exact a
  have := (h2.closedP hc ⟨hs s h1, by
    rcases h.from_ s h1 with a | a
    · simp at a
    · exact a⟩).2
  simpa using this
end

open Classical in
noncomputable def spreadL (ars : List PArc) (n : Nat) (src : List Int) : List Bool := (List.range n).map fun (k : Nat) => decide (∃ s ∈ src, Reach (nxt ars) s (k : Int))
theorem SpI.list {ars : List PArc} {n : Nat} {src : List Int} {bs : List Bool} (h : SpI ars n src bs []) (hs : ∀ s ∈ src, Inn n s) (ha : ∀ a ∈ ars, Inn n a.from_) : bs = spreadL ars n src := by
  apply List.ext_getElem (by rw [h.len]; simp [spreadL])
  intro k h1 h2
  have hk : k < n := by have := h.len; omega
  have hd := h.done hs ha k hk
  rw [List.getElem?_eq_getElem h1, Option.some.injEq] at hd
  rw [Bool.eq_iff_iff, hd]
  simp [spreadL]
end Go.Proofs.YtniolbbhjibobaaDoor
namespace Go.Proofs.YtniolbbhjibobaaDoor
open Go.RowKit

def OwnBools (w : World) (B g n : Nat) (bs : List Bool) : Prop := w.ownsRow B 4 1 (.slice (some ⟨g, 0, none⟩) n n) n (bs.map Value.bool)
section
variable {w w' : World} {B g n : Nat} {bs : List Bool}
theorem OwnBools.len (h : OwnBools w B g n bs) : bs.length = n := by have := h.1; simpa using this
theorem OwnBools.lt (h : OwnBools w B g n bs) : B ≤ g ∧ g < w.heap.size := World.ownsRow.lt h g rfl
theorem OwnBools.at (h : OwnBools w B g n bs) {k : Nat} {b : Bool} (hk : bs[k]? = some b) : w.cell? ⟨g, k, none⟩ = some (.bool b) := by
  have hl := (List.getElem?_eq_some_iff.1 hk).1
  have := h.len
  rw [World.ownsRow.cellAt h k (by omega), List.getElem?_map, hk]; rfl
theorem OwnBools.frozen (h : OwnBools w B g n bs) (k : Nat) : w.frozen? ⟨g, k, none⟩ = false := World.ownsRow.frozenAt h k
theorem OwnBools.keep (h : OwnBools w B g n bs) (hb : Below w.heap.size w w') : OwnBools w' B g n bs :=
  World.ownsRow.kept h (row := none) ⟨hb.os, hb.tape, hb.output, hb.size, fun k hk _ => hb.block k hk⟩ (.inr (by simp [Value.ownBlock]))
theorem OwnBools.put (h : OwnBools w B g n bs) (k : Nat) (b : Bool) : OwnBools (w.setCell ⟨g, k, none⟩ (.bool b)) B g n (bs.set k b) := by
  have := (World.ownsRow.stored h k (.bool b)).1
  rw [← List.map_set] at this
  exact this
theorem OwnBools.grown (h : OwnBools w B g n bs) {B2 m : Nat} {v : Value} {xs : List Int} (own : OwnInts w B2 v m xs) (hg : w.grownBy w' v.ownBlock) : OwnBools w' B g n bs := by
  refine World.ownsRow.kept h hg ?_
  obtain ⟨cs, b1, _⟩ := own
  rcases own_ne b1 h (by decide) with e | e
  · exact .inr (by rw [e]; simp [Value.ownBlock])
  · exact .inr (fun e2 => e e2.symm)
end
end Go.Proofs.YtniolbbhjibobaaDoor
namespace Go.Proofs.YtniolbbhjibobaaDoor
open Go.RowKit

abbrev BoolS (w : World) (g n : Nat) (bs : List Bool) : Prop := bs.length = n ∧ ∀ (k : Nat) (b : Bool), bs[k]? = some b → w.cell? ⟨g, k, none⟩ = some (.bool b)
theorem OwnBools.s {w : World} {B g n : Nat} {bs : List Bool} (h : OwnBools w B g n bs) : BoolS w g n bs := ⟨h.len, fun _ _ hb => h.at hb⟩

noncomputable def homeAt (ars : List PArc) (n k : Nat) : Bool := !(spreadL ars n [(k : Int)]).any fun y => false == y
end Go.Proofs.YtniolbbhjibobaaDoor
namespace Go.Proofs.YtniolbbhjibobaaDoor
open Go.RowKit

noncomputable def liveAt (ars : List PArc) (n t : Nat) : Bool := !(spreadL ars n (linkAt PArc.tran PArc.from_ ars (t : Int))).any fun y => false == y
end Go.Proofs.YtniolbbhjibobaaDoor
namespace Go.Proofs.YtniolbbhjibobaaDoor
open Go.RowKit

def at2 (M : List (List Bool)) (i j : Nat) : Option Bool := (M[i]?).bind fun r => r[j]?
/-- What holds of the rows of GReach all along. -/
structure MatI (ars : List PArc) (n : Nat) (M : List (List Bool)) : Prop where
  len : M.length = n
  row : ∀ (i : Nat) (r : List Bool), M[i]? = some r → r.length = n
  diag : ∀ i : Nat, i < n → at2 M i i = some true
  sound : ∀ i j : Nat, at2 M i j = some true → Reach (nxt ars) (j : Int) (i : Int)
def MatC (ars : List PArc) (M : List (List Bool)) : Prop := ∀ a ∈ ars, ∀ k : Nat, at2 M k a.from_.toNat = some true → at2 M k a.to_.toNat = some true
open Classical in
noncomputable def matRow (ars : List PArc) (n i : Nat) : List Bool := (List.range n).map fun (j : Nat) => decide (Reach (nxt ars) (j : Int) (i : Int))
noncomputable def matL (ars : List PArc) (n : Nat) : List (List Bool) := (List.range n).map fun (i : Nat) => matRow ars n i
open Classical in
theorem matRow_get {ars : List PArc} {n i j : Nat} (hj : j < n) : (matRow ars n i)[j]? = some (decide (Reach (nxt ars) (j : Int) (i : Int))) := by simp [matRow, hj]
theorem mem_nxt {ars : List PArc} {a : PArc} (h : a ∈ ars) : a.from_ ∈ nxt ars a.to_ := List.mem_map.2 ⟨a, List.mem_filter.2 ⟨h, by simp⟩, rfl⟩
section
variable {ars : List PArc} {n : Nat} {M : List (List Bool)}
theorem MatI.full (h : MatI ars n M) (ha : ∀ a ∈ ars, Inn n a.from_) (hc : MatC ars M) {x z : Int} (hr : Reach (nxt ars) x z) : Inn n x → at2 M z.toNat x.toNat = some true := by
  induction hr with
  | refl x => exact fun hx => h.diag x.toNat (by have := hx.1; have := hx.2; omega)
  | @step x y z hy _ ih =>
    intro _
    obtain ⟨a, hm, rfl⟩ := List.mem_map.1 hy
    obtain ⟨hm, he⟩ := List.mem_filter.1 hm
    have he' : a.to_ = x := by simpa using he
    rw [← he']
    exact hc a hm _ (ih (ha a hm))
open Classical in
theorem MatI.done (h : MatI ars n M) (ha : ∀ a ∈ ars, Inn n a.from_) (hc : MatC ars M) : M = matL ars n := by
  apply List.ext_getElem (by rw [h.len]; simp [matL])
  intro i h1 h2
  have hi : i < n := by have := h.len; omega
  have hrow : M[i]? = some (M[i]'h1) := List.getElem?_eq_getElem _
  have hlr := h.row i _ hrow
  simp only [matL, List.getElem_map, List.getElem_range]
  apply List.ext_getElem (by rw [hlr]; simp [matRow])
  intro j h3 h4
  have hj : j < n := by omega
  have e2 : at2 M i j = some ((M[i]'h1)[j]'h3) := by unfold at2; rw [hrow]; exact List.getElem?_eq_getElem _
  have e3 : (matRow ars n i)[j]'h4 = decide (Reach (nxt ars) (j : Int) (i : Int)) := by
    have := matRow_get (ars := ars) (n := n) (i := i) hj
    rw [List.getElem?_eq_getElem h4] at this
    injection this
  rw [e3, Bool.eq_iff_iff, decide_eq_true_eq]
  constructor
  · intro e
    exact h.sound i j (by rw [e2, e])
  · intro e
    have := h.full ha hc e ⟨by omega, by omega⟩
    simp only [Int.toNat_natCast] at this
    rw [e2] at this
    injection this
/-- One more is found: to a.to where a.from was. -/
theorem at2_set {k j : Nat} {r : List Bool} (hr : M[k]? = some r) (hj : j < r.length) {i l : Nat} : at2 (M.set k (r.set j true)) i l = if i = k ∧ l = j then some true else at2 M i l := by
  have hk : k < M.length := (List.getElem?_eq_some_iff.1 hr).1
  unfold at2
  by_cases hi : i = k
  · subst hi
    rw [List.getElem?_set_self hk, hr]
    simp only [Option.bind_some]
    by_cases hl : l = j
    · subst hl
      rw [List.getElem?_set_self hj, if_pos ⟨trivial, rfl⟩]
    · rw [List.getElem?_set_ne (fun e => hl e.symm), if_neg (fun e => hl e.2)]
  · rw [List.getElem?_set_ne (fun e => hi e.symm), if_neg (fun e => hi e.1)]
theorem MatI.put (h : MatI ars n M) {a : PArc} (hm : a ∈ ars) (h0 : Inn n a.from_) (h1 : Inn n a.to_) {k : Nat} {r : List Bool} (hr : M[k]? = some r) (hf : r[a.from_.toNat]? = some true) : MatI ars n (M.set k (r.set a.to_.toNat true)) := by
  have hl := h.row k r hr
  have hj : a.to_.toNat < r.length := by have := h1.1; have := h1.2; omega
  refine ⟨by rw [List.length_set]; exact h.len, fun i r' hr' => ?_, fun i hi => ?_, fun i j hij => ?_⟩
  · by_cases hik : i = k
    · subst hik
      rw [List.getElem?_set_self (List.getElem?_eq_some_iff.1 hr).1] at hr'
      injection hr' with e
      rw [← e, List.length_set]
      exact hl
    · rw [List.getElem?_set_ne (fun e => hik e.symm)] at hr'
      exact h.row i r' hr'
  · rw [at2_set hr hj]
    split
    · rfl
    · exact h.diag i hi
  · rw [at2_set hr hj] at hij
    split at hij
    · rename_i e
      obtain ⟨rfl, rfl⟩ := e
      rw [Int.toNat_of_nonneg h1.1]
      have := h.sound i a.from_.toNat (by unfold at2; rw [hr]; exact hf)
      rw [Int.toNat_of_nonneg h0.1] at this
      exact .step (mem_nxt hm) this
    · exact h.sound i j hij
end

/-! ### Home and Live by these rows -/
open Classical in
theorem homeAt_iff (ars : List PArc) (n k : Nat) : homeAt ars n k = true ↔ ∀ i : Nat, i < n → Reach (nxt ars) (k : Int) (i : Int) := by
  unfold homeAt spreadL
  simp only [Bool.not_eq_true', List.any_eq_false, List.mem_map, List.mem_range, List.mem_singleton, exists_eq_left]
  constructor
  · intro h i hi
    have := h _ ⟨i, hi, rfl⟩
    simpa using this
  · rintro h _ ⟨i, hi, rfl⟩
    simpa using h i hi
open Classical in
theorem liveAt_iff (ars : List PArc) (n t : Nat) : liveAt ars n t = true ↔ ∀ i : Nat, i < n → ∃ a ∈ ars, a.tran = (t : Int) ∧ Reach (nxt ars) a.from_ (i : Int) := by
  have key : ∀ i : Nat, (∃ s ∈ linkAt PArc.tran PArc.from_ ars (t : Int), Reach (nxt ars) s (i : Int)) ↔ ∃ a ∈ ars, a.tran = (t : Int) ∧ Reach (nxt ars) a.from_ (i : Int) := by
    intro i
    constructor
    · rintro ⟨s, hs, hr⟩
      obtain ⟨a, ha, rfl⟩ := List.mem_map.1 hs
      obtain ⟨ha, he⟩ := List.mem_filter.1 ha
      exact ⟨a, ha, by simpa using he, hr⟩
    · rintro ⟨a, ha, he, hr⟩
      exact ⟨a.from_, List.mem_map.2 ⟨a, List.mem_filter.2 ⟨ha, by simpa using he⟩, rfl⟩, hr⟩
  unfold liveAt spreadL
  simp only [Bool.not_eq_true', List.any_eq_false, List.mem_map, List.mem_range]
  constructor
  · intro h i hi
    have := h _ ⟨i, hi, rfl⟩
    exact (key i).1 (by simpa using this)
  · rintro h _ ⟨i, hi, rfl⟩
    simpa using (key i).2 (h i hi)
end Go.Proofs.YtniolbbhjibobaaDoor
namespace Go.Proofs.YtniolbbhjibobaaDoor
open Go.RowKit

theorem OwnBools.base {w : World} {B B' g n : Nat} {bs : List Bool} (h : OwnBools w B g n bs) (hB : B' ≤ B) : OwnBools w B' g n bs := by
  refine ⟨h.1, ?_⟩
  rcases h.2 with e | ⟨g1, cap, cur, e1, e2, e3⟩
  · exact .inl e
  · exact .inr ⟨g1, cap, cur, e1, Nat.le_trans hB e2, e3⟩
section
variable {w w1 : World} {B g n : Nat} {M : List (List Bool)}
end

/-! ### how many are false -/
def cntR : List Bool → Nat
  | [] => 0
  | b :: bs => (if b = true then 0 else 1) + cntR bs
def cntF : List (List Bool) → Nat
  | [] => 0
  | r :: M => cntR r + cntF M
theorem cntR_set : ∀ (r : List Bool) (j : Nat), r[j]? = some false → cntR (r.set j true) + 1 = cntR r
  | b :: bs, 0, h => by
    simp only [List.getElem?_cons_zero, Option.some.injEq] at h
    subst h
    simp [cntR]; omega
  | b :: bs, j + 1, h => by
    simp only [List.getElem?_cons_succ] at h
    have := cntR_set bs j h
    simp only [List.set_cons_succ, cntR]
    omega
  | [], _, h => by simp at h
theorem cntF_set : ∀ (M : List (List Bool)) (k : Nat) (r r' : List Bool), M[k]? = some r → cntF (M.set k r') + cntR r = cntF M + cntR r'
  | m :: M, 0, r, r', h => by
    simp only [List.getElem?_cons_zero, Option.some.injEq] at h
    subst h
    simp [cntF]; omega
  | m :: M, k + 1, r, r', h => by
    simp only [List.getElem?_cons_succ] at h
    have := cntF_set M k r r' h
    simp only [List.set_cons_succ, cntF]
    omega
  | [], _, _, _, h => by simp at h
theorem cntF_put {M : List (List Bool)} {k j : Nat} {r : List Bool} (hr : M[k]? = some r) (hj : r[j]? = some false) : cntF (M.set k (r.set j true)) + 1 = cntF M := by
  have h1 := cntF_set M k r (r.set j true) hr
  have h2 := cntR_set r j hj
  omega
end Go.Proofs.YtniolbbhjibobaaDoor
namespace Go.Proofs.YtniolbbhjibobaaDoor
open Go.RowKit

def CL (M : List (List Bool)) (a : PArc) (K : Nat) : Prop := ∀ k : Nat, k < K → at2 M k a.from_.toNat = some true → at2 M k a.to_.toNat = some true
def RoundI (M0 M : List (List Bool)) (b : Bool) (P : Prop) : Prop := (b = true → cntF M < cntF M0) ∧ (b = false → M = M0 ∧ P)
theorem RoundI.imp {M0 M : List (List Bool)} {b : Bool} {P P' : Prop} (h : RoundI M0 M b P) (hp : P → P') : RoundI M0 M b P' := ⟨h.1, fun e => ⟨(h.2 e).1, hp (h.2 e).2⟩⟩
end Go.Proofs.YtniolbbhjibobaaDoor
namespace Go.Proofs.YtniolbbhjibobaaDoor
open Go.RowKit

open Classical
end Go.Proofs.YtniolbbhjibobaaDoor
namespace Go.Proofs.YtniolbbhjibobaaDoor
open Go.RowKit

open Classical
def OneOf (ars : List PArc) (t i q : Nat) : Prop := ∃ (j : Nat) (a : PArc), j < q ∧ ars[j]? = some a ∧ a.tran = (t : Int) ∧ Reach (nxt ars) a.from_ (i : Int)
theorem OneOf.succ {ars : List PArc} {t i q : Nat} {a : PArc} (ha : ars[q]? = some a) : OneOf ars t i (q + 1) ↔ OneOf ars t i q ∨ (a.tran = (t : Int) ∧ Reach (nxt ars) a.from_ (i : Int)) := by
  constructor
  · rintro ⟨j, b, hj, hb, h1, h2⟩
    by_cases e : j = q
    · subst e
      rw [ha] at hb
      injection hb with hb
      subst hb
      exact .inr ⟨h1, h2⟩
    · exact .inl ⟨j, b, by omega, hb, h1, h2⟩
  · rintro (⟨j, b, hj, hb, h1, h2⟩ | ⟨h1, h2⟩)
    · exact ⟨j, b, by omega, hb, h1, h2⟩
    · exact ⟨q, a, by omega, ha, h1, h2⟩
end Go.Proofs.YtniolbbhjibobaaDoor
