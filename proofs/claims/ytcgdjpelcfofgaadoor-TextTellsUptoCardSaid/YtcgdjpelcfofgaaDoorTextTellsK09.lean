/- Texts melted into one: A region that draws its order, walked by a written list of its operations: each is either taken first (it yields one value in every world that meets S) or the only one that may come up. S is asked only while number m has not come up. | The rule of XHeld with a tree in place of the list: where two operations may come up, both ways are walked. | The rule of XHeldB, with one operation taken ahead of all that waits for nothing and reads no memory. | The rule of XHeldC, with two operations taken ahead of all. | Blocks that are known whole: boxes of struct values, what stays of them and beside them; make in a region that draws its order. Conditions: none; plain lemmas on memory. | A box of three cells, stored anew. Conditions: none. -/
import Derived.Test.YtcgdjpelcfofgaaDoorTextTellsK08
import Derived.Deep.RegionHeld3
namespace Go.Proofs.YtcgdjpelcfofgaaDoor
open Go.RowKit

section
variable {P : Program} {ops : Array Oper} {Q : Exit → Act → World → Prop} {md : Region.Mode} {S : World → Prop} {m : Nat}

/-- What has come up holds, with each operation, those that it waits for. -/
def Closed (md : Region.Mode) (ops : Array Oper) (listed : Array Bool) : Prop :=
  ∀ k o, listed.getD k false = true → ops[k]? = some o → ∀ e ∈ o.after, Region.binds md e = true → listed.getD e.on false = true

theorem Closed.set {listed : Array Bool} (h : Closed md ops listed) {i : Nat} (hi : i ∈ Region.ready md ops listed) : Closed md ops (listed.setIfInBounds i true) := by
  intro k o hk ho e he hb
  by_cases hki : i = k
  · subst hki
    obtain ⟨_, o', ho', hall⟩ := mem_ready.1 hi
    rw [ho] at ho'
    cases ho'
    exact getD_set_true (hall e he hb)
  · rw [getD_set_ne false hki] at hk
    exact getD_set_true (h k o hk ho e he hb)

end
end Go.Proofs.YtcgdjpelcfofgaaDoor
namespace Go.Proofs.YtcgdjpelcfofgaaDoor
open Go.RowKit

section
variable {P : Program} {ops : Array Oper} {Q : Exit → Act → World → Prop} {md : Region.Mode} {S : World → Prop} {m : Nat}

end
end Go.Proofs.YtcgdjpelcfofgaaDoor
namespace Go.Proofs.YtcgdjpelcfofgaaDoor
open Go.RowKit

section
variable {P : Program} {ops : Array Oper} {Q : Exit → Act → World → Prop} {md : Region.Mode} {S : World → Prop} {m : Nat}

end
end Go.Proofs.YtcgdjpelcfofgaaDoor
namespace Go.Proofs.YtcgdjpelcfofgaaDoor
open Go.RowKit

section
variable {P : Program} {ops : Array Oper} {Q : Exit → Act → World → Prop} {S : World → Prop} {m : Nat}

end
end Go.Proofs.YtcgdjpelcfofgaaDoor
namespace Go.Proofs.YtcgdjpelcfofgaaDoor
open Go.RowKit

/-- Block b holds just these cells, and may be written. -/
def Box (w : World) (b ty : Nat) (cs : Array Value) : Prop := w.heap[b]? = some (.cells cs ty (0, 0))
section
variable {w w' : World} {b ty : Nat} {cs : Array Value}
theorem Box.lt (h : Box w b ty cs) : b < w.heap.size := (Array.getElem?_eq_some_iff.1 h).1
theorem Box.cell (h : Box w b ty cs) (j : Nat) : w.cell? ⟨b, j, none⟩ = cs[j]? := cell_of_row _ _ _ _ _ (0, 0) h
theorem Box.frozen (h : Box w b ty cs) (j : Nat) : w.frozen? ⟨b, j, none⟩ = false := frozen_of_row _ _ _ _ _ h
theorem Box.keepB (h : Box w b ty cs) {B : Nat} (hb : Below B w w') (hB : b < B) : Box w' b ty cs := (hb.block b hB).trans h
theorem Box.keep (h : Box w b ty cs) (hb : Below w.heap.size w w') : Box w' b ty cs := h.keepB hb h.lt
theorem Box.new (w : World) (cs : Array Value) (ty : Nat) : Box (w.alloc (.cells cs ty)) w.heap.size ty cs := heap_alloc_new w _
theorem Box.newAt {n : Nat} (hn : w.heap.size = n) (cs : Array Value) (ty : Nat) : Box (w.alloc (.cells cs ty)) n ty cs := by subst hn; exact heap_alloc_new w _
theorem Box.old (h : Box w b ty cs) (o : Obj) : Box (w.alloc o) b ty cs := (heap_alloc_old w o h.lt).trans h
theorem Box.drew (h : Box w b ty cs) : Box w.drew b ty cs := h
theorem Box.drewN (h : Box w b ty cs) (n : Nat) : Box (w.drewN n) b ty cs := h
theorem Box.set (h : Box w b ty cs) (i : Nat) (v : Value) : Box (w.setCell ⟨b, i, none⟩ v) b ty (cs.setIfInBounds i v) := heap_setCell_same _ _ _ _ _ _ h
theorem Box.other (h : Box w b ty cs) {a : Addr} (v : Value) (hne : b ≠ a.block) : Box (w.setCell a v) b ty cs := (heap_setCell_other _ _ _ _ hne).trans h
theorem Box.set2 {u0 u1 : Value} (h : Box w b ty #[u0, u1]) (v0 v1 : Value) : Box ((w.setCell ⟨b, 0, none⟩ v0).setCell ⟨b, 1, none⟩ v1) b ty #[v0, v1] := by
  have := (h.set 0 v0).set 1 v1
  simpa using this
theorem Box.two {u0 u1 : Value} (h : Box w b ty #[u0, u1]) : w.cell? ⟨b, 0, none⟩ = some u0 ∧ w.cell? ⟨b, 1, none⟩ = some u1 := ⟨h.cell 0, h.cell 1⟩
theorem Box.three {u0 u1 u2 : Value} (h : Box w b ty #[u0, u1, u2]) : w.cell? ⟨b, 0, none⟩ = some u0 ∧ w.cell? ⟨b, 1, none⟩ = some u1 ∧ w.cell? ⟨b, 2, none⟩ = some u2 := ⟨h.cell 0, h.cell 1, h.cell 2⟩
theorem Box.grown {row : Option Nat} (h : Box w b ty cs) (hg : w.grownBy w' row) (hne : row ≠ some b) : Box w' b ty cs := (hg.block b h.lt (fun e => hne e.symm)).trans h
end

/-- All but block b is as it was. -/
def Beside (b : Nat) (w w' : World) : Prop := w'.heap.size = w.heap.size ∧ ∀ k, k ≠ b → w'.heap[k]? = w.heap[k]?
theorem Beside.set (w : World) (b i : Nat) (v : Value) : Beside b w (w.setCell ⟨b, i, none⟩ v) := ⟨by simp [World.setCell], fun _ hk => heap_setCell_other _ _ _ _ hk⟩
theorem Beside.trans {b : Nat} {w w' w'' : World} (h : Beside b w w') (g : Beside b w' w'') : Beside b w w'' := ⟨g.1.trans h.1, fun k hk => (g.2 k hk).trans (h.2 k hk)⟩
theorem Beside.set2 (w : World) (b i j : Nat) (u v : Value) : Beside b w ((w.setCell ⟨b, i, none⟩ u).setCell ⟨b, j, none⟩ v) := (Beside.set _ _ _ _).trans (Beside.set _ _ _ _)
theorem Beside.cell {b : Nat} {w w' : World} (h : Beside b w w') {p : Addr} (hp : p.block ≠ b) : w'.cell? p = w.cell? p := World.cell?_of_block (h.2 _ hp)
end Go.Proofs.YtcgdjpelcfofgaaDoor
namespace Go.Proofs.YtcgdjpelcfofgaaDoor
open Go.RowKit

theorem Box.set3 {w : World} {b ty : Nat} {u0 u1 u2 : Value} (h : Box w b ty #[u0, u1, u2]) (v0 v1 v2 : Value) : Box (((w.setCell ⟨b, 0, none⟩ v0).setCell ⟨b, 1, none⟩ v1).setCell ⟨b, 2, none⟩ v2) b ty #[v0, v1, v2] := by
  have := ((h.set 0 v0).set 1 v1).set 2 v2
  simpa using this
end Go.Proofs.YtcgdjpelcfofgaaDoor
