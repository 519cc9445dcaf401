/- Blocks that are known whole: boxes of struct values, what stays of them and beside them; make in a region that draws its order. Conditions: none; plain lemmas on memory. | A box of three cells, stored anew. Conditions: none. -/
import Derived.Test.YtnfppolgaeibeaaOwnB
import Derived.Test.YtnfppolgaeibeaaHeld
namespace Go.Proofs.Ytnfppolgaeibeaa
open Go.RowKit

/-- Block b holds just these cells, and may be written. -/
def Box (w : World) (b ty : Nat) (cs : Array Value) : Prop := w.heap[b]? = some (.cells cs ty (0, 0))
section
variable {w w' : World} {b ty : Nat} {cs : Array Value}
theorem Box.lt (h : Box w b ty cs) : b < w.heap.size := (Array.getElem?_eq_some_iff.1 h).1
theorem Box.cell (h : Box w b ty cs) (j : Nat) : w.cell? ⟨b, j, none⟩ = cs[j]? := cell_of_row _ _ _ _ _ (0, 0) h
theorem Box.frozen (h : Box w b ty cs) (j : Nat) : w.frozen? ⟨b, j, none⟩ = false := frozen_of_row _ _ _ _ _ h
theorem Box.keepB (h : Box w b ty cs) {B : Nat} (hb : Below B w w') (hB : b < B) : Box w' b ty cs := (hb.block b hB).trans h
theorem Box.keep (h : Box w b ty cs) (hb : Below w.heap.size w w') : Box w' b ty cs := h.keepB hb h.lt
theorem Box.new (w : World) (cs : Array Value) (ty : Nat) : Box (w.alloc (.cells cs ty)) w.heap.size ty cs := heap_alloc_new w _
theorem Box.newAt {n : Nat} (hn : w.heap.size = n) (cs : Array Value) (ty : Nat) : Box (w.alloc (.cells cs ty)) n ty cs := by subst hn; exact heap_alloc_new w _
theorem Box.old (h : Box w b ty cs) (o : Obj) : Box (w.alloc o) b ty cs := (heap_alloc_old w o h.lt).trans h
theorem Box.drew (h : Box w b ty cs) : Box w.drew b ty cs := h
theorem Box.drewN (h : Box w b ty cs) (n : Nat) : Box (w.drewN n) b ty cs := h
theorem Box.set (h : Box w b ty cs) (i : Nat) (v : Value) : Box (w.setCell ⟨b, i, none⟩ v) b ty (cs.setIfInBounds i v) := heap_setCell_same _ _ _ _ _ _ h
theorem Box.other (h : Box w b ty cs) {a : Addr} (v : Value) (hne : b ≠ a.block) : Box (w.setCell a v) b ty cs := (heap_setCell_other _ _ _ _ hne).trans h
theorem Box.set2 {u0 u1 : Value} (h : Box w b ty #[u0, u1]) (v0 v1 : Value) : Box ((w.setCell ⟨b, 0, none⟩ v0).setCell ⟨b, 1, none⟩ v1) b ty #[v0, v1] := by
  have := (h.set 0 v0).set 1 v1
  simpa using this
theorem Box.two {u0 u1 : Value} (h : Box w b ty #[u0, u1]) : w.cell? ⟨b, 0, none⟩ = some u0 ∧ w.cell? ⟨b, 1, none⟩ = some u1 := ⟨h.cell 0, h.cell 1⟩
theorem Box.three {u0 u1 u2 : Value} (h : Box w b ty #[u0, u1, u2]) : w.cell? ⟨b, 0, none⟩ = some u0 ∧ w.cell? ⟨b, 1, none⟩ = some u1 ∧ w.cell? ⟨b, 2, none⟩ = some u2 := ⟨h.cell 0, h.cell 1, h.cell 2⟩
theorem Box.grown {row : Option Nat} (h : Box w b ty cs) (hg : w.grownBy w' row) (hne : row ≠ some b) : Box w' b ty cs := (hg.block b h.lt (fun e => hne e.symm)).trans h
end

/-- All but block b is as it was. -/
def Beside (b : Nat) (w w' : World) : Prop := w'.heap.size = w.heap.size ∧ ∀ k, k ≠ b → w'.heap[k]? = w.heap[k]?
theorem Beside.set (w : World) (b i : Nat) (v : Value) : Beside b w (w.setCell ⟨b, i, none⟩ v) := ⟨by simp [World.setCell], fun _ hk => heap_setCell_other _ _ _ _ hk⟩
theorem Beside.trans {b : Nat} {w w' w'' : World} (h : Beside b w w') (g : Beside b w' w'') : Beside b w w'' := ⟨g.1.trans h.1, fun k hk => (g.2 k hk).trans (h.2 k hk)⟩
theorem Beside.set2 (w : World) (b i j : Nat) (u v : Value) : Beside b w ((w.setCell ⟨b, i, none⟩ u).setCell ⟨b, j, none⟩ v) := (Beside.set _ _ _ _).trans (Beside.set _ _ _ _)
theorem Beside.cell {b : Nat} {w w' : World} (h : Beside b w w') {p : Addr} (hp : p.block ≠ b) : w'.cell? p = w.cell? p := World.cell?_of_block (h.2 _ hp)
theorem Beside.box {b k ty : Nat} {cs : Array Value} {w w' : World} (h : Beside b w w') (g : Box w k ty cs) (hk : k ≠ b) : Box w' k ty cs := (h.2 k hk).trans g
/-- A list of integers is not in a block that holds none. -/
theorem Ints.beside {w w' : World} {b ty : Nat} {cs : Array Value} {A : Option Addr} {n c : Nat} {xs : List Int} (h : Ints w A n c xs) (hb : Box w b ty cs) (hcs : ∀ (j : Nat) (x : Int), cs[j]? ≠ some (.int .i64 x)) (hw : Beside b w w') : Ints w' A n c xs :=
  ⟨h.len, h.le, h.cap, h.small, h.nul, fun hn => by
    obtain ⟨b', off, e, hlt, hc⟩ := h.cells hn
    refine ⟨b', off, e, by rw [hw.1]; exact hlt, fun i x hx => ?_⟩
    obtain ⟨vs, h1, h2⟩ := hc i x hx
    refine ⟨vs, fun j hj => ?_, h2⟩
    have := h1 j hj
    by_cases hbb : b' = b
    · subst hbb
      exfalso
      obtain rfl : j = 0 := by omega
      rw [hb.cell, h2] at this
      exact hcs _ _ this
    · rw [hw.cell (by simpa using hbb)]; exact this⟩
theorem noInt2 {A B : Option Addr} {n c m d : Nat} : ∀ (j : Nat) (x : Int), (#[Value.slice A n c, Value.slice B m d])[j]? ≠ some (.int .i64 x)
  | 0, _ => by simp
  | 1, _ => by simp
  | _ + 2, _ => by simp

/-- make([]T, n), T of one cell, inside a region that draws its order. -/
theorem step_mk {t e bytes : Nat} {z : Value} (h1 : Try.prog.underlying t = some (.slice e)) (h2 : (Try.prog.info? e).map (fun i => (i.zero, i.size, i.bytes)) = some (some z, 1, bytes)) (hz : z.cells = #[z]) {ops : Array Oper} {o : Oper} {a : Act} {K : Act → World → Prop} {Q : Exit → Act → World → Prop} {E : Prop}
    (hg : o.guard = none) (l c : Operand) (hop : o.op = Op.makeSlice t l c) {w0 w : World} {B : Nat} {L C : Int} (n : Nat) (hl : a.eval l = .int .i64 L) (hc : a.eval c = .int .i64 C) (hL : L = (n : Int)) (hC : C = (n : Int))
    (hn : n ≤ 281474976710656) (hbytes : bytes * n ≤ 281474976710656) (hb : Below B w0 w) (hB : B ≤ w.heap.size)
    (hK : ∀ w', w'.ownsRow B e 1 (.slice (some ⟨w.heap.size, 0, none⟩) n n) n (List.replicate n z) → w.grownBy w' none → Below B w0 w' → K (a.put o.dst (.slice (some ⟨w.heap.size, 0, none⟩) n n)) w') :
    if Region.wanted o (yielded ops a.tmps) = true then Oper.wp Try.prog o a w K Q else E := by
  obtain ⟨i, hi, hz0, hz1, hz2⟩ := info_parts h2
  obtain ⟨w', hrun, r1, r2⟩ := run_make_full (P := Try.prog) w B t e i z 1 h1 hi hz0 hz1 .i64 .i64 n (by rw [hz2]; exact hbytes) (by simp only [maxLen]; omega) hB
  rw [hz, Nat.mul_one, toList_madeCells_one] at r1
  have h := hK w' r1 r2 (hb.grown r2 hB (fun k hk => by cases hk))
  subst hL
  subst hC
  rw [if_pos (by simp [Region.wanted, hg])]
  unfold Oper.wp
  simp [execOp, hop, hl, hc, hrun, Result.andThen]
  exact h
end Go.Proofs.Ytnfppolgaeibeaa
namespace Go.Proofs.Ytnfppolgaeibeaa
open Go.RowKit

theorem Box.set3 {w : World} {b ty : Nat} {u0 u1 u2 : Value} (h : Box w b ty #[u0, u1, u2]) (v0 v1 v2 : Value) : Box (((w.setCell ⟨b, 0, none⟩ v0).setCell ⟨b, 1, none⟩ v1).setCell ⟨b, 2, none⟩ v2) b ty #[v0, v1, v2] := by
  have := ((h.set 0 v0).set 1 v1).set 2 v2
  simpa using this
theorem below_set3 {B b : Nat} {w0 w : World} (h : Below B w0 w) (hb : B ≤ b) (v0 v1 v2 : Value) : Below B w0 (((w.setCell ⟨b, 0, none⟩ v0).setCell ⟨b, 1, none⟩ v1).setCell ⟨b, 2, none⟩ v2) :=
  ((h.setCell hb _).setCell hb _).setCell hb _
end Go.Proofs.Ytnfppolgaeibeaa
