/- Texts melted into one: Blocks that are known whole: boxes of struct values, what stays of them and beside them; make in a region that draws its order. Conditions: none; plain lemmas on memory. | A box of three cells, stored anew. Conditions: none. | Contracts of package mark, of the references of chapter 1, and of the library's functions on lists of integers that they call. Conditions: the slices read as lists of integers. | Contracts of package mark and of the references of chapter 1, part two. Conditions: the slices read as lists of integers. | Contracts of AMix, APlus, AMinus. Conditions: the slices read as lists of integers, none of them large. | Contracts of zip, Plus, Minus and their references, of ACovers and of slices.Equal on integers. Conditions: the slices read as lists of integers. | Contracts of APlus, AMinus, ACovers and slices.Equal on integers. Conditions: the slices read as lists of integers. | The contract of ACovers, and the law MarkTells as a call: it returns true. Conditions: the slices read as lists of integers. | The contract of net.Wrong. Conditions: the net's transitions read as a list. -/
import Derived.Test.YtniolbbhjibobaaDoorBlocksListK04
import Derived.Test.YtniolbbhjibobaaDoorBlocksListK05
import Derived.Test.YtniolbbhjibobaaDoorBlocksListK01
import Derived.Deep.QuietTactic
import Derived.BigQuiet
import Derived.Test.YtniolbbhjibobaaDoorBlocksListK02
set_option linter.all false
namespace Go.Proofs.YtniolbbhjibobaaDoor
open Go.RowKit

/-- Block b holds just these cells, and may be written. -/
def Box (w : World) (b ty : Nat) (cs : Array Value) : Prop := w.heap[b]? = some (.cells cs ty (0, 0))
section
variable {w w' : World} {b ty : Nat} {cs : Array Value}
theorem Box.lt (h : Box w b ty cs) : b < w.heap.size := (Array.getElem?_eq_some_iff.1 h).1
theorem Box.cell (h : Box w b ty cs) (j : Nat) : w.cell? ⟨b, j, none⟩ = cs[j]? := cell_of_row _ _ _ _ _ (0, 0) h
theorem Box.frozen (h : Box w b ty cs) (j : Nat) : w.frozen? ⟨b, j, none⟩ = false := frozen_of_row _ _ _ _ _ h
theorem Box.keepB (h : Box w b ty cs) {B : Nat} (hb : Below B w w') (hB : b < B) : Box w' b ty cs := (hb.block b hB).trans h
theorem Box.keep (h : Box w b ty cs) (hb : Below w.heap.size w w') : Box w' b ty cs := h.keepB hb h.lt
theorem Box.new (w : World) (cs : Array Value) (ty : Nat) : Box (w.alloc (.cells cs ty)) w.heap.size ty cs := heap_alloc_new w _
theorem Box.newAt {n : Nat} (hn : w.heap.size = n) (cs : Array Value) (ty : Nat) : Box (w.alloc (.cells cs ty)) n ty cs := by subst hn; exact heap_alloc_new w _
theorem Box.old (h : Box w b ty cs) (o : Obj) : Box (w.alloc o) b ty cs := (heap_alloc_old w o h.lt).trans h
theorem Box.drew (h : Box w b ty cs) : Box w.drew b ty cs := h
theorem Box.drewN (h : Box w b ty cs) (n : Nat) : Box (w.drewN n) b ty cs := h
theorem Box.set (h : Box w b ty cs) (i : Nat) (v : Value) : Box (w.setCell ⟨b, i, none⟩ v) b ty (cs.setIfInBounds i v) := heap_setCell_same _ _ _ _ _ _ h
theorem Box.other (h : Box w b ty cs) {a : Addr} (v : Value) (hne : b ≠ a.block) : Box (w.setCell a v) b ty cs := (heap_setCell_other _ _ _ _ hne).trans h
theorem Box.two {u0 u1 : Value} (h : Box w b ty #[u0, u1]) : w.cell? ⟨b, 0, none⟩ = some u0 ∧ w.cell? ⟨b, 1, none⟩ = some u1 := ⟨h.cell 0, h.cell 1⟩
theorem Box.three {u0 u1 u2 : Value} (h : Box w b ty #[u0, u1, u2]) : w.cell? ⟨b, 0, none⟩ = some u0 ∧ w.cell? ⟨b, 1, none⟩ = some u1 ∧ w.cell? ⟨b, 2, none⟩ = some u2 := ⟨h.cell 0, h.cell 1, h.cell 2⟩
theorem Box.grown {row : Option Nat} (h : Box w b ty cs) (hg : w.grownBy w' row) (hne : row ≠ some b) : Box w' b ty cs := (hg.block b h.lt (fun e => hne e.symm)).trans h
end

/-- All but block b is as it was. -/
def Beside (b : Nat) (w w' : World) : Prop := w'.heap.size = w.heap.size ∧ ∀ k, k ≠ b → w'.heap[k]? = w.heap[k]?
theorem Beside.set (w : World) (b i : Nat) (v : Value) : Beside b w (w.setCell ⟨b, i, none⟩ v) := ⟨by simp [World.setCell], fun _ hk => heap_setCell_other _ _ _ _ hk⟩
theorem Beside.trans {b : Nat} {w w' w'' : World} (h : Beside b w w') (g : Beside b w' w'') : Beside b w w'' := ⟨g.1.trans h.1, fun k hk => (g.2 k hk).trans (h.2 k hk)⟩
theorem Beside.cell {b : Nat} {w w' : World} (h : Beside b w w') {p : Addr} (hp : p.block ≠ b) : w'.cell? p = w.cell? p := World.cell?_of_block (h.2 _ hp)
theorem Beside.box {b k ty : Nat} {cs : Array Value} {w w' : World} (h : Beside b w w') (g : Box w k ty cs) (hk : k ≠ b) : Box w' k ty cs := (h.2 k hk).trans g
/-- A list of integers is not in a block that holds none. -/
theorem Ints.beside {w w' : World} {b ty : Nat} {cs : Array Value} {A : Option Addr} {n c : Nat} {xs : List Int} (h : Ints w A n c xs) (hb : Box w b ty cs) (hcs : ∀ (j : Nat) (x : Int), cs[j]? ≠ some (.int .i64 x)) (hw : Beside b w w') : Ints w' A n c xs :=
  ⟨h.len, h.le, h.cap, h.small, h.nul, fun hn => by
    obtain ⟨b', off, e, hlt, hc⟩ := h.cells hn
    refine ⟨b', off, e, by rw [hw.1]; exact hlt, fun i x hx => ?_⟩
    obtain ⟨vs, h1, h2⟩ := hc i x hx
    refine ⟨vs, fun j hj => ?_, h2⟩
    have := h1 j hj
    by_cases hbb : b' = b
    · subst hbb
      exfalso
      obtain rfl : j = 0 := by omega
      rw [hb.cell, h2] at this
      exact hcs _ _ this
    · rw [hw.cell (by simpa using hbb)]; exact this⟩
end Go.Proofs.YtniolbbhjibobaaDoor
namespace Go.Proofs.YtniolbbhjibobaaDoor
open Go.RowKit

theorem Box.set3 {w : World} {b ty : Nat} {u0 u1 u2 : Value} (h : Box w b ty #[u0, u1, u2]) (v0 v1 v2 : Value) : Box (((w.setCell ⟨b, 0, none⟩ v0).setCell ⟨b, 1, none⟩ v1).setCell ⟨b, 2, none⟩ v2) b ty #[v0, v1, v2] := by
  have := ((h.set 0 v0).set 1 v1).set 2 v2
  simpa using this
theorem below_set3 {B b : Nat} {w0 w : World} (h : Below B w0 w) (hb : B ≤ b) (v0 v1 v2 : Value) : Below B w0 (((w.setCell ⟨b, 0, none⟩ v0).setCell ⟨b, 1, none⟩ v1).setCell ⟨b, 2, none⟩ v2) :=
  ((h.setCell hb _).setCell hb _).setCell hb _
end Go.Proofs.YtniolbbhjibobaaDoor
namespace Go.Proofs.YtniolbbhjibobaaDoor
open Go.RowKit

end Go.Proofs.YtniolbbhjibobaaDoor
namespace Go.Proofs.YtniolbbhjibobaaDoor
open Go.RowKit

end Go.Proofs.YtniolbbhjibobaaDoor
namespace Go.Proofs.YtniolbbhjibobaaDoor
open Go.RowKit

def SmallL (xs : List Int) : Prop := ∀ p, -1000000000 ≤ atL xs p ∧ atL xs p ≤ 1000000000
end Go.Proofs.YtniolbbhjibobaaDoor
namespace Go.Proofs.YtniolbbhjibobaaDoor
open Go.RowKit

/-- Where the slice lies, nothing was before. -/
def Fresh (w : World) (C : Option Addr) : Prop := ∀ a, C = some a → w.heap.size ≤ a.block
theorem Fresh.none {w : World} : Fresh w none := fun _ h => by cases h
theorem Fresh.at {w : World} {b off : Nat} {s : Option Nat} (h : w.heap.size ≤ b) : Fresh w (some ⟨b, off, s⟩) := fun a e => by injection e with e; subst e; exact h
theorem Fresh.mono {w w' : World} {C : Option Addr} (h : Fresh w' C) (hs : w.heap.size ≤ w'.heap.size) : Fresh w C := fun a e => Nat.le_trans hs (h a e)

end Go.Proofs.YtniolbbhjibobaaDoor
namespace Go.Proofs.YtniolbbhjibobaaDoor
open Go.RowKit

/-- The world w after some draws. -/
def Drew (w w' : World) : Prop := ∃ k, w' = w.drewN k
theorem Drew.below {w w' : World} (h : Drew w w') : Below w.heap.size w w' := by
  obtain ⟨k, rfl⟩ := h
  exact ⟨rfl, rfl, rfl, Nat.le_refl _, fun _ _ => rfl⟩
theorem Drew.refl (w : World) : Drew w w := ⟨0, rfl⟩
theorem Drew.more {w w' : World} (h : Drew w w') (k : Nat) : Drew w (w'.drewN k) := by
  obtain ⟨q, rfl⟩ := h
  exact ⟨q + k, World.drewN_drewN _ _ _⟩
theorem Drew.drewN (w : World) (k : Nat) : Drew w (w.drewN k) := ⟨k, rfl⟩
set_option maxRecDepth 100000 in
theorem equalInts_calls {w : World} {A B : Option Addr} {n c m d : Nat} {xs ys : List Int} (h : Ints w A n c xs) (g : Ints w B m d ys) :
    Calls Tryd.prog 16 #[.slice A n c, .slice B m d] w fun e w' => e = .returned (.bool (xs == ys)) ∧ Drew w w' := by
  have hn := h.small
  have hm := g.small
  have HL := hide2 h.len
  have GL := hide2 g.len
  by_cases hnm : n = m
  · subst hnm
    go_enter Tryd.func16, Tryd.ntmps16
    go_wp2
    go_loopw [13] (fun i wr => ∃ k : Nat, k ≤ n ∧ i = .int .i64 k ∧ Hid (∀ j, j < k → xs[j]? = ys[j]?) ∧ ∃ q, wr = w.drewN q) (fun i _ => n - (intOf i).toNat)
    case atStart => exact ⟨0, Nat.zero_le _, rfl, fun j hj => absurd hj (by omega), 0, rfl⟩
    case round =>
      obtain ⟨k, hk, rfl, hlow, q, rfl⟩ := hrel
      by_cases hlt : k < n
      · obtain ⟨b, off, x, rfl, hb, hx, hc⟩ := h.get hlt
        obtain ⟨b', off', y, rfl, hb', hy, hc'⟩ := g.get hlt
        clear h g
        have hi : (k : Int) < (n : Int) := by omega
        by_cases hxy : x = y
        · subst hxy
          go_wp2
          go_quiet (fail)
          go_wp2
          go_roundw
          case rel =>
            refine ⟨k + 1, by omega, by go_num, fun j hj => ?_, _, rfl⟩
            by_cases hjk : j = k
            · subst hjk; rw [hx.out, hy.out]
            · exact hlow.out j (by omega)
          case measure => simp [intOf]; omega
        · have hne : (x != y) = true := by simpa using hxy
          have HN := hide2 hxy
          clear hxy
          go_wp2
          go_quiet (fail)
          go_wp2
          go_ret
          refine ⟨ret_bool ?_, _, World.drewN_drewN _ _ _⟩
          symm
          rw [beq_eq_false_iff_ne]
          intro e
          have h1 := hx.out
          rw [e, hy.out] at h1
          injection h1 with h1
          exact HN.out h1.symm
      · clear h g
        go_wp2
        go_ret
        refine ⟨ret_bool ?_, _, rfl⟩
        symm
        rw [beq_iff_eq]
        apply List.ext_getElem?
        intro j
        by_cases hj : j < k
        · exact hlow.out j hj
        · rw [List.getElem?_eq_none (by have := HL.out; omega), List.getElem?_eq_none (by have := GL.out; omega)]
  · clear h g
    have hne : ((n : Int) != (m : Int)) = true := by simp; omega
    have HN := hide2 hnm
    clear hnm
    go_enter Tryd.func16, Tryd.ntmps16
    go_wp2
    go_ret
    refine ⟨ret_bool ?_, 0, rfl⟩
    symm
    rw [beq_eq_false_iff_ne]
    intro e
    have := HL.out
    have := GL.out
    exact HN.out (by rw [e] at *; omega)
end Go.Proofs.YtniolbbhjibobaaDoor
namespace Go.Proofs.YtniolbbhjibobaaDoor
open Go.RowKit

end Go.Proofs.YtniolbbhjibobaaDoor
namespace Go.Proofs.YtniolbbhjibobaaDoor
open Go.RowKit

end Go.Proofs.YtniolbbhjibobaaDoor
