/- Texts melted into one: Blocks that are known whole: boxes of struct values, what stays of them and beside them; make in a region that draws its order. Conditions: none; plain lemmas on memory. | A box of three cells, stored anew. Conditions: none. | Contracts of package mark, of the references of chapter 1, and of the library's functions on lists of integers that they call. Conditions: the slices read as lists of integers. | Contracts of package mark and of the references of chapter 1, part two. Conditions: the slices read as lists of integers. | Contracts of AMix, APlus, AMinus. Conditions: the slices read as lists of integers, none of them large. | Contracts of zip, Plus, Minus and their references, of ACovers and of slices.Equal on integers. Conditions: the slices read as lists of integers. | Contracts of APlus, AMinus, ACovers and slices.Equal on integers. Conditions: the slices read as lists of integers. | The contract of ACovers, and the law MarkTells as a call: it returns true. Conditions: the slices read as lists of integers. | The contract of net.Wrong. Conditions: the net's transitions read as a list. | Contracts of slices.Grow (of a nil slice) and slices.Concat (of two slices) on integers. Conditions: the lengths together stay below what memory bears. | The contract of BWrong. Conditions: the net's transitions read as a list. | Contracts of net.fits, BFits, net.Enabled and BEnabled. Conditions: the net and the mark read as lists. | Contracts of net.Enabled and BEnabled. Conditions: the net and the mark read as lists. | Contracts of shape.Start, HStart, SameInts and of the library's Equal on error numbers. Conditions: the slices read as lists of integers. | Contracts of SameInts, SameCase, of the library's Equal on error numbers, of cases.Right, PRight, cases.Begin and PBegin. Conditions: the net and the case read as lists. | Contracts of cases.Begin and PBegin. Conditions: the net reads as a list. | The contract of PBegin. Conditions: the net reads as a list. | Contracts of cases.busy and of the closure no of cases.Do; integers that the call owns, one turned. Conditions: the slices read as lists of integers. -/
import Derived.Test.YtcopnfdknclhnaaGreatMineTellsK02
import Derived.Test.YtcopnfdknclhnaaGreatMineTellsK03
import Derived.Test.YtcopnfdknclhnaaGreatMineTellsK01
import Derived.Deep.QuietTactic
import Derived.BigQuiet
import Derived.Lib.AppendZeros
import Derived.Handy
import Derived.Deep.DeepCutAuto
import Derived.Deep.LoopGhost
namespace Go.Proofs.YtcopnfdknclhnaaGreat
open Go.RowKit

/-- Block b holds just these cells, and may be written. -/
def Box (w : World) (b ty : Nat) (cs : Array Value) : Prop := w.heap[b]? = some (.cells cs ty (0, 0))
section
variable {w w' : World} {b ty : Nat} {cs : Array Value}
theorem Box.lt (h : Box w b ty cs) : b < w.heap.size := (Array.getElem?_eq_some_iff.1 h).1
theorem Box.cell (h : Box w b ty cs) (j : Nat) : w.cell? ⟨b, j, none⟩ = cs[j]? := cell_of_row _ _ _ _ _ (0, 0) h
theorem Box.frozen (h : Box w b ty cs) (j : Nat) : w.frozen? ⟨b, j, none⟩ = false := frozen_of_row _ _ _ _ _ h
theorem Box.keepB (h : Box w b ty cs) {B : Nat} (hb : Below B w w') (hB : b < B) : Box w' b ty cs := (hb.block b hB).trans h
theorem Box.keep (h : Box w b ty cs) (hb : Below w.heap.size w w') : Box w' b ty cs := h.keepB hb h.lt
theorem Box.new (w : World) (cs : Array Value) (ty : Nat) : Box (w.alloc (.cells cs ty)) w.heap.size ty cs := heap_alloc_new w _
theorem Box.newAt {n : Nat} (hn : w.heap.size = n) (cs : Array Value) (ty : Nat) : Box (w.alloc (.cells cs ty)) n ty cs := by subst hn; exact heap_alloc_new w _
theorem Box.old (h : Box w b ty cs) (o : Obj) : Box (w.alloc o) b ty cs := (heap_alloc_old w o h.lt).trans h
theorem Box.drew (h : Box w b ty cs) : Box w.drew b ty cs := h
theorem Box.drewN (h : Box w b ty cs) (n : Nat) : Box (w.drewN n) b ty cs := h
theorem Box.set (h : Box w b ty cs) (i : Nat) (v : Value) : Box (w.setCell ⟨b, i, none⟩ v) b ty (cs.setIfInBounds i v) := heap_setCell_same _ _ _ _ _ _ h
theorem Box.other (h : Box w b ty cs) {a : Addr} (v : Value) (hne : b ≠ a.block) : Box (w.setCell a v) b ty cs := (heap_setCell_other _ _ _ _ hne).trans h
theorem Box.two {u0 u1 : Value} (h : Box w b ty #[u0, u1]) : w.cell? ⟨b, 0, none⟩ = some u0 ∧ w.cell? ⟨b, 1, none⟩ = some u1 := ⟨h.cell 0, h.cell 1⟩
theorem Box.three {u0 u1 u2 : Value} (h : Box w b ty #[u0, u1, u2]) : w.cell? ⟨b, 0, none⟩ = some u0 ∧ w.cell? ⟨b, 1, none⟩ = some u1 ∧ w.cell? ⟨b, 2, none⟩ = some u2 := ⟨h.cell 0, h.cell 1, h.cell 2⟩
theorem Box.grown {row : Option Nat} (h : Box w b ty cs) (hg : w.grownBy w' row) (hne : row ≠ some b) : Box w' b ty cs := (hg.block b h.lt (fun e => hne e.symm)).trans h
end

/-- All but block b is as it was. -/
def Beside (b : Nat) (w w' : World) : Prop := w'.heap.size = w.heap.size ∧ ∀ k, k ≠ b → w'.heap[k]? = w.heap[k]?
theorem Beside.set (w : World) (b i : Nat) (v : Value) : Beside b w (w.setCell ⟨b, i, none⟩ v) := ⟨by simp [World.setCell], fun _ hk => heap_setCell_other _ _ _ _ hk⟩
theorem Beside.trans {b : Nat} {w w' w'' : World} (h : Beside b w w') (g : Beside b w' w'') : Beside b w w'' := ⟨g.1.trans h.1, fun k hk => (g.2 k hk).trans (h.2 k hk)⟩
theorem Beside.cell {b : Nat} {w w' : World} (h : Beside b w w') {p : Addr} (hp : p.block ≠ b) : w'.cell? p = w.cell? p := World.cell?_of_block (h.2 _ hp)
theorem Beside.box {b k ty : Nat} {cs : Array Value} {w w' : World} (h : Beside b w w') (g : Box w k ty cs) (hk : k ≠ b) : Box w' k ty cs := (h.2 k hk).trans g
/-- A list of integers is not in a block that holds none. -/
theorem Ints.beside {w w' : World} {b ty : Nat} {cs : Array Value} {A : Option Addr} {n c : Nat} {xs : List Int} (h : Ints w A n c xs) (hb : Box w b ty cs) (hcs : ∀ (j : Nat) (x : Int), cs[j]? ≠ some (.int .i64 x)) (hw : Beside b w w') : Ints w' A n c xs :=
  ⟨h.len, h.le, h.cap, h.small, h.nul, fun hn => by
    obtain ⟨b', off, e, hlt, hc⟩ := h.cells hn
    refine ⟨b', off, e, by rw [hw.1]; exact hlt, fun i x hx => ?_⟩
    obtain ⟨vs, h1, h2⟩ := hc i x hx
    refine ⟨vs, fun j hj => ?_, h2⟩
    have := h1 j hj
    by_cases hbb : b' = b
    · subst hbb
      exfalso
      obtain rfl : j = 0 := by omega
      rw [hb.cell, h2] at this
      exact hcs _ _ this
    · rw [hw.cell (by simpa using hbb)]; exact this⟩
end Go.Proofs.YtcopnfdknclhnaaGreat
namespace Go.Proofs.YtcopnfdknclhnaaGreat
open Go.RowKit

theorem Box.set3 {w : World} {b ty : Nat} {u0 u1 u2 : Value} (h : Box w b ty #[u0, u1, u2]) (v0 v1 v2 : Value) : Box (((w.setCell ⟨b, 0, none⟩ v0).setCell ⟨b, 1, none⟩ v1).setCell ⟨b, 2, none⟩ v2) b ty #[v0, v1, v2] := by
  have := ((h.set 0 v0).set 1 v1).set 2 v2
  simpa using this
end Go.Proofs.YtcopnfdknclhnaaGreat
namespace Go.Proofs.YtcopnfdknclhnaaGreat
open Go.RowKit

/-- Function F, with what it captured, is a test of integers that leaves the world alone. -/
structure IsPred (F : FuncId) (cap : Array Value) (w : World) (p : Int → Bool) : Prop where
  enters : ∀ args w, (callFunc F args).run Tryz.prog w = .ok (.enter F args) w
  calls : ∀ x, Calls Tryz.prog F (#[.int .i64 x] ++ cap) w fun e w' => e = .returned (.bool (p x)) ∧ w = w'

set_option maxRecDepth 100000 in
theorem indexFuncInts {w : World} {A : Option Addr} {n c : Nat} {xs : List Int} {F : FuncId} {cap : Array Value} {p : Int → Bool} (h : Ints w A n c xs) (hp : IsPred F cap w p) :
    Calls Tryz.prog 47 #[.slice A n c, .func (.func F) #[] cap] w fun e w' => e = .returned (.int .i64 (idxFirst p xs)) ∧ w = w' := by
  have hn := h.small
  have henter := hp.enters
  go_enter Tryz.func47, Tryz.ntmps47
  go_wp2
  go_loop [8] (fun i => ∃ k : Nat, k ≤ n ∧ i = .int .i64 k ∧ Hid (∀ j, j < k → ∀ y, xs[j]? = some y → p y = false)) (fun i => n - (intOf i).toNat)
  case atStart => exact ⟨0, Nat.zero_le _, rfl, fun j hj => absurd hj (by omega)⟩
  case round =>
    obtain ⟨k, hk, rfl, hlow⟩ := hrel
    by_cases hlt : k < n
    · obtain ⟨b, off, x, rfl, hb, hx, hc⟩ := h.get hlt
      have hl := h.len
      have hL := hide2 hl
      clear hl
      by_cases hpx : p x = true
      · have HP := hide2 hpx
        clear hpx
        clear h
        go_wp2_with (refine (hp.calls x).mono ?_; rintro e w' ⟨rfl, rfl⟩; rw [HP.out])
        go_ret
        exact ⟨ret_int (idxFirst_some hlow.out hx.out HP.out).symm, rfl⟩
      · have HP := hide2 (show p x = false by simpa using hpx)
        clear h hpx
        go_wp2_with (refine (hp.calls x).mono ?_; rintro e w' ⟨rfl, rfl⟩; rw [HP.out])
        go_round
        case rel =>
          refine ⟨k + 1, by omega, by go_num, fun j hj y hy => ?_⟩
          by_cases hjk : j = k
          · subst hjk
            have := hx.out
            rw [hy] at this
            injection this with this
            rw [this]
            exact HP.out
          · exact hlow.out j (by omega) y hy
        case measure => simp [intOf]; omega
    · have hL := hide2 h.len
      go_wp2
      go_ret
      exact ⟨ret_int (idxFirst_none (fun j hj y hy => hlow.out j (by have := hL.out; omega) y hy)).symm, rfl⟩

set_option maxRecDepth 100000 in
theorem containsFuncInts {w : World} {A : Option Addr} {n c : Nat} {xs : List Int} {F : FuncId} {cap : Array Value} {p : Int → Bool} (h : Ints w A n c xs) (hp : IsPred F cap w p) :
    Calls Tryz.prog 14 #[.slice A n c, .func (.func F) #[] cap] w fun e w' => e = .returned (.bool (xs.any p)) ∧ w = w' := by
  go_enter Tryz.func14, Tryz.ntmps14
  go_wp2_with (refine (indexFuncInts h hp).mono ?_; rintro e w' ⟨rfl, rfl⟩)
  go_ret
  exact ⟨ret_bool (idxFirst_any _ _), rfl⟩

end Go.Proofs.YtcopnfdknclhnaaGreat
namespace Go.Proofs.YtcopnfdknclhnaaGreat
open Go.RowKit

end Go.Proofs.YtcopnfdknclhnaaGreat
namespace Go.Proofs.YtcopnfdknclhnaaGreat
open Go.RowKit

end Go.Proofs.YtcopnfdknclhnaaGreat
namespace Go.Proofs.YtcopnfdknclhnaaGreat
open Go.RowKit

/-- Where the slice lies, nothing was before. -/
def Fresh (w : World) (C : Option Addr) : Prop := ∀ a, C = some a → w.heap.size ≤ a.block
theorem Fresh.none {w : World} : Fresh w none := fun _ h => by cases h
theorem Fresh.at {w : World} {b off : Nat} {s : Option Nat} (h : w.heap.size ≤ b) : Fresh w (some ⟨b, off, s⟩) := fun a e => by injection e with e; subst e; exact h
theorem Fresh.mono {w w' : World} {C : Option Addr} (h : Fresh w' C) (hs : w.heap.size ≤ w'.heap.size) : Fresh w C := fun a e => Nat.le_trans hs (h a e)

end Go.Proofs.YtcopnfdknclhnaaGreat
namespace Go.Proofs.YtcopnfdknclhnaaGreat
open Go.RowKit

/-- The world w after some draws. -/
def Drew (w w' : World) : Prop := ∃ k, w' = w.drewN k
theorem Drew.refl (w : World) : Drew w w := ⟨0, rfl⟩
theorem Drew.more {w w' : World} (h : Drew w w') (k : Nat) : Drew w (w'.drewN k) := by
  obtain ⟨q, rfl⟩ := h
  exact ⟨q + k, World.drewN_drewN _ _ _⟩
theorem Drew.drewN (w : World) (k : Nat) : Drew w (w.drewN k) := ⟨k, rfl⟩
/-- A contract that leaves the world alone, at a call inside a region that draws its order. -/
theorem quietCall {P : Program} {f : FuncId} {args : Array Value} {w : World} {n : Nat} {v : Value} (h : Calls P f args (w.drewN n) fun e w' => e = .returned v ∧ w.drewN n = w') :
    Calls P f args (w.drewN n) fun e w'' => e = .returned v ∧ ∃ m, w'' = w.drewN m :=
  h.mono fun _ _ hh => ⟨hh.1, n, hh.2.symm⟩
end Go.Proofs.YtcopnfdknclhnaaGreat
namespace Go.Proofs.YtcopnfdknclhnaaGreat
open Go.RowKit

end Go.Proofs.YtcopnfdknclhnaaGreat
namespace Go.Proofs.YtcopnfdknclhnaaGreat
open Go.RowKit

end Go.Proofs.YtcopnfdknclhnaaGreat
namespace Go.Proofs.YtcopnfdknclhnaaGreat
open Go.RowKit

end Go.Proofs.YtcopnfdknclhnaaGreat
namespace Go.Proofs.YtcopnfdknclhnaaGreat
open Go.RowKit

end Go.Proofs.YtcopnfdknclhnaaGreat
namespace Go.Proofs.YtcopnfdknclhnaaGreat
open Go.RowKit

theorem boxBelow (w : World) (o : Obj) : Below w.heap.size w (w.alloc o) := (Below.refl _ _).alloc (Nat.le_refl _) _

end Go.Proofs.YtcopnfdknclhnaaGreat
namespace Go.Proofs.YtcopnfdknclhnaaGreat
open Go.RowKit

end Go.Proofs.YtcopnfdknclhnaaGreat
namespace Go.Proofs.YtcopnfdknclhnaaGreat
open Go.RowKit

end Go.Proofs.YtcopnfdknclhnaaGreat
namespace Go.Proofs.YtcopnfdknclhnaaGreat
open Go.RowKit

end Go.Proofs.YtcopnfdknclhnaaGreat
namespace Go.Proofs.YtcopnfdknclhnaaGreat
open Go.RowKit

/-- What a call answers that hands back a case and what is wrong. -/
def AnsCE (p : PCase × Int) (w : World) (e : Ending) (w' : World) : Prop :=
  ∃ A n c B m d, e = .returned (.tuple #[.agg #[.slice A n c, .slice B m d], .int .i64 p.2]) ∧ Ints w' A n c p.1.mark ∧ Ints w' B m d p.1.busy ∧ Below w.heap.size w w' ∧ Fresh w A ∧ Fresh w B
theorem AnsCE.no {e : Int} {w w' : World} (hb : Below w.heap.size w w') : AnsCE (PCase.nil, e) w (.returned (.tuple #[.agg #[.slice none 0 0, .slice none 0 0], .int .i64 e])) w' :=
  ⟨none, 0, 0, none, 0, 0, rfl, Sl.nil0, Sl.nil0, hb, Fresh.none, Fresh.none⟩

end Go.Proofs.YtcopnfdknclhnaaGreat
namespace Go.Proofs.YtcopnfdknclhnaaGreat
open Go.RowKit

end Go.Proofs.YtcopnfdknclhnaaGreat
namespace Go.Proofs.YtcopnfdknclhnaaGreat
open Go.RowKit

theorem OwnInts.row {w : World} {B : Nat} {v : Value} {n : Nat} {xs : List Int} (h : OwnInts w B v n xs) : w.ownsRow B 3 1 v n (xs.map (Value.int .i64)) := by
  obtain ⟨cells, h1, h2, h3⟩ := h
  have e : cells = xs.map (Value.int .i64) := by
    apply List.ext_getElem?
    intro j
    cases hx : xs[j]? with
    | none =>
      rw [List.getElem?_map, hx, List.getElem?_eq_none (by have := h2.1; have := List.getElem?_eq_none_iff.1 hx; omega)]; rfl
    | some x =>
      obtain ⟨vs, a, b⟩ := h2.2 j x hx
      have := a 0 (by omega)
      simp only [Nat.mul_one, Nat.add_zero] at this
      rw [this, List.getElem?_map, hx, b]; rfl
  rw [← e]; exact h1
theorem OwnInts.form {w : World} {B : Nat} {v : Value} {n : Nat} {xs : List Int} (h : OwnInts w B v n xs) (hn : 0 < n) : ∃ g cap, v = .slice (some ⟨g, 0, none⟩) n cap ∧ B ≤ g ∧ g < w.heap.size := h.row.form hn
section
variable {w : World} {B g cap n : Nat} {xs : List Int}
theorem OwnInts.at (h : OwnInts w B (.slice (some ⟨g, 0, none⟩) n cap) n xs) {j : Nat} {x : Int} (hx : xs[j]? = some x) : w.cell? ⟨g, j, none⟩ = some (.int .i64 x) := by
  have hj : j < n := by rw [← h.len]; exact (List.getElem?_eq_some_iff.1 hx).1
  rw [h.row.cellAt j (by omega), List.getElem?_map, hx]; rfl
theorem OwnInts.frozen (h : OwnInts w B (.slice (some ⟨g, 0, none⟩) n cap) n xs) (j : Nat) : w.frozen? ⟨g, j, none⟩ = false := h.row.frozenAt j
theorem OwnInts.put (h : OwnInts w B (.slice (some ⟨g, 0, none⟩) n cap) n xs) (j : Nat) (y : Int) : OwnInts (w.setCell ⟨g, j, none⟩ (.int .i64 y)) B (.slice (some ⟨g, 0, none⟩) n cap) n (xs.set j y) := by
  have := (h.row.stored j (.int .i64 y)).1
  rw [← List.map_set] at this
  exact OwnInts.of_row this
theorem OwnInts.ints (h : OwnInts w B (.slice (some ⟨g, 0, none⟩) n cap) n xs) (hn : n ≤ 281474976710656) : Ints w (some ⟨g, 0, none⟩) n cap xs := by
  obtain ⟨A, c, hv, hi⟩ := h.sl hn
  injection hv with h1 h2 h3
  subst h1 h3
  exact hi
end

end Go.Proofs.YtcopnfdknclhnaaGreat
