/- Texts melted into one: Contracts of slices.Grow (of a nil slice) and slices.Concat (of two slices) on integers. Conditions: the lengths together stay below what memory bears. | The contract of BWrong. Conditions: the net's transitions read as a list. | Contracts of net.fits, BFits, net.Enabled and BEnabled. Conditions: the net and the mark read as lists. | Contracts of net.Enabled and BEnabled. Conditions: the net and the mark read as lists. | Contracts of net.Fire and BFire. Conditions: the net and the mark read as lists. | The contract of BFire. Conditions: the net and the mark read as lists. | Contracts of shape.Start, HStart, SameInts and of the library's Equal on error numbers. Conditions: the slices read as lists of integers. | Contracts of SameInts, SameCase, of the library's Equal on error numbers, of cases.Right, PRight, cases.Begin and PBegin. Conditions: the net and the case read as lists. | Contracts of cases.Begin and PBegin. Conditions: the net reads as a list. | The contract of PBegin. Conditions: the net reads as a list. | Contracts of cases.busy and of the closure no of cases.Do; integers that the call owns, one turned. Conditions: the slices read as lists of integers. | The contract of BTurned. Conditions: the net's transitions read as a list. | The contract of net.Turned. Conditions: the net's transitions read as a list. | Append of any list of integers (nil too) to one that the call owns, in plain regions and in those that draw their order. Conditions: the lengths stay below what memory bears. | What can be reached in a finite graph: by looking deeper and deeper, each node once; in plain Lean. Conditions: none. | What chapter 8 says of a net that goes from one place to another, in plain Lean: places and transitions behind a place, round by round, and by looking deeper. Conditions: none. | m[k]++ where the look-up and the entry come up in any order. Conditions: the map's key is of a kind that can be looked up. | The set of nodes that shape.walk fills, and its closure's contract. Conditions: the net is right; the node is one of it. | The contract of the closure visit of shape.walk. Conditions: the net is right; the node is one of it. | The contracts of shape.walk, of the library's IndexFunc and ContainsFunc on transitions, and of the test of shape.Wrong. Conditions: the net is right; the numbers are places of it. | The contract of shape.walk. Conditions: the net is right; the place is one of it. | The contract of shape.Wrong. Conditions: the net reads as a list. | The contract of hways: which places and which transitions are behind a place. Conditions: the net is right; the place is one of it. | The contract of HWrong. Conditions: the net reads as a list. | What arcs read as. Conditions: none. | Lists of things to do, as they read; what Play answers. Conditions: none. -/
import Derived.Test.YtniolbbhjibobaaDoorBlocksListK06
import Derived.Lib.AppendZeros
import Derived.Handy
import Derived.Deep.DeepCutAuto
import Derived.Deep.LoopGhost
import Derived.Deep.RegionHeld3
import Derived.Test.YtniolbbhjibobaaDoorBlocksListK03
import Derived.Test.YtniolbbhjibobaaDoorBlocksListK05
import Derived.Test.YtniolbbhjibobaaDoorBlocksListK04
import Derived.Maps.AppendAt
import Derived.Maps.OwnSet
import Derived.Maps.OwnOps
import Derived.WideKeyEntry
import Derived.Test.YtniolbbhjibobaaDoorBlocksListK01
import Derived.DeepKeys4
import Derived.Laws.EntriesVeiled
import Derived.Test.YtniolbbhjibobaaDoorBlocksListK02
import Derived.Deep.AppendLies
set_option linter.all false
namespace Go.Proofs.YtniolbbhjibobaaDoor
open Go.RowKit

theorem zeroCells_size (z : Array Value) (hz : z.size = 1) (n : Nat) : (Builtin.zeroCells z n).size = n := by simp [Builtin.zeroCells, hz]

/-- A row of the call's own with room for n, or nil where n is 0. -/
def GrowAns (n : Nat) (w : World) (e : Ending) (w' : World) : Prop :=
  Below w.heap.size w w' ∧ ((n = 0 ∧ e = .returned (.slice none 0 0)) ∨ ∃ cap, n ≤ cap ∧ e = .returned (.slice (some ⟨w.heap.size, 0, none⟩) 0 cap) ∧ w'.ownsRow w.heap.size 3 1 (.slice (some ⟨w.heap.size, 0, none⟩) 0 cap) 0 [])

set_option maxRecDepth 100000 in
theorem growInts_calls (w : World) (n : Nat) (hn : n ≤ 35184372088832) :
    Calls Tryd.prog 60 #[.slice none 0 0, .int .i64 n] w (GrowAns n w) := by
  by_cases h0 : n = 0
  · subst h0
    go_enter Tryd.func60, Tryd.ntmps60
    go_wp2
    go_ret
    exact ⟨Below.refl _ _, .inl ⟨rfl, rfl⟩⟩
  · have hpos : 0 < n := by omega
    obtain ⟨i, hi, hz0, hz1, hz2⟩ := info_parts infoInt
    have hrun := Lib.run_append_nil_zeros (P := Tryd.prog) w 32 3 32 3 i (.int .i64 0) .i64 .i64 Tryd.underlying32 Tryd.underlying3 hi hz0 n hpos (by omega) (by omega) (by rw [hz2]; omega)
    have hcap := grownCap_ge w n 0 3
    have hcapm := grownCap_le_maxLen w n 0 3 (by simp only [maxLen]; omega)
    obtain ⟨cap, hc⟩ : ∃ cap, grownCap w n 0 3 = cap := ⟨_, rfl⟩
    rw [hc] at hrun hcap hcapm
    obtain ⟨cs, hcs⟩ : ∃ cs, Builtin.zeroCells (Value.int .i64 0).cells n ++ Builtin.zeroCells (Value.int .i64 0).cells (cap - n) = cs := ⟨_, rfl⟩
    have hsize : cs.size = cap := by
      rw [← hcs, Array.size_append, zeroCells_size _ rfl, zeroCells_size _ rfl]; omega
    rw [hcs] at hrun
    have HR := hide2 hrun
    have HS := hide2 hsize
    have HM := hide2 hcapm
    clear hrun hc hi hz0 hz1 hz2 hcapm hcs hsize
    go_enter Tryd.func60, Tryd.ntmps60
    go_wp2_with (at_builtin; refine Lib.wpList_append_run _ rfl _ _ _ _ rfl _ _ rfl rfl _ _ HR.out ?_)
    go_ret
    refine ⟨((Below.refl _ _).drew).alloc (Nat.le_refl _) _, .inr ⟨cap, hcap, rfl, ?_⟩⟩
    exact ⟨by simp, .inr ⟨w.heap.size, cap, cs, rfl, Nat.le_refl _, heap_alloc_new w.drew _, Nat.zero_le _, HM.out, by rw [HS.out]; omega, by simp⟩⟩

/-- Append of a slice that reads as ys to a row of the call's own that has room. -/
theorem wpList_appFits {α : Type} {R : World → (Nat → Value) → α → Prop} {t e size bytes : Nat} (T : SlTy t e size bytes) (G : Good R size) {ops : Array Oper} {rest : List Oper} {o : Oper} {a : Act} {Q : Exit → Act → World → Prop} (hgd : o.guard = none) (s x : Operand)
    (ho : o.op = .call { callee := .builtin .append, args := #[s, x], argTypes := #[t, t] })
    {w0 w : World} {B : Nat} {g k cap : Nat} {A : Option Addr} {m c : Nat} {xs ys : List α} (hs : a.eval s = .slice (some ⟨g, 0, none⟩) k cap) (hx : a.eval x = .slice A m c)
    (own : OwnSl R size w B e (.slice (some ⟨g, 0, none⟩) k cap) k xs) (hy : Sl R size w A m c ys) (hroom : k + m ≤ cap) (hb : Below B w0 w) (hB : B ≤ w.heap.size)
    (hkeep : ∀ w', w.grownBy w' (some g) → ∀ vs y, R w vs y → R w' vs y)
    (K : ∀ w', OwnSl R size w' B e (.slice (some ⟨g, 0, none⟩) (k + m) cap) (k + m) (xs ++ ys) → w.grownBy w' (some g) → Below B w0 w' → wpList Tryd.prog ops Q rest (a.put o.dst (.slice (some ⟨g, 0, none⟩) (k + m) cap)) w') :
    wpList Tryd.prog ops Q (o :: rest) a w := by
  obtain ⟨i, z, h1, h2, h3, h4, h5⟩ := T.info
  obtain ⟨cells, o1, o2, o3⟩ := own
  obtain ⟨ds, d1, d2, d3, d4, d5⟩ := hy.flat G
  refine wpList_append_fits_any w hgd s x t ho B e i size T.und h1 h3 g k cap cells hs o1 A m c ds hx d1 d2 d3 d4 hroom (fun w' h6 h7 => ?_)
  refine K w' ⟨_, h6, ?_, by rw [List.length_append, o3, hy.len]⟩ h7 (hb.grown h7 hB (fun k hk => (o1.lt k (by rw [← hk]; rfl)).1))
  have := o2.append d5
  exact ⟨this.1, fun i x hx => by obtain ⟨vs, a, b⟩ := this.2 i x hx; exact ⟨vs, a, hkeep _ h7 _ _ b⟩⟩

end Go.Proofs.YtniolbbhjibobaaDoor
namespace Go.Proofs.YtniolbbhjibobaaDoor
open Go.RowKit

end Go.Proofs.YtniolbbhjibobaaDoor
namespace Go.Proofs.YtniolbbhjibobaaDoor
open Go.RowKit

theorem boxBelow (w : World) (o : Obj) : Below w.heap.size w (w.alloc o) := (Below.refl _ _).alloc (Nat.le_refl _) _

end Go.Proofs.YtniolbbhjibobaaDoor
namespace Go.Proofs.YtniolbbhjibobaaDoor
open Go.RowKit

end Go.Proofs.YtniolbbhjibobaaDoor
namespace Go.Proofs.YtniolbbhjibobaaDoor
open Go.RowKit

end Go.Proofs.YtniolbbhjibobaaDoor
namespace Go.Proofs.YtniolbbhjibobaaDoor
open Go.RowKit

theorem SmallL.mix {xs ys : List Int} (h1 : rightB xs = true) (h2 : rightB ys = true) : SmallL (mixL xs ys (-1)) := fun p => by
  by_cases hp : p < max xs.length ys.length
  · rw [atL_some (mixL_get hp)]
    have := atL_right h1 p
    have := atL_right h2 p
    omega
  · rw [atL_none (by rw [mixL_length]; omega)]; omega

end Go.Proofs.YtniolbbhjibobaaDoor
namespace Go.Proofs.YtniolbbhjibobaaDoor
open Go.RowKit

end Go.Proofs.YtniolbbhjibobaaDoor
namespace Go.Proofs.YtniolbbhjibobaaDoor
open Go.RowKit

end Go.Proofs.YtniolbbhjibobaaDoor
namespace Go.Proofs.YtniolbbhjibobaaDoor
open Go.RowKit

end Go.Proofs.YtniolbbhjibobaaDoor
namespace Go.Proofs.YtniolbbhjibobaaDoor
open Go.RowKit

end Go.Proofs.YtniolbbhjibobaaDoor
namespace Go.Proofs.YtniolbbhjibobaaDoor
open Go.RowKit

theorem OwnInts.row {w : World} {B : Nat} {v : Value} {n : Nat} {xs : List Int} (h : OwnInts w B v n xs) : w.ownsRow B 3 1 v n (xs.map (Value.int .i64)) := by
  obtain ⟨cells, h1, h2, h3⟩ := h
  have e : cells = xs.map (Value.int .i64) := by
    apply List.ext_getElem?
    intro j
    cases hx : xs[j]? with
    | none =>
      rw [List.getElem?_map, hx, List.getElem?_eq_none (by have := h2.1; have := List.getElem?_eq_none_iff.1 hx; omega)]; rfl
    | some x =>
      obtain ⟨vs, a, b⟩ := h2.2 j x hx
      have := a 0 (by omega)
      simp only [Nat.mul_one, Nat.add_zero] at this
      rw [this, List.getElem?_map, hx, b]; rfl
  rw [← e]; exact h1
theorem OwnInts.form {w : World} {B : Nat} {v : Value} {n : Nat} {xs : List Int} (h : OwnInts w B v n xs) (hn : 0 < n) : ∃ g cap, v = .slice (some ⟨g, 0, none⟩) n cap ∧ B ≤ g ∧ g < w.heap.size := h.row.form hn
section
variable {w : World} {B g cap n : Nat} {xs : List Int}
theorem OwnInts.at (h : OwnInts w B (.slice (some ⟨g, 0, none⟩) n cap) n xs) {j : Nat} {x : Int} (hx : xs[j]? = some x) : w.cell? ⟨g, j, none⟩ = some (.int .i64 x) := by
  have hj : j < n := by rw [← h.len]; exact (List.getElem?_eq_some_iff.1 hx).1
  rw [h.row.cellAt j (by omega), List.getElem?_map, hx]; rfl
theorem OwnInts.frozen (h : OwnInts w B (.slice (some ⟨g, 0, none⟩) n cap) n xs) (j : Nat) : w.frozen? ⟨g, j, none⟩ = false := h.row.frozenAt j
theorem OwnInts.put (h : OwnInts w B (.slice (some ⟨g, 0, none⟩) n cap) n xs) (j : Nat) (y : Int) : OwnInts (w.setCell ⟨g, j, none⟩ (.int .i64 y)) B (.slice (some ⟨g, 0, none⟩) n cap) n (xs.set j y) := by
  have := (h.row.stored j (.int .i64 y)).1
  rw [← List.map_set] at this
  exact OwnInts.of_row this
theorem OwnInts.ints (h : OwnInts w B (.slice (some ⟨g, 0, none⟩) n cap) n xs) (hn : n ≤ 281474976710656) : Ints w (some ⟨g, 0, none⟩) n cap xs := by
  obtain ⟨A, c, hv, hi⟩ := h.sl hn
  injection hv with h1 h2 h3
  subst h1 h3
  exact hi
end

end Go.Proofs.YtniolbbhjibobaaDoor
namespace Go.Proofs.YtniolbbhjibobaaDoor
open Go.RowKit

/-- A transition's cells, read in a world that is past: nothing of it has turned since. -/
def TranR0 (w0 : World) : World → (Nat → Value) → PTran → Prop := fun _ vs t => TranR w0 vs t
theorem TranR0.kept (w0 : World) : Kept (TranR0 w0) := fun _ _ _ _ _ h => h
theorem Reads.tran {w : World} {v0 v1 v2 : Value} {t : PTran} {R : World → (Nat → Value) → PTran → Prop} (h : R w (fun j => [v0, v1, v2].getD j undef) t) : Reads R 3 w [v0, v1, v2] [t] :=
  Reads.one h rfl (fun j hj => by
    match j, hj with
    | 0, _ => rfl
    | 1, _ => rfl
    | 2, _ => rfl)

end Go.Proofs.YtniolbbhjibobaaDoor
namespace Go.Proofs.YtniolbbhjibobaaDoor
open Go.RowKit

theorem Sl.imp {α : Type} {R R' : World → (Nat → Value) → α → Prop} {sz : Nat} {w : World} {A : Option Addr} {n c : Nat} {xs : List α} (h : Sl R sz w A n c xs) (hR : ∀ vs x, R w vs x → R' w vs x) : Sl R' sz w A n c xs :=
  ⟨h.len, h.le, h.cap, h.small, h.nul, fun hn => by obtain ⟨b, off, e, hb, hx⟩ := h.cells hn; exact ⟨b, off, e, hb, fun i x hi => by obtain ⟨vs, a, r⟩ := hx i x hi; exact ⟨vs, a, hR _ _ r⟩⟩⟩
theorem OwnTranR.base {B B' : Nat} (hB : B' ≤ B) {w : World} {vs : Nat → Value} {t : PTran} (h : OwnTranR B w vs t) : OwnTranR B' w vs t := by
  obtain ⟨h0, n1, n2, h1, h2, h3⟩ := h
  exact ⟨h0, n1, n2, h1.base hB, h2.base hB, h3⟩
end Go.Proofs.YtniolbbhjibobaaDoor
namespace Go.Proofs.YtniolbbhjibobaaDoor
open Go.RowKit

end Go.Proofs.YtniolbbhjibobaaDoor
namespace Go.Proofs.YtniolbbhjibobaaDoor

section
variable {α : Type} [DecidableEq α]
inductive Reach (s : α → List α) : α → α → Prop
  | refl (x : α) : Reach s x x
  | step {x y z : α} (h : y ∈ s x) (g : Reach s y z) : Reach s x z
omit [DecidableEq α] in
theorem Reach.last {s : α → List α} {x y z : α} (h : Reach s x y) (g : z ∈ s y) : Reach s x z := by
  induction h with
  | refl x => exact .step g (.refl _)
  | step a _ ih => exact .step a (ih g)
omit [DecidableEq α] in
theorem Reach.closed {s : α → List α} {R : List α} (hc : ∀ y ∈ R, ∀ z ∈ s y, z ∈ R) {x y : α} (h : Reach s x y) (hx : x ∈ R) : y ∈ R := by
  induction h with
  | refl x => exact hx
  | step a _ ih => exact ih (hc _ hx _ a)
omit [DecidableEq α] in
theorem Reach.closedP {s : α → List α} {R : α → Prop} (hc : ∀ y, R y → ∀ z ∈ s y, R z) {x y : α} (h : Reach s x y) (hx : R x) : R y := by
  induction h with
  | refl x => exact hx
  | step a _ ih => exact ih (hc _ hx _ a)

end
end Go.Proofs.YtniolbbhjibobaaDoor
namespace Go.Proofs.YtniolbbhjibobaaDoor

abbrev PNode := Bool × Nat
/-! ### round by round -/
/-- Which places, and which transitions, are behind. -/
structure Ways where
  ps : List Bool
  ts : List Bool
/-! ### both find the same -/
def Ways.at (s : Ways) : PNode → Bool
  | (false, p) => s.ps.getD p false
  | (true, k) => s.ts.getD k false
def Ways.le (s s' : Ways) : Prop := s.ps.length = s'.ps.length ∧ s.ts.length = s'.ts.length ∧ ∀ x, s.at x = true → s'.at x = true
theorem Ways.le.refl (s : Ways) : s.le s := ⟨rfl, rfl, fun _ h => h⟩
theorem Ways.le.trans {a b c : Ways} (h : a.le b) (g : b.le c) : a.le c := ⟨h.1.trans g.1, h.2.1.trans g.2.1, fun x hx => g.2.2 x (h.2.2 x hx)⟩
end Go.Proofs.YtniolbbhjibobaaDoor
namespace Go.Proofs.YtniolbbhjibobaaDoor
open Go.RowKit Go.Maps Go.MapKept Go.ChangeMaps Go.WideElems Go.ChangeShapes

section
variable {H : Type} {P : Program} {k t e : TypeId} {R : Value → Option (DataW H × List MemPlace)} {w : World} {b n : Nat} {D : DataW H}

theorem ownsMap_of_block {w' : World} (h : w.ownsMap P k R b n D) (hb : w'.heap[b]? = w.heap[b]?) : w'.ownsMap P k R b n D := by
  obtain ⟨es, clock, h1, h2, h3, h4⟩ := h
  exact ⟨es, clock, hb.trans h1, h2, h3, h4⟩

end
end Go.Proofs.YtniolbbhjibobaaDoor
namespace Go.Proofs.YtniolbbhjibobaaDoor
open Go.RowKit Go.Maps

end Go.Proofs.YtniolbbhjibobaaDoor
namespace Go.Proofs.YtniolbbhjibobaaDoor
open Go.RowKit Go.Maps

end Go.Proofs.YtniolbbhjibobaaDoor
namespace Go.Proofs.YtniolbbhjibobaaDoor
open Go.RowKit Go.Maps

end Go.Proofs.YtniolbbhjibobaaDoor
namespace Go.Proofs.YtniolbbhjibobaaDoor
open Go.RowKit Go.Maps

end Go.Proofs.YtniolbbhjibobaaDoor
namespace Go.Proofs.YtniolbbhjibobaaDoor
open Go.RowKit Go.Maps

end Go.Proofs.YtniolbbhjibobaaDoor
namespace Go.Proofs.YtniolbbhjibobaaDoor
open Go.RowKit

/-- Block b holds just these truths. -/
def BoxB (w : World) (b : Nat) (bs : List Bool) : Prop := Box w b 4 (bs.map Value.bool).toArray
section
variable {w w' : World} {b : Nat} {bs : List Bool}
theorem BoxB.at (h : BoxB w b bs) {j : Nat} (hj : j < bs.length) : w.cell? ⟨b, j, none⟩ = some (.bool (bs.getD j false)) := by
  rw [Box.cell h]; simp [hj]
theorem BoxB.put (h : BoxB w b bs) (j : Nat) (v : Bool) : BoxB (w.setCell ⟨b, j, none⟩ (.bool v)) b (bs.set j v) := by
  have := Box.set h j (.bool v)
  unfold BoxB
  simpa [List.map_set] using this
theorem BoxB.of_row {B m : Nat} (h : w.ownsRow B 4 1 (.slice (some ⟨b, 0, none⟩) m m) m (List.replicate m (.bool false))) : BoxB w b (List.replicate m false) := by
  rcases h.2 with ⟨hv, _⟩ | ⟨g, cap, cur, hv, _, hh, _, _, hs, ht⟩
  · cases hv
  · injection hv with h1 h2 h3
    injection h1 with h1
    injection h1 with h1
    subst h1 h3
    have e : cur = (List.replicate m (Value.bool false)).toArray := by
      apply Array.toList_inj.1
      rw [← ht, List.take_of_length_le (by simp; omega)]
    unfold BoxB Box
    rw [List.map_replicate, ← e]; exact hh
end
end Go.Proofs.YtniolbbhjibobaaDoor
namespace Go.Proofs.YtniolbbhjibobaaDoor
open Go.RowKit

end Go.Proofs.YtniolbbhjibobaaDoor
namespace Go.Proofs.YtniolbbhjibobaaDoor
open Go.RowKit

def ArcR : World → (Nat → Value) → PArc → Prop := fun _ vs a => vs 0 = .int .i64 a.from_ ∧ vs 1 = .int .i64 a.tran ∧ vs 2 = .int .i64 a.to_ ∧ (Lit.int .i64 a.tran).wf = true
theorem ArcR.kept : Kept ArcR := fun _ _ _ _ _ h => h
theorem ArcR.good : Good ArcR 3 where
  kept := ArcR.kept
  one := fun w vs x h j hj => by
    obtain ⟨h0, h1, h2, _⟩ := h
    match j, hj with
    | 0, _ => rw [h0]; rfl
    | 1, _ => rw [h1]; rfl
    | 2, _ => rw [h2]; rfl
  pos := by omega
abbrev Arcs (w : World) (A : Option Addr) (n c : Nat) (ars : List PArc) : Prop := Sl ArcR 3 w A n c ars
theorem Arcs.get {w : World} {A : Option Addr} {n c k : Nat} {ars : List PArc} (h : Arcs w A n c ars) (hk : k < n) :
    ∃ b off a, A = some ⟨b, off, none⟩ ∧ b < w.heap.size ∧ Hid (ars[k]? = some a) ∧ w.cell? ⟨b, off + k * 3, none⟩ = some (.int .i64 a.from_) ∧ w.cell? ⟨b, off + k * 3 + 1, none⟩ = some (.int .i64 a.tran) ∧ w.cell? ⟨b, off + k * 3 + 2, none⟩ = some (.int .i64 a.to_) ∧ Hid ((Lit.int .i64 a.tran).wf = true) := by
  obtain ⟨b, off, a, vs, h1, h2, h3, h4, e0, e1, e2, e3⟩ := Sl.get h hk
  refine ⟨b, off, a, h1, h2, h3, ?_, ?_, ?_, e3⟩
  · rw [← e0]; exact h4 0 (by omega)
  · rw [← e1]; exact h4 1 (by omega)
  · rw [← e2]; exact h4 2 (by omega)
end Go.Proofs.YtniolbbhjibobaaDoor
namespace Go.Proofs.YtniolbbhjibobaaDoor
open Go.RowKit

def COpR : World → (Nat → Value) → (Int × Int) → Prop := fun _ vs o => vs 0 = .int .i64 o.1 ∧ vs 1 = .int .i64 o.2
theorem COpR.kept : Kept COpR := fun _ _ _ _ _ h => h
theorem COpR.good : Good COpR 2 where
  kept := COpR.kept
  one := fun w vs x h j hj => by
    match j, hj with
    | 0, _ => rw [h.1]; rfl
    | 1, _ => rw [h.2]; rfl
  pos := by omega
abbrev COps (w : World) (A : Option Addr) (n c : Nat) (os : List (Int × Int)) : Prop := Sl COpR 2 w A n c os
theorem COps.get {w : World} {A : Option Addr} {n c k : Nat} {os : List (Int × Int)} (h : COps w A n c os) (hk : k < n) :
    ∃ b off x y, A = some ⟨b, off, none⟩ ∧ b < w.heap.size ∧ Hid (os[k]? = some (x, y)) ∧ w.cell? ⟨b, off + k * 2, none⟩ = some (.int .i64 x) ∧ w.cell? ⟨b, off + k * 2 + 1, none⟩ = some (.int .i64 y) := by
  obtain ⟨b, off, o, vs, h1, h2, h3, h4, h5, h6⟩ := Sl.get h hk
  refine ⟨b, off, o.1, o.2, h1, h2, h3, ?_, ?_⟩
  · rw [← h5]; exact h4 0 (by omega)
  · rw [← h6]; exact h4 1 (by omega)

/-- Where a slice lies, the row of the slice v does not. -/
def NeRow (A : Option Addr) (n : Nat) (v : Value) : Prop := ∀ b off, A = some ⟨b, off, none⟩ → 0 < n → v.ownBlock ≠ some b
theorem NeRow.after {w : World} {A : Option Addr} {n c : Nat} {xs : List Int} {v : Value} {g k cap : Nat} (h : Ints w A n c xs) (ne : NeRow A n v) (hat : v.ownBlock = some g ∨ w.heap.size ≤ g) : NeRow A n (.slice (some ⟨g, 0, none⟩) k cap) := fun b off hA hn hv => by
  have hgb : g = b := by injection hv
  subst hgb
  rcases hat with h1 | h1
  · exact ne _ _ hA hn h1
  · obtain ⟨b', off', e, hlt, _⟩ := h.cells hn
    rw [hA] at e; injection e with e; injection e with e1; omega
end Go.Proofs.YtniolbbhjibobaaDoor
