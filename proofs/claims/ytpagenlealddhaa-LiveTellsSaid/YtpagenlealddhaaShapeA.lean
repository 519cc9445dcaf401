/- The set of nodes that shape.walk fills, and its closure's contract. Conditions: the net is right; the node is one of it. -/
import Derived.Test.YtpagenlealddhaaMaps
import Derived.Test.YtpagenlealddhaaPlainI
import Derived.Test.YtpagenlealddhaaFacts
import Derived.Test.YtpagenlealddhaaBox
import Derived.DeepKeys4
namespace Go.Proofs.Ytpagenlealddhaa
open Go.RowKit Go.Maps

def nodeV (x : PNode) : Value := .agg #[.bool x.1, .int .i64 x.2]
theorem nodeLaw : Keyed Try.prog 227 := Keyed.of_law (deep_law_laid Facts.laidOut (m := 2) (by decide) (of_decide_eq_true (by kernel_rfl)) (by kernel_rfl) (by kernel_rfl))
theorem nodeKeyType : Try.prog.keyType 227 = true := by kernel_rfl
theorem nodeCells : Try.prog.cellsOf 227 = 2 := by kernel_rfl
theorem boolCells : Try.prog.cellsOf 4 = 1 := by kernel_rfl
theorem intCells : Try.prog.cellsOf 3 = 1 := by kernel_rfl
/-- What a node is as a key. -/
def nodeK (x : PNode) : Lit := .string (keyBytes [.bool x.1, .int .i64 (x.2 : Int)])
theorem nodeK_key (x : PNode) (h : x.2 ≤ 1000) : keyOf Try.prog 227 (nodeV x) = some (nodeK x) := by
  have hw : (Lit.int .i64 (x.2 : Int)).wf = true := WalkArith.wf_i64 (by omega)
  have hsz : ∃ m, Try.prog.types.size + 1 = m + 2 := ⟨Try.prog.types.size - 1, by have : 0 < Try.prog.types.size := of_decide_eq_true (by kernel_rfl); omega⟩
  obtain ⟨m, hm⟩ := hsz
  unfold keyOf
  rw [Try.underlying227]
  simp only [nodeKeyType, nodeV, Value.formed, Try.underlying227, nodeCells, hm]
  simp [Program.keyLits, Try.underlying227, nodeCells, boolCells, intCells, Try.underlying4, Try.underlying3, hw, Value.cells, nodeK]
theorem nodeK_inj {x y : PNode} (hx : x.2 ≤ 1000) (hy : y.2 ≤ 1000) (h : nodeK x = nodeK y) : x = y := by
  have := nodeLaw.inj (nodeK_key x hx) (by rw [h]; exact nodeK_key y hy)
  simp only [nodeV, Value.agg.injEq, Array.mk.injEq, List.cons.injEq, Value.bool.injEq, Value.int.injEq, true_and, and_true, Int.natCast_inj] at this
  exact Prod.ext this.1 this.2

/-- Block b is a map that says of just these nodes that they were found. -/
def SetM (w : World) (b : Nat) (had : List PNode) : Prop :=
  ∃ D : DataW Unit, w.ownsMap Try.prog 227 (plainElem Try.prog 3) b had.length D ∧ Maps.size D = had.length ∧ (∀ x : PNode, x.2 ≤ 1000 → x ∈ had → ∀ z, D.atKey (nodeK x) z = .lit (.int .i64 1)) ∧ (∀ x : PNode, x.2 ≤ 1000 → x ∉ had → Maps.has D (nodeK x) = false)
theorem SetM.made (w : World) : SetM (w.alloc (.map #[] 0)) w.heap.size [] :=
  ⟨.map [], World.ownsMap_made _ _ _ _, rfl, fun x _ h => by simp at h, fun x _ _ => rfl⟩
theorem SetM.of_block {w w' : World} {b : Nat} {had : List PNode} (h : SetM w b had) (hb : w'.heap[b]? = w.heap[b]?) : SetM w' b had := by
  obtain ⟨D, h1, h2⟩ := h
  exact ⟨D, ownsMap_of_block h1 hb, h2⟩
theorem SetM.lt {w : World} {b : Nat} {had : List PNode} (h : SetM w b had) : b < w.heap.size := by
  obtain ⟨D, h1, _⟩ := h
  exact h1.lt
theorem SetM.alloc {w : World} {b : Nat} {had : List PNode} (h : SetM w b had) (o : Obj) : SetM (w.alloc o) b had := h.of_block (heap_alloc_old w o h.lt)
theorem SetM.keep {w w' : World} {b : Nat} {had : List PNode} (h : SetM w b had) (hb : Below w.heap.size w w') : SetM w' b had := h.of_block (hb.block b h.lt)
theorem zeroInt (w : World) : (zeroValue 3).run Try.prog w = .ok (.int .i64 0) w := by kernel_rfl
/-- Looked up: 1 where it was found, else 0. -/
theorem SetM.look {w : World} {b : Nat} {had : List PNode} (h : SetM w b had) (x : PNode) (hx : x.2 ≤ 1000) :
    (Instr.lookup 196 (.map (some b)) (nodeV x) false).run Try.prog w = .ok (.int .i64 (if x ∈ had then 1 else 0)) w := by
  obtain ⟨D, h1, h2, h3, h4⟩ := h
  obtain ⟨c, hrun, hat, _⟩ := h1.lookup_int nodeLaw Try.underlying196 Try.underlying3 (zeroInt w) (nodeK_key x hx)
  rw [hrun]
  by_cases hm : x ∈ had
  · rw [h3 x hx hm] at hat
    simp only [DataW.lit.injEq, Lit.int.injEq, true_and] at hat
    rw [if_pos hm, ← hat]
  · rw [Maps.atKey_of_not_has (h4 x hx hm)] at hat
    simp only [DataW.lit.injEq, Lit.int.injEq, true_and] at hat
    rw [if_neg hm, ← hat]
theorem SetM.len {w : World} {b : Nat} {had : List PNode} (h : SetM w b had) (ty : TypeId) : (Builtin.len_ #[196] ty #[.map (some b)]).run Try.prog w = .ok (.int .i64 had.length) w := by
  obtain ⟨D, h1, h2, _⟩ := h
  rw [h1.len Try.underlying196 ty, h2]
/-- One more: the entry, a look-up behind it, and the store. -/
theorem SetM.entry {w : World} {b : Nat} {had : List PNode} (h : SetM w b had) (x : PNode) (hx : x.2 ≤ 1000) (hn : x ∉ had) (hl : had.length ≤ 1000) :
    ∃ (v0 : Value) (st : Nat) (w1 : World), (Instr.mapEntry 196 (.map (some b)) (nodeV x)).run Try.prog w = .ok (.tuple #[v0, .int .i64 st]) w1 ∧ w.grownBy w1 (some b) ∧ w1.heap.size = w.heap.size ∧
      (Instr.lookup 196 (.map (some b)) (nodeV x) false).run Try.prog w1 = .ok (.int .i64 0) w1 ∧
      ∃ w3, (Instr.entryStore 196 (.map (some b)) (.int .i64 st) (.int .i64 1)).run Try.prog w1 = .ok () w3 ∧ SetM w3 b (x :: had) ∧ w1.grownBy w3 (some b) ∧ w3.heap.size = w1.heap.size := by
  obtain ⟨D, h1, h2, h3, h4⟩ := h
  have hk := nodeK_key x hx
  have ne : ∀ y : PNode, y.2 ≤ 1000 → y ≠ x → nodeK y ≠ nodeK x := fun y hy hne e => hne (nodeK_inj hy hx e)
  obtain ⟨v0, st, w1, r1, r2, r3, ⟨D1, o1, a1⟩, st3⟩ := own_entry h1 nodeLaw Try.underlying196 (by simp only [maxLen]; omega) zeroInt (plainElem_int Try.underlying3 (by decide)) hk
  obtain ⟨c, hrun, hat, _⟩ := o1.lookup_int nodeLaw Try.underlying196 Try.underlying3 (zeroInt w1) hk
  rw [a1, Maps.atKey_of_not_has (h4 x hx hn)] at hat
  simp only [DataW.lit.injEq, Lit.int.injEq, true_and] at hat
  obtain ⟨w3, s1, s2, s3, s4⟩ := st3 w1 (.int .i64 1) (.lit (.int .i64 1)) [] rfl (plainElem_int Try.underlying3 (by decide))
  refine ⟨v0, st, w1, r1, r2, r3, by rw [hrun, ← hat], w3, s1, ⟨D.put (nodeK x) (.lit (.int .i64 1)), s2, ?_, ?_, ?_⟩, s3, s4⟩
  · rw [Maps.size_put (h1.tidy nodeLaw), h4 x hx hn, h2]; rfl
  · intro y hy hm z
    rcases List.mem_cons.1 hm with rfl | hm
    · exact Maps.atKey_put_same (h1.tidy nodeLaw).isMap (nodeLaw.key hk) _ _
    · have hne : y ≠ x := fun e => hn (e ▸ hm)
      rw [Maps.atKey_put_other (ne y hy hne)]
      exact h3 y hy hm z
  · intro y hy hm
    have hne : y ≠ x := fun e => hm (by rw [e]; simp)
    rw [Maps.has_put_other (ne y hy hne)]
    exact h4 y hy (fun h => hm (by simp [h]))
end Go.Proofs.Ytpagenlealddhaa
