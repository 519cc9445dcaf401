/- The map of spots in memory. Conditions: the spots are small. | The contract of offer. Conditions: the aligner lies in a box; the spot is small. | The contract of nearest. Conditions: the aligner lies in a box. -/
import Derived.Test.YtnidicfanbkgjaaFacts
import Derived.Test.YtnidicfanbkgjaaAlnA
import Derived.Test.YtnidicfanbkgjaaOwnB
import Derived.Test.YtnidicfanbkgjaaBox
import Derived.Maps.OwnSet
import Derived.Maps.OwnOps
import Derived.Maps.RangeWalk
import Derived.WideKeyEntry
import Derived.DeepKeys4
import Derived.Sort.OwnSorted
import Derived.Test.YtnidicfanbkgjaaHeld
namespace Go.Proofs.Ytnidicfanbkgjaa
open Go.RowKit Go.Maps

/-- A step as it lies in a map. -/
def stpV (x : PStp) : Value := .agg #[.int .i64 x.cost, .int .i64 x.from_.1, .int .i64 x.from_.2, .int .i64 x.kind, .int .i64 x.label, .int .i64 x.tran, .bool x.done]
def stpD (x : PStp) : DataW Unit := .agg [.lit (.int .i64 x.cost), .lit (.int .i64 x.from_.1), .lit (.int .i64 x.from_.2), .lit (.int .i64 x.kind), .lit (.int .i64 x.label), .lit (.int .i64 x.tran), .lit (.bool x.done)]
theorem stpV_inj {x y : PStp} (h : stpV x = stpV y) : x = y := by
  obtain ⟨a, ⟨b, c⟩, d, e, f, g⟩ := x
  obtain ⟨a', ⟨b', c'⟩, d', e', f', g'⟩ := y
  simp only [stpV, Value.agg.injEq, Array.mk.injEq, List.cons.injEq, Value.int.injEq, Value.bool.injEq, true_and, and_true] at h
  obtain ⟨rfl, rfl, rfl, rfl, rfl, rfl, rfl⟩ := h
  rfl
open Classical in
noncomputable def stpElem (v : Value) : Option (DataW Unit × List MemPlace) := if h : ∃ x, v = stpV x then some (stpD (Classical.choose h), []) else none
theorem stpElem_mk (x : PStp) : stpElem (stpV x) = some (stpD x, []) := by
  have hex : ∃ y, stpV x = stpV y := ⟨x, rfl⟩
  unfold stpElem
  rw [dif_pos hex, ← stpV_inj (Classical.choose_spec hex)]
theorem stpElem_inv {v : Value} {d : DataW Unit} {ps : List MemPlace} (h : stpElem v = some (d, ps)) : ∃ x, v = stpV x ∧ d = stpD x := by
  unfold stpElem at h
  split at h
  · rename_i hex
    simp only [Option.some.injEq, Prod.mk.injEq] at h
    exact ⟨_, Classical.choose_spec hex, h.1.symm⟩
  · cases h
theorem stpD_inj {x y : PStp} (h : stpD x = stpD y) : x = y := by
  obtain ⟨a, ⟨b, c⟩, d, e, f, g⟩ := x
  obtain ⟨a', ⟨b', c'⟩, d', e', f', g'⟩ := y
  simp [stpD] at h
  obtain ⟨rfl, rfl, rfl, rfl, rfl, rfl, rfl⟩ := h
  rfl
/-! ### keys -/
def okS (v : Sp) : Prop := (0 ≤ v.1 ∧ v.1 ≤ 1000) ∧ 0 ≤ v.2 ∧ v.2 ≤ 1000
def kvS (v : Sp) : Value := .agg #[.int .i64 v.1, .int .i64 v.2]
def kkS (v : Sp) : Lit := .string (keyBytes [.int .i64 v.1, .int .i64 v.2])
theorem spotLaw : Keyed Try.prog 46 := Keyed.of_law (deep_law_laid Facts.laidOut (m := 2) (by decide) (of_decide_eq_true (by kernel_rfl)) (by kernel_rfl) (by kernel_rfl))
theorem spotKeyType : Try.prog.keyType 46 = true := by kernel_rfl
theorem spotCells : Try.prog.cellsOf 46 = 2 := by kernel_rfl
theorem intCellsS : Try.prog.cellsOf 3 = 1 := by kernel_rfl
theorem spotKey (p : Sp) (h : okS p) : keyOf Try.prog 46 (kvS p) = some (kkS p) := by
  have hw1 : (Lit.int .i64 p.1).wf = true := WalkArith.wf_i64 (by unfold okS at h; omega)
  have hw2 : (Lit.int .i64 p.2).wf = true := WalkArith.wf_i64 (by unfold okS at h; omega)
  have hsz : ∃ m, Try.prog.types.size + 1 = m + 2 := ⟨Try.prog.types.size - 1, by have : 0 < Try.prog.types.size := of_decide_eq_true (by kernel_rfl); omega⟩
  obtain ⟨m, hm⟩ := hsz
  unfold keyOf
  rw [Try.underlying46]
  simp only [spotKeyType, kvS, Value.formed, Try.underlying46, spotCells, hm]
  simp [Program.keyLits, Try.underlying46, spotCells, intCellsS, Try.underlying3, hw1, hw2, Value.cells, kkS]
theorem kkS_inj {p q : Sp} (hp : okS p) (hq : okS q) (h : kkS p = kkS q) : p = q := by
  have := spotLaw.inj (spotKey p hp) (by rw [h]; exact spotKey q hq)
  simp only [kvS, Value.agg.injEq, Array.mk.injEq, List.cons.injEq, Value.int.injEq, true_and, and_true] at this
  exact Prod.ext this.1 this.2

/-! ### the map -/
def zeroStp : PStp := ⟨0, (0, 0), 0, 0, 0, false⟩
theorem zeroStep (w : World) : (zeroValue 50).run Try.prog w = .ok (stpV zeroStp) w := by
  obtain ⟨i, hi, hz, _⟩ := info_parts (show (Try.prog.info? 50).map (fun i => (i.zero, i.size, i.bytes)) = some (some (stpV zeroStp), 7, 56) from by kernel_rfl)
  simp [zeroValue, typeInfo, hi, hz]
/-- Block b is the map that f tells; q: how often it was written. -/
def MapA (w : World) (b : Nat) (f : SpM) (q : Nat) : Prop :=
  (∀ v x, f v = some x → okS v) ∧ ∃ (D : DataW Unit) (n : Nat), w.ownsMap Try.prog 46 stpElem b n D ∧ n ≤ q ∧
    (∀ v x, f v = some x → Maps.has D (kkS v) = true ∧ ∀ z, D.atKey (kkS v) z = stpD x) ∧
    (∀ key kl, keyOf Try.prog 46 key = some kl → Maps.has D kl = true → ∃ v x, f v = some x ∧ kl = kkS v)
section
variable {w w' : World} {b q : Nat} {f : SpM}
theorem mapOf_blk {H : Type} {P : Program} {k : TypeId} {R : Value → Option (DataW H × List MemPlace)} {n : Nat} {D : DataW H} (h : w.ownsMap P k R b n D) (hb : w'.heap[b]? = w.heap[b]?) : w'.ownsMap P k R b n D := by
  obtain ⟨es, clock, h1, h2⟩ := h
  exact ⟨es, clock, hb.trans h1, h2⟩
theorem MapA.made (w : World) : MapA (w.alloc (.map #[] 0)) w.heap.size (fun _ => none) 0 :=
  ⟨fun v x h => (by cases h), .map [], 0, World.ownsMap_made _ _ _ _, Nat.le_refl _, fun v x h => (by cases h), fun key kl _ h => by simp [Maps.has] at h⟩
theorem MapA.lt (h : MapA w b f q) : b < w.heap.size := by
  obtain ⟨_, D, n, h1, _⟩ := h
  exact h1.lt
theorem MapA.of_block (h : MapA w b f q) (hb : w'.heap[b]? = w.heap[b]?) : MapA w' b f q := by
  obtain ⟨h0, D, n, h1, h2⟩ := h
  exact ⟨h0, D, n, mapOf_blk h1 hb, h2⟩
theorem MapA.keep (h : MapA w b f q) (hb : Below w.heap.size w w') : MapA w' b f q := h.of_block (hb.block b h.lt)
theorem MapA.keepB (h : MapA w b f q) {B : Nat} (hb : Below B w w') (hB : b < B) : MapA w' b f q := h.of_block (hb.block b hB)
theorem MapA.alloc (h : MapA w b f q) (o : Obj) : MapA (w.alloc o) b f q := h.of_block (heap_alloc_old w o h.lt)
theorem MapA.beside {row : Option Nat} (h : MapA w b f q) (hg : w.grownBy w' row) (hne : some b ≠ row) : MapA w' b f q := h.of_block (hg.block b h.lt hne)
theorem MapA.mono (h : MapA w b f q) {q' : Nat} (hq : q ≤ q') : MapA w b f q' := by
  obtain ⟨h0, D, n, h1, h2, h3⟩ := h
  exact ⟨h0, D, n, h1, Nat.le_trans h2 hq, h3⟩
/-- m[k], with ok. -/
theorem MapA.look (h : MapA w b f q) {v : Sp} (hv : okS v) : (Instr.lookup 51 (.map (some b)) (kvS v) true).run Try.prog w = .ok (.tuple #[stpV ((f v).getD zeroStp), .bool (f v).isSome]) w := by
  obtain ⟨h0, D, n, h1, _, h3, h4⟩ := h
  obtain ⟨y, ps, hrun, hR⟩ := h1.look_ok spotLaw Try.underlying51 (zeroStep w) (stpElem_mk zeroStp) (spotKey v hv)
  rw [hrun]
  obtain ⟨x, rfl, e⟩ := stpElem_inv hR
  cases hf : f v with
  | some z =>
    obtain ⟨g1, g2⟩ := h3 v z hf
    rw [g1]
    have := e.symm.trans (g2 _)
    rw [stpD_inj this]
    rfl
  | none =>
    have hn : Maps.has D (kkS v) = false := by
      cases hh : Maps.has D (kkS v)
      · rfl
      · obtain ⟨u, y, hu, e2⟩ := h4 _ _ (spotKey v hv) hh
        rw [kkS_inj hv (h0 u y hu) e2, hu] at hf
        cases hf
    rw [hn]
    have := e.symm.trans (Maps.atKey_of_not_has hn _)
    rw [stpD_inj this]
    rfl
/-- m[k]. -/
theorem MapA.at (h : MapA w b f q) {v : Sp} (hv : okS v) : (Instr.lookup 51 (.map (some b)) (kvS v) false).run Try.prog w = .ok (stpV ((f v).getD zeroStp)) w := by
  obtain ⟨h0, D, n, h1, _, h3, h4⟩ := h
  obtain ⟨y, ps, hrun, hR⟩ := h1.lookup spotLaw Try.underlying51 (zeroStep w) (stpElem_mk zeroStp) (spotKey v hv)
  rw [hrun]
  obtain ⟨x, rfl, e⟩ := stpElem_inv hR
  cases hf : f v with
  | some z =>
    obtain ⟨g1, g2⟩ := h3 v z hf
    have := e.symm.trans (g2 _)
    rw [stpD_inj this]
    rfl
  | none =>
    have hn : Maps.has D (kkS v) = false := by
      cases hh : Maps.has D (kkS v)
      · rfl
      · obtain ⟨u, y, hu, e2⟩ := h4 _ _ (spotKey v hv) hh
        rw [kkS_inj hv (h0 u y hu) e2, hu] at hf
        cases hf
    have := e.symm.trans (Maps.atKey_of_not_has hn _)
    rw [stpD_inj this]
    rfl
/-- m[k] = x. -/
theorem MapA.update (h : MapA w b f q) {v : Sp} (hv : okS v) (x : PStp) (hq : q < maxLen) : ∃ w', (Instr.mapUpdate 51 (.map (some b)) (kvS v) (stpV x)).run Try.prog w = .ok () w' ∧ MapA w' b (updM f v x) (q + 1) ∧ w.grownBy w' (some b) := by
  obtain ⟨h0, D, n, h1, h2, h3, h4⟩ := h
  obtain ⟨w', hrun, r1, r2⟩ := h1.update spotLaw Try.underlying51 (Nat.lt_of_le_of_lt h2 hq) (spotKey v hv) (stpElem_mk x)
  have hm := h1.isMap
  have hk := spotLaw.key (spotKey v hv)
  refine ⟨w', hrun, ⟨fun u y hu => ?_, D.put (kkS v) (stpD x), n + 1, r1, by omega, fun u y hu => ?_, fun key kl hkl hh => ?_⟩, r2⟩
  · unfold updM at hu
    split at hu
    · rename_i e
      rw [e]; exact hv
    · exact h0 u y hu
  · unfold updM at hu
    split at hu
    · rename_i e
      injection hu with hu
      subst e hu
      exact ⟨Maps.has_put_same hm hk _, fun z => Maps.atKey_put_same hm hk _ z⟩
    · rename_i e
      obtain ⟨g1, g2⟩ := h3 u y hu
      have hne : kkS u ≠ kkS v := fun e2 => e (kkS_inj (h0 u y hu) hv e2)
      exact ⟨(Maps.has_put_other hne _).trans g1, fun z => (Maps.atKey_put_other hne _ z).trans (g2 z)⟩
  · by_cases e : kl = kkS v
    · exact ⟨v, x, updM_same _ _ _, e⟩
    · rw [Maps.has_put_other e] at hh
      obtain ⟨u, y, hu, e2⟩ := h4 key kl hkl hh
      exact ⟨u, y, by rw [updM_ne (fun e3 => e (by rw [e2, e3]))]; exact hu, e2⟩
end
end Go.Proofs.Ytnidicfanbkgjaa
namespace Go.Proofs.Ytnidicfanbkgjaa
open Go.RowKit Go.Maps

/-- The seven cells of a step are laid anew. -/
def lay7 (w : World) (b : Nat) (v0 v1 v2 v3 v4 v5 v6 : Value) : World := ((((((w.setCell ⟨b, 0, none⟩ v0).setCell ⟨b, 1, none⟩ v1).setCell ⟨b, 2, none⟩ v2).setCell ⟨b, 3, none⟩ v3).setCell ⟨b, 4, none⟩ v4).setCell ⟨b, 5, none⟩ v5).setCell ⟨b, 6, none⟩ v6
theorem Box.laid7 {w : World} {b ty : Nat} {u0 u1 u2 u3 u4 u5 u6 : Value} (h : Box w b ty #[u0, u1, u2, u3, u4, u5, u6]) (v0 v1 v2 v3 v4 v5 v6 : Value) : Box (lay7 w b v0 v1 v2 v3 v4 v5 v6) b ty #[v0, v1, v2, v3, v4, v5, v6] := by
  have := ((((((h.set 0 v0).set 1 v1).set 2 v2).set 3 v3).set 4 v4).set 5 v5).set 6 v6
  unfold lay7
  simpa using this
theorem below_lay7 {B : Nat} {w0 w : World} (h : Below B w0 w) {b : Nat} (hb : B ≤ b) (v0 v1 v2 v3 v4 v5 v6 : Value) : Below B w0 (lay7 w b v0 v1 v2 v3 v4 v5 v6) :=
  ((((((h.setCell (p := ⟨b, 0, none⟩) hb _).setCell (p := ⟨b, 1, none⟩) hb _).setCell (p := ⟨b, 2, none⟩) hb _).setCell (p := ⟨b, 3, none⟩) hb _).setCell (p := ⟨b, 4, none⟩) hb _).setCell (p := ⟨b, 5, none⟩) hb _).setCell (p := ⟨b, 6, none⟩) hb _
theorem Box.seven {w : World} {b ty : Nat} {u0 u1 u2 u3 u4 u5 u6 : Value} (h : Box w b ty #[u0, u1, u2, u3, u4, u5, u6]) : w.cell? ⟨b, 0, none⟩ = some u0 ∧ w.cell? ⟨b, 1, none⟩ = some u1 ∧ w.cell? ⟨b, 2, none⟩ = some u2 ∧ w.cell? ⟨b, 3, none⟩ = some u3 ∧ w.cell? ⟨b, 4, none⟩ = some u4 ∧ w.cell? ⟨b, 5, none⟩ = some u5 ∧ w.cell? ⟨b, 6, none⟩ = some u6 := ⟨h.cell 0, h.cell 1, h.cell 2, h.cell 3, h.cell 4, h.cell 5, h.cell 6⟩

set_option maxRecDepth 100000 in
set_option maxHeartbeats 4000000 in
theorem offer_calls {w : World} {ba bm q : Nat} {f : SpM} {cs : Array Value} (X : Box w ba 53 cs) (hcs : cs[5]? = some (.map (some bm))) (M : MapA w bm f q) {v : Sp} (hv : okS v) (x : PStp) (hq : q < 1000000000) :
    Calls Try.prog 24 #[.pointer (some ⟨ba, 0, none⟩), kvS v, stpV x] w fun e w' => (∃ y, e = .returned y) ∧ MapA w' bm (offerM f v x) (q + 1) ∧ w.grownBy w' (some bm) := by
  obtain ⟨v1, v2⟩ := v
  obtain ⟨xc, ⟨xs, xm⟩, xk, xl, xt, xd⟩ := x
  show Calls Try.prog 24 #[.pointer (some ⟨ba, 0, none⟩), .agg #[.int .i64 v1, .int .i64 v2], .agg #[.int .i64 xc, .int .i64 xs, .int .i64 xm, .int .i64 xk, .int .i64 xl, .int .i64 xt, .bool xd]] w _
  have X0 := hide2 ((Box.new w #[.int .i64 v1, .int .i64 v2] 46).old (.cells #[.int .i64 xc, .int .i64 xs, .int .i64 xm, .int .i64 xk, .int .i64 xl, .int .i64 xt, .bool xd] 50))
  have X1 := hide2 (Box.newAt (w := w.alloc (.cells #[.int .i64 v1, .int .i64 v2] 46)) (n := w.heap.size + 1) (by simp) #[.int .i64 xc, .int .i64 xs, .int .i64 xm, .int .i64 xk, .int .i64 xl, .int .i64 xt, .bool xd] 50)
  have B0 := hide2 ((boxBelow w (.cells #[.int .i64 v1, .int .i64 v2] 46)).alloc (by simp) (.cells #[.int .i64 xc, .int .i64 xs, .int .i64 xm, .int .i64 xk, .int .i64 xl, .int .i64 xt, .bool xd] 50))
  have XA := hide2 (X.keep B0.out)
  have MA := hide2 (M.keep B0.out)
  have HC := hide2 hcs
  have HV := hide2 hv
  obtain ⟨y, hy⟩ : ∃ y, (f (v1, v2)).getD zeroStp = y := ⟨_, rfl⟩
  obtain ⟨sb, hsb⟩ : ∃ sb, (f (v1, v2)).isSome = sb := ⟨_, rfl⟩
  have FY := hide2 (show f (v1, v2) = if sb = true then some y else none by
    cases hf : f (v1, v2) with
    | none => rw [hf] at hsb; rw [← hsb]; rfl
    | some z => rw [hf] at hsb hy; rw [← hsb, ← hy]; rfl)
  obtain ⟨yc, ⟨ys, ym⟩, yk, yl, yt, yd⟩ := y
  have HLK := hide2 (fun (w' : World) (hm : MapA w' bm f q) => show (Instr.lookup 51 (.map (some bm)) (.agg #[.int .i64 v1, .int .i64 v2]) true).run Try.prog w' = .ok (.tuple #[.agg #[.int .i64 yc, .int .i64 ys, .int .i64 ym, .int .i64 yk, .int .i64 yl, .int .i64 yt, .bool yd], .bool sb]) w' from by
    have := hm.look hv
    rw [hy, hsb] at this
    exact this)
  clear X M hcs hv hy hsb
  go_enter Try.func24, Try.ntmps24
  go_upto_region 1 with fail
  generalize (w.alloc (.cells #[.int .i64 v1, .int .i64 v2] 46)).alloc (.cells #[.int .i64 xc, .int .i64 xs, .int .i64 xm, .int .i64 xk, .int .i64 xl, .int .i64 xt, .bool xd] 50) = w0 at *
  have DR := hide2 ((Below.refl w0.heap.size w0).drew)
  have Y0 := hide2 (X0.out.keep DR.out)
  have Y1 := hide2 (X1.out.keep DR.out)
  have YA := hide2 (XA.out.keep DR.out)
  have YM := hide2 (MA.out.keep DR.out)
  have a5 := (YA.out.cell 5).trans HC.out
  obtain ⟨z0, z1⟩ := Y0.out.two
  refine wp_region_scr 11 (.takes [0, 1, 2, 3, 4, 5, 6, 7, 8] (.one 9 (.one 10 (.fin 11 .done)))) (fun w' => w'.cell? ⟨ba, 5, none⟩ = some (.map (some bm)) ∧ w'.cell? ⟨w.heap.size, 0, none⟩ = some (.int .i64 v1) ∧ w'.cell? ⟨w.heap.size, 1, none⟩ = some (.int .i64 v2) ∧ MapA w' bm f q) (by kernel_rfl) (by kernel_rfl) (by kernel_rfl) (fun _ _ _ _ _ h => h) ⟨a5, z0, z1, YM.out⟩ (fun hHeld => ?_)
  simp only [Scr.takes]
  clear a5 z0 z1
  generalize w0.drew = w1 at *
  iterate 5
    refine tkTake (v := ?_) rfl (by rfl) hHeld (fun w' hSw => ?_) ?_
    rotate_left
    · (go_simp; try with_reducible rfl)
    try simp only [Act.put, List.setIfInBounds_toArray, List.set_cons_zero, List.set_cons_succ]
  refine tkTake (v := ?_) rfl (by rfl) hHeld (fun w' hSw => ?_) ?_
  rotate_left
  · have hlk := HLK.out w' hSw.2.2.2
    go_simp
    try with_reducible rfl
  try simp only [Act.put, List.setIfInBounds_toArray, List.set_cons_zero, List.set_cons_succ]
  iterate 3
    refine tkTake (v := ?_) rfl (by rfl) hHeld (fun w' hSw => ?_) ?_
    rotate_left
    · (go_simp; try with_reducible rfl)
    try simp only [Act.put, List.setIfInBounds_toArray, List.set_cons_zero, List.set_cons_succ]
  have Z0 := hide2 (Box.new w1 #[.int .i64 0, .int .i64 0, .int .i64 0, .int .i64 0, .int .i64 0, .int .i64 0, .bool false] 50)
  have bb := hide2 (boxBelow w1 (.cells #[.int .i64 0, .int .i64 0, .int .i64 0, .int .i64 0, .int .i64 0, .int .i64 0, .bool false] 50))
  have L0 := hide2 (below_lay7 bb.out (Nat.le_refl _) (.int .i64 yc) (.int .i64 ys) (.int .i64 ym) (.int .i64 yk) (.int .i64 yl) (.int .i64 yt) (.bool yd))
  have Z1 := hide2 (Z0.out.laid7 (.int .i64 yc) (.int .i64 ys) (.int .i64 ym) (.int .i64 yk) (.int .i64 yl) (.int .i64 yt) (.bool yd))
  refine tkOne rfl (fun Kf hKf => ?_)
  go_simp
  refine hKf.out _ _ ⟨((YA.out.keep bb.out).cell 5).trans HC.out, (Y0.out.keep bb.out).two.1, (Y0.out.keep bb.out).two.2, YM.out.keep bb.out⟩ (fun hHeld => ?_)
  clear hKf
  try simp only [Act.put, List.setIfInBounds_toArray, List.set_cons_zero, List.set_cons_succ]
  refine tkOne rfl (fun Kf hKf => ?_)
  have Z2 := hide2 (Box.new w1 #[.int .i64 yc, .int .i64 ys, .int .i64 ym, .int .i64 yk, .int .i64 yl, .int .i64 yt, .bool yd] 50)
  have b2 := hide2 (boxBelow w1 (.cells #[.int .i64 yc, .int .i64 ys, .int .i64 ym, .int .i64 yk, .int .i64 yl, .int .i64 yt, .bool yd] 50))
  go_simp
  refine hKf.out _ _ ⟨((YA.out.keep b2.out).cell 5).trans HC.out, (Y0.out.keep b2.out).two.1, (Y0.out.keep b2.out).two.2, YM.out.keep b2.out⟩ (fun hHeld => ?_)
  clear hKf
  try simp only [Act.put, List.setIfInBounds_toArray, List.set_cons_zero, List.set_cons_succ]
  refine tkEnd rfl (fun Kf hKf => ?_)
  go_simp
  refine hKf.out _ _ ?_
  clear hKf
  refine tkDone ?_
  have V0 := hide2 (Y0.out.keep b2.out)
  have V1 := hide2 (Y1.out.keep b2.out)
  have VA := hide2 (YA.out.keep b2.out)
  have VM := hide2 (YM.out.keep b2.out)
  have BW := hide2 (B0.out.trans ((DR.out.trans (b2.out.mono DR.out.size)).mono B0.out.size))
  have GW := hide2 (show w.grownBy (w1.alloc (.cells #[.int .i64 yc, .int .i64 ys, .int .i64 ym, .int .i64 yk, .int .i64 yl, .int .i64 yt, .bool yd] 50)) (some bm) from ⟨BW.out.os, BW.out.tape, BW.out.output, BW.out.size, fun k hk _ => BW.out.block k hk⟩)
  clear hHeld Z0 Z1 bb L0 Y0 Y1 YA YM DR X0 X1 XA MA HLK BW
  generalize w1.alloc (.cells #[.int .i64 yc, .int .i64 ys, .int .i64 ym, .int .i64 yk, .int .i64 yl, .int .i64 yt, .bool yd] 50) = w2 at *
  obtain ⟨d0, d1, d2, d3, d4, d5, d6⟩ := V1.out.seven
  generalize w1.heap.size = b6 at *
  obtain ⟨e0, e1, e2, e3, e4, e5, e6⟩ := Z2.out.seven
  cases sb
  · have OF := hide2 (show offerM f (v1, v2) ⟨xc, (xs, xm), xk, xl, xt, xd⟩ = updM f (v1, v2) ⟨xc, (xs, xm), xk, xl, xt, xd⟩ by unfold offerM; rw [FY.out]; rfl)
    go_upto_region 3 with fail
    have DR3 := hide2 ((Below.refl w2.heap.size w2).drew)
    have U0 := hide2 (V0.out.keep DR3.out)
    have U1 := hide2 (V1.out.keep DR3.out)
    have UA := hide2 (VA.out.keep DR3.out)
    have UM := hide2 (VM.out.keep DR3.out)
    have a5 := (UA.out.cell 5).trans HC.out
    obtain ⟨z0, z1⟩ := U0.out.two
    obtain ⟨s0, s1, s2, s3, s4, s5, s6⟩ := U1.out.seven
    clear d0 d1 d2 d3 d4 d5 d6 e0 e1 e2 e3 e4 e5 e6
    refine wp_region_scr 6 (.takes [0, 1, 2, 3, 4, 5] (.fin 6 .done)) (fun w' => w'.cell? ⟨ba, 5, none⟩ = some (.map (some bm)) ∧ (w'.cell? ⟨w.heap.size, 0, none⟩ = some (.int .i64 v1) ∧ w'.cell? ⟨w.heap.size, 1, none⟩ = some (.int .i64 v2)) ∧ w'.cell? ⟨w.heap.size + 1, 0, none⟩ = some (.int .i64 xc) ∧ w'.cell? ⟨w.heap.size + 1, 1, none⟩ = some (.int .i64 xs) ∧ w'.cell? ⟨w.heap.size + 1, 2, none⟩ = some (.int .i64 xm) ∧ w'.cell? ⟨w.heap.size + 1, 3, none⟩ = some (.int .i64 xk) ∧ w'.cell? ⟨w.heap.size + 1, 4, none⟩ = some (.int .i64 xl) ∧ w'.cell? ⟨w.heap.size + 1, 5, none⟩ = some (.int .i64 xt) ∧ w'.cell? ⟨w.heap.size + 1, 6, none⟩ = some (.bool xd)) (by kernel_rfl) (by kernel_rfl) (by kernel_rfl) (fun _ _ _ _ _ h => h) ⟨a5, ⟨z0, z1⟩, s0, s1, s2, s3, s4, s5, s6⟩ (fun hHeld => ?_)
    simp only [Scr.takes]
    clear a5 z0 z1 s0 s1 s2 s3 s4 s5 s6
    have GD := hide2 (show w.grownBy w2.drew (some bm) from GW.out.trans ⟨rfl, rfl, rfl, Nat.le_refl _, fun _ _ _ => rfl⟩)
    generalize w2.drew = w3 at *
    iterate 6
      refine tkTake (v := ?_) rfl (by rfl) hHeld (fun w' hSw => ?_) ?_
      rotate_left
      · (go_simp; try with_reducible rfl)
      try simp only [Act.put, List.setIfInBounds_toArray, List.set_cons_zero, List.set_cons_succ]
    obtain ⟨w4, hrun, M4, g4⟩ := UM.out.update HV.out ⟨xc, (xs, xm), xk, xl, xt, xd⟩ (show q < maxLen by simp only [maxLen]; omega)
    have N4 := hide2 (show MapA w4 bm (offerM f (v1, v2) ⟨xc, (xs, xm), xk, xl, xt, xd⟩) (q + 1) by rw [OF.out]; exact M4)
    have H4 := hide2 g4
    simp only [kvS, stpV] at hrun
    clear M4 g4
    refine tkEnd rfl (fun Kf hKf => ?_)
    go_simp
    refine hKf.out _ _ ?_
    clear hKf
    refine tkDone ?_
    clear hrun hHeld
    go_wp2
    go_end0
    exact ⟨⟨_, rfl⟩, N4.out, GD.out.trans H4.out⟩
  · by_cases hlt : xc < yc
    · have OF := hide2 (show offerM f (v1, v2) ⟨xc, (xs, xm), xk, xl, xt, xd⟩ = updM f (v1, v2) ⟨xc, (xs, xm), xk, xl, xt, xd⟩ by unfold offerM; rw [FY.out]; simp only [if_true, if_pos hlt])
      go_upto_region 3 with fail
      have DR3 := hide2 ((Below.refl w2.heap.size w2).drew)
      have U0 := hide2 (V0.out.keep DR3.out)
      have U1 := hide2 (V1.out.keep DR3.out)
      have UA := hide2 (VA.out.keep DR3.out)
      have UM := hide2 (VM.out.keep DR3.out)
      have a5 := (UA.out.cell 5).trans HC.out
      obtain ⟨z0, z1⟩ := U0.out.two
      obtain ⟨s0, s1, s2, s3, s4, s5, s6⟩ := U1.out.seven
      clear d0 d1 d2 d3 d4 d5 d6 e0 e1 e2 e3 e4 e5 e6
      refine wp_region_scr 6 (.takes [0, 1, 2, 3, 4, 5] (.fin 6 .done)) (fun w' => w'.cell? ⟨ba, 5, none⟩ = some (.map (some bm)) ∧ (w'.cell? ⟨w.heap.size, 0, none⟩ = some (.int .i64 v1) ∧ w'.cell? ⟨w.heap.size, 1, none⟩ = some (.int .i64 v2)) ∧ w'.cell? ⟨w.heap.size + 1, 0, none⟩ = some (.int .i64 xc) ∧ w'.cell? ⟨w.heap.size + 1, 1, none⟩ = some (.int .i64 xs) ∧ w'.cell? ⟨w.heap.size + 1, 2, none⟩ = some (.int .i64 xm) ∧ w'.cell? ⟨w.heap.size + 1, 3, none⟩ = some (.int .i64 xk) ∧ w'.cell? ⟨w.heap.size + 1, 4, none⟩ = some (.int .i64 xl) ∧ w'.cell? ⟨w.heap.size + 1, 5, none⟩ = some (.int .i64 xt) ∧ w'.cell? ⟨w.heap.size + 1, 6, none⟩ = some (.bool xd)) (by kernel_rfl) (by kernel_rfl) (by kernel_rfl) (fun _ _ _ _ _ h => h) ⟨a5, ⟨z0, z1⟩, s0, s1, s2, s3, s4, s5, s6⟩ (fun hHeld => ?_)
      simp only [Scr.takes]
      clear a5 z0 z1 s0 s1 s2 s3 s4 s5 s6
      have GD := hide2 (show w.grownBy w2.drew (some bm) from GW.out.trans ⟨rfl, rfl, rfl, Nat.le_refl _, fun _ _ _ => rfl⟩)
      generalize w2.drew = w3 at *
      iterate 6
        refine tkTake (v := ?_) rfl (by rfl) hHeld (fun w' hSw => ?_) ?_
        rotate_left
        · (go_simp; try with_reducible rfl)
        try simp only [Act.put, List.setIfInBounds_toArray, List.set_cons_zero, List.set_cons_succ]
      obtain ⟨w4, hrun, M4, g4⟩ := UM.out.update HV.out ⟨xc, (xs, xm), xk, xl, xt, xd⟩ (show q < maxLen by simp only [maxLen]; omega)
      have N4 := hide2 (show MapA w4 bm (offerM f (v1, v2) ⟨xc, (xs, xm), xk, xl, xt, xd⟩) (q + 1) by rw [OF.out]; exact M4)
      have H4 := hide2 g4
      simp only [kvS, stpV] at hrun
      clear M4 g4
      refine tkEnd rfl (fun Kf hKf => ?_)
      go_simp
      refine hKf.out _ _ ?_
      clear hKf
      refine tkDone ?_
      clear hrun hHeld
      go_wp2
      go_end0
      exact ⟨⟨_, rfl⟩, N4.out, GD.out.trans H4.out⟩
    · have OF := hide2 (show offerM f (v1, v2) ⟨xc, (xs, xm), xk, xl, xt, xd⟩ = f by unfold offerM; rw [FY.out]; simp only [if_true, if_neg hlt])
      clear e1 e2 e3 e4 e5 e6 d1 d2 d3 d4 d5 d6
      go_wp2
      go_end0
      exact ⟨⟨_, rfl⟩, by rw [OF.out]; exact VM.out.mono (Nat.le_succ _), GW.out⟩
end Go.Proofs.Ytnidicfanbkgjaa
namespace Go.Proofs.Ytnidicfanbkgjaa
open Go.RowKit Go.Maps

/-- What has come so far, while the map is ranged over: best is the nearest of it. -/
def NearI (f : SpM) (left : Lit → Bool) (best : Sp) (sm : Bool) : Prop :=
  (sm = false → best = (0, 0)) ∧ (sm = true → ∃ x, f best = some x ∧ x.done = false) ∧
  ∀ v x, f v = some x → x.done = false → left (kkS v) = false → sm = true ∧ ∃ y, f best = some y ∧ y.cost ≤ x.cost
theorem NearI.small {f : SpM} {left : Lit → Bool} {best : Sp} {sm : Bool} (h : NearI f left best sm) (h0 : ∀ v x, f v = some x → okS v) : okS best := by
  cases sm
  · rw [h.1 rfl]
    exact ⟨by simp, by simp⟩
  · obtain ⟨x, hx, _⟩ := h.2.1 rfl
    exact h0 _ _ hx
section
variable {f : SpM} {left : Lit → Bool} {best v : Sp} {sm : Bool} {x : PStp}
theorem left_off (h0 : ∀ v x, f v = some x → okS v) (hv : f v = some x) {u : Sp} {y : PStp} (hu : f u = some y) (h : (left (kkS u) && !(kkS u).sameKey (kkS v)) = false) : u = v ∨ left (kkS u) = false := by
  cases hl : left (kkS u)
  · exact .inr rfl
  · rw [hl] at h
    simp only [Bool.true_and, Bool.not_eq_false'] at h
    exact .inl (kkS_inj (h0 _ _ hu) (h0 _ _ hv) ((WideAt.sameKey_iff (spotLaw.key (spotKey v (h0 _ _ hv)))).1 h))
theorem NearI.skip (h : NearI f left best sm) (h0 : ∀ v x, f v = some x → okS v) (hv : f v = some x) (hs : x.done = true ∨ (sm = true ∧ ∃ y, f best = some y ∧ y.cost ≤ x.cost)) : NearI f (fun z => left z && !z.sameKey (kkS v)) best sm := by
  refine ⟨h.1, h.2.1, fun u y hu hd hl => ?_⟩
  rcases left_off h0 hv hu hl with rfl | hl
  · rw [hv] at hu
    injection hu with hu
    subst hu
    rcases hs with hs | hs
    · rw [hs] at hd; cases hd
    · exact hs
  · exact h.2.2 u y hu hd hl
theorem NearI.take (h : NearI f left best sm) (h0 : ∀ v x, f v = some x → okS v) (hv : f v = some x) (hd : x.done = false) (hs : sm = false ∨ ∃ y, f best = some y ∧ x.cost ≤ y.cost) : NearI f (fun z => left z && !z.sameKey (kkS v)) v true := by
  refine ⟨fun e => (by cases e), fun _ => ⟨x, hv, hd⟩, fun u y hu hyd hl => ⟨rfl, x, hv, ?_⟩⟩
  rcases left_off h0 hv hu hl with rfl | hl
  · rw [hv] at hu
    injection hu with hu
    subst hu
    exact Int.le_refl _
  · obtain ⟨h1, z, h2, h3⟩ := h.2.2 u y hu hyd hl
    rcases hs with hs | ⟨z', h4, h5⟩
    · rw [h1] at hs; cases hs
    · rw [h2] at h4
      injection h4 with h4
      subst h4
      omega
end
theorem gnone {w w' : World} (hb : Below w.heap.size w w') : w.grownBy w' none := ⟨hb.os, hb.tape, hb.output, hb.size, fun k hk _ => hb.block k hk⟩
theorem gset2 (w : World) (b : Nat) (u v : Value) : w.grownBy ((w.setCell ⟨b, 0, none⟩ u).setCell ⟨b, 1, none⟩ v) (some b) :=
  ⟨rfl, rfl, rfl, by simp [World.setCell], fun k _ hne => (heap_setCell_other _ _ _ _ (fun e => hne (by rw [e]))).trans (heap_setCell_other _ _ _ _ (fun e => hne (by rw [e])))⟩
def AnsNear (f : SpM) (w : World) (e : Ending) (w' : World) : Prop :=
  Below w.heap.size w w' ∧ ∃ best sm, e = .returned (.tuple #[kvS best, .bool sm]) ∧ (sm = false → ∀ v x, f v = some x → x.done = true) ∧
    (sm = true → ∃ x, f best = some x ∧ x.done = false ∧ ∀ v y, f v = some y → y.done = false → x.cost ≤ y.cost)
theorem NearI.fin {f : SpM} {left : Lit → Bool} {best : Sp} {sm : Bool} (h : NearI f left best sm) (hl : ∀ kl, left kl = false) : (sm = false → ∀ v x, f v = some x → x.done = true) ∧ (sm = true → ∃ x, f best = some x ∧ x.done = false ∧ ∀ v y, f v = some y → y.done = false → x.cost ≤ y.cost) := by
  refine ⟨fun hs v x hx => ?_, fun hs => ?_⟩
  · cases hd : x.done
    · have := (h.2.2 v x hx hd (hl _)).1
      rw [hs] at this; cases this
    · rfl
  · obtain ⟨x, hx, hd⟩ := h.2.1 hs
    refine ⟨x, hx, hd, fun v y hv hyd => ?_⟩
    obtain ⟨_, z, h1, h2⟩ := h.2.2 v y hv hyd (hl _)
    rw [hx] at h1
    injection h1 with h1
    subst h1
    exact h2

set_option maxRecDepth 100000 in
set_option maxHeartbeats 8000000 in
theorem nearest_calls {w : World} {ba bm q : Nat} {f : SpM} {cs : Array Value} (X : Box w ba 53 cs) (hcs : cs[5]? = some (.map (some bm))) (M : MapA w bm f q) :
    Calls Try.prog 12 #[.pointer (some ⟨ba, 0, none⟩)] w (AnsNear f w) := by
  have XR := hide2 ((Box.new w #[.int .i64 0, .int .i64 0] 46).old (.cells #[.int .i64 0, .int .i64 0] 46))
  have XB := hide2 (Box.newAt (w := w.alloc (.cells #[.int .i64 0, .int .i64 0] 46)) (n := w.heap.size + 1) (by simp) #[.int .i64 0, .int .i64 0] 46)
  have B0 := hide2 ((boxBelow w (.cells #[.int .i64 0, .int .i64 0] 46)).alloc (by simp) (.cells #[.int .i64 0, .int .i64 0] 46))
  have S0 := hide2 (show ((w.alloc (.cells #[.int .i64 0, .int .i64 0] 46)).alloc (.cells #[.int .i64 0, .int .i64 0] 46)).heap.size = w.heap.size + 1 + 1 by simp)
  have LA := hide2 X.lt
  have XA := hide2 X
  have MA := hide2 (M.keep B0.out)
  have HC := hide2 hcs
  have OK0 := hide2 M.1
  have LB := hide2 M.lt
  clear X M hcs
  go_enter Try.func12, Try.ntmps12
  go_upto_region 2 with fail
  generalize (w.alloc (.cells #[.int .i64 0, .int .i64 0] 46)).alloc (.cells #[.int .i64 0, .int .i64 0] 46) = w0 at *
  obtain ⟨h0, D, n, h1, hn, h3, h4⟩ := MA.out
  have H3 := hide2 h3
  have H4 := hide2 h4
  have a5 := ((XA.out.keep B0.out).cell 5).trans HC.out
  clear h0 h3 h4
  go_wp2_with (at_range; refine wpList_range_own _ rfl _ 51 rfl 46 _ spotLaw Try.underlying51 stpElem bm n D rfl h1 ?_; intro w1 hrg0 hg0 hs0)
  go_frame
  have I0 := hide2 (show NearI f (Maps.has D) (0, 0) false from ⟨fun _ => rfl, fun e => (by cases e), fun v x hv _ hl => by
    have := (H3.out v x hv).1
    rw [this] at hl
    cases hl⟩)
  have XB1 := hide2 (XB.out.grown hg0 (by simp))
  have XR1 := hide2 (XR.out.grown hg0 (by simp))
  have B1 := hide2 (B0.out.grown hg0 B0.out.size (fun j hj => by cases hj))
  have M1 := hide2 (MA.out.beside hg0 (by simp))
  clear a5 XB XR hg0 hs0 h1
  go_loopw [5] (fun u5 wr => ∃ (left : Lit → Bool) (cnt : Nat) (b1 b2 : Int) (sm : Bool), u5 = .bool sm ∧ wr.ranges Try.prog 46 stpElem bm w0.heap.size n D left cnt ∧ Hid (NearI f left (b1, b2) sm) ∧ Hid (Box wr (w.heap.size + 1) 46 #[.int .i64 b1, .int .i64 b2]) ∧ Hid (Box wr w.heap.size 46 #[.int .i64 0, .int .i64 0]) ∧ Hid (Below w.heap.size w wr) ∧ Hid (MapA wr bm f q)) (fun _ wr => wr.rangeLeft bm w0.heap.size)
  case atStart => exact ⟨_, _, 0, 0, false, rfl, hrg0, I0, XB1, XR1, B1, M1⟩
  case round =>
    clear hrg0 I0 XB1 XR1 B1 M1 B0 MA
    obtain ⟨left, cnt, b1, b2, sm, rfl, hrg, NI, XB, XR, BW, MW⟩ := hrel
    go_wp2_with (at_next; refine wpList_next_ranges _ rfl _ rfl 46 spotLaw stpElem (fun v => v) (fun v => v) (fun key kl hk => ⟨key, rfl⟩) (fun v y hv => ⟨v, rfl⟩) bm w0.heap.size n D left cnt rfl hrg ?_ ?_)
    · intro hc0 hl0
      have FN := hide2 (NI.out.fin hl0)
      have b0 := XB.out.two.1
      have b1' := XB.out.two.2
      have f0 := XR.out.frozen 0
      have f1 := XR.out.frozen 1
      obtain ⟨r0, r1⟩ := XR.out.two
      have XE := hide2 (XR.out.set2 (.int .i64 b1) (.int .i64 b2))
      have BE := hide2 ((BW.out.setCell (p := ⟨w.heap.size, 0, none⟩) (Nat.le_refl _) (.int .i64 b1)).setCell (p := ⟨w.heap.size, 1, none⟩) (Nat.le_refl _) (.int .i64 b2))
      clear hl0 hrg
      go_wp2
      obtain ⟨z0, z1⟩ := XE.out.two
      exact bodyPost_ret (v := .tuple #[.agg #[.int .i64 b1, .int .i64 b2], .bool sm]) (by simp [results, Try.results12, go_sem, z0, z1]) rfl ⟨BE.out, (b1, b2), sm, rfl, FN.out.1, FN.out.2⟩
    · intro xk xv kl yd yp w2 cnt2 hkey hlk hv hat hrg2 hlt hg2 hs2 hen
      obtain ⟨⟨k1, k2⟩, ⟨xc, ⟨xs, xm⟩, xkd, xl, xt, xd⟩, hv', ekl⟩ := H4.out xk kl hkey (Maps.has_true_of_atKey hat)
      subst ekl
      have okv := OK0.out _ _ hv'
      obtain rfl : xk = .agg #[.int .i64 k1, .int .i64 k2] := spotLaw.inj hkey (spotKey _ okv)
      obtain ⟨x', ex, ed⟩ := stpElem_inv hv
      have exx := stpD_inj (ed.symm.trans ((hat (.agg [])).symm.trans ((H3.out _ _ hv').2 (.agg []))))
      subst exx
      obtain rfl : xv = .agg #[.int .i64 xc, .int .i64 xs, .int .i64 xm, .int .i64 xkd, .int .i64 xl, .int .i64 xt, .bool xd] := ex
      have hit : w0.heap.size ≠ w.heap.size + 1 := by have := S0.out; omega
      have hir : w0.heap.size ≠ w.heap.size := by have := S0.out; omega
      have SKIP := hide2 (fun hs => NI.out.skip OK0.out hv' hs)
      have TAKE := hide2 (fun hs => NI.out.take OK0.out hv' hs)
      have OKB := hide2 (NI.out.small OK0.out)
      have XB2 := hide2 (XB.out.grown hg2 (by simpa using hit))
      have XR2 := hide2 (XR.out.grown hg2 (by simpa using hir))
      have B2 := hide2 (BW.out.grown hg2 BW.out.size (fun k e => by cases e; have := S0.out; omega))
      have M2 := hide2 (MW.out.beside hg2 (by have := LB.out; have := S0.out; simp; omega))
      have RG := hide2 hrg2
      have LTC := hide2 hlt
      have HLE := hide2 hrg.left_eq
      have HIT := hide2 hit
      have NII := hide2 NI.out
      have bb := (boxBelow w2 (.cells #[.int .i64 k1, .int .i64 k2] 46)).alloc (by simp) (.cells #[.int .i64 xc, .int .i64 xs, .int .i64 xm, .int .i64 xkd, .int .i64 xl, .int .i64 xt, .bool xd] 50)
      have XK := hide2 ((Box.new w2 #[.int .i64 k1, .int .i64 k2] 46).old (.cells #[.int .i64 xc, .int .i64 xs, .int .i64 xm, .int .i64 xkd, .int .i64 xl, .int .i64 xt, .bool xd] 50))
      have XS := hide2 (Box.newAt (w := w2.alloc (.cells #[.int .i64 k1, .int .i64 k2] 46)) (n := w2.heap.size + 1) (by simp) #[.int .i64 xc, .int .i64 xs, .int .i64 xm, .int .i64 xkd, .int .i64 xl, .int .i64 xt, .bool xd] 50)
      have XB3 := hide2 (XB2.out.keep bb)
      have XR3 := hide2 (XR2.out.keep bb)
      have B3 := hide2 (B2.out.trans (bb.mono B2.out.size))
      have M3 := hide2 (M2.out.keep bb)
      have R3 := hide2 (RG.out.kept (gnone bb) (by simp) (by simp))
      clear hs2 hkey hlk hv hat hrg2 hg2 hrg hlt bb ed okv hit hir XB XR BW MW NI
      go_upto_region 6 with fail
      clear hen
      generalize (w2.alloc (.cells #[.int .i64 k1, .int .i64 k2] 46)).alloc (.cells #[.int .i64 xc, .int .i64 xs, .int .i64 xm, .int .i64 xkd, .int .i64 xl, .int .i64 xt, .bool xd] 50) = w3 at *
      obtain ⟨s0, s1, s2, s3, s4, s5, s6⟩ := XS.out.seven
      cases xd
      · go_upto_region 7 with fail
        obtain ⟨y, hy⟩ : ∃ y, (f (b1, b2)).getD zeroStp = y := ⟨_, rfl⟩
        have YS := hide2 (show sm = true → f (b1, b2) = some y from fun e => by
          obtain ⟨z, hz, _⟩ := NII.out.2.1 e
          rw [hz] at hy ⊢
          exact congrArg some hy)
        obtain ⟨yc, ⟨ys, ym⟩, yk, yl, yt, yd⟩ := y
        have HLK := hide2 (fun (w' : World) (hm : MapA w' bm f q) => show (Instr.lookup 51 (.map (some bm)) (.agg #[.int .i64 b1, .int .i64 b2]) false).run Try.prog w' = .ok (.agg #[.int .i64 yc, .int .i64 ys, .int .i64 ym, .int .i64 yk, .int .i64 yl, .int .i64 yt, .bool yd]) w' from by
          have := hm.at OKB.out
          rw [hy] at this
          exact this)
        clear hy s0 s1 s2 s3 s4 s5 s6
        have DR := hide2 ((Below.refl w3.heap.size w3).drew)
        have XAD := hide2 (XA.out.keepB (B3.out.trans (DR.out.mono B3.out.size)) LA.out)
        have XBD := hide2 (XB3.out.keep DR.out)
        have XRD := hide2 (XR3.out.keep DR.out)
        have XKD := hide2 (XK.out.keep DR.out)
        have XSD := hide2 (XS.out.keep DR.out)
        have MD := hide2 (M3.out.keep DR.out)
        have BD := hide2 (B3.out.trans (DR.out.mono B3.out.size))
        have RD := hide2 (R3.out.kept (gnone DR.out) (by simp) (by simp))
        have a5 := (XAD.out.cell 5).trans HC.out
        obtain ⟨z0, z1⟩ := XBD.out.two
        refine wp_region_scr 7 (.takes [0, 1, 2, 3, 4, 5] (.one 6 (.fin 7 .done))) (fun w' => w'.cell? ⟨ba, 5, none⟩ = some (.map (some bm)) ∧ w'.cell? ⟨w.heap.size + 1, 0, none⟩ = some (.int .i64 b1) ∧ w'.cell? ⟨w.heap.size + 1, 1, none⟩ = some (.int .i64 b2) ∧ MapA w' bm f q) (by kernel_rfl) (by kernel_rfl) (by kernel_rfl) (fun _ _ _ _ _ h => h) ⟨a5, z0, z1, MD.out⟩ (fun hHeld => ?_)
        simp only [Scr.takes]
        clear a5 z0 z1 XB3 XR3 XK XS M3 B3 R3 DR
        generalize w3.drew = w4 at *
        iterate 5
          refine tkTake (v := ?_) rfl (by rfl) hHeld (fun w' hSw => ?_) ?_
          rotate_left
          · (go_simp; try with_reducible rfl)
          try simp only [Act.put, List.setIfInBounds_toArray, List.set_cons_zero, List.set_cons_succ]
        refine tkTake (v := ?_) rfl (by rfl) hHeld (fun w' hSw => ?_) ?_
        rotate_left
        · have hlk := HLK.out w' hSw.2.2.2
          go_simp
          try with_reducible rfl
        try simp only [Act.put, List.setIfInBounds_toArray, List.set_cons_zero, List.set_cons_succ]
        have Z0 := hide2 (Box.new w4 #[.int .i64 0, .int .i64 0, .int .i64 0, .int .i64 0, .int .i64 0, .int .i64 0, .bool false] 50)
        have z1 := hide2 (boxBelow w4 (.cells #[.int .i64 0, .int .i64 0, .int .i64 0, .int .i64 0, .int .i64 0, .int .i64 0, .bool false] 50))
        refine tkOne rfl (fun Kf hKf => ?_)
        go_simp
        refine hKf.out _ _ ⟨((XAD.out.keep z1.out).cell 5).trans HC.out, (XBD.out.keep z1.out).two.1, (XBD.out.keep z1.out).two.2, MD.out.keep z1.out⟩ (fun hHeld => ?_)
        clear hKf
        try simp only [Act.put, List.setIfInBounds_toArray, List.set_cons_zero, List.set_cons_succ]
        refine tkEnd rfl (fun Kf hKf => ?_)
        have bb := boxBelow w4 (.cells #[.int .i64 yc, .int .i64 ys, .int .i64 ym, .int .i64 yk, .int .i64 yl, .int .i64 yt, .bool yd] 50)
        have XY := hide2 (Box.new w4 #[.int .i64 yc, .int .i64 ys, .int .i64 ym, .int .i64 yk, .int .i64 yl, .int .i64 yt, .bool yd] 50)
        have XB4 := hide2 (XBD.out.keep bb)
        have XR4 := hide2 (XRD.out.keep bb)
        have XK4 := hide2 (XKD.out.keep bb)
        have XS4 := hide2 (XSD.out.keep bb)
        have M4 := hide2 (MD.out.keep bb)
        have B4 := hide2 (BD.out.trans (bb.mono BD.out.size))
        have R4 := hide2 (RD.out.kept (gnone bb) (by simp) (by simp))
        go_simp
        refine hKf.out _ _ ?_
        clear hKf
        refine tkDone ?_
        clear hHeld Z0 z1 bb XAD XBD XRD XKD XSD MD BD RD HLK
        generalize w4.alloc (.cells #[.int .i64 yc, .int .i64 ys, .int .i64 ym, .int .i64 yk, .int .i64 yl, .int .i64 yt, .bool yd] 50) = w5 at *
        generalize w4.heap.size = b8 at *
        obtain ⟨e0, e1, e2, e3, e4, e5, e6⟩ := XY.out.seven
        obtain ⟨s0, s1, s2, s3, s4, s5, s6⟩ := XS4.out.seven
        obtain ⟨k0, k1'⟩ := XK4.out.two
        obtain ⟨z0, z1⟩ := XB4.out.two
        clear e1 e2 e3 e4 e5 e6 s1 s2 s3 s4 s5 s6
        cases sm
        · skip
          have NS := hide2 (TAKE.out rfl (.inl rfl))
          have g0 := XB4.out.frozen 0
          have g1 := XB4.out.frozen 1
          have XN := hide2 (XB4.out.set2 (.int .i64 k1) (.int .i64 k2))
          have XRN := hide2 (XR4.out.grown (gset2 w5 (w.heap.size + 1) (.int .i64 k1) (.int .i64 k2)) (by simp))
          have BN := hide2 ((B4.out.setCell (p := ⟨w.heap.size + 1, 0, none⟩) (Nat.le_succ _) (.int .i64 k1)).setCell (p := ⟨w.heap.size + 1, 1, none⟩) (Nat.le_succ _) (.int .i64 k2))
          have MN := hide2 (M4.out.beside (gset2 w5 (w.heap.size + 1) (.int .i64 k1) (.int .i64 k2)) (by have := LB.out; simp; omega))
          have RN := hide2 (R4.out.kept (gset2 w5 (w.heap.size + 1) (.int .i64 k1) (.int .i64 k2)) (by have := LB.out; simp; omega) (by have := HIT.out; simpa using this))
          clear R4
          go_wp2
          go_roundw
          case rel => exact ⟨_, cnt2, k1, k2, true, rfl, RN.out, NS, XN, XRN, BN, MN⟩
          case measure => rw [RN.out.left_eq, HLE.out]; exact LTC.out
        · by_cases hc1 : xc < yc
          · skip
            have NS := hide2 (TAKE.out rfl (.inr ⟨_, YS.out rfl, by simp only; omega⟩))
            have g0 := XB4.out.frozen 0
            have g1 := XB4.out.frozen 1
            have XN := hide2 (XB4.out.set2 (.int .i64 k1) (.int .i64 k2))
            have XRN := hide2 (XR4.out.grown (gset2 w5 (w.heap.size + 1) (.int .i64 k1) (.int .i64 k2)) (by simp))
            have BN := hide2 ((B4.out.setCell (p := ⟨w.heap.size + 1, 0, none⟩) (Nat.le_succ _) (.int .i64 k1)).setCell (p := ⟨w.heap.size + 1, 1, none⟩) (Nat.le_succ _) (.int .i64 k2))
            have MN := hide2 (M4.out.beside (gset2 w5 (w.heap.size + 1) (.int .i64 k1) (.int .i64 k2)) (by have := LB.out; simp; omega))
            have RN := hide2 (R4.out.kept (gset2 w5 (w.heap.size + 1) (.int .i64 k1) (.int .i64 k2)) (by have := LB.out; simp; omega) (by have := HIT.out; simpa using this))
            clear R4
            go_wp2
            go_roundw
            case rel => exact ⟨_, cnt2, k1, k2, true, rfl, RN.out, NS, XN, XRN, BN, MN⟩
            case measure => rw [RN.out.left_eq, HLE.out]; exact LTC.out
          · by_cases hc2 : xc = yc
            · subst hc2
              by_cases hc3 : k1 < b1
              · skip
                have NS := hide2 (TAKE.out rfl (.inr ⟨_, YS.out rfl, Int.le_refl _⟩))
                have g0 := XB4.out.frozen 0
                have g1 := XB4.out.frozen 1
                have XN := hide2 (XB4.out.set2 (.int .i64 k1) (.int .i64 k2))
                have XRN := hide2 (XR4.out.grown (gset2 w5 (w.heap.size + 1) (.int .i64 k1) (.int .i64 k2)) (by simp))
                have BN := hide2 ((B4.out.setCell (p := ⟨w.heap.size + 1, 0, none⟩) (Nat.le_succ _) (.int .i64 k1)).setCell (p := ⟨w.heap.size + 1, 1, none⟩) (Nat.le_succ _) (.int .i64 k2))
                have MN := hide2 (M4.out.beside (gset2 w5 (w.heap.size + 1) (.int .i64 k1) (.int .i64 k2)) (by have := LB.out; simp; omega))
                have RN := hide2 (R4.out.kept (gset2 w5 (w.heap.size + 1) (.int .i64 k1) (.int .i64 k2)) (by have := LB.out; simp; omega) (by have := HIT.out; simpa using this))
                clear R4
                go_wp2
                go_roundw
                case rel => exact ⟨_, cnt2, k1, k2, true, rfl, RN.out, NS, XN, XRN, BN, MN⟩
                case measure => rw [RN.out.left_eq, HLE.out]; exact LTC.out
              · by_cases hc4 : k1 = b1
                · subst hc4
                  by_cases hc5 : k2 < b2
                  · skip
                    have NS := hide2 (TAKE.out rfl (.inr ⟨_, YS.out rfl, Int.le_refl _⟩))
                    have g0 := XB4.out.frozen 0
                    have g1 := XB4.out.frozen 1
                    have XN := hide2 (XB4.out.set2 (.int .i64 k1) (.int .i64 k2))
                    have XRN := hide2 (XR4.out.grown (gset2 w5 (w.heap.size + 1) (.int .i64 k1) (.int .i64 k2)) (by simp))
                    have BN := hide2 ((B4.out.setCell (p := ⟨w.heap.size + 1, 0, none⟩) (Nat.le_succ _) (.int .i64 k1)).setCell (p := ⟨w.heap.size + 1, 1, none⟩) (Nat.le_succ _) (.int .i64 k2))
                    have MN := hide2 (M4.out.beside (gset2 w5 (w.heap.size + 1) (.int .i64 k1) (.int .i64 k2)) (by have := LB.out; simp; omega))
                    have RN := hide2 (R4.out.kept (gset2 w5 (w.heap.size + 1) (.int .i64 k1) (.int .i64 k2)) (by have := LB.out; simp; omega) (by have := HIT.out; simpa using this))
                    clear R4
                    go_wp2
                    go_roundw
                    case rel => exact ⟨_, cnt2, k1, k2, true, rfl, RN.out, NS, XN, XRN, BN, MN⟩
                    case measure => rw [RN.out.left_eq, HLE.out]; exact LTC.out
                  · skip
                    have NS := hide2 (SKIP.out (.inr ⟨rfl, _, YS.out rfl, Int.le_refl _⟩))
                    have R5 := hide2 (R4.out)
                    clear R4
                    go_wp2
                    go_roundw
                    case rel => exact ⟨_, cnt2, k1, b2, true, rfl, R5.out, NS, XB4, XR4, B4, M4⟩
                    case measure => rw [R5.out.left_eq, HLE.out]; exact LTC.out
                · have hb4 : (k1 == b1) = false := by simpa using hc4
                  have NS := hide2 (SKIP.out (.inr ⟨rfl, _, YS.out rfl, Int.le_refl _⟩))
                  have R5 := hide2 (R4.out)
                  clear R4
                  go_wp2
                  go_roundw
                  case rel => exact ⟨_, cnt2, b1, b2, true, rfl, R5.out, NS, XB4, XR4, B4, M4⟩
                  case measure => rw [R5.out.left_eq, HLE.out]; exact LTC.out
            · have hb2 : (xc == yc) = false := by simpa using hc2
              have NS := hide2 (SKIP.out (.inr ⟨rfl, _, YS.out rfl, by simp only; omega⟩))
              have R5 := hide2 (R4.out)
              clear R4
              go_wp2
              go_roundw
              case rel => exact ⟨_, cnt2, b1, b2, true, rfl, R5.out, NS, XB4, XR4, B4, M4⟩
              case measure => rw [R5.out.left_eq, HLE.out]; exact LTC.out
      · have NS := hide2 (SKIP.out (.inl rfl))
        clear s1 s2 s3 s4 s5
        go_wp2
        go_roundw
        case rel => exact ⟨_, cnt2, b1, b2, sm, rfl, R3.out, NS, XB3, XR3, B3, M3⟩
        case measure => rw [R3.out.left_eq, HLE.out]; exact LTC.out
end Go.Proofs.Ytnidicfanbkgjaa
