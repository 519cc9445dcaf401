/- slices.Sort and slices.Compact on integers that are the call's own. Conditions: the slice is the call's own. | slices.Collect over slices.Values on integers: the same list anew. Conditions: the slice reads as a list. -/
import Derived.Test.YtmabnigdocokmaaGreatCaseC
import Derived.Test.YtmabnigdocokmaaGreatLayS
import Derived.Sort.OwnSortedInts
import Derived.Test.YtmabnigdocokmaaGreatOwnB
import Derived.Test.YtmabnigdocokmaaGreatBox
import Derived.RangeFuncFrom
import Derived.Shelf.Abstract
import Derived.Shelf.RegionOpen
import Derived.WalkKit
import Derived.TacticsInMore
import Derived.LoopNIn
import Derived.Stop.RegionWithIn
import Derived.LoopIn
import Derived.OwnWalkIn
import Derived.RangeFuncCalls
import Derived.RangeFuncBound
import Derived.RangeFuncNested
import Derived.RangeFuncLeaves
import Derived.Test.YtmabnigdocokmaaGreatNetJ
namespace Go.Proofs.YtmabnigdocokmaaGreat
open Go.RowKit

set_option maxRecDepth 100000 in
set_option maxHeartbeats 1000000 in
/-- slices.Sort on a slice of the call's own. -/
theorem sortOwn_calls {w : World} {B n : Nat} {v : Value} {xs : List Int} (h : OwnInts w B v n xs) (hn : n ≤ 17592186044416) :
    Calls Tryz.prog 27 #[v] w fun e w' => e = .returned (.tuple #[]) ∧ OwnInts w' B v n (xs.mergeSort fun x y => decide (x ≤ y)) ∧ w.grownBy w' v.ownBlock := by
  have hl := h.len
  subst hl
  rcases h.row.2 with ⟨rfl, h0⟩ | ⟨g, cap, cur, rfl, hg, hb, h1, h2, h3, h4⟩
  · have hx : xs = [] := List.eq_nil_of_length_eq_zero h0
    subst hx
    refine (slices_Sort_int_none none 0 w).mono ?_
    rintro e w' ⟨rfl, rfl⟩
    exact ⟨rfl, by simpa using h, World.grownBy.refl _ _⟩
  · refine (slices_Sort_int g 0 cap xs w (holds_of_blockI hb (by simpa using h4)) (Array.getElem?_eq_some_iff.1 hb).1 (by omega)).mono ?_
    rintro e w' ⟨rfl, q, os, rfl⟩
    exact ⟨rfl, OwnInts.of_row (ownsRow_sortedI (by simp) hg hb h1 h2 h3), grownBy_sortedI _⟩
theorem own_cut {w : World} {B e n k g cap : Nat} {cells : List Value} (h : w.ownsRow B e 1 (.slice (some ⟨g, 0, none⟩) n cap) n cells) (hk : k ≤ n) : w.ownsRow B e 1 (.slice (some ⟨g, 0, none⟩) k cap) k (cells.take k) := by
  obtain ⟨h0, h1⟩ := h
  refine ⟨by rw [List.length_take]; omega, ?_⟩
  rcases h1 with ⟨hv, _⟩ | ⟨g', cap', cur, hv, hg, hb, a1, a2, a3, a4⟩
  · cases hv
  · injection hv with e1 e2 e3
    subst e3
    injection e1 with e1
    injection e1 with e1
    subst e1
    refine .inr ⟨g, cap, cur, rfl, hg, hb, by omega, a2, a3, ?_⟩
    rw [← a4, List.take_take]
    congr 1
    omega
theorem compact_len (xs : List Int) : (Lib.compact xs).length ≤ xs.length := by
  unfold Lib.compact Lib.compactUpTo
  rw [List.length_map]
  exact Nat.le_trans (List.length_filter_le _ _) (by simp)
set_option maxRecDepth 100000 in
set_option maxHeartbeats 1000000 in
/-- slices.Compact on a slice of the call's own. -/
theorem compactOwn_calls {w : World} {B n : Nat} {v : Value} {xs : List Int} (h : OwnInts w B v n xs) (hn : n ≤ 17592186044416) :
    Calls Tryz.prog 8 #[v] w fun e w' => ∃ v', e = .returned v' ∧ OwnInts w' B v' (Lib.compact xs).length (Lib.compact xs) ∧ w.grownBy w' v.ownBlock := by
  have hl := h.len
  subst hl
  rcases h.row.2 with ⟨rfl, h0⟩ | ⟨g, cap, cur, rfl, hg, hb, h1, h2, h3, h4⟩
  · have hx : xs = [] := List.eq_nil_of_length_eq_zero h0
    subst hx
    refine (slices_Compact_int_empty none 0 w).mono ?_
    rintro e w' ⟨rfl, rfl⟩
    exact ⟨_, rfl, OwnSl.nil, World.grownBy.refl _ _⟩
  · have hlen := compact_len xs
    refine (slices_Compact_int g 0 cap xs w (holds_of_blockI hb (by simpa using h4)) (by omega) h1).mono ?_
    rintro e w' ⟨rfl, q, rfl⟩
    refine ⟨_, rfl, ?_, ?_⟩
    · have key := ownsRow_sortedI (w := w) (n := q) (os := #[]) (ss := xs) (ts := Lib.compact xs ++ List.replicate (xs.length - (Lib.compact xs).length) 0) (by simp; omega) hg hb h1 h2 h3
      rw [Sort.grow_empty] at key
      have := own_cut key hlen
      rw [List.map_append, List.take_left' (by simp)] at this
      exact OwnInts.of_row this
    · have := grownBy_sortedI (w := w) (g := g) (n := q) (os := #[]) (Lib.compact xs ++ List.replicate (xs.length - (Lib.compact xs).length) 0).toArray
      rwa [Sort.grow_empty] at this

end Go.Proofs.YtmabnigdocokmaaGreat
namespace Go.Proofs.YtmabnigdocokmaaGreat
open Go.RowKit
attribute [local go_sem] Oper.semAt_some

def encV (x : Int) : Array Value := #[.int .i64 x]
set_option maxRecDepth 100000 in
set_option maxHeartbeats 1000000 in
/-- The iterator over a slice: it gives what the slice read as, as long as the loop leaves that alone. -/
theorem values1_stops (n : Nat) (hn : 1 ≤ n) {w : World} {bx m c : Nat} {A : Option Addr} {xs : List Int} (hb : bx < w.heap.size) (hc : w.cell? ⟨bx, 0, none⟩ = some (.slice A m c)) (h : Ints w A m c xs) :
    SeqStopsK Fence.wide n Tryz.prog 28 #[.pointer (some ⟨bx, 0, none⟩)] encV (Below w.heap.size) (fun ys => ys = xs) (fun _ => True) m w := by
  intro l J Jx W hW hJ hJx hY h0
  have hns := h.small
  have HL := hide2 h.len
  have H := hide2 h
  have c0 : W.cell? ⟨bx, 0, none⟩ = some (.slice A m c) := (hW.cell (p := ⟨bx, 0, none⟩) hb).trans hc
  refine callsIn_of_wp Tryz.func28 rfl trivial ?_ rfl
  simp only [Tryz.ntmps28, List.size_toArray, List.length_cons, List.length_nil, Nat.reduceAdd, Nat.reduceSub, Array.replicate_succ, Array.replicate_zero, List.push_toArray, List.append_toArray, List.nil_append, List.cons_append]
  have HC := hide2 hc
  clear hc h
  gi_wp2
  clear c0
  gi_loopw [7] (fun i wr => ∃ k : Nat, k ≤ m ∧ i = .int .i64 k ∧ Hid (J (xs.take k) wr) ∧ Hid (Below w.heap.size w wr)) (fun i _ => m - (intOf i).toNat)
  case atStart => exact ⟨0, Nat.zero_le _, rfl, h0, hW⟩
  case round =>
    obtain ⟨k, hk, rfl, hJs, hB⟩ := hrel
    by_cases hlt : k < m
    · have hki : (k : Int) < (m : Int) := by omega
      obtain ⟨b, off, x, rfl, hb1, hx, q0⟩ := (H.out.keep hB.out).get hlt
      have TK := hide2 (take_snoc hx.out)
      obtain ⟨fn, tmps, assign, body, hy, hR⟩ := hY (xs.take k) x wr hJs.out (by rw [List.length_take, HL.out]; omega)
      have hR' := hR.mono (R' := fun e W' => ∃ bb : Bool, e = .returned (.bool bb) ∧ Hid ((bb = true ∧ J (xs.take k ++ [x]) W' ∧ Below w.heap.size wr W') ∨ (bb = false ∧ Jx (xs.take k ++ [x]) W'))) (by
        rintro e W' (⟨rfl, h1, h2⟩ | ⟨rfl, h1⟩)
        · exact ⟨true, rfl, .inl ⟨rfl, h1, h2⟩⟩
        · exact ⟨false, rfl, .inr ⟨rfl, h1⟩⟩)
      clear hR hx
      dsimp only [encV] at hy
      gi_wp2
      refine hR'.mono ?_
      rintro e W3 ⟨bb, rfl, hbb⟩
      clear hR' hy q0
      cases bb
      · have JX := hide2 (show Jx (xs.take k ++ [x]) W3 by
          rcases hbb.out with ⟨h, _⟩ | ⟨_, h⟩
          · cases h
          · exact h)
        clear hbb
        gi_wp2
        refine bodyPost_ret (results_none rfl _ _ _) rfl ?_
        exact ⟨⟨_, rfl⟩, .inr ⟨_, trivial, JX.out⟩⟩
      · have J3 := hide2 (show J (xs.take (k + 1)) W3 ∧ Below w.heap.size wr W3 by
          rcases hbb.out with ⟨_, h1, h2⟩ | ⟨h, _⟩
          · rw [TK.out]; exact ⟨h1, h2⟩
          · cases h)
        clear hbb
        gi_wp2
        go_roundw
        case rel => exact ⟨k + 1, by omega, by go_num, hide2 J3.out.1, hide2 (hB.out.trans J3.out.2)⟩
        case measure => simp [intOf]; omega
    · obtain rfl : k = m := by omega
      have JE := hide2 (show J xs wr by
        have := hJs.out
        rwa [List.take_of_length_le (by rw [HL.out]; exact Nat.le_refl _)] at this)
      gi_wp2
      go_end0
      exact ⟨⟨_, rfl⟩, .inl ⟨xs, rfl, JE.out⟩⟩

/-- Between two rounds: the box holds a slice of the call's own. -/
def ApI (w : World) (pre : List Int) (W : World) : Prop := ∃ v, Box W w.heap.size 34 #[v] ∧ OwnInts W (w.heap.size + 1) v pre.length pre ∧ Below w.heap.size w W
theorem own_not_row {W : World} {B e size n : Nat} {v : Value} {cells : List Value} (h : W.ownsRow B e size v n cells) {row : Option Nat} (hr : ∀ r, row = some r → ∃ o : Obj, W.heap[r]? = some o ∧ o.isCells = false) : v.ownBlock = none ∨ v.ownBlock ≠ row := by
  rcases h.2 with ⟨rfl, _⟩ | ⟨g, cap, cur, rfl, _, hh, _⟩
  · exact .inl rfl
  · refine .inr fun e => ?_
    obtain ⟨o, ho, hc⟩ := hr g e.symm
    rw [hh] at ho
    injection ho with ho
    rw [← ho] at hc
    cases hc
theorem ApI.from (w : World) : OwnFrom (w.heap.size + 1) (ApI w) := fun s W W' row ⟨v, h1, h2, h3⟩ hg hr => by
  have hr' : ∀ r, row = some r → ∃ o : Obj, W.heap[r]? = some o ∧ o.isCells = false := fun r e => (hr r e).2
  refine ⟨v, (hg.block _ h1.lt (fun e => by have := (hr _ e.symm).1; omega)).trans h1, ?_, h3.grown hg h3.size (fun k e => by have := (hr k e).1; omega)⟩
  obtain ⟨cells, o1, o2, o3⟩ := h2
  exact ⟨cells, o1.kept hg (own_not_row o1 hr'), o2, o3⟩

theorem newCells (W : World) (v : Value) (t : TypeId) : ∀ j u, [v][j]? = some u → (W.alloc (.cells #[v] t)).cell? ((⟨W.heap.size, 0, none⟩ : Addr).add j) = some u := fun j u h => by
  match j, h with
  | 0, h =>
    simp only [List.getElem?_cons_zero, Option.some.injEq] at h
    subst h
    exact (Box.new W #[v] t).cell 0
  | j + 1, h => simp at h
theorem own_cells {W : World} {B e size n : Nat} {v : Value} {cells : List Value} (h : W.ownsRow B e size v n cells) : ∀ (j : Nat) (o : Obj), v.ownBlock = some j → W.heap[j]? = some o → o.isCells = true := fun j o hv ho => by
  rcases h.2 with ⟨rfl, _⟩ | ⟨g, cap, cur, rfl, _, hh, _⟩
  · cases hv
  · injection hv with hv
    subst hv
    rw [hh] at ho
    injection ho with ho
    rw [← ho]; rfl
theorem own_form {W : World} {B e size n : Nat} {v : Value} {cells : List Value} (h : W.ownsRow B e size v n cells) : ∃ A c, v = .slice A n c := by
  rcases h.2 with ⟨rfl, rfl⟩ | ⟨g, cap, cur, rfl, _⟩
  · exact ⟨_, _, rfl⟩
  · exact ⟨_, _, rfl⟩
theorem own_setOther' {W : World} {B e size n : Nat} {v : Value} {cells : List Value} (h : W.ownsRow B e size v n cells) {b : Nat} (hb : v.ownBlock ≠ some b) (i : Nat) (u : Value) : (W.setCell ⟨b, i, none⟩ u).ownsRow B e size v n cells :=
  h.kept (row := some b) ⟨rfl, rfl, rfl, by simp [World.setCell], fun k _ hk => heap_setCell_other _ _ _ _ (fun e => hk (by rw [e]))⟩ (.inr hb)

set_option maxRecDepth 100000 in
set_option maxHeartbeats 2000000 in
theorem appendSeq_calls {w : World} {bx m c : Nat} {A : Option Addr} {xs : List Int} (hb : bx < w.heap.size) (hc : w.cell? ⟨bx, 0, none⟩ = some (.slice A m c)) (h : Ints w A m c xs) (hm : m ≤ 17592186044416) :
    Calls Tryz.prog 48 #[.slice none 0 0, .func (.func 28) #[] #[.pointer (some ⟨bx, 0, none⟩)]] w fun e w' => ∃ v, e = .returned v ∧ OwnInts w' w.heap.size v m xs ∧ Below w.heap.size w w' := by
  have HL := hide2 h.len
  obtain ⟨ii, iz, ih1, ih2, ih3, ih4, ih5⟩ := tyInts.info
  have II := hide2 (And.intro ih1 (And.intro ih2 (And.intro ih3 (And.intro ih4 ih5))))
  clear ih1 ih2 ih3 ih4 ih5
  refine (callsIn_wide (n := 9)).1 ?_
  refine callsIn_of_wp_marks Tryz.func48 rfl trivial ?_ rfl
  simp only [Tryz.ntmps48, List.size_toArray, List.length_cons, List.length_nil, Nat.reduceAdd, Nat.reduceSub, Array.replicate_succ, Array.replicate_zero, List.push_toArray, List.append_toArray, List.nil_append, List.cons_append]
  gi_wp2
  have B0 : Below w.heap.size w (w.alloc (.cells #[.slice none 0 0] 34)) := (Below.refl _ _).alloc (Nat.le_refl _) _
  have X0 : Box (w.alloc (.cells #[.slice none 0 0] 34)) w.heap.size 34 #[.slice none 0 0] := Box.new w _ _
  have SZ : (w.alloc (.cells #[.slice none 0 0] 34)).heap.size = w.heap.size + 1 := by simp
  have HS := values1_stops 8 (by omega) (bx := bx) (m := m) (c := c) (A := A) (xs := xs) hb hc h
  generalize w.alloc (.cells #[.slice none 0 0] 34) = w1 at *
  refine wpIn_rangeFunc_ownF rfl (by omega) (gf := 28) (by simp [go_sem]) trivial (enters_of Tryz.func28 (by kernel_rfl) rfl)
    HS belowK_t (belowK_b (by omega)) B0 (fun _ => rfl)
    (ApI w) (fun _ _ _ => False) (by rw [SZ]; exact ApI.from w) (fun _ _ _ _ _ hs _ _ => hs) ⟨_, X0, OwnSl.nil, B0⟩
    (fun x => { tmps := #[.slice none 0 0, .func (.func 28) #[] #[.pointer (some ⟨bx, 0, none⟩)], .pointer (some ⟨w.heap.size, 0, none⟩), undef, .slice none 0 0, .int .i64 x, .func (.func 28) #[] #[.pointer (some ⟨bx, 0, none⟩)], .int .i64 x, undef, undef, undef, undef, undef], defers := [] }) ?assign ?body ?done ?stop
  case assign =>
    intro l x W K hK
    dsimp only [encV]
    gi_wp2
    exact hK
  case body =>
    rintro l pre x W ⟨v, bx0, own, hB⟩ hpl
    obtain ⟨cells, o1, o2, o3⟩ := own
    have HB := hide2 hB
    have O1 := hide2 o1
    have O2 := hide2 o2
    have BX := hide2 bx0
    have NEW := hide2 (newCells W (.int .i64 x) 3)
    have c0 := bx0.cell 0
    simp only [List.getElem?_toArray, List.getElem?_cons_zero] at c0
    have hbs := hB.size
    have LT := hide2 bx0.lt
    clear hB o1 o2 bx0
    gi_wp2_with (gi_at_builtin; refine wpListIn_append_own _ rfl _ _ 34 rfl (w.heap.size + 1) 3 ii iz 1 8 tyInts.und II.out.1 II.out.2.1 II.out.2.2.1 II.out.2.2.2.1 II.out.2.2.2.2 (by decide) _ _ cells rfl (O1.out.alloc _) ⟨W.heap.size, 0, none⟩ 1 1 [.int .i64 x] rfl rfl NEW.out (by simp [Value.oneCell']) (by simp only [maxLen]; omega) (by omega) (by have := LT.out; simp; omega) ?_; intro v3 w3 own3 hg3 _; obtain ⟨A3, k3, rfl⟩ := own_form own3; have bx3 := (BX.out.old (.cells #[.int .i64 x] 3)).grown hg3 (fun e => by have := (O1.out.lt _ e).1; omega); have c3 := bx3.cell 0; have f3 := bx3.frozen 0; simp only [List.getElem?_toArray, List.getElem?_cons_zero] at c3; have OW3 := hide2 own3; have BX3 := hide2 bx3; have HG3 := hide2 hg3; clear own3 bx3 hg3)
    have KO := hide2 ((KeepsOthers.alloc W (.cells #[.int .i64 x] 3)).trans (KeepsOthers.of_grownBy HG3.out (own_cells (O1.out.alloc _))))
    have B3 := hide2 (((Below.refl w.heap.size W).alloc HB.out.size (.cells #[.int .i64 x] 3)).grown HG3.out (by have := HB.out.size; simp; omega) (fun k e => by have := (O1.out.lt k e).1; omega))
    refine ⟨KO.out.trans (KeepsOthers.setCell _ _ _), B3.out.setCell (p := ⟨w.heap.size, 0, none⟩) (Nat.le_refl _) _, .slice A3 (pre.length + 1) k3, ?_, ?_, (HB.out.trans B3.out).setCell (p := ⟨w.heap.size, 0, none⟩) (Nat.le_refl _) _⟩
    · have := BX3.out.set 0 (.slice A3 (pre.length + 1) k3)
      simpa using this
    · show OwnSl IntR 1 _ (w.heap.size + 1) 3 _ (pre ++ [x]).length (pre ++ [x])
      rw [show (pre ++ [x]).length = pre.length + 1 by simp]
      refine ⟨_, own_setOther' OW3.out (b := w.heap.size) (fun e => by have := (OW3.out.lt _ e).1; omega) 0 _, ?_, by simp⟩
      have := O2.out.append (Reads.one (R := IntR) (w := W) (cs := [.int .i64 x]) (vs := fun _ => .int .i64 x) (x := x) rfl rfl (fun j hj => by obtain rfl : j = 0 := (by omega); rfl))
      exact ⟨this.1, this.2⟩
  case done =>
    rintro D ys W hD rfl ⟨v, bx0, own, hB⟩ hK
    have HB := hide2 hB
    have OW := hide2 own
    have HK := hide2 hK
    have c0 := bx0.cell 0
    simp only [List.getElem?_toArray, List.getElem?_cons_zero] at c0
    clear hB own bx0 hK
    gi_wp2
    refine ⟨by simp, .inl ⟨_, _, rfl, run_takeDeferred HK.out, ?_⟩⟩
    refine ⟨v, by simp [results, Tryz.results48, go_sem], v, rfl, ?_, HB.out.trans (belowK_b (w := w) (Nat.le_refl _) W D _ _ (by omega) HK.out rfl rfl)⟩
    have OB : OwnInts W w.heap.size v m ys := by
      have := OW.out.base (Nat.le_succ w.heap.size)
      rwa [HL.out] at this
    obtain ⟨cells, o1, o2, o3⟩ := OB
    exact ⟨cells, o1.kept (grownBy_putObj' _ _ _) (own_not_row o1 (fun r e => by cases e; exact ⟨_, HK.out, rfl⟩)), o2, o3⟩
  case stop =>
    rintro D c pre W _ _ h _
    exact h.elim

set_option maxRecDepth 100000 in
theorem collect_calls {w : World} {bx m c : Nat} {A : Option Addr} {xs : List Int} (hb : bx < w.heap.size) (hc : w.cell? ⟨bx, 0, none⟩ = some (.slice A m c)) (h : Ints w A m c xs) (hm : m ≤ 17592186044416) :
    Calls Tryz.prog 26 #[.func (.func 28) #[] #[.pointer (some ⟨bx, 0, none⟩)]] w fun e w' => ∃ v, e = .returned v ∧ OwnInts w' w.heap.size v m xs ∧ Below w.heap.size w w' := by
  go_enter Tryz.func26, Tryz.ntmps26
  go_wp2_with (refine (appendSeq_calls hb hc h hm).mono ?_; rintro e w1 ⟨v, rfl, own, hb⟩)
  go_ret
  exact ⟨v, rfl, own, hb⟩
set_option maxRecDepth 100000 in
theorem values_calls (w : World) (A : Option Addr) (n c : Nat) :
    Calls Tryz.prog 10 #[.slice A n c] w fun e w' => e = .returned (.func (.func 28) #[] #[.pointer (some ⟨w.heap.size, 0, none⟩)]) ∧ w' = w.alloc (.cells #[.slice A n c] 34) := by
  go_enter Tryz.func10, Tryz.ntmps10
  go_wp2
  go_ret
  exact ⟨rfl, rfl⟩
end Go.Proofs.YtmabnigdocokmaaGreat
