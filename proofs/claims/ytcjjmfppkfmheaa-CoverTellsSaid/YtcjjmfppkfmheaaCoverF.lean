/- The iterator over a knot and those it comes of. Conditions: the tree's memory lies as it lay when world w0 stood. -/
import Derived.Test.YtcjjmfppkfmheaaCoverE
import Derived.Test.YtcjjmfppkfmheaaCoverD
import Derived.RangeFuncCalls
import Derived.Shelf.Abstract
import Derived.Shelf.RegionOpen
import Derived.WalkKit
import Derived.OwnWalkIn
import Derived.TacticsInMore
import Derived.LoopNIn
import Derived.LoopIn
import Derived.Stop.RegionWithIn
namespace Go.Proofs.Ytcjjmfppkfmheaa
open Go.RowKit
attribute [local go_sem] Oper.semAt_some

/-! ### knots in memory -/
theorem tyKnots : SlTy 34 100 3 40 := SlTy.mk' (z := .agg #[.int .i64 0, .int .i64 0, .slice none 0 0]) Try.underlying34 (by kernel_rfl) rfl (by decide)
def KnotR : World → (Nat → Value) → PKnot → Prop := fun w vs k => vs 0 = .int .i64 k.up ∧ vs 1 = .int .i64 k.tran ∧ ∃ A n c, vs 2 = .slice A n c ∧ Ints w A n c k.mark
theorem KnotR.kept : Kept KnotR := fun _ _ _ _ hb h => by
  obtain ⟨h0, h1, A, n, c, h2, h3⟩ := h
  exact ⟨h0, h1, A, n, c, h2, h3.keep hb⟩
theorem KnotR.good : Good KnotR 3 where
  kept := KnotR.kept
  one := fun w vs x h j hj => by
    obtain ⟨h0, h1, A, n, c, h2, h3⟩ := h
    match j, hj with
    | 0, _ => rw [h0]; rfl
    | 1, _ => rw [h1]; rfl
    | 2, _ => rw [h2]; rfl
  pos := by omega
abbrev Knots (w : World) (A : Option Addr) (n c : Nat) (ks : List PKnot) : Prop := Sl KnotR 3 w A n c ks
theorem Knots.get {w : World} {A : Option Addr} {n c k : Nat} {ks : List PKnot} (h : Knots w A n c ks) (hk : k < n) :
    ∃ b off x B m d, A = some ⟨b, off, none⟩ ∧ b < w.heap.size ∧ Hid (ks[k]? = some x) ∧ w.cell? ⟨b, off + k * 3, none⟩ = some (.int .i64 x.up) ∧ w.cell? ⟨b, off + k * 3 + 1, none⟩ = some (.int .i64 x.tran) ∧ w.cell? ⟨b, off + k * 3 + 2, none⟩ = some (.slice B m d) ∧ Hid (Ints w B m d x.mark) := by
  obtain ⟨b, off, x, vs, h1, h2, h3, h4, e0, e1, B, m, d, e2, e3⟩ := Sl.get h hk
  refine ⟨b, off, x, B, m, d, h1, h2, h3, ?_, ?_, ?_, e3⟩
  · rw [← e0]; exact h4 0 (by omega)
  · rw [← e1]; exact h4 1 (by omega)
  · rw [← e2]; exact h4 2 (by omega)

/-! ### the line from a knot to the first -/
def lineF (ks : List LKnot) (i : Int) : List (List Int) := if i < 0 then [] else match ks[i.toNat]? with
  | some x => x.1.mark :: x.2.reverse
  | none => []
theorem lineF_end (ks : List LKnot) : lineF ks (-1) = [] := by simp [lineF]
theorem lineF_at {ks : List LKnot} {j : Nat} {x : LKnot} (h : ks[j]? = some x) : lineF ks (j : Int) = x.1.mark :: x.2.reverse := by
  unfold lineF
  rw [if_neg (by omega)]
  simp [h]
theorem lineF_next {n most : Nat} {ks : List LKnot} (T : TreeOk n most ks) {j : Nat} {x : LKnot} (h : ks[j]? = some x) : lineF ks (j : Int) = x.1.mark :: lineF ks x.1.up := by
  rw [lineF_at h]
  congr 1
  rcases T.up j x h with ⟨h1, h2⟩ | ⟨u, z, h1, h2, h3, h4⟩
  · rw [h1, h2, lineF_end]; rfl
  · rw [h2, lineF_at h3, h4]; simp
theorem up_lt {n most : Nat} {ks : List LKnot} (T : TreeOk n most ks) {j : Nat} {x : LKnot} (h : ks[j]? = some x) : (x.1.up = -1 ∨ ∃ u : Nat, u < ks.length ∧ x.1.up = (u : Int)) ∧ x.1.up < (j : Int) ∧ -1 ≤ x.1.up := by
  have hj := (List.getElem?_eq_some_iff.1 h).1
  rcases T.up j x h with ⟨h1, h2⟩ | ⟨u, z, h1, h2, h3, h4⟩
  · exact ⟨.inl h1, by omega, by omega⟩
  · exact ⟨.inr ⟨u, by omega, h2⟩, by omega, by omega⟩

/-- The tree in memory: its pointer's block, and its knots. -/
structure TreeAt (w : World) (bT : Nat) (A : Option Addr) (n c : Nat) (ks : List LKnot) : Prop where
  low : bT < w.heap.size
  cell : w.cell? ⟨bT, 2, none⟩ = some (.slice A n c)
  knots : Knots w A n c (ks.map fun x => x.1)
theorem TreeAt.keep {w w' : World} {bT : Nat} {A : Option Addr} {n c : Nat} {ks : List LKnot} (h : TreeAt w bT A n c ks) (hb : Below w.heap.size w w') : TreeAt w' bT A n c ks :=
  ⟨Nat.lt_of_lt_of_le h.low hb.size, (hb.cell (p := ⟨bT, 2, none⟩) h.low).trans h.cell, Sl.keep KnotR.kept h.knots hb⟩

/-- A mark that one is handed: a slice, and what it read as when w0 stood, one of the line. -/
abbrev Handed (w0 : World) (L : List (List Int)) := { x : (Option Addr × Nat × Nat) × List Int // Ints w0 x.1.1 x.1.2.1 x.1.2.2 x.2 ∧ x.2 ∈ L }
def encH {w0 : World} {L : List (List Int)} (x : Handed w0 L) : Array Value := #[.slice x.1.1.1 x.1.1.2.1 x.1.1.2.2]
def valsH {w0 : World} {L : List (List Int)} (xs : List (Handed w0 L)) : List (List Int) := xs.map fun x => x.1.2

/-- What a round that goes on keeps: all below N, and two blocks. -/
def KpAt (N b1 b2 : Nat) (W W' : World) : Prop := Below N W W' ∧ W'.heap[b1]? = W.heap[b1]? ∧ W'.heap[b2]? = W.heap[b2]?
theorem KpAt.trans {N b1 b2 : Nat} {A B C : World} (h : KpAt N b1 b2 A B) (g : KpAt N b1 b2 B C) : KpAt N b1 b2 A C := ⟨h.1.trans g.1, g.2.1.trans h.2.1, g.2.2.trans h.2.2⟩
theorem cell_of_heap {W W' : World} {b : Nat} (h : W'.heap[b]? = W.heap[b]?) (j : Nat) : W'.cell? ⟨b, j, none⟩ = W.cell? ⟨b, j, none⟩ := by simp [World.cell?, h]
theorem frozen_of_heap {W W' : World} {b : Nat} (h : W'.heap[b]? = W.heap[b]?) (j : Nat) : W'.frozen? ⟨b, j, none⟩ = W.frozen? ⟨b, j, none⟩ := by simp [World.frozen?, h]

def knotLeft (b : Nat) (W : World) : Nat := match W.cell? ⟨b, 0, none⟩ with
  | some (.int _ i) => (i + 1).toNat
  | _ => 0
theorem grownDrew' (w : World) (row : Option Nat) : w.grownBy w.drew row := ⟨rfl, rfl, rfl, Nat.le_refl _, fun _ _ _ => rfl⟩
theorem knotLeft_eq {b : Nat} {W : World} {i : Int} (h : W.cell? ⟨b, 0, none⟩ = some (.int .i64 i)) : knotLeft b W = (i + 1).toNat := by simp [knotLeft, h]

set_option maxRecDepth 100000 in
set_option maxHeartbeats 2000000 in
theorem ahead1_stops (n : Nat) (hn : 1 ≤ n) {nn most : Nat} {ks : List LKnot} (T : TreeOk nn most ks) {w0 : World} {bT m c : Nat} {A : Option Addr} (hT : TreeAt w0 bT A m c ks) {bk bt : Nat} {w : World} (hb : Below w0.heap.size w0 w)
    {i0 : Int} (hi0 : i0 = -1 ∨ ∃ j : Nat, j < ks.length ∧ i0 = (j : Int)) (hk0 : w0.heap.size ≤ bk) (ht0 : w0.heap.size ≤ bt) (hkt : bk ≠ bt) (hk1 : bk < w.heap.size) (ht1 : bt < w.heap.size)
    (ck : w.cell? ⟨bk, 0, none⟩ = some (.int .i64 i0)) (fk : w.frozen? ⟨bk, 0, none⟩ = false) (ct : w.cell? ⟨bt, 0, none⟩ = some (.pointer (some ⟨bT, 0, none⟩))) :
    SeqStopsAt n Try.prog 177 #[.pointer (some ⟨bk, 0, none⟩), .pointer (some ⟨bt, 0, none⟩)] bk (encH (w0 := w0) (L := lineF ks i0)) (KpAt w0.heap.size bk bt) (fun ys => valsH ys = lineF ks i0) (fun pre => valsH pre <+: lineF ks i0) (lineF ks i0).length w := by
  intro l J Jx W hW hJ hJx hJb hY h0
  have hlen : ks.length = m := by have := hT.knots.len; simpa using this
  refine callsIn_of_wp Try.func177 rfl trivial ?_ rfl
  simp only [Try.ntmps177, List.size_toArray, List.length_cons, List.length_nil, Nat.reduceAdd, Nat.reduceSub, Array.replicate_succ, Array.replicate_zero, List.push_toArray, List.append_toArray, List.nil_append, List.cons_append]
  gi_wp2
  gi_loopw [4] (fun p wr => ∃ (pre : List (Handed w0 (lineF ks i0))) (i : Int), (i = -1 ∨ ∃ j : Nat, j < ks.length ∧ i = (j : Int)) ∧ Hid (valsH pre ++ lineF ks i = lineF ks i0) ∧ Hid (J pre wr) ∧ Hid (Below w0.heap.size w0 wr) ∧ wr.cell? ⟨bk, 0, none⟩ = some (.int .i64 i) ∧ wr.frozen? ⟨bk, 0, none⟩ = false ∧ wr.cell? ⟨bt, 0, none⟩ = some (.pointer (some ⟨bT, 0, none⟩)))
    (fun p wr => knotLeft bk wr)
  case atStart =>
    exact ⟨[], i0, hi0, rfl, h0, hb.trans (hW.mono hb.size), (hW.cell (p := ⟨bk, 0, none⟩) hk1).trans ck, (hW.frozen (p := ⟨bk, 0, none⟩) hk1).trans fk, (hW.cell (p := ⟨bt, 0, none⟩) ht1).trans ct⟩
  case round =>
    obtain ⟨pre, i, hi, hx, hJs, hB, ck', fk', ct'⟩ := hrel
    rcases hi with rfl | ⟨j, hj, rfl⟩
    · gi_wp2
      go_end0
      exact ⟨⟨_, rfl⟩, .inl ⟨pre, by have := hx.out; rw [lineF_end, List.append_nil] at this; exact this, hJs.out⟩⟩
    · obtain ⟨b, off, x, B, k, d, rfl, hb1, hx1, q0, q1, q2, hI⟩ := hT.knots.get (k := j) (by omega)
      obtain ⟨X, hX⟩ : ∃ X, ks[j]? = some X := ⟨_, List.getElem?_eq_getElem hj⟩
      have hXx : X.1 = x := by have := hx1.out; rw [List.getElem?_map, hX] at this; simpa using this
      have HX := hide2 hX
      subst hXx
      clear hX
      have hj0 : (0 : Int) ≤ (j : Int) := by omega
      have hjm : (j : Int) < (m : Int) := by omega
      have D := hide2 (show Below w0.heap.size w0 wr.drew from hB.out.drew)
      have hlow := hT.low
      have c2 : wr.drew.cell? ⟨bT, 2, none⟩ = some (.slice (some ⟨b, off, none⟩) m c) := (D.out.cell (p := ⟨bT, 2, none⟩) hlow).trans hT.cell
      have c3 : wr.drew.cell? ⟨b, off + j * 3 + 2, none⟩ = some (.slice B k d) := (D.out.cell (p := ⟨b, _, none⟩) hb1).trans q2
      have ck2 : wr.drew.cell? ⟨bk, 0, none⟩ = some (.int .i64 (j : Int)) := ck'
      have ct2 : wr.drew.cell? ⟨bt, 0, none⟩ = some (.pointer (some ⟨bT, 0, none⟩)) := ct'
      have ck1 := hide2 ck'
      have hlen1 : pre.length < (lineF ks i0).length := by
        have := congrArg List.length hx.out
        rw [lineF_at HX.out] at this
        simp [valsH] at this
        omega
      have HM : Ints w0 B k d X.1.mark ∧ X.1.mark ∈ lineF ks i0 := ⟨hI.out, by rw [← hx.out, lineF_at HX.out]; simp⟩
      obtain ⟨fn, tmps, assign, body, hy, hR⟩ := hY pre (⟨((B, k, d), X.1.mark), HM⟩ : Handed w0 (lineF ks i0)) wr.drew (hJ _ _ _ none hJs.out (grownDrew' _ _) (fun r e => by cases e)) hlen1
      have hR' := hR.mono (R' := fun e W' => ∃ bb : Bool, e = .returned (.bool bb) ∧ Hid ((bb = true ∧ J (pre ++ [⟨((B, k, d), X.1.mark), HM⟩]) W' ∧ KpAt w0.heap.size bk bt wr.drew W') ∨ (bb = false ∧ Jx (pre ++ [⟨((B, k, d), X.1.mark), HM⟩]) W'))) (by
        rintro e W' (⟨rfl, h1, h2⟩ | ⟨rfl, h1⟩)
        · exact ⟨true, rfl, .inl ⟨rfl, h1, h2⟩⟩
        · exact ⟨false, rfl, .inr ⟨rfl, h1⟩⟩)
      clear hR
      dsimp only [encH] at hy
      gi_wp2
      gi_region_with (refine hR'.mono ?_; rintro e W3 ⟨bb, rfl, hbb⟩)
      all_goals
        rcases hbb.out with ⟨rfl, hJ3, hk3⟩ | ⟨rfl, hJx3⟩
        · clear hbb hR' hy
          have D3 := hide2 (D.out.trans hk3.1)
          have J3 := hide2 hJ3
          have e2 : W3.drew.cell? ⟨bT, 2, none⟩ = some (.slice (some ⟨b, off, none⟩) m c) := (D3.out.drew.cell (p := ⟨bT, 2, none⟩) hlow).trans hT.cell
          have e3 : W3.drew.cell? ⟨b, off + j * 3, none⟩ = some (.int .i64 X.1.up) := (D3.out.drew.cell (p := ⟨b, _, none⟩) hb1).trans q0
          have ek : W3.drew.cell? ⟨bk, 0, none⟩ = some (.int .i64 (j : Int)) := (cell_of_heap hk3.2.1 0).trans ck'
          have ef : W3.drew.frozen? ⟨bk, 0, none⟩ = false := (frozen_of_heap hk3.2.1 0).trans fk'
          have et : W3.drew.cell? ⟨bt, 0, none⟩ = some (.pointer (some ⟨bT, 0, none⟩)) := (cell_of_heap hk3.2.2 0).trans ct'
          have EK : Hid (W3.cell? ⟨bk, 0, none⟩ = some (.int .i64 (j : Int))) := hide2 ek
          have EF : Hid (W3.frozen? ⟨bk, 0, none⟩ = false) := hide2 ef
          have ET : Hid (W3.cell? ⟨bt, 0, none⟩ = some (.pointer (some ⟨bT, 0, none⟩))) := hide2 et
          clear hJ3 hk3 c2 c3 ck2 ct2 ck' ct' fk'
          gi_wp2
          gi_region_with (skip)
          all_goals
            gi_wp2
            go_roundw
            case rel =>
              refine ⟨pre ++ [⟨((B, k, d), X.1.mark), HM⟩], X.1.up, (up_lt T HX.out).1, ?_, hJ _ _ _ none (hJb _ _ _ J3.out) (grownDrew' _ _) (fun r e => by cases e), (D3.out.setCell (p := ⟨bk, 0, none⟩) hk0 _).drew, World.cell?_setCell_same' W3 ⟨bk, 0, none⟩ (.int .i64 X.1.up) (by rw [EK.out]; rfl), (World.frozen?_setCell W3 ⟨bk, 0, none⟩ ⟨bk, 0, none⟩ (.int .i64 X.1.up)).trans EF.out, (World.cell?_setCell_other W3 ⟨bk, 0, none⟩ ⟨bt, 0, none⟩ (.int .i64 X.1.up) (fun e => hkt (by cases e; rfl))).trans ET.out⟩
              have := hx.out
              rw [lineF_next T HX.out] at this
              simp only [valsH, List.map_append, List.map_cons, List.map_nil, List.append_assoc, List.singleton_append] at this ⊢
              exact this
            case measure =>
              have h1 := (up_lt T HX.out).2
              refine Nat.lt_of_le_of_lt (Nat.le_of_eq (knotLeft_eq (i := X.1.up) (World.cell?_setCell_same' W3 ⟨bk, 0, none⟩ (.int .i64 X.1.up) (by rw [EK.out]; rfl)))) (Nat.lt_of_lt_of_le ?_ (Nat.le_of_eq (knotLeft_eq ck1.out).symm))
              omega
        · clear hbb hR' hy
          gi_wp2
          refine bodyPost_ret (results_none rfl _ _ _) rfl ?_
          refine ⟨⟨_, rfl⟩, .inr ⟨_, ?_, hJx3⟩⟩
          have hx2 := hx.out
          rw [lineF_at HX.out] at hx2
          exact ⟨X.2.reverse, Eq.trans (by simp [valsH]) hx2⟩

theorem newCell (W : World) (v : Value) (t : TypeId) : (W.alloc (.cells #[v] t)).cell? ⟨W.heap.size, 0, none⟩ = some v ∧ (W.alloc (.cells #[v] t)).frozen? ⟨W.heap.size, 0, none⟩ = false := by
  have h := World.alloc_heap_new W (.cells #[v] t)
  generalize W.alloc (.cells #[v] t) = U at *
  constructor <;> simp [World.cell?, World.frozen?, h]
set_option maxRecDepth 100000 in
/-- What ahead hands back: the iterator, over two boxes of its own. -/
theorem ahead_calls (w : World) (p : Option Addr) (i : Int) : Calls Try.prog 136 #[.pointer p, .int .i64 i] w fun e w' =>
    e = .returned (.func (.func 177) #[] #[.pointer (some ⟨w.heap.size + 1, 0, none⟩), .pointer (some ⟨w.heap.size, 0, none⟩)]) ∧
    w'.cell? ⟨w.heap.size + 1, 0, none⟩ = some (.int .i64 i) ∧ w'.frozen? ⟨w.heap.size + 1, 0, none⟩ = false ∧ w'.cell? ⟨w.heap.size, 0, none⟩ = some (.pointer p) ∧ w'.heap.size = w.heap.size + 2 ∧ Below w.heap.size w w' ∧ w.grownBy w' none := by
  go_enter Try.func136, Try.ntmps136
  go_wp2
  go_ret
  refine ⟨rfl, ?_, ?_, ?_, by simp, ((Below.refl _ w).alloc (Nat.le_refl _) _).alloc (by simp) _, (World.grownBy_alloc w _ none).trans (World.grownBy_alloc _ _ none)⟩
  · have := (newCell (w.alloc (.cells #[.pointer p] 97)) (.int .i64 i) 3).1
    rwa [World.size_alloc] at this
  · have := (newCell (w.alloc (.cells #[.pointer p] 97)) (.int .i64 i) 3).2
    rwa [World.size_alloc] at this
  · exact (((Below.refl (w.heap.size + 1) (w.alloc (.cells #[.pointer p] 97))).alloc (by simp) (.cells #[.int .i64 i] 3)).cell (p := ⟨w.heap.size, 0, none⟩) (by simp)).trans (newCell w (.pointer p) 97).1
end Go.Proofs.Ytcjjmfppkfmheaa
