/- Whether a knot's mark is that of one it comes of. -/
import Derived.Test.YtcjjmfppkfmheaaCoverF
import Derived.Test.YtcjjmfppkfmheaaMarkE
namespace Go.Proofs.Ytcjjmfppkfmheaa
open Go.RowKit
attribute [local go_sem] Oper.semAt_some

theorem any_rev {xs : List (List Int)} {m : List Int} : (xs.reverse.any fun y => y == m) = xs.any fun y => y == m := by
  rw [List.any_reverse]
theorem seenK_line {n most : Nat} {ks : List LKnot} (T : TreeOk n most ks) {j : Nat} {x : LKnot} (h : ks[j]? = some x) : seenK x = (lineF ks x.1.up).any fun y => y == x.1.mark := by
  have h1 := lineF_next T h
  rw [lineF_at h] at h1
  have h2 : x.2.reverse = lineF ks x.1.up := by simpa using h1
  rw [← h2, any_rev]
  rfl

theorem ne_block {b b' : Nat} (h : b ≠ b') : (⟨b, 0, none⟩ : Addr) ≠ ⟨b', 0, none⟩ := fun e => h (congrArg Addr.block e)
theorem threeNew (w : World) (v1 v2 v3 : Value) (t1 t2 t3 : TypeId) : ∃ w1, w1 = ((w.alloc (.cells #[v1] t1)).alloc (.cells #[v2] t2)).alloc (.cells #[v3] t3) ∧ w1.heap.size = w.heap.size + 3 ∧ Below w.heap.size w w1 ∧
    w1.cell? ⟨w.heap.size, 0, none⟩ = some v1 ∧ w1.frozen? ⟨w.heap.size, 0, none⟩ = false ∧ w1.cell? ⟨w.heap.size + 1, 0, none⟩ = some v2 ∧ w1.frozen? ⟨w.heap.size + 1, 0, none⟩ = false ∧ w1.cell? ⟨w.heap.size + 1 + 1, 0, none⟩ = some v3 ∧ w1.frozen? ⟨w.heap.size + 1 + 1, 0, none⟩ = false := by
  have n1 := newCell w v1 t1
  have n2 := newCell (w.alloc (.cells #[v1] t1)) v2 t2
  have n3 := newCell ((w.alloc (.cells #[v1] t1)).alloc (.cells #[v2] t2)) v3 t3
  simp only [World.size_alloc] at n2 n3
  have b2 := (Below.refl (w.heap.size + 1) (w.alloc (.cells #[v1] t1))).alloc (by simp) (.cells #[v2] t2)
  have b3 := (Below.refl (w.heap.size + 1 + 1) ((w.alloc (.cells #[v1] t1)).alloc (.cells #[v2] t2))).alloc (by simp) (.cells #[v3] t3)
  refine ⟨_, rfl, by simp, (((Below.refl _ w).alloc (Nat.le_refl _) _).alloc (by simp) _).alloc (by simp; omega) _, ?_, ?_, ?_, ?_, n3.1, n3.2⟩
  · exact (b3.cell (p := ⟨w.heap.size, 0, none⟩) (Nat.lt_succ_of_lt (Nat.lt_succ_self _))).trans ((b2.cell (p := ⟨w.heap.size, 0, none⟩) (by simp)).trans n1.1)
  · exact (b3.frozen (p := ⟨w.heap.size, 0, none⟩) (Nat.lt_succ_of_lt (Nat.lt_succ_self _))).trans ((b2.frozen (p := ⟨w.heap.size, 0, none⟩) (by simp)).trans n1.2)
  · exact (b3.cell (p := ⟨w.heap.size + 1, 0, none⟩) (by simp)).trans n2.1
  · exact (b3.frozen (p := ⟨w.heap.size + 1, 0, none⟩) (by simp)).trans n2.2

set_option maxRecDepth 100000 in
set_option maxHeartbeats 2000000 in
theorem again_calls {nn most : Nat} {ks : List LKnot} (T : TreeOk nn most ks) {w : World} {bT m c : Nat} {A : Option Addr} (hT : TreeAt w bT A m c ks) {j : Nat} {x : LKnot} (hx : ks[j]? = some x) :
    Calls Try.prog 57 #[.pointer (some ⟨bT, 0, none⟩), .int .i64 (j : Int)] w fun e w' => e = .returned (.bool (seenK x)) ∧ Below w.heap.size w w' := by
  have hlen : ks.length = m := by have := hT.knots.len; simpa using this
  have hj : j < ks.length := (List.getElem?_eq_some_iff.1 hx).1
  obtain ⟨b, off, X, B, k, d, rfl, hb1, hx1, q0, q1, q2, hI⟩ := hT.knots.get (k := j) (by omega)
  have hXx : x.1 = X := by have := hx1.out; rw [List.getElem?_map, hx] at this; simpa using this
  subst hXx
  have hj0 : (0 : Int) ≤ (j : Int) := by omega
  have hjm : (j : Int) < (m : Int) := by omega
  have hlow := hT.low
  have HX := hide2 hx
  have HL := hide2 hlen
  have U1 := hide2 (up_lt T hx).1
  have SK := hide2 (seenK_line T hx)
  have cT := hT.cell
  clear hx hlen
  obtain ⟨z, hz⟩ : ∃ z, z = w.heap.size := ⟨_, rfl⟩
  refine (callsIn_wide (n := 9)).1 ?_
  refine callsIn_of_wp_marks Try.func57 rfl trivial ?_ rfl
  simp only [Try.ntmps57, List.size_toArray, List.length_cons, List.length_nil, Nat.reduceAdd, Nat.reduceSub, Array.replicate_succ, Array.replicate_zero, List.push_toArray, List.append_toArray, List.nil_append, List.cons_append]
  gi_wp2
  obtain ⟨w1, hw1, hs1, hB1, c0, f0, c1, f1, c2, f2⟩ := threeNew w (.pointer (some ⟨bT, 0, none⟩)) (.int .i64 (j : Int)) (.bool false) 97 3 4
  rw [← hw1]
  clear hw1
  have S0 : Hid (w1.drew.heap.size = w.heap.size + 3) := hs1
  have B0 : Hid (Below w.heap.size w w1.drew) := hide2 hB1.drew
  have e0 : w1.drew.cell? ⟨w.heap.size, 0, none⟩ = some (.pointer (some ⟨bT, 0, none⟩)) := c0
  have e1 : w1.drew.cell? ⟨w.heap.size + 1, 0, none⟩ = some (.int .i64 (j : Int)) := c1
  have e2 : w1.drew.cell? ⟨bT, 2, none⟩ = some (.slice (some ⟨b, off, none⟩) m c) := (hB1.cell (p := ⟨bT, 2, none⟩) hlow).trans cT
  have e3 : w1.drew.cell? ⟨b, off + j * 3, none⟩ = some (.int .i64 x.1.up) := (hB1.cell (p := ⟨b, _, none⟩) hb1).trans q0
  have C0 := hide2 e0
  have C1 := hide2 e1
  have C2 : Hid (w1.drew.cell? ⟨w.heap.size + 1 + 1, 0, none⟩ = some (.bool false)) := c2
  have G2 : Hid (w1.drew.frozen? ⟨w.heap.size + 1 + 1, 0, none⟩ = false) := f2
  clear c0 f0 c1 f1 c2 f2 hs1 hB1
  refine wpInW_region_scr 9 (.takes [0, 1, 2, 3, 4, 5, 6, 7, 8] (.fin 9 .done)) (fun w' => w'.cell? ⟨w.heap.size, 0, none⟩ = some (.pointer (some ⟨bT, 0, none⟩)) ∧ w'.cell? ⟨w.heap.size + 1, 0, none⟩ = some (.int .i64 (j : Int)) ∧ w'.cell? ⟨bT, 2, none⟩ = some (.slice (some ⟨b, off, none⟩) m c) ∧ w'.cell? ⟨b, off + j * 3, none⟩ = some (.int .i64 x.1.up)) (by kernel_rfl) (by kernel_rfl) (by kernel_rfl) ⟨e0, e1, e2, e3⟩ (fun hHeld => ?_)
  simp only [Scr.takes]
  generalize w1.drew = u0 at *
  clear w1
  iterate 9
    refine tkTake (v := ?_) rfl (by rfl) hHeld (fun w' hSw => ?_) ?_
    rotate_left
    · (go_simp; try with_reducible rfl)
    try simp only [Act.put, List.setIfInBounds_toArray, List.set_cons_zero, List.set_cons_succ]
  refine tkEnd rfl (fun Kf hKf => ?_)
  go_simp
  refine (ahead_calls _ _ _).mono ?_
  rintro e w2 ⟨rfl, d1, g1, d0, s2, B2, gr⟩
  refine hKf.out _ _ ?_
  clear hKf hHeld e0 e1 e2 e3
  refine tkDone ?_
  simp only [onlyNormal]
  rw [S0.out] at d1 g1 d0 s2 B2 ⊢
  have hb2 : Below w.heap.size w w2 := B0.out.trans (B2.mono (by omega))
  have c0 : w2.cell? ⟨w.heap.size, 0, none⟩ = some (.pointer (some ⟨bT, 0, none⟩)) := (B2.cell (p := ⟨w.heap.size, 0, none⟩) (show w.heap.size < w.heap.size + 3 by omega)).trans C0.out
  have c1 : w2.cell? ⟨w.heap.size + 1, 0, none⟩ = some (.int .i64 (j : Int)) := (B2.cell (p := ⟨w.heap.size + 1, 0, none⟩) (show w.heap.size + 1 < w.heap.size + 3 by omega)).trans C1.out
  have c2 : w2.cell? ⟨w.heap.size + 1 + 1, 0, none⟩ = some (.bool false) := (B2.cell (p := ⟨w.heap.size + 1 + 1, 0, none⟩) (show w.heap.size + 1 + 1 < w.heap.size + 3 by omega)).trans C2.out
  have f2 : w2.frozen? ⟨w.heap.size + 1 + 1, 0, none⟩ = false := (B2.frozen (p := ⟨w.heap.size + 1 + 1, 0, none⟩) (show w.heap.size + 1 + 1 < w.heap.size + 3 by omega)).trans G2.out
  gi_wp2
  refine wpIn_rangeFunc_at (gf := 177) rfl (enters_of Try.func177 (by kernel_rfl) rfl)
    (ahead1_stops 8 (by omega) T hT hb2 U1.out (by omega) (by omega) (by omega) (by omega) (by omega) d1 g1 d0)
    (fun h g => h.trans g) (fun W l o o' hl ho h1 h2 => ⟨belowK_b (w := w2) (by omega) W l o o' hl ho h1 h2, World.putObj_heap_other (by omega), World.putObj_heap_other (by omega)⟩) (fun _ => rfl)
    (fun pre W => (W.cell? ⟨w.heap.size, 0, none⟩ = some (.pointer (some ⟨bT, 0, none⟩)) ∧ W.cell? ⟨w.heap.size + 1, 0, none⟩ = some (.int .i64 (j : Int)) ∧ W.cell? ⟨w.heap.size + 1 + 1, 0, none⟩ = some (.bool false) ∧ W.frozen? ⟨w.heap.size + 1 + 1, 0, none⟩ = false) ∧ Below w.heap.size w W ∧ ∀ y, y ∈ valsH pre → (y == x.1.mark) = false)
    (fun c pre W => (c = .ret ∧ W.cell? ⟨w.heap.size + 1 + 1, 0, none⟩ = some (.bool true) ∧ x.1.mark ∈ valsH pre) ∧ Below w.heap.size w W)
    (fun s A B row hs hg hr => ⟨⟨cell_kept hs.1.1 hg (fun r e => (hr r e).2), cell_kept hs.1.2.1 hg (fun r e => (hr r e).2), cell_kept hs.1.2.2.1 hg (fun r e => (hr r e).2), (frozen_kept hs.1.2.2.1 hg (fun r e => (hr r e).2)).trans hs.1.2.2.2⟩, ownFrom_below (β := Unit) (Nat.le_refl _) (by omega) () A B row hs.2.1 hg hr, hs.2.2⟩)
    (fun s W v hs => ⟨⟨(World.cell?_setCell_other W ⟨w.heap.size + 3 + 1, 0, none⟩ ⟨w.heap.size, 0, none⟩ v (ne_block (by omega))).trans hs.1.1, (World.cell?_setCell_other W ⟨w.heap.size + 3 + 1, 0, none⟩ ⟨w.heap.size + 1, 0, none⟩ v (ne_block (by omega))).trans hs.1.2.1, (World.cell?_setCell_other W ⟨w.heap.size + 3 + 1, 0, none⟩ ⟨w.heap.size + 1 + 1, 0, none⟩ v (ne_block (by omega))).trans hs.1.2.2.1, (World.frozen?_setCell W ⟨w.heap.size + 3 + 1, 0, none⟩ ⟨w.heap.size + 1 + 1, 0, none⟩ v).trans hs.1.2.2.2⟩, hs.2.1.setCell (p := ⟨w.heap.size + 3 + 1, 0, none⟩) (show w.heap.size ≤ w.heap.size + 3 + 1 by omega) v, hs.2.2⟩)
    (fun c s A B row hs hg hr => ⟨⟨hs.1.1, cell_kept hs.1.2.1 hg (fun r e => (hr r e).2), hs.1.2.2⟩, ownFrom_below (β := Unit) (Nat.le_refl _) (by omega) () A B row hs.2 hg hr⟩)
    ⟨⟨c0, c1, c2, f2⟩, hb2, fun y hy => by simp [valsH] at hy⟩
    (fun y => { tmps := #[.pointer (some ⟨bT, 0, none⟩), .int .i64 (j : Int), .pointer (some ⟨w.heap.size, 0, none⟩), .pointer (some ⟨w.heap.size + 1, 0, none⟩), .pointer (some ⟨w.heap.size + 1 + 1, 0, none⟩), .slice y.1.1.1 y.1.1.2.1 y.1.1.2.2, .pointer (some ⟨bT, 0, none⟩), .pointer (some ⟨bT, 0, none⟩), .pointer (some ⟨bT, 0, none⟩), .pointer (some ⟨bT, 2, none⟩), .slice (some ⟨b, off, none⟩) m c, .int .i64 (j : Int), .pointer (some ⟨b, off + j * 3, none⟩), .pointer (some ⟨b, off + j * 3, none⟩), .int .i64 x.1.up, .func (.func 177) #[] #[.pointer (some ⟨w.heap.size + 3 + 1, 0, none⟩), .pointer (some ⟨w.heap.size + 3, 0, none⟩)], .slice y.1.1.1 y.1.1.2.1 y.1.1.2.2, undef, undef, undef, undef, undef, undef, undef, undef, undef, undef], defers := [] }) ?assign ?body ?done ?stop
  case assign =>
    intro l y W K hK
    dsimp only [encH]
    gi_wp2
    exact hK
  case body =>
    rintro l pre ⟨⟨⟨B', n', c'⟩, ys⟩, hy⟩ W ⟨⟨k0, k1, k2, k3⟩, hBW, hne⟩ _
    have HY := hide2 hy.1
    have VS := hide2 (show valsH (pre ++ [(⟨((B', n', c'), ys), hy⟩ : Handed w (lineF ks x.1.up))]) = valsH pre ++ [ys] by simp [valsH])
    generalize pre ++ [(⟨((B', n', c'), ys), hy⟩ : Handed w (lineF ks x.1.up))] = P' at VS ⊢
    dsimp only
    have BW := hide2 hBW
    have NE := hide2 hne
    have K0 := hide2 k0
    have K1 := hide2 k1
    have K2 := hide2 k2
    have K3 := hide2 k3
    have e0 : W.drew.cell? ⟨w.heap.size, 0, none⟩ = some (.pointer (some ⟨bT, 0, none⟩)) := k0
    have e1 : W.drew.cell? ⟨w.heap.size + 1, 0, none⟩ = some (.int .i64 (j : Int)) := k1
    have e2 : W.drew.cell? ⟨bT, 2, none⟩ = some (.slice (some ⟨b, off, none⟩) m c) := (hBW.cell (p := ⟨bT, 2, none⟩) hlow).trans cT
    have e3 : W.drew.cell? ⟨b, off + j * 3 + 2, none⟩ = some (.slice B k d) := (hBW.cell (p := ⟨b, _, none⟩) hb1).trans q2
    clear hy hne hBW k0 k1 k2 k3 c0 c1 c2 f2 d0 d1 g1
    gi_wp2
    refine wpInR_region_scr 9 (.takes [0, 1, 2, 3, 4, 5, 6, 7, 8] (.fin 9 .done)) (fun w' => w'.cell? ⟨w.heap.size, 0, none⟩ = some (.pointer (some ⟨bT, 0, none⟩)) ∧ w'.cell? ⟨w.heap.size + 1, 0, none⟩ = some (.int .i64 (j : Int)) ∧ w'.cell? ⟨bT, 2, none⟩ = some (.slice (some ⟨b, off, none⟩) m c) ∧ w'.cell? ⟨b, off + j * 3 + 2, none⟩ = some (.slice B k d)) (by kernel_rfl) (by kernel_rfl) (by kernel_rfl) (by kernel_rfl) ⟨e0, e1, e2, e3⟩ (fun hHeld => ?_)
    simp only [Scr.takes]
    iterate 9
      refine tkTake (v := ?_) rfl (by rfl) hHeld (fun w' hSw => ?_) ?_
      rotate_left
      · (go_simp; try with_reducible rfl)
      try simp only [Act.put, List.setIfInBounds_toArray, List.set_cons_zero, List.set_cons_succ]
    refine tkEnd rfl (fun Kf hKf => ?_)
    go_simp
    refine (equalInts_calls (HY.out.keep BW.out.drew) (hI.out.keep BW.out.drew)).mono ?_
    rintro e W3 ⟨rfl, q, rfl⟩
    obtain ⟨r, hr⟩ : ∃ r, (ys == x.1.mark) = r := ⟨_, rfl⟩
    rw [hr]
    have HR := hide2 hr
    refine hKf.out _ _ ?_
    clear hKf hHeld e0 e1 e2 e3 hr
    refine tkDone ?_
    simp only [onlyNormal]
    have KO : Hid (KeepsOthers W (W.drew.drewN q)) := ⟨Nat.le_refl _, fun _ _ h _ => h⟩
    have BW4 : Hid (Below w.heap.size w (W.drew.drewN q)) := BW.out.drew.trans ((Drew.drewN W.drew q).below.mono (show w.heap.size ≤ W.heap.size from BW.out.size))
    have k2' : (W.drew.drewN q).cell? ⟨w.heap.size + 1 + 1, 0, none⟩ = some (.bool false) := K2.out
    have k3' : (W.drew.drewN q).frozen? ⟨w.heap.size + 1 + 1, 0, none⟩ = false := K3.out
    have KP4 : Hid (KpAt w.heap.size (w.heap.size + 3 + 1) (w.heap.size + 3) W (W.drew.drewN q)) := ⟨((Below.refl W.heap.size W).drew.trans (Drew.drewN W.drew q).below).mono BW.out.size, rfl, rfl⟩
    have J0 : Hid ((W.drew.drewN q).cell? ⟨w.heap.size, 0, none⟩ = some (.pointer (some ⟨bT, 0, none⟩))) := K0.out
    have J1 : Hid ((W.drew.drewN q).cell? ⟨w.heap.size + 1, 0, none⟩ = some (.int .i64 (j : Int))) := K1.out
    generalize W.drew.drewN q = W4 at *
    have J2 := hide2 k2'
    have J3 := hide2 k3'
    cases r with
    | true =>
      gi_wp2
      refine ⟨KO.out.trans (KeepsOthers.setCell _ _ _), ⟨rfl, World.cell?_setCell_same' W4 ⟨w.heap.size + 1 + 1, 0, none⟩ (.bool true) (by rw [J2.out]; rfl), ?_⟩, BW4.out.setCell (p := ⟨w.heap.size + 1 + 1, 0, none⟩) (show w.heap.size ≤ w.heap.size + 1 + 1 by omega) _⟩
      rw [VS.out, ← eq_of_beq HR.out]
      simp
    | false =>
      gi_wp2
      refine ⟨KO.out, KP4.out, ⟨J0.out, J1.out, J2.out, J3.out⟩, BW4.out, fun y hy => ?_⟩
      rw [VS.out, List.mem_append] at hy
      rcases hy with hy | hy
      · exact NE.out y hy
      · rw [List.mem_singleton.1 hy]; exact HR.out
  case done =>
    rintro D ys W hD hS ⟨⟨k0, k1, k2, k3⟩, hBW, hne⟩ hK
    have BW := hide2 hBW
    have NE := hide2 hne
    have HS := hide2 hS
    have HK := hide2 hK
    clear hne hBW hS hK c0 c1 c2 f2 d0 d1 g1
    gi_wp2
    have hK' := (KeepsOthers.setCell W ⟨w.heap.size + 1 + 1, 0, none⟩ (.bool false)).same D _ HK.out rfl
    refine ⟨by simp, .inl ⟨_, _, rfl, run_takeDeferred hK', ?_⟩⟩
    have hc5 := cell_kept (World.cell?_setCell_same' W ⟨w.heap.size + 1 + 1, 0, none⟩ (.bool false) (by rw [k2]; rfl)) (grownBy_putObj' _ D (.deferred none)) (fun r e => by cases e; exact ⟨_, hK', rfl⟩)
    refine ⟨.bool false, by simp [results, Try.results57, go_sem, hc5], ret_bool ?_, (BW.out.setCell (p := ⟨w.heap.size + 1 + 1, 0, none⟩) (show w.heap.size ≤ w.heap.size + 1 + 1 by omega) _).trans (belowK_b (w := w) (Nat.le_refl _) _ D _ _ (by omega) hK' rfl rfl)⟩
    rw [SK.out, ← HS.out]
    exact (List.any_eq_false.2 fun y hy => by simpa using NE.out y hy).symm
  case stop =>
    rintro D cc pre W hD hpre ⟨⟨rfl, k2, hin⟩, hBW⟩ hK
    have BW := hide2 hBW
    have HP := hide2 hpre
    have HN := hide2 hin
    have HK := hide2 hK
    clear hpre hBW hin hK c0 c1 c2 f2 d0 d1 g1
    gi_wp2
    refine ⟨by simp, .inl ⟨_, _, rfl, run_takeDeferred HK.out, ?_⟩⟩
    have hc5 := cell_kept k2 (grownBy_putObj' _ D (.deferred none)) (fun r e => by cases e; exact ⟨_, HK.out, rfl⟩)
    refine ⟨.bool true, by simp [results, Try.results57, go_sem, hc5], ret_bool ?_, BW.out.trans (belowK_b (w := w) (Nat.le_refl _) _ D _ _ (by omega) HK.out rfl rfl)⟩
    rw [SK.out]
    exact (List.any_eq_true.2 ⟨_, HP.out.subset HN.out, by simp⟩).symm
end Go.Proofs.Ytcjjmfppkfmheaa
