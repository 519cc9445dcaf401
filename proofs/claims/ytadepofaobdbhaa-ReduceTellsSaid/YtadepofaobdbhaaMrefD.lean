/- The contract of noTran of the reference's net by rows. Conditions: each row has two numbers a label, the index is one of the labels. -/
import Derived.Test.YtadepofaobdbhaaMrefA
namespace Go.Proofs.Ytadepofaobdbhaa
open Go.RowKit

theorem cut_length {xs : List Int} {a b : Nat} (hab : a ≤ b) (hb : b ≤ xs.length) : (cutL xs a b).length = a + (xs.length - b) := by
  simp [cutL]; omega
theorem map_take_list {f : List Int → List Int} {xs : List (List Int)} {k : Nat} {x : List Int} (h : xs[k]? = some x) : (xs.take (k + 1)).map f = (xs.take k).map f ++ [f x] := map_take_snoc h

set_option maxRecDepth 100000 in
set_option maxHeartbeats 8000000 in
theorem noTran_calls {B k : Nat} {w : World} {L : Option Addr} {nl cl : Nat} {R : Option Addr} {nr cr : Nat} {m : PM} (h : MnR B w L nl cl R nr cr m) (hBw : B ≤ w.heap.size) (hk : k < nl) (hrow : ∀ r ∈ m.rows, r.length = 2 * nl) :
    Calls Try.prog 119 #[.agg #[.slice L nl cl, .slice R nr cr, .int .i64 m.i, .int .i64 m.o], .int .i64 k] w (AnsM1 B (noTranM m k) w) := by
  obtain ⟨labels, rows, mi, mo⟩ := m
  obtain ⟨hL, hR, hnl, hnr⟩ := h
  simp only at hL hR hrow
  have HR := hide2 (toOLists hR (by omega))
  have HLN := hide2 (OwnSl.len hR)
  have HRW := hide2 hrow
  have HL := hide2 (OwnInts.toInts hL (by omega))
  generalize hw0 : (w.alloc (.cells #[.slice L nl cl, .slice R nr cr, .int .i64 mi, .int .i64 mo] 69)).alloc (.cells mn0 69) = w0
  have D0 := hide2 (show Below w.heap.size w w0 by rw [← hw0]; exact ((Below.refl _ _).alloc (Nat.le_refl _) _).alloc (by simp) _)
  have X0 := hide2 (show Box w0 w.heap.size 69 #[.slice L nl cl, .slice R nr cr, .int .i64 mi, .int .i64 mo] by rw [← hw0]; exact (Box.new _ _ _).old _)
  have X1 := hide2 (show Box w0 (w.heap.size + 1) 69 mn0 by rw [← hw0]; exact Box.newAt (by simp) _ _)
  have SZ0 := hide2 (show w0.heap.size = w.heap.size + 2 by rw [← hw0]; simp)
  have KEEP0 := hide2 (show ∀ w', Below w0.heap.size w0 w' → w'.cell? ⟨w.heap.size, 0, none⟩ = some (.slice L nl cl) ∧ w'.cell? ⟨w.heap.size, 2, none⟩ = some (.int .i64 mi) ∧ w'.cell? ⟨w.heap.size, 3, none⟩ = some (.int .i64 mo) from fun w' hb => by
    have := X0.out.keep hb
    exact ⟨this.cell 0, this.cell 2, this.cell 3⟩)
  have hwr : IntKind.i64.wrap ((k : Int) + 1) = (k : Int) + 1 := by simp [IntKind.wrap, go_sem]; omega
  have hw2 : IntKind.i64.wrap (2 * (k : Int)) = 2 * (k : Int) := by simp [IntKind.wrap, go_sem]; omega
  have hw3 : IntKind.i64.wrap (2 * (k : Int) + 2) = 2 * (k : Int) + 2 := by simp [IntKind.wrap, go_sem]; omega
  clear hL hR hrow
  obtain ⟨a0, a2, a3⟩ := KEEP0.out w0 (Below.refl _ _)
  go_enter Try.func119, Try.ntmps119
  go_upto_region 1 with fail
  clear hw0
  refine wp_region_scr 12 (.takes [0, 1, 2, 3, 4, 6, 7, 8, 9] (.two 5 (.take 10 (.one 11 (.fin 12 .done))) 11 (.one 5 (.take 10 (.fin 12 .done))))) (fun w' => w'.cell? ⟨w.heap.size, 0, none⟩ = some (.slice L nl cl) ∧ w'.cell? ⟨w.heap.size, 2, none⟩ = some (.int .i64 mi) ∧ w'.cell? ⟨w.heap.size, 3, none⟩ = some (.int .i64 mo)) (by kernel_rfl) (by kernel_rfl) (by kernel_rfl) (fun _ _ _ _ _ h => h) ⟨a0, a2, a3⟩ (fun hHeld => ?_)
  simp only [Scr.takes]
  have WD := hide2 (show Below w0.heap.size w0 w0.drew from (Below.refl _ _).drew)
  generalize w0.drew = u0 at *
  iterate 9
    refine tkTake (v := ?_) rfl (by rfl) hHeld (fun w' hSw => ?_) ?_
    rotate_left
    · (go_simp; try with_reducible rfl)
    try simp only [Act.put, List.setIfInBounds_toArray, List.set_cons_zero, List.set_cons_succ]
  refine scrEnd (.fin 12 .done) (fun a0 a' w' => ∃ (C : Option Addr) (kc tb : Nat), a' = ((a0.put (some 13) (.slice C (k + (nl - (k + 1))) kc)).put (some 18) (.agg #[.slice C (k + (nl - (k + 1))) kc, .slice none 0 0, .int .i64 mi, .int .i64 mo])).put (some 5) (.pointer (some ⟨tb, 0, none⟩)) ∧ Hid (w.heap.size + 1 < tb) ∧ Hid (Box w' tb 69 mn0) ∧ Hid (OwnInts w' w.heap.size (.slice C (k + (nl - (k + 1))) kc) (k + (nl - (k + 1))) (cutL labels k (k + 1))) ∧ Hid (Below w0.heap.size w0 w')) ?_ (fun EN => ?_)
  rotate_left
  · refine tkTwo rfl rfl (fun K hK => ?_) (fun K hK => ?_)
    · go_simp; go_at_call 151
      (with_reducible refine (mcut_calls (a := k) (b := k + 1) (Ints.keep HL.out (D0.out.trans (WD.out.mono D0.out.size))) (by omega) (by omega) (by omega) (by omega) rfl (by simp)).mono ?_)
      rintro e u1 ⟨vu1, rfl, ou1, bu1⟩
      obtain ⟨C, kc, hvu1, _⟩ := ou1.sl (by omega)
      subst hvu1
      have Du1 := hide2 (WD.out.trans (bu1.mono WD.out.size))
      have Ou1 := hide2 (ou1.base (show w.heap.size ≤ u0.heap.size from (D0.out.trans (WD.out.mono D0.out.size)).size))
      clear ou1 bu1
      refine hK.out _ _ (KEEP0.out _ Du1.out) (fun hHeld => ?_)
      clear hK
      try simp only [Act.put, List.setIfInBounds_toArray, List.set_cons_zero, List.set_cons_succ]
      iterate 1
        refine tkTake (v := ?_) rfl (by rfl) hHeld (fun w' hSw => ?_) ?_
        rotate_left
        · (go_simp; try with_reducible rfl)
        try simp only [Act.put, List.setIfInBounds_toArray, List.set_cons_zero, List.set_cons_succ]
      refine tkOne rfl (fun K hK => ?_)
      go_simp
      have Bu2 := hide2 (show Below w0.heap.size w0 (u1.alloc (.cells mn0 69)) from Du1.out.alloc Du1.out.size _)
      have Xu2 := hide2 (show Box (u1.alloc (.cells mn0 69)) u1.heap.size 69 mn0 from Box.new _ _ _)
      have Nu2 := hide2 (show w.heap.size + 1 < u1.heap.size by have := Du1.out.size; have := SZ0.out; omega)
      have Ou2 := hide2 (Ou1.out.keep IntR.kept (boxBelow u1 (.cells mn0 69)))
      refine hK.out _ _ (KEEP0.out _ Bu2.out) (fun hHeld => ?_)
      clear hK
      try simp only [Act.put, List.setIfInBounds_toArray, List.set_cons_zero, List.set_cons_succ]
      exact EN.out _ _ ⟨C, kc, u1.heap.size, rfl, Nu2, Xu2, Ou2, Bu2⟩ hHeld
    · go_simp
      have Bu1 := hide2 (show Below w0.heap.size w0 (u0.alloc (.cells mn0 69)) from WD.out.alloc WD.out.size _)
      have Xu1 := hide2 (show Box (u0.alloc (.cells mn0 69)) u0.heap.size 69 mn0 from Box.new _ _ _)
      have Nu1 := hide2 (show w.heap.size + 1 < u0.heap.size by have := WD.out.size; have := SZ0.out; omega)
      refine hK.out _ _ (KEEP0.out _ Bu1.out) (fun hHeld => ?_)
      clear hK
      try simp only [Act.put, List.setIfInBounds_toArray, List.set_cons_zero, List.set_cons_succ]
      generalize hu1 : u0.alloc (.cells mn0 69) = u1 at *
      refine tkOne rfl (fun K hK => ?_)
      go_simp; go_at_call 151
      (with_reducible refine (mcut_calls (a := k) (b := k + 1) (Ints.keep HL.out (D0.out.trans (Bu1.out.mono D0.out.size))) (by omega) (by omega) (by omega) (by omega) rfl (by simp)).mono ?_)
      rintro e u2 ⟨vu2, rfl, ou2, bu2⟩
      obtain ⟨C, kc, hvu2, _⟩ := ou2.sl (by omega)
      subst hvu2
      have Du2 := hide2 (Bu1.out.trans (bu2.mono Bu1.out.size))
      have Ou2 := hide2 (ou2.base (show w.heap.size ≤ u1.heap.size from (D0.out.trans (Bu1.out.mono D0.out.size)).size))
      have Xu2 := hide2 (Xu1.out.keep bu2)
      clear ou2 bu2
      refine hK.out _ _ (KEEP0.out _ Du2.out) (fun hHeld => ?_)
      clear hK
      try simp only [Act.put, List.setIfInBounds_toArray, List.set_cons_zero, List.set_cons_succ]
      iterate 1
        refine tkTake (v := ?_) rfl (by rfl) hHeld (fun w' hSw => ?_) ?_
        rotate_left
        · (go_simp; try with_reducible rfl)
        try simp only [Act.put, List.setIfInBounds_toArray, List.set_cons_zero, List.set_cons_succ]
      exact EN.out _ _ ⟨C, kc, u0.heap.size, rfl, Nu1, Xu2, Ou2, Du2⟩ hHeld
  rintro a' w1 ⟨C, kc, tb, rfl, NT, XT, OL, DB⟩ hHeld
  try simp only [Act.put, List.setIfInBounds_toArray, List.set_cons_zero, List.set_cons_succ]
  have f0 := XT.out.frozen 0
  have f1 := XT.out.frozen 1
  have f2 := XT.out.frozen 2
  have f3 := XT.out.frozen 3
  obtain ⟨z0, z1, z2, z3⟩ := box4 XT.out
  refine tkEnd rfl (fun K hK => ?_)
  go_simp
  refine hK.out _ _ ?_
  clear hK
  try simp only [Act.put, List.setIfInBounds_toArray, List.set_cons_zero, List.set_cons_succ]
  refine tkDone ?_
  generalize hw2' : (((w1.setCell ⟨tb, 0, none⟩ (.slice C (k + (nl - (k + 1))) kc)).setCell ⟨tb, 1, none⟩ (.slice none 0 0)).setCell ⟨tb, 2, none⟩ (.int .i64 mi)).setCell ⟨tb, 3, none⟩ (.int .i64 mo) = w2
  have M0 := hide2 (show MnM w.heap.size B tb 69 #[.slice L nl cl, .slice R nr cr, .int .i64 mi, .int .i64 mo] w w2 C (k + (nl - (k + 1))) kc (cutL labels k (k + 1)) none 0 0 ((rows.take 0).map fun r => cutL r (2 * k) (2 * k + 2)) mi mo from by
    have g1 : w1.grownBy w2 (some tb) := by rw [← hw2']; exact grown_setB (grown_setB (grown_setB (grown_setB (grown_reflB w1 _))))
    have nt := NT.out
    refine ⟨(X0.out.keep DB.out).grown g1 (by simp; omega), (X1.out.keep DB.out).grown g1 (by simp; omega), by rw [← hw2']; exact MnM.box4 XT.out _ _ _ _, (OL.out.kept g1 (row_ne_box OL.out XT.out (by decide)) (fun _ _ h => h)).base hBw, OwnSl.nil, (D0.out.trans (DB.out.mono D0.out.size)).grown g1 (D0.out.trans (DB.out.mono D0.out.size)).size (fun q hq => by cases hq; omega), nt, by decide, rfl⟩)
  clear hw2' f0 f1 f2 f3 z0 z1 z2 z3 a0 a2 a3 hHeld XT OL DB
  obtain ⟨a0, a1, a2, a3⟩ := box4 M0.out.arg
  go_wp2
  go_loopg [22] nr (fun gk i wr => ∃ (q : Nat) (S : Option Addr) (e : Nat), q + gk = nr ∧ i = .int .i64 q ∧ Hid (MnM w.heap.size B tb 69 #[.slice L nl cl, .slice R nr cr, .int .i64 mi, .int .i64 mo] w wr C (k + (nl - (k + 1))) kc (cutL labels k (k + 1)) S q e ((rows.take q).map fun r => cutL r (2 * k) (2 * k + 2)) mi mo))
  case atStart => exact ⟨0, none, 0, by omega, rfl, M0.out⟩
  case round =>
    obtain ⟨q, S, e, hk', rfl, M⟩ := hrel
    by_cases hlt : q < nr
    · obtain ⟨bl, off, x, D, m, d, rfl, hbl, hx, q0, ox, ix, mx⟩ := OLists.get HR.out hlt
      have q0' := (M.out.bel.cell (p := ⟨bl, off + q, none⟩) hbl).trans q0
      have hm : m = 2 * nl := by rw [← ix.len]; exact HRW.out x (List.mem_of_getElem? hx.out)
      have IX := hide2 (Ints.keep ix M.out.bel)
      have NX := hide2 (map_take_list (f := fun r => cutL r (2 * k) (2 * k + 2)) hx.out)
      obtain ⟨b0, b1, b2, b3⟩ := box4 M.out.own
      have tbl := M.out.own.lt
      have HM := hide2 hm
      have MM := M
      have CUT := hide2 (mcut_calls (a := 2 * k) (b := 2 * k + 2) (ia := 2 * (k : Int)) (ib := 2 * (k : Int) + 2) (Ints.keep IX.out (show Below wr.heap.size wr wr.drew from (Below.refl _ _).drew)) (by omega) (by omega) (by omega) (by omega) (by simp) (by simp))
      have hqn : q ≤ 1000 := by omega
      clear q0 ix hm M
      go_upto_region 5 with fail
      refine wp_region_script 10 [(0, 0), (0, 1), (0, 2), (0, 3), (0, 4), (0, 5), (0, 6), (0, 7), (1, 8), (1, 9), (2, 10), (2, 11), (2, 12)] (fun w' => w'.cell? ⟨tb, 1, none⟩ = some (.slice S q e)) (by kernel_rfl) (by kernel_rfl) (by kernel_rfl) (fun _ _ _ _ _ h => h) b1 (fun hHeld => ?_)
      iterate 8
        refine scTake (v := ?_) rfl (by rfl) hHeld (fun w' hSw => ?_) ?_
        rotate_left
        · (go_simp; try with_reducible rfl)
        try simp only [Act.put, List.setIfInBounds_toArray, List.set_cons_zero, List.set_cons_succ]
      refine scOne rfl (fun K hK => ?_)
      go_simp; go_at_call 151
      (with_reducible refine CUT.out.mono ?_)
      rintro e3 w3 ⟨v3, rfl, o3, hb3⟩
      obtain ⟨C3, k3, hv3, i3⟩ := o3.sl (by have := HM.out; omega)
      subst hv3
      have D3 := hide2 (show Below wr.heap.size wr w3 from (Below.refl _ _).drew.trans hb3)
      have M3 := hide2 (MM.out.keep D3.out)
      have O3 := hide2 (o3.base (B' := B) (by have := MM.out.bel.size; have : wr.drew.heap.size = wr.heap.size := rfl; omega))
      have c3 : w3.cell? ⟨tb, 1, none⟩ = some (.slice S q e) := M3.out.own.cell 1
      clear o3 hb3 i3
      refine hK.out _ _ c3 (fun hHeld => ?_)
      clear hK
      try simp only [Act.put, List.setIfInBounds_toArray, List.set_cons_zero, List.set_cons_succ]
      refine scOne rfl (fun K hK => ?_)
      go_simp
      refine hK.out _ _ (by simp [*, World.cell?_alloc_some]) (fun hHeld => ?_)
      clear hK
      try simp only [Act.put, List.setIfInBounds_toArray, List.set_cons_zero, List.set_cons_succ]
      refine scEnd rfl (fun K hK => ?_)
      refine step_appNew tyLists rfl (.tmp 27) (.tmp 35) rfl [cutL x (2 * k) (2 * k + 2)] #[.slice C3 (2 * k + (m - (2 * k + 2))) k3] rfl rfl (by first | rfl | simp) rfl rfl (by omega) (by simp [Value.oneCell']) M3.out.rows (Reads.list1 ⟨_, O3.out, by have := HM.out; omega⟩) rfl M3.out.bel M3.out.bel.size (by omega) (by omega) (keepLists M3.out.rows) ?_
      intro g cap w5 own5 hg5 hb5 hBg hgl
      have XO := box_row M3.out.own M3.out.rows (by decide) hg5
      have j1 : w5.cell? ⟨tb, 1, none⟩ = some (.slice S q e) := XO.cell 1
      have jf := XO.frozen 1
      rw [← NX.out] at own5
      have NXT := hide2 (M3.out.row own5 hg5 hb5)
      clear own5 hg5 hb5 XO
      refine hK.out _ _ ?_
      clear hK
      try simp only [Act.put, List.setIfInBounds_toArray, List.set_cons_zero, List.set_cons_succ]
      refine scEnd rfl (fun K hK => ?_)
      go_simp
      refine hK.out _ _ ?_
      clear hK
      try simp only [Act.put, List.setIfInBounds_toArray, List.set_cons_zero, List.set_cons_succ]
      refine scEnd rfl (fun K hK => ?_)
      go_simp
      refine hK.out _ _ ?_
      clear hK
      try simp only [Act.put, List.setIfInBounds_toArray, List.set_cons_zero, List.set_cons_succ]
      simp only [wpScript]
      go_wp2
      go_roundg (gk - 1)
      case measure => omega
      case rel => exact ⟨q + 1, some ⟨g, 0, none⟩, cap, by omega, by simp, NXT.out⟩
    · obtain rfl : q = nr := by omega
      have TK := hide2 (show ((rows.take q).map fun r => cutL r (2 * k) (2 * k + 2)) = rows.map fun r => cutL r (2 * k) (2 * k + 2) by rw [List.take_of_length_le (by rw [HLN.out]; omega)])
      have MM := M
      obtain ⟨b0, b1, b2, b3⟩ := box4 M.out.own
      have r0 := M.out.res.frozen 0
      have r1 := M.out.res.frozen 1
      have r2 := M.out.res.frozen 2
      have r3 := M.out.res.frozen 3
      obtain ⟨z0, z1, z2, z3⟩ := box4 M.out.res
      clear M
      go_wp2
      obtain ⟨XR, MR, BR⟩ := MnM.ret MM.out (by omega) (by omega) hBw rfl
      obtain ⟨y0, y1, y2, y3⟩ := box4 XR
      refine bodyPost_ret (v := .agg #[.slice C (k + (nl - (k + 1))) kc, .slice S q e, .int .i64 mi, .int .i64 mo]) (by simp [results, Try.results119, go_sem, y0, y1, y2, y3]) rfl ?_
      rw [TK.out] at MR
      exact ⟨C, _, kc, S, q, e, rfl, ⟨MR.1, MR.2.1, MR.2.2.1, MR.2.2.2⟩, BR⟩
end Go.Proofs.Ytadepofaobdbhaa
