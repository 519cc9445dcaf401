/- mine's choose. Conditions: the log reads as lists and prints, no trace is empty; what is found with less fuel is told. -/
import Derived.Test.YtcopnfdknclhnaaGreatMineTellsK34
namespace Go.Proofs.YtcopnfdknclhnaaGreat
open Go.RowKit Go.Maps

set_option maxRecDepth 100000 in
set_option maxHeartbeats 4000000 in
theorem mnChoose_calls {f : Nat} (IH : FindIH f) {w : World} {A A1 A2 A3 A4 : Option Addr} {n c n1 c1 n2 c2 n3 c3 n4 c4 : Nat} {log : List (List Int)} {p : PPrints} (h : LogI w A A1 A2 A3 A4 n c n1 c1 n2 c2 n3 c3 n4 c4 log p) (hp : ShowsP log p) (hf : Fuel (f + 1) log) (he : ∀ t ∈ log, t.length ≠ 0) :
    Calls Tryz.prog 25 #[logV A A1 A2 A3 A4 n c n1 c1 n2 c2 n3 c3 n4 c4] w (AnsCut (f + 3) (decide (2 ≤ (grpL (bhB p) p.labels).length)) (if 2 ≤ (grpL (bhB p) p.labels).length then .mk 4 0 ((grpL (bhB p) p.labels).map fun g => findB f (log.filter fun t => inS g (t.headD 0))) else zeroB) w) := by
  have H := hide2 h
  have FU := hide2 (fun g (h2 : 2 ≤ (grpL (bhB p) p.labels).length) (hg : g ∈ grpL (bhB p) p.labels) => hf.choose he hp h2 hg)
  have NN := hide2 (show n ≤ 60 ∧ p.labels.length ≤ 26 ∧ p.labels.Pairwise (· < ·) from ⟨by rw [← h.il.len]; exact hf.n, asc_count hp.1.1 (hp.lab hf.1), hp.1.1⟩)
  have HE := hide2 he
  have IHH := hide2 IH
  clear h hp hf he IH
  obtain ⟨LV, hLV⟩ : ∃ LV : Array Value, LV = #[.slice A n c, .slice A1 n1 c1, .slice A2 n2 c2, .slice A3 n3 c3, .slice A4 n4 c4] := ⟨_, rfl⟩
  have B0 := hide2 ((boxBelow w (.cells #[.slice A n c, .slice A1 n1 c1, .slice A2 n2 c2, .slice A3 n3 c3, .slice A4 n4 c4] 47)).alloc (by simp) (.cells #[.int .i64 0, .int .i64 0, .slice none 0 0] 25))
  have X0 := hide2 (show Box ((w.alloc (.cells #[.slice A n c, .slice A1 n1 c1, .slice A2 n2 c2, .slice A3 n3 c3, .slice A4 n4 c4] 47)).alloc (.cells #[.int .i64 0, .int .i64 0, .slice none 0 0] 25)) w.heap.size 47 LV from by subst hLV; exact (Box.new w _ _).old _)
  have X1 := hide2 (show Box ((w.alloc (.cells #[.slice A n c, .slice A1 n1 c1, .slice A2 n2 c2, .slice A3 n3 c3, .slice A4 n4 c4] 47)).alloc (.cells #[.int .i64 0, .int .i64 0, .slice none 0 0] 25)) (w.heap.size + 1) 25 #[.int .i64 0, .int .i64 0, .slice none 0 0] from Box.newAt (by simp) _ _)
  have HLV := hide2 hLV
  clear hLV
  go_enter Tryz.func25, Tryz.ntmps25
  go_upto_region 1 with fail
  generalize ((w.alloc (.cells #[.slice A n c, .slice A1 n1 c1, .slice A2 n2 c2, .slice A3 n3 c3, .slice A4 n4 c4] 47)).alloc (.cells #[.int .i64 0, .int .i64 0, .slice none 0 0] 25)) = w1 at *
  have x0 : w1.cell? ⟨w.heap.size, 0, none⟩ = some (.slice A n c) := (X0.out.cell 0).trans (by rw [HLV.out]; rfl)
  have x1 : w1.cell? ⟨w.heap.size, 1, none⟩ = some (.slice A1 n1 c1) := (X0.out.cell 1).trans (by rw [HLV.out]; rfl)
  have x2 : w1.cell? ⟨w.heap.size, 2, none⟩ = some (.slice A2 n2 c2) := (X0.out.cell 2).trans (by rw [HLV.out]; rfl)
  have x3 : w1.cell? ⟨w.heap.size, 3, none⟩ = some (.slice A3 n3 c3) := (X0.out.cell 3).trans (by rw [HLV.out]; rfl)
  have x4 : w1.cell? ⟨w.heap.size, 4, none⟩ = some (.slice A4 n4 c4) := (X0.out.cell 4).trans (by rw [HLV.out]; rfl)
  have CG := hide2 (groups_calls (H.out.keep B0.out).ip.i1 (by rw [← H.out.ip.i1.len]; exact NN.out.2.1) NN.out.2.2 (behind_lk p.labels (H.out.keep B0.out)))
  go_wp2_with fail
  refine CG.out.mono ?_
  rintro e w2 ⟨vo, m, rfl, hm, rg, hG, hb2⟩
  have ML := hide2 (show (grpL (bhB p) p.labels).length = m from OwnSl.len rg)
  obtain ⟨AG, cG, rfl, ig⟩ := RowG.lists rg (by omega)
  have IG := hide2 ig
  have D2 := hide2 hb2
  have HM := hide2 hm
  have X2 := hide2 (X0.out.keep hb2)
  have X3 := hide2 (X1.out.keep hb2)
  clear x0 x1 x2 x3 x4 rg hG hb2 hm ig
  by_cases hlt : m < 2
  · have hmi : (m : Int) < 2 := by omega
    have OKF := hide2 (show ¬ 2 ≤ (grpL (bhB p) p.labels).length by rw [ML.out]; omega)
    have BA := hide2 (show BlkA (fun k => w1.heap.size ≤ k) (f + 3) w2 (.agg #[.int .i64 0, .int .i64 0, .slice none 0 0]) zeroB from ⟨none, 0, 0, rfl, Sl.nil0, fun h => absurd h (by omega)⟩)
    have hgt := X1.out.lt
    obtain ⟨u0, u1, u2⟩ := X3.out.three
    have fz := fun j => X3.out.frozen j
    have W5 := hide2 (blk_set (w := w) BA.out X3.out D2.out B0.out (by omega) (by omega))
    clear hlt hgt
    go_wp2
    generalize (((w2.setCell ⟨w.heap.size + 1, 0, none⟩ (.int .i64 0)).setCell ⟨w.heap.size + 1, 1, none⟩ (.int .i64 0)).setCell ⟨w.heap.size + 1, 2, none⟩ (.slice none 0 0)) = w5 at *
    obtain ⟨z0, z1, z2⟩ := W5.out.1.three
    exact bodyPost_ret (v := .tuple #[.agg #[.int .i64 0, .int .i64 0, .slice none 0 0], .bool false]) (by simp [results, Tryz.results25, go_sem, z0, z1, z2]) rfl ⟨.agg #[.int .i64 0, .int .i64 0, .slice none 0 0], by first | rfl | (rw [decide_eq_false OKF.out]), by first | exact W5.out.2.1 | (rw [if_neg OKF.out]; exact W5.out.2.1), W5.out.2.2⟩
  · have hmi : ¬ (m : Int) < 2 := by omega
    have OKT := hide2 (show 2 ≤ (grpL (bhB p) p.labels).length by rw [ML.out]; omega)
    clear hlt
    go_wp2
    go_loopg [5, 21] m (fun gk s5 s21 wr => ∃ v k, v = s5 ∧ s21 = .int .i64 (k : Nat) ∧ Hid (k + gk = m) ∧ Hid (OwnBlk wr w2.heap.size (f + 3) v k (((grpL (bhB p) p.labels).take k).map fun g => findB f (log.filter fun t => inS g (t.headD 0)))) ∧ Hid (Below w2.heap.size w2 wr))
    case atStart => exact ⟨_, 0, rfl, rfl, hide2 (by omega), hide2 OwnSl.nil, hide2 (Below.refl _ _)⟩
    case round =>
      obtain ⟨v, k, rfl, rfl, hgk, OB, DB⟩ := hrel
      have DW := hide2 (B0.out.trans ((D2.out.trans (DB.out.mono D2.out.size)).mono B0.out.size))
      have DV := hide2 (D2.out.trans (DB.out.mono D2.out.size))
      by_cases hlt : k < m
      · have hki : (k : Int) < (m : Int) := by omega
        obtain ⟨b, off, g, Bg, mg, dg, rfl, hb, hgx, q0, ig, hmg⟩ := Lists.get (Sl.keep ListR.kept IG.out DB.out) hlt
        have HJ := hide2 (show gk - 1 < gk ∧ (k + 1) + (gk - 1) = m ∧ k ≤ 26 by have := hgk.out; have := HM.out; omega)
        have hwk : IntKind.i64.wrap ((k : Int) + 1) = ((k + 1 : Nat) : Int) := by
          have := HJ.out
          simp [IntKind.wrap, IntKind.bits, IntKind.signed]; omega
        have hgne : g ≠ [] := (groupsH_is NN.out.2.2).ne g (List.mem_of_getElem? hgx.out)
        obtain ⟨bg, og, yg, rfl, hbg, _, _⟩ := Ints.get ig (k := 0) (by have := ig.len; have : g.length ≠ 0 := fun e => hgne (List.eq_nil_of_length_eq_zero e); omega)
        have FG := hide2 (FU.out g OKT.out (List.mem_of_getElem? hgx.out))
        have TB := hide2 (Box.new wr #[.slice (some ⟨bg, og, none⟩) mg dg] 35)
        have BB := hide2 (boxBelow wr (.cells #[.slice (some ⟨bg, og, none⟩) mg dg] 35))
        have IGG := hide2 (ig.keep BB.out)
        have HBG := hide2 hbg
        have x0 : (wr.alloc (.cells #[.slice (some ⟨bg, og, none⟩) mg dg] 35)).cell? ⟨w.heap.size, 0, none⟩ = some (.slice A n c) := (((X2.out.keep DB.out).keep BB.out).cell 0).trans (by rw [HLV.out]; rfl)
        have CC := hide2 (cloneLists_calls (Sl.keep ListR.kept (Sl.keep ListR.kept H.out.il DW.out) BB.out) (by have := NN.out; omega))
        clear hb ig hgne hbg
        go_upto_region 8 with fail
        clear q0
        have HS := hide2 (show (wr.alloc (.cells #[.slice (some ⟨bg, og, none⟩) mg dg] 35)).heap.size = wr.heap.size + 1 by simp)
        generalize hw3 : wr.alloc (.cells #[.slice (some ⟨bg, og, none⟩) mg dg] 35) = w3 at *
        clear hw3
        go_wp2_with fail
        refine CC.out.mono ?_
        rintro e w4 ⟨v4, rfl, ow4, hb4⟩
        have hl4 := ow4.lt
        have CD := hide2 (delA_calls (F := 52) (cv := #[.pointer (some ⟨wr.heap.size, 0, none⟩)]) (q := offB g) ow4 (by have := NN.out; omega) (Nat.le_refl _) (fun args w => by kernel_rfl) (fun gr hgr => choose1_pred HE.out (TB.out.keep hb4) (IGG.out.keep hb4) (by have := (hl4 gr hgr).1; have := HS.out; omega) (fun a ha => by injection ha with ha; subst ha; have := (hl4 gr hgr).1; have := HS.out; have := HBG.out; show bg ≠ gr; omega)))
        have B4 := hide2 hb4
        have HL4 := hide2 hl4
        clear ow4 hb4 hl4
        go_wp2_with fail
        refine CD.out.mono ?_
        rintro e w5 ⟨A5, k5, c5, rfl, ow5, hg5⟩
        have B5 := hide2 (show Below wr.heap.size wr w5 from (BB.out.trans (B4.out.mono BB.out.size)).grown hg5 (Nat.le_trans BB.out.size B4.out.size) (fun k hk => by have := (HL4.out k hk).1; have := HS.out; omega))
        have L5 := hide2 (show k5 ≤ 60 by
          have h1 := ow5.len
          have h2 : (log.filter fun a => !offB g a).length ≤ log.length := List.length_filter_le _ _
          have h3 := NN.out.1
          have h4 := H.out.il.len
          omega)
        obtain ⟨A6, c6, e6, il6⟩ := RowN.lists ow5 (by have := L5.out; omega)
        injection e6 with e61 _ e62
        subst e61 e62
        have EF : (log.filter fun a => !offB g a) = log.filter fun t => inS g (t.headD 0) := by
          congr 1
          funext t
          unfold offB
          rw [Bool.not_not]
        rw [EF] at il6
        have CF := hide2 (IHH.out w5 A5 k5 c5 _ il6 FG.out)
        clear ow5 hg5 il6 EF CD
        go_wp2_with fail
        refine CF.out.mono ?_
        rintro e w6 ⟨v6, rfl, ⟨A6', n6', c6', rfl, s6, p6⟩, hb6⟩
        have B6 := hide2 (B5.out.trans (hb6.mono B5.out.size))
        have hDB := DB.out.size
        have KO := hide2 (kid_ok (OB.out) hDB (s6.imp (fun _ _ r => r.wide (fun k _ hk => Nat.le_trans B5.out.size hk) (f + 2))) (fun hn a ha => Nat.le_trans B5.out.size (p6 hn a ha)))
        have OB3 := hide2 (OB.out.keep B6.out)
        have E3 := hide2 (DB.out.trans (B6.out.mono DB.out.size))
        have hB3 := E3.out.size
        have hk1 : k ≤ 100 := by have := HJ.out; omega
        have TK := hide2 (show ((grpL (bhB p) p.labels).take (k + 1)).map (fun g => findB f (log.filter fun t => inS g (t.headD 0))) = ((grpL (bhB p) p.labels).take k).map (fun g => findB f (log.filter fun t => inS g (t.headD 0))) ++ [findB f (log.filter fun t => inS g (t.headD 0))] by rw [List.take_add_one, hgx.out]; simp)
        obtain ⟨kd3, hkd⟩ : ∃ x, x = (findB f (log.filter fun t => inS g (t.headD 0))).kind := ⟨_, rfl⟩
        obtain ⟨lb3, hlb⟩ : ∃ x, x = (findB f (log.filter fun t => inS g (t.headD 0))).label := ⟨_, rfl⟩
        rw [← hkd, ← hlb]
        have HKL := hide2 (And.intro hkd hlb)
        clear s6 p6 hb6 OB hkd hlb hDB
        go_wp2_with (at_builtin; refine wpList_appBlk rfl _ _ rfl rfl rfl rfl OB3.out HKL.out.1 HKL.out.2 KO.out.1 KO.out.2 hB3 hk1 ?_; intro v8 w8 own8 hg8; have O8 := hide2 own8; have E8 := hide2 (show Below w2.heap.size w2 w8 from E3.out.grown hg8 hB3 (fun k hk => (OB3.out.lt k hk).1)))
        go_roundg (gk - 1)
        case measure => exact HJ.out.1
        case rel => exact ⟨v8, k + 1, rfl, rfl, hide2 HJ.out.2.1, hide2 (by rw [TK.out]; exact O8.out), E8⟩
      · have hki : ¬ (k : Int) < (m : Int) := by omega
        have OF := hide2 (show OwnBlk wr w2.heap.size (f + 3) v k ((grpL (bhB p) p.labels).map fun g => findB f (log.filter fun t => inS g (t.headD 0))) from by
          have := OB.out
          rwa [List.take_of_length_le (by rw [ML.out]; omega)] at this)
        obtain ⟨AK, cK, rfl, sK, pK⟩ := OF.out.sl2 (by have := HM.out; have := hgk.out; omega)
        have CB := hide2 (block_calls 4 sK pK DB.out)
        have X5 := hide2 (X3.out.keep DB.out)
        clear sK pK OB hlt hgk
        go_wp2_with fail
        refine CB.out.mono ?_
        rintro e w3 ⟨⟨v3, rfl, ⟨A3', n3', c3', rfl, s3, p3⟩, hb3⟩, hb4⟩
        have X4 := hide2 (X5.out.keep hb4)
        have BA := hide2 (show BlkA (fun k => w2.heap.size ≤ k) (f + 3) w3 (.agg #[.int .i64 (PBlk.mk 4 0 ((grpL (bhB p) p.labels).map fun g => findB f (log.filter fun t => inS g (t.headD 0)))).kind, .int .i64 (PBlk.mk 4 0 ((grpL (bhB p) p.labels).map fun g => findB f (log.filter fun t => inS g (t.headD 0)))).label, .slice A3' n3' c3']) (.mk 4 0 ((grpL (bhB p) p.labels).map fun g => findB f (log.filter fun t => inS g (t.headD 0)))) from ⟨A3', n3', c3', rfl, s3, p3⟩)
        generalize (PBlk.mk 4 0 ((grpL (bhB p) p.labels).map fun g => findB f (log.filter fun t => inS g (t.headD 0)))).kind = kd3 at *
        generalize (PBlk.mk 4 0 ((grpL (bhB p) p.labels).map fun g => findB f (log.filter fun t => inS g (t.headD 0)))).label = lb3 at *
        have D3 := hide2 hb3
        have hgt := X3.out.lt
        obtain ⟨u0, u1, u2⟩ := X4.out.three
        have fz := fun j => X4.out.frozen j
        have W5 := hide2 (blk_set (w := w) BA.out X4.out D3.out (B0.out.trans (D2.out.mono B0.out.size)) (by omega) (by omega))
        clear s3 p3 hb3 hb4 hgt
        go_wp2
        generalize (((w3.setCell ⟨w.heap.size + 1, 0, none⟩ (.int .i64 kd3)).setCell ⟨w.heap.size + 1, 1, none⟩ (.int .i64 lb3)).setCell ⟨w.heap.size + 1, 2, none⟩ (.slice A3' n3' c3')) = w5 at *
        obtain ⟨z0, z1, z2⟩ := W5.out.1.three
        exact bodyPost_ret (v := .tuple #[.agg #[.int .i64 kd3, .int .i64 lb3, .slice A3' n3' c3'], .bool true]) (by simp [results, Tryz.results25, go_sem, z0, z1, z2]) rfl ⟨.agg #[.int .i64 kd3, .int .i64 lb3, .slice A3' n3' c3'], by first | rfl | (rw [decide_eq_true OKT.out]), by first | exact W5.out.2.1 | (simpa using W5.out.2.1), W5.out.2.2⟩
end Go.Proofs.YtcopnfdknclhnaaGreat
