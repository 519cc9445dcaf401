/- The contract of MReduce, the reference of reduce.Reduce. Conditions: the net reads as a list. -/
import Derived.Test.YtadepofaobdbhaaMrefH
import Derived.Test.YtadepofaobdbhaaReduL
namespace Go.Proofs.Ytadepofaobdbhaa
open Go.RowKit

theorem mok_of {s : PSm} (h : SOk s) : MOk (mofL s) s.net.trans.length := by
  refine ⟨fun r hr => ?_, h.2.1, h.2.2⟩
  obtain ⟨p, hp, rfl⟩ := List.mem_map.1 (show r ∈ (List.range s.net.places.toNat).map (colL s.net.trans) from hr)
  refine ⟨colL_length _ _, fun x hx => ?_⟩
  obtain ⟨t, ht, hxt⟩ := List.mem_flatMap.1 (show x ∈ s.net.trans.flatMap _ from hx)
  have hT := (tranOk_iff _ _).1 (((netOk_iff _).1 h.1).2.2.2 t ht)
  have hg : ∀ l : List Int, l.any badW = false → 0 ≤ l.getD p 0 ∧ l.getD p 0 ≤ 9 := fun l hl => by
    cases e : l[p]? with
    | none => simp [e]
    | some y =>
      have := badW_false (any_false_get hl e)
      simp [e]
      exact this
  simp only [List.mem_cons, List.not_mem_nil, or_false] at hxt
  rcases hxt with rfl | rfl
  · exact hg _ hT.2.2.2.2.1
  · exact hg _ hT.2.2.2.2.2
/-- What the loop of MReduce knows. -/
def RefI (B b : Nat) (w : World) (s0 : PSm) (g : Nat) (st : PSm) (c : Nat) (wr : World) (L : Option Addr) (nl cl : Nat) (R : Option Addr) (nr cr : Nat) : Prop :=
  runS g st c = runS 64 s0 0 ∧ meas st < g ∧ c + g = 64 ∧ SOk st ∧ MnR B wr L nl cl R nr cr (mofL st) ∧ Box wr b 69 #[.slice L nl cl, .slice R nr cr, .int .i64 st.i, .int .i64 st.o] ∧ Below w.heap.size w wr ∧
  Box wr (w.heap.size + 1) 24 #[.int .i64 0, .slice none 0 0] ∧ Box wr (w.heap.size + 2) 25 #[.int .i64 0, .int .i64 0, .int .i64 0] ∧ w.heap.size + 3 ≤ b ∧ B ≤ wr.heap.size

set_option maxRecDepth 100000 in
set_option maxHeartbeats 8000000 in
theorem mreduce_calls {w : World} {P : Int} {A : Option Addr} {n c : Nat} {ts : List PTran} (i o : Int) (h : Trans w A n c ts) (hn : n ≤ 2513169434916) :
    Calls Try.prog 10 #[.agg #[.int .i64 P, .slice A n c], .int .i64 i, .int .i64 o] w (AnsRed (redL ⟨P, ts⟩ i o) w) := by
  generalize hw0 : ((w.alloc (.cells #[.int .i64 P, .slice A n c] 24)).alloc (.cells #[.int .i64 0, .slice none 0 0] 24)).alloc (.cells #[.int .i64 0, .int .i64 0, .int .i64 0] 25) = w0
  have D0 := hide2 (show Below w.heap.size w w0 by rw [← hw0]; exact (((Below.refl _ _).alloc (Nat.le_refl _) _).alloc (by simp) _).alloc (by simp; omega) _)
  have X0 := hide2 (show Box w0 w.heap.size 24 #[.int .i64 P, .slice A n c] by rw [← hw0]; exact ((Box.new _ _ _).old _).old _)
  have X1 := hide2 (show Box w0 (w.heap.size + 1) 24 #[.int .i64 0, .slice none 0 0] by rw [← hw0]; exact (Box.newAt (by simp) _ _).old _)
  have X2 := hide2 (show Box w0 (w.heap.size + 1 + 1) 25 #[.int .i64 0, .int .i64 0, .int .i64 0] by rw [← hw0]; exact Box.newAt (by simp) _ _)
  have H := hide2 h
  have C0 := hide2 (refShapeWrong_calls (P := P) i o (Trans.keep h D0.out) hn)
  clear h
  obtain ⟨e0, he0⟩ : ∃ e, shapeL ⟨P, ts⟩ i o = e := ⟨_, rfl⟩
  rw [he0] at C0
  have HE := hide2 he0
  clear he0
  obtain ⟨c0, c1⟩ := X0.out.two
  go_enter Try.func10, Try.ntmps10
  go_upto_region 1 with fail
  clear hw0
  go_upto_region 2 with ((with_reducible refine C0.out.mono ?_); rintro e w1 ⟨rfl, hb⟩)
  have D1 := hide2 (D0.out.trans (hb.mono D0.out.size))
  have Y0 := hide2 (X0.out.keep hb)
  have Y1 := hide2 (X1.out.keep hb)
  have Y2 := hide2 (X2.out.keep hb)
  clear hb c0 c1 X0 X1 X2 C0 D0
  by_cases hz : e0 = 0
  · subst hz
    have RL := hide2 (show redL ⟨P, ts⟩ i o = ((runS 64 ⟨⟨P, ts⟩, i, o⟩ 0).1.net, ((runS 64 ⟨⟨P, ts⟩, i, o⟩ 0).1.i, (runS 64 ⟨⟨P, ts⟩, i, o⟩ 0).1.o, ((runS 64 ⟨⟨P, ts⟩, i, o⟩ 0).2 : Int)), 0) by unfold redL; rw [if_pos HE.out])
    have SK := hide2 (shape_sok HE.out)
    obtain ⟨c0, c1⟩ := Y0.out.two
    have CT := hide2 (mof_calls i o (Trans.keep H.out D1.out) SK.out.1.1)
    go_wp2_with fail
    (with_reducible refine CT.out.mono ?_)
    rintro e w2 ⟨L2, nl2, cl2, R2, nr2, cr2, rfl, MR2, hb⟩
    have D2 := hide2 (D1.out.trans (hb.mono D1.out.size))
    have Z1 := hide2 (Y1.out.keep hb)
    have Z2 := hide2 (Y2.out.keep hb)
    have MR := hide2 MR2
    have SZ := hide2 hb.size
    rw [show (mofL ⟨⟨P, ts⟩, i, o⟩).i = i from rfl, show (mofL ⟨⟨P, ts⟩, i, o⟩).o = o from rfl]
    clear hb MR2 c0 c1 Y0 Y1 Y2
    go_upto_region 5 with fail
    generalize hw3 : w2.alloc (.cells #[.slice L2 nl2 cl2, .slice R2 nr2 cr2, .int .i64 i, .int .i64 o] 69) = w3
    obtain ⟨b, hb3⟩ : ∃ q, w2.heap.size = q := ⟨_, rfl⟩
    have RI := hide2 (show RefI w1.heap.size b w ⟨⟨P, ts⟩, i, o⟩ 64 ⟨⟨P, ts⟩, i, o⟩ 0 w3 L2 nl2 cl2 R2 nr2 cr2 from by
      have b23 : Below w2.heap.size w2 w3 := by rw [← hw3]; exact boxBelow _ _
      refine ⟨rfl, by have := SK.out.2; omega, rfl, SK.out.1, MR.out.keep b23, by rw [← hw3, ← hb3]; exact Box.new _ _ _, D2.out.trans (b23.mono D2.out.size), Z1.out.keep b23, Z2.out.keep b23, ?_, Nat.le_trans SZ.out b23.size⟩
      have := Z2.out.lt
      omega)
    rw [hb3]
    clear hw3 hb3 MR Z1 Z2 D2 D1 H CT SZ
    go_wp2
    go_loopg [11] 64 (fun gk v wr => ∃ (st : PSm) (c : Nat) (L : Option Addr) (nl cl : Nat) (R : Option Addr) (nr cr : Nat), v = .int .i64 c ∧ Hid (RefI w1.heap.size b w ⟨⟨P, ts⟩, i, o⟩ gk st c wr L nl cl R nr cr))
    case atStart => exact ⟨_, 0, _, _, _, _, _, _, rfl, RI.out⟩
    case round =>
      obtain ⟨st, c, L, nl, cl, R, nr, cr, rfl, RR⟩ := hrel
      obtain ⟨rn, rm, rc, rk, MR, XB, BW, XN, XT, hb3, hBs⟩ := RR.out
      have hc64 : c ≤ 64 := by omega
      have RN := hide2 rn
      have RM := hide2 rm
      have RC := hide2 rc
      have RK := hide2 rk
      have HMR := hide2 MR
      have HXB := hide2 XB
      have HBW := hide2 BW
      have HXN := hide2 XN
      have HXT := hide2 XT
      have HB3 := hide2 hb3
      have HG := hide2 (show 0 < gk from by omega)
      have LNL := hide2 (show nl = st.net.trans.length from by have := OwnSl.len MR.1; simp only [mofL, List.length_map] at this; exact this.symm)
      have CS := hide2 (smaller_calls MR hBs (by rw [LNL.out]; exact mok_of RK.out))
      rw [smallerM_of RK.out] at CS
      rw [show (mofL st).i = st.i from rfl, show (mofL st).o = st.o from rfl] at CS
      obtain ⟨si, hsi⟩ : ∃ x, st.i = x := ⟨_, rfl⟩
      obtain ⟨so, hso⟩ : ∃ x, st.o = x := ⟨_, rfl⟩
      have HSI := hide2 hsi
      have HSO := hide2 hso
      rw [hsi, hso] at CS HXB
      obtain ⟨k0, k1, k2, k3⟩ := box4 HXB.out
      clear rn rm rc rk MR XB BW XN XT hb3 hsi hso RR
      cases hs : stepS st with
      | none =>
        rw [hs] at CS
        have ST := hide2 hs
        clear hs
        go_wp2_with fail
        (with_reducible refine CS.out.mono ?_)
        rintro e4 w4 ⟨L4, nl4, cl4, R4, nr4, cr4, rfl, MR4, BL4⟩
        have B4 := hide2 BL4
        clear MR4 BL4
        obtain ⟨fi, hfi⟩ : ∃ x, ((Option.map mofL none).getD (mofL st)).i = x := ⟨_, rfl⟩
        obtain ⟨fo, hfo⟩ : ∃ x, ((Option.map mofL none).getD (mofL st)).o = x := ⟨_, rfl⟩
        rw [hfi, hfo]
        clear hfi hfo
        go_upto_region 6 with fail
        generalize hw5 : w4.alloc (.cells #[.slice L4 nl4 cl4, .slice R4 nr4 cr4, .int .i64 fi, .int .i64 fo] 69) = w5
        have B5 := hide2 (show Below wr.heap.size wr w5 from by rw [← hw5]; exact B4.out.alloc B4.out.size _)
        clear hw5
        have V := hide2 (HXB.out.keep B5.out)
        have VN := hide2 (HXN.out.keep B5.out)
        have VT := hide2 (HXT.out.keep B5.out)
        have VM := hide2 (HMR.out.keep B5.out)
        have VW := hide2 (HBW.out.trans (B5.out.mono HBW.out.size))
        clear k0 k1 k2 k3 B4
        obtain ⟨k0, k1, k2, k3⟩ := box4 V.out
        have CN := hide2 (netM_calls (VM.out.keep (show Below w5.heap.size w5 w5.drew from (Below.refl _ _).drew)) (fun r hr => by rw [LNL.out]; exact ((mok_of RK.out).1 r hr).1))
        rw [show (mofL st).i = si from HSI.out, show (mofL st).o = so from HSO.out, netM_of RK.out] at CN
        have RS := hide2 (show runS 64 ⟨⟨P, ts⟩, i, o⟩ 0 = (st, c) by rw [← RN.out]; exact runS_none ST.out)
        have RL2 := hide2 (show redL ⟨P, ts⟩ i o = (st.net, (si, so, (c : Int)), 0) by rw [RL.out, RS.out, HSI.out, HSO.out])
        obtain ⟨sp, hsp⟩ : ∃ x, st.net.places = x := ⟨_, rfl⟩
        have HSP := hide2 hsp
        go_upto_region 7 with fail
        refine wp_region_scr 9 (.takes [0, 2, 3, 4, 5, 6, 7] (.one 1 (.one 8 (.fins [9, 10] .done)))) (fun w' => w'.cell? ⟨b, 0, none⟩ = some (.slice L nl cl) ∧ w'.cell? ⟨b, 1, none⟩ = some (.slice R nr cr) ∧ w'.cell? ⟨b, 2, none⟩ = some (.int .i64 si) ∧ w'.cell? ⟨b, 3, none⟩ = some (.int .i64 so)) (by kernel_rfl) (by kernel_rfl) (by kernel_rfl) (fun _ _ _ _ _ h => h) ⟨k0, k1, k2, k3⟩ (fun hHeld => ?_)
        simp only [Scr.takes, Scr.fins]
        iterate 7
          refine tkTake (v := ?_) rfl (by rfl) hHeld (fun w' hSw => ?_) ?_
          rotate_left
          · (go_simp; try with_reducible rfl)
          try simp only [Act.put, List.setIfInBounds_toArray, List.set_cons_zero, List.set_cons_succ]
        refine tkOne rfl (fun K hK => ?_)
        go_simp; go_at_call 46
        (with_reducible refine CN.out.mono ?_)
        rintro e6 w6 ⟨A6, n6, c6, rfl, O6, hb6⟩
        have B6 := hide2 (show Below w5.heap.size w5 w6 from (Below.refl _ _).drew.trans hb6)
        have XB6 := hide2 (V.out.keep B6.out)
        have XN6 := hide2 (VN.out.keep B6.out)
        have XT6 := hide2 (VT.out.keep B6.out)
        have BW6 := hide2 (VW.out.trans (B6.out.mono VW.out.size))
        have OW6 := hide2 (show OwnSl (OwnTranR w5.heap.size) 3 w6 w5.heap.size 76 (.slice A6 n6 c6) n6 st.net.trans from O6)
        have N6 := hide2 (show n6 ≤ 24 from by have := OwnSl.len O6; have := ((netOk_iff _).1 RK.out.1).2.2.1; omega)
        clear O6 hb6
        rw [hsp]
        clear hsp
        refine hK.out _ _ ⟨XB6.out.cell 0, XB6.out.cell 1, XB6.out.cell 2, XB6.out.cell 3⟩ (fun hHeld => ?_)
        clear hK
        try simp only [Act.put, List.setIfInBounds_toArray, List.set_cons_zero, List.set_cons_succ]
        have f0 := XN6.out.frozen 0
        have f1 := XN6.out.frozen 1
        obtain ⟨g0, g1⟩ := XN6.out.two
        refine tkOne rfl (fun K hK => ?_)
        go_simp
        have hb3' := HB3.out
        have XN9 := hide2 (XN6.out.set2 (.int .i64 sp) (.slice A6 n6 c6))
        have XT9 := hide2 ((XT6.out.other (a := ⟨w.heap.size + 1, 0, none⟩) (.int .i64 sp) (by simp)).other (a := ⟨w.heap.size + 1, 1, none⟩) (.slice A6 n6 c6) (by simp))
        have XB9 := hide2 ((XB6.out.other (a := ⟨w.heap.size + 1, 0, none⟩) (.int .i64 sp) (by simp; omega)).other (a := ⟨w.heap.size + 1, 1, none⟩) (.slice A6 n6 c6) (by simp; omega))
        have BW9 := hide2 ((BW6.out.setCell (p := ⟨w.heap.size + 1, 0, none⟩) (by simp) (.int .i64 sp)).setCell (p := ⟨w.heap.size + 1, 1, none⟩) (by simp) (.slice A6 n6 c6))
        have OW9 := hide2 (own_any XN6.out (by decide) (by decide) (grown_setB (j := 1) (u := .slice A6 n6 c6) (grown_setB (j := 0) (u := .int .i64 sp) (grown_reflB w6 (some (w.heap.size + 1))))) OW6.out)
        refine hK.out _ _ ⟨XB9.out.cell 0, XB9.out.cell 1, XB9.out.cell 2, XB9.out.cell 3⟩ (fun hHeld => ?_)
        clear hK g0 g1 f0 f1
        try simp only [Act.put, List.setIfInBounds_toArray, List.set_cons_zero, List.set_cons_succ]
        generalize (w6.setCell ⟨w.heap.size + 1, 0, none⟩ (.int .i64 sp)).setCell ⟨w.heap.size + 1, 1, none⟩ (.slice A6 n6 c6) = w9 at *
        have f0 := XT9.out.frozen 0
        have f1 := XT9.out.frozen 1
        have f2 := XT9.out.frozen 2
        obtain ⟨g0, g1, g2⟩ := XT9.out.three
        refine tkEnd rfl (fun K hK => ?_)
        go_simp
        have XT10 := hide2 (XT9.out.set3 (.int .i64 si) (.int .i64 so) (.int .i64 (c : Int)))
        have XN10 := hide2 (XN9.out.other3 (b := w.heap.size + 2) (by omega) (.int .i64 si) (.int .i64 so) (.int .i64 (c : Int)))
        have BW10 := hide2 (below_set3 (b := w.heap.size + 2) BW9.out (by omega) (.int .i64 si) (.int .i64 so) (.int .i64 (c : Int)))
        have OW10 := hide2 (own_any XT9.out (by decide) (by decide) (grown_setB (j := 2) (u := .int .i64 (c : Int)) (grown_setB (j := 1) (u := .int .i64 so) (grown_setB (j := 0) (u := .int .i64 si) (grown_reflB w9 (some (w.heap.size + 2)))))) OW9.out)
        refine hK.out _ _ ?_
        clear hK g0 g1 g2 f0 f1 f2
        try simp only [Act.put, List.setIfInBounds_toArray, List.set_cons_zero, List.set_cons_succ]
        generalize ((w9.setCell ⟨w.heap.size + 2, 0, none⟩ (.int .i64 si)).setCell ⟨w.heap.size + 2, 1, none⟩ (.int .i64 so)).setCell ⟨w.heap.size + 2, 2, none⟩ (.int .i64 (c : Int)) = w10 at *
        refine tkEnd rfl (fun K hK => ?_)
        go_simp
        refine hK.out _ _ ?_
        clear hK
        try simp only [Act.put, List.setIfInBounds_toArray, List.set_cons_zero, List.set_cons_succ]
        refine tkDone ?_
        obtain ⟨y0, y1⟩ := XN10.out.two
        obtain ⟨y2, y3, y4⟩ := XT10.out.three
        go_wp2
        refine bodyPost_ret (v := .tuple #[.agg #[.int .i64 sp, .slice A6 n6 c6], .agg #[.int .i64 si, .int .i64 so, .int .i64 (c : Int)], .int .i64 0]) (by simp [results, Try.results10, go_sem, y0, y1, y2, y3, y4]) rfl ?_
        obtain ⟨A7, c7, hv7, hs7⟩ := OW10.out.sl (by have := N6.out; omega)
        injection hv7 with a1 a2 a3
        subst a1 a3
        rw [RL2.out]
        exact ⟨A6, n6, c6, by rw [HSP.out], hs7.imp fun _ _ h => h.tran, BW10.out⟩
      | some st' =>
        rw [hs] at CS
        have ST := hide2 hs
        clear hs
        have OK' := hide2 (stepS_ok RK.out ST.out)
        go_wp2_with fail
        (with_reducible refine CS.out.mono ?_)
        rintro e4 w4 ⟨L4, nl4, cl4, R4, nr4, cr4, rfl, MR4, BL4⟩
        have B4 := hide2 BL4
        have M4 := hide2 (show MnR w1.heap.size w4 L4 nl4 cl4 R4 nr4 cr4 (mofL st') from MR4)
        clear MR4 BL4
        obtain ⟨fi, hfi⟩ : ∃ x, st'.i = x := ⟨_, rfl⟩
        obtain ⟨fo, hfo⟩ : ∃ x, st'.o = x := ⟨_, rfl⟩
        have HFI := hide2 hfi
        have HFO := hide2 hfo
        rw [show ((Option.map mofL (some st')).getD (mofL st)).i = fi from hfi, show ((Option.map mofL (some st')).getD (mofL st)).o = fo from hfo]
        clear hfi hfo
        go_upto_region 6 with fail
        generalize hw5 : w4.alloc (.cells #[.slice L4 nl4 cl4, .slice R4 nr4 cr4, .int .i64 fi, .int .i64 fo] 69) = w5
        have X5 := hide2 (show Box w5 w4.heap.size 69 #[.slice L4 nl4 cl4, .slice R4 nr4 cr4, .int .i64 fi, .int .i64 fo] by rw [← hw5]; exact Box.new _ _ _)
        have b45 : Below w4.heap.size w4 w5 := by rw [← hw5]; exact boxBelow _ _
        have M5 := hide2 (M4.out.keep b45)
        have B5 := hide2 (B4.out.trans (b45.mono B4.out.size))
        clear hw5 b45 k0 k1 k2 k3 B4 M4
        have V := hide2 (HXB.out.keep B5.out)
        have VN := hide2 (HXN.out.keep B5.out)
        have VT := hide2 (HXT.out.keep B5.out)
        have VW := hide2 (HBW.out.trans (B5.out.mono HBW.out.size))
        obtain ⟨d0, d1, d2, d3⟩ := box4 X5.out
        obtain ⟨k0, k1, k2, k3⟩ := box4 V.out
        have f0 := V.out.frozen 0
        have f1 := V.out.frozen 1
        have f2 := V.out.frozen 2
        have f3 := V.out.frozen 3
        have NX := hide2 (show RefI w1.heap.size b w ⟨⟨P, ts⟩, i, o⟩ (gk - 1) st' (c + 1) ((((w5.setCell ⟨b, 0, none⟩ (.slice L4 nl4 cl4)).setCell ⟨b, 1, none⟩ (.slice R4 nr4 cr4)).setCell ⟨b, 2, none⟩ (.int .i64 fi)).setCell ⟨b, 3, none⟩ (.int .i64 fo)) L4 nl4 cl4 R4 nr4 cr4 from by
          have g1 : w5.grownBy ((((w5.setCell ⟨b, 0, none⟩ (.slice L4 nl4 cl4)).setCell ⟨b, 1, none⟩ (.slice R4 nr4 cr4)).setCell ⟨b, 2, none⟩ (.int .i64 fi)).setCell ⟨b, 3, none⟩ (.int .i64 fo)) (some b) := grown_setB (grown_setB (grown_setB (grown_setB (grown_reflB w5 _))))
          have hb3 := HB3.out
          have hg := HG.out
          have rm := RM.out
          have rc := RC.out
          have hm := OK'.out.2
          refine ⟨?_, by omega, by omega, OK'.out.1, M5.out.boxed V.out (by decide) (by decide) g1, by rw [HFI.out, HFO.out]; exact MnM.box4 V.out _ _ _ _, VW.out.grown g1 VW.out.size (fun q hq => by cases hq; omega), VN.out.grown g1 (by simp; omega), VT.out.grown g1 (by simp; omega), hb3, ?_⟩
          · rw [← RN.out]
            have := runS_some (f := gk - 1) (s := st) (k := c) ST.out
            rw [show gk - 1 + 1 = gk by omega] at this
            exact this.symm
          · have := g1.size
            have h5 := B5.out.size
            have := HXB.out.lt
            exact Nat.le_trans (Nat.le_trans hBs h5) g1.size)
        go_wp2
        go_roundg (gk - 1)
        case measure => have := HG.out; omega
        case rel => exact ⟨st', c + 1, L4, nl4, cl4, R4, nr4, cr4, by go_num, NX.out⟩
  · have RL := hide2 (show redL ⟨P, ts⟩ i o = (⟨0, []⟩, (0, 0, 0), e0) by unfold redL; rw [HE.out, if_neg hz])
    have hz' : (e0 == 0) = false := by simpa using hz
    have f0 := Y1.out.frozen 0
    have f1 := Y1.out.frozen 1
    obtain ⟨g0, g1⟩ := Y1.out.two
    have g3 := Y2.out.frozen 0
    have g4 := Y2.out.frozen 1
    have g5 := Y2.out.frozen 2
    obtain ⟨g6, g7, g8⟩ := Y2.out.three
    go_wp2
    have WN := Y1.out.set2 (.int .i64 0) (.slice none 0 0)
    have WT := (((Y2.out.other (a := ⟨w.heap.size + 1, 0, none⟩) (.int .i64 0) (by simp)).other (a := ⟨w.heap.size + 1, 1, none⟩) (.slice none 0 0) (by simp)).set3 (.int .i64 0) (.int .i64 0) (.int .i64 0))
    have WN' := WN.other3 (b := w.heap.size + 1 + 1) (by omega) (.int .i64 0) (.int .i64 0) (.int .i64 0)
    have WB := below_set3 (b := w.heap.size + 1 + 1) ((D1.out.setCell (p := ⟨w.heap.size + 1, 0, none⟩) (by simp) (.int .i64 0)).setCell (p := ⟨w.heap.size + 1, 1, none⟩) (by simp) (.slice none 0 0)) (by omega) (.int .i64 0) (.int .i64 0) (.int .i64 0)
    obtain ⟨y0, y1⟩ := WN'.two
    obtain ⟨y2, y3, y4⟩ := WT.three
    refine bodyPost_ret (v := .tuple #[.agg #[.int .i64 0, .slice none 0 0], .agg #[.int .i64 0, .int .i64 0, .int .i64 0], .int .i64 e0]) (by simp [results, Try.results10, go_sem, y0, y1, y2, y3, y4]) rfl ?_
    rw [RL.out]
    exact ⟨none, 0, 0, rfl, Sl.nil0, WB⟩
end Go.Proofs.Ytadepofaobdbhaa
