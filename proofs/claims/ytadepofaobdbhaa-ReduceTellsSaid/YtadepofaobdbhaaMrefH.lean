/- The contract of smaller of the reference's net by rows: one step, or none. Conditions: each row has two small numbers a label. -/
import Derived.Test.YtadepofaobdbhaaMrefG
namespace Go.Proofs.Ytadepofaobdbhaa
open Go.RowKit

/-- What the reference's steps keep. -/
def MOk (m : PM) (nl : Nat) : Prop := (∀ r ∈ m.rows, r.length = 2 * nl ∧ ∀ x ∈ r, 0 ≤ x ∧ x ≤ 9) ∧ (0 ≤ m.i ∧ m.i ≤ 1000) ∧ (0 ≤ m.o ∧ m.o ≤ 1000)
/-- A net that is handed back goes into the result's box. -/
theorem ansSer_box {B b N : Nat} {m m' : PM} {w w1 w' : World} {L : Option Addr} {nl cl : Nat} {R : Option Addr} {nr cr : Nat} (h : MnR B w1 L nl cl R nr cr m') (hX : Box w1 b 69 mn0) (hb : Below N w w1) (hN : N = w.heap.size) (hlo : N ≤ b)
    (hw : w' = (((w1.setCell ⟨b, 0, none⟩ (.slice L nl cl)).setCell ⟨b, 1, none⟩ (.slice R nr cr)).setCell ⟨b, 2, none⟩ (.int .i64 m'.i)).setCell ⟨b, 3, none⟩ (.int .i64 m'.o)) :
    Box w' b 69 #[.slice L nl cl, .slice R nr cr, .int .i64 m'.i, .int .i64 m'.o] ∧ AnsSer B m (some m') w (.returned (.tuple #[.agg #[.slice L nl cl, .slice R nr cr, .int .i64 m'.i, .int .i64 m'.o], .bool true])) w' := by
  have g1 : w1.grownBy w' (some b) := by rw [hw]; exact grown_setB (grown_setB (grown_setB (grown_setB (grown_reflB w1 _))))
  refine ⟨by rw [hw]; exact MnM.box4 hX _ _ _ _, L, nl, cl, R, nr, cr, rfl, h.boxed hX (by decide) (by decide) g1, ?_⟩
  rw [← hN, hw]
  exact (((hb.setCell (p := ⟨b, 0, none⟩) hlo _).setCell (p := ⟨b, 1, none⟩) hlo _).setCell (p := ⟨b, 2, none⟩) hlo _).setCell (p := ⟨b, 3, none⟩) hlo _

set_option maxRecDepth 100000 in
set_option maxHeartbeats 16000000 in
theorem smaller_calls {B : Nat} {w : World} {L : Option Addr} {nl cl : Nat} {R : Option Addr} {nr cr : Nat} {m : PM} (h : MnR B w L nl cl R nr cr m) (hBw : B ≤ w.heap.size) (hok : MOk m nl) :
    Calls Try.prog 45 #[.agg #[.slice L nl cl, .slice R nr cr, .int .i64 m.i, .int .i64 m.o]] w (AnsSer B m (smallerM m) w) := by
  have HM := hide2 h
  have HMO := hide2 hok
  obtain ⟨hL, hR, hnl, hnr⟩ := h
  have HR := hide2 (toOLists hR (by omega))
  have HLN := hide2 (OwnSl.len hR)
  have HLL := hide2 (OwnSl.len hL)
  obtain ⟨mi, hmi⟩ : ∃ x, m.i = x := ⟨_, rfl⟩
  obtain ⟨mo, hmo⟩ : ∃ x, m.o = x := ⟨_, rfl⟩
  have HMI := hide2 hmi
  have HMO2 := hide2 hmo
  rw [hmi, hmo]
  generalize hw0 : (w.alloc (.cells #[.slice L nl cl, .slice R nr cr, .int .i64 mi, .int .i64 mo] 69)).alloc (.cells mn0 69) = w0
  have D0 := hide2 (show Below w.heap.size w w0 by rw [← hw0]; exact ((Below.refl _ _).alloc (Nat.le_refl _) _).alloc (by simp) _)
  have X0 := hide2 (show Box w0 w.heap.size 69 #[.slice L nl cl, .slice R nr cr, .int .i64 mi, .int .i64 mo] by rw [← hw0]; exact (Box.new _ _ _).old _)
  have X1 := hide2 (show Box w0 (w.heap.size + 1) 69 mn0 by rw [← hw0]; exact Box.newAt (by simp) _ _)
  have hw2 : ∀ k : Nat, k < nl → IntKind.i64.wrap (2 * (k : Int)) = 2 * (k : Int) ∧ IntKind.i64.wrap (2 * (k : Int) + 1) = 2 * (k : Int) + 1 := fun k hk => by
    constructor
    · simp [IntKind.wrap, go_sem]; omega
    · simp [IntKind.wrap, go_sem]; omega
  have HW2 := hide2 hw2
  have F0 := hide2 (show ∀ k j, k < nl → j < k → sameTM m k j = true → NoPair (sameTM m) k j → smallerM m = some (noTranM m k) from fun k j hk hj hf hn => by
    unfold smallerM smaT
    rw [firstPair_some (by rw [HLL.out]; exact hk) hj hf (fun a ha c hc => hn.1 a ha c hc)]
    rfl)
  have F1 := hide2 (show NoPair (sameTM m) nl 0 → smaT m = none from fun hn => by
    unfold smaT
    rw [firstPair_none (by rw [HLL.out]; exact fun a ha c hc => hn.1 a ha c hc)]
    rfl)
  have G0 := hide2 (show smaT m = none → ∀ q p, q < nr → p < q → samePM m q p = true → NoPair (samePM m) q p → smallerM m = some (noPlaceM m q) from fun h0 q p hq hp hf hn => by
    unfold smallerM smaP
    rw [h0, firstPair_some (by rw [HLN.out]; exact hq) hp hf (fun a ha c hc => hn.1 a ha c hc)]
    rfl)
  have G1 := hide2 (show NoPair (samePM m) nr 0 → smaP m = none from fun hn => by
    unfold smaP
    rw [firstPair_none (by rw [HLN.out]; exact fun a ha c hc => hn.1 a ha c hc)]
    rfl)
  have S0 := hide2 (show smaT m = none → smaP m = none → ∀ q x, q < nr → (∀ a, a < q → serM m a = none) → serM m q = some x → smallerM m = some x from fun h0 h1 q x hq hn hx => by
    unfold smallerM smaS
    rw [h0, h1, findSome_range_some (by rw [HLN.out]; exact hq) hn hx]
    rfl)
  have S1 := hide2 (show smaT m = none → smaP m = none → (∀ a, a < nr → serM m a = none) → smallerM m = none from fun h0 h1 hn => by
    unfold smallerM smaS
    rw [h0, h1, findSome_range_none (by rw [HLN.out]; exact hn)]
    rfl)
  clear hL hR hmi hmo hw2 hok
  obtain ⟨a0, a1, a2, a3⟩ := box4 X0.out
  go_enter Try.func45, Try.ntmps45
  go_upto_region 1 with fail
  clear hw0
  go_wp2
  clear a0 a1 a2 a3
  go_loopg [17] nl (fun gk iv wr => ∃ k : Nat, k + gk = nl ∧ iv = .int .i64 k ∧ Hid (NoPair (sameTM m) k 0) ∧ Hid (Below w0.heap.size w0 wr))
  case atStart => exact ⟨0, by omega, rfl, NoPair.start _, Below.refl _ _⟩
  case round =>
    obtain ⟨k, hk, rfl, hnp, hb⟩ := hrel
    by_cases hlt : k < nl
    · have NP := hnp
      have DD := hide2 hb.out
      clear hnp hb
      go_wp2
      obtain ⟨wo, hwo⟩ : ∃ wo : World, wo = wr := ⟨_, rfl⟩
      subst hwo
      obtain ⟨gO, hgO⟩ : ∃ g : Nat, g = gk := ⟨_, rfl⟩
      subst hgO
      go_loopg [21] k (fun gj iv wr => ∃ j : Nat, j + gj = k ∧ iv = .int .i64 j ∧ Hid (NoPair (sameTM m) k j) ∧ Hid (Below w0.heap.size w0 wr))
      case atStart => exact ⟨0, by omega, rfl, NP.out, DD.out⟩
      case round =>
        obtain ⟨j, hj, rfl, hnp, hb⟩ := hrel
        by_cases hjk : j < k
        · have NJ := hnp
          have DJ := hide2 hb.out
          obtain ⟨c0, c1, c2, c3⟩ := box4 (X0.out.keep hb.out)
          clear hnp hb
          go_wp2
          clear c0 c1 c2 c3
          obtain ⟨wi, hwi⟩ : ∃ wi : World, wi = wr := ⟨_, rfl⟩
          subst hwi
          obtain ⟨gI, hgI⟩ : ∃ g : Nat, g = gk := ⟨_, rfl⟩
          subst hgI
          go_loopg [6, 27] nr (fun gj v iv wr => ∃ (q : Nat) (b : Bool), q + gj = nr ∧ iv = .int .i64 q ∧ v = .bool b ∧ Hid (b = (m.rows.take q).all (sameRow k j)) ∧ Hid (Below w0.heap.size w0 wr))
          case atStart => exact ⟨0, true, by omega, rfl, rfl, rfl, DJ.out⟩
          case round =>
            obtain ⟨q, b, hq, rfl, rfl, hbv, hb⟩ := hrel
            have BW := hide2 (D0.out.trans (hb.out.mono D0.out.size))
            by_cases hqn : q < nr
            · obtain ⟨br, ofr, x, D, mm, d, rfl, hbr, hx, q0, ox, ix, mx⟩ := OLists.get HR.out hqn
              have q0r := (BW.out.cell (p := ⟨br, ofr + q, none⟩) hbr).trans q0
              have hmm : mm = 2 * nl := by rw [← ix.len]; exact (HMO.out.1 x (List.mem_of_getElem? hx.out)).1
              have IXW := Ints.keep ix BW.out
              obtain ⟨b1, o1, y1, hD1, hb1, hy1, d1⟩ := Ints.get IXW (show 2 * j < mm by omega)
              obtain ⟨b2, o2, y2, hD2, hb2, hy2, d2⟩ := Ints.get IXW (show 2 * k < mm by omega)
              obtain ⟨b3, o3, y3, hD3, hb3, hy3, d3⟩ := Ints.get IXW (show 2 * j + 1 < mm by omega)
              obtain ⟨b4, o4, y4, hD4, hb4, hy4, d4⟩ := Ints.get IXW (show 2 * k + 1 < mm by omega)
              subst hD1
              injection hD2 with hD2
              injection hD2 with e1 e2
              subst e1 e2
              injection hD3 with hD3
              injection hD3 with e1 e2
              subst e1 e2
              injection hD4 with hD4
              injection hD4 with e1 e2
              subst e1 e2
              obtain ⟨wk1, wk2⟩ := HW2.out k hlt
              obtain ⟨wj1, wj2⟩ := HW2.out j (by omega)
              have n1 : (2 * (j : Int)).toNat = 2 * j := by omega
              have n2 : (2 * (j : Int) + 1).toNat = 2 * j + 1 := by omega
              have n3 : (2 * (k : Int)).toNat = 2 * k := by omega
              have n4 : (2 * (k : Int) + 1).toNat = 2 * k + 1 := by omega
              have n5 : (0 : Int) ≤ 2 * (j : Int) := by omega
              have n6 : (0 : Int) ≤ 2 * (j : Int) + 1 := by omega
              have n7 : (0 : Int) ≤ 2 * (k : Int) := by omega
              have n8 : (0 : Int) ≤ 2 * (k : Int) + 1 := by omega
              have n9 : 2 * (j : Int) < (mm : Int) := by omega
              have n10 : 2 * (j : Int) + 1 < (mm : Int) := by omega
              have n11 : 2 * (k : Int) < (mm : Int) := by omega
              have n12 : 2 * (k : Int) + 1 < (mm : Int) := by omega
              have NX := hide2 (show ∀ c : Bool, (b && (decide (y1 = y2) && decide (y3 = y4))) = c → c = (m.rows.take (q + 1)).all (sameRow k j) from fun c hc => by
                obtain ⟨hql, hxe⟩ := List.getElem?_eq_some_iff.1 hx.out
                rw [List.take_succ_eq_append_getElem hql, hxe, List.all_append, ← hbv.out, ← hc]
                simp only [List.all_cons, List.all_nil, Bool.and_true]
                unfold sameRow
                rw [getD_get hy1.out, getD_get hy2.out, getD_get hy3.out, getD_get hy4.out])
              have DQ := hide2 hb.out
              have DN := hide2 (show ∀ n, Below w0.heap.size w0 (wr.drewN n) from fun n => DQ.out.trans ((Drew.drewN _ _).below.mono DQ.out.size))
              clear q0 ix hmm IXW hbr hb hbv
              cases b
              · have NF := hide2 (NX.out false (by simp))
                go_upto_region 11 with fail
                go_quiet (fail)
                go_wp2
                go_roundg (gk - 1)
                case measure => omega
                case rel => exact ⟨q + 1, false, by omega, by simp, rfl, NF.out, DN.out _⟩
              · by_cases g1 : y1 = y2
                · by_cases g2 : y3 = y4
                  · have NF := hide2 (NX.out true (by simp [g1, g2]))
                    have g1' : (y1 == y2) = true := by simpa using g1
                    have g2' : (y3 == y4) = true := by simpa using g2
                    subst g1 g2
                    go_upto_region 11 with fail
                    go_quiet (fail)
                    go_wp2
                    go_roundg (gk - 1)
                    case measure => omega
                    case rel => exact ⟨q + 1, true, by omega, by simp, by first | rfl | simp, NF.out, DN.out _⟩
                  · have NF := hide2 (NX.out false (by simp [g2]))
                    have g2' : (y3 == y4) = false := by simpa using g2
                    subst g1
                    go_upto_region 11 with fail
                    go_quiet (fail)
                    go_wp2
                    go_roundg (gk - 1)
                    case measure => omega
                    case rel => exact ⟨q + 1, false, by omega, by simp, by first | rfl | simp, NF.out, DN.out _⟩
                · have NF := hide2 (NX.out false (by simp [g1]))
                  have g1' : (y1 == y2) = false := by simpa using g1
                  go_upto_region 11 with fail
                  go_quiet (fail)
                  go_wp2
                  go_roundg (gk - 1)
                  case measure => omega
                  case rel => exact ⟨q + 1, false, by omega, by simp, by first | rfl | simp, NF.out, DN.out _⟩
            · obtain rfl : q = nr := by omega
              have SB := hide2 (show sameTM m k j = b by rw [hbv.out, List.take_of_length_le (by rw [HLN.out]; omega)]; rfl)
              cases b
              · have GG := hide2 (NJ.out.more SB.out)
                go_wp2
                go_roundg (gI - 1)
                case measure => omega
                case rel => exact ⟨j + 1, by omega, by simp, GG.out, hb.out⟩
              · have FIN := hide2 (F0.out k j hlt hjk SB.out NJ.out)
                have DZ := hide2 hb.out
                have CN := hide2 (noTran_calls (k := k) (HM.out.keep BW.out) (Nat.le_trans hBw BW.out.size) hlt (fun r hr => (HMO.out.1 r hr).1))
                rw [HMI.out, HMO2.out] at CN
                obtain ⟨c0, c1, c2, c3⟩ := box4 (X0.out.keep hb.out)
                go_wp2_with fail
                (with_reducible refine CN.out.mono ?_)
                rintro e1 w5 ⟨L5, nl5, cl5, R5, nr5, cr5, rfl, MR5, BL5⟩
                have X15 := hide2 ((X1.out.keep DZ.out).keep BL5)
                have MR := hide2 MR5
                have BW5 := hide2 ((D0.out.trans (DZ.out.mono D0.out.size)).trans (BL5.mono (D0.out.trans (DZ.out.mono D0.out.size)).size))
                obtain ⟨fi, hfi⟩ : ∃ x, (noTranM m k).i = x := ⟨_, rfl⟩
                obtain ⟨fo, hfo⟩ : ∃ x, (noTranM m k).o = x := ⟨_, rfl⟩
                have HFI := hide2 hfi
                have HFO := hide2 hfo
                rw [hfi, hfo]
                clear hfi hfo MR5 BL5
                have r0 := X15.out.frozen 0
                have r1 := X15.out.frozen 1
                have r2 := X15.out.frozen 2
                have r3 := X15.out.frozen 3
                obtain ⟨z0, z1, z2, z3⟩ := box4 X15.out
                go_wp2
                obtain ⟨XR, AS⟩ := ansSer_box (m := m) (m' := noTranM m k) (b := w.heap.size + 1) MR.out X15.out BW5.out rfl (by omega) rfl
                rw [HFI.out, HFO.out] at XR AS
                obtain ⟨y0, y1, y2, y3⟩ := box4 XR
                refine bodyPost_ret (v := .tuple #[.agg #[.slice L5 nl5 cl5, .slice R5 nr5 cr5, .int .i64 fi, .int .i64 fo], .bool true]) (by simp [results, Try.results45, go_sem, y0, y1, y2, y3]) rfl ?_
                rw [FIN.out]
                exact AS
        · obtain rfl : j = k := by omega
          have NX := hide2 hnp.out.next
          go_wp2
          go_roundg (gO - 1)
          case measure => omega
          case rel => exact ⟨j + 1, by omega, by simp, NX.out, hb.out⟩
    · obtain rfl : k = nl := by omega
      have HT := hide2 (F1.out hnp.out)
      have DT := hide2 hb.out
      obtain ⟨c0, c1, c2, c3⟩ := box4 (X0.out.keep hb.out)
      clear hnp hb F0
      go_wp2
      clear c0 c1 c2 c3
      go_loopg [70] nr (fun gk iv wr => ∃ q : Nat, q + gk = nr ∧ iv = .int .i64 q ∧ Hid (NoPair (samePM m) q 0) ∧ Hid (Below w0.heap.size w0 wr))
      case atStart => exact ⟨0, by omega, rfl, NoPair.start _, DT.out⟩
      case round =>
        obtain ⟨q, hq, rfl, hnp, hb⟩ := hrel
        by_cases hqn : q < nr
        · have NP := hnp
          have DD := hide2 hb.out
          clear hnp hb
          go_wp2
          obtain ⟨wo, hwo⟩ : ∃ wo : World, wo = wr := ⟨_, rfl⟩
          subst hwo
          obtain ⟨gO, hgO⟩ : ∃ g : Nat, g = gk := ⟨_, rfl⟩
          subst hgO
          go_loopg [74] q (fun gj iv wr => ∃ p : Nat, p + gj = q ∧ iv = .int .i64 p ∧ Hid (NoPair (samePM m) q p) ∧ Hid (Below w0.heap.size w0 wr))
          case atStart => exact ⟨0, by omega, rfl, NP.out, DD.out⟩
          case round =>
            obtain ⟨p, hp, rfl, hnp, hb⟩ := hrel
            by_cases hpq : p < q
            · have NJ := hnp
              have DQ := hide2 hb.out
              have BW := hide2 (D0.out.trans (hb.out.mono D0.out.size))
              have DN := hide2 (show ∀ n, Below w0.heap.size w0 (wr.drewN n) from fun n => DQ.out.trans ((Drew.drewN _ _).below.mono DQ.out.size))
              obtain ⟨c0, c1, c2, c3⟩ := box4 (X0.out.keep hb.out)
              obtain ⟨bl, off, xp, Dp, mp, dp, rfl, hbl, hxp, q0p, oxp, ixp, mxp⟩ := OLists.get HR.out (show p < nr by omega)
              obtain ⟨bl', off', xq, Dq, mq, dq, hA', hbl', hxq, q0q, oxq, ixq, mxq⟩ := OLists.get HR.out hqn
              injection hA' with hA'
              injection hA' with e1 e2
              subst e1 e2
              have q0p' := (BW.out.cell (p := ⟨bl, off + p, none⟩) hbl).trans q0p
              have q0q' := (BW.out.cell (p := ⟨bl, off + q, none⟩) hbl).trans q0q
              have IP := hide2 (Ints.keep ixp BW.out)
              have IQ := hide2 (Ints.keep ixq BW.out)
              obtain ⟨bq, hbq⟩ : ∃ b, (xp == xq) = b := ⟨_, rfl⟩
              have EQ := hide2 (show ∀ n, Calls Try.prog 30 #[.slice Dp mp dp, .slice Dq mq dq] (wr.drewN n) (fun e w' => e = .returned (.bool bq) ∧ Drew (wr.drewN n) w') from fun n => by
                have := equalInts_calls (Ints.keep IP.out (Drew.drewN wr n).below) (Ints.keep IQ.out (Drew.drewN wr n).below)
                rw [hbq] at this
                exact this)
              have SB := hide2 (show samePM m q p = ((m.rows.getD p [] == m.rows.getD q []) && decide ((p : Int) ≠ mi) && decide ((p : Int) ≠ mo) && decide ((q : Int) ≠ mi) && decide ((q : Int) ≠ mo)) by unfold samePM; rw [HMI.out, HMO2.out])
              have F0' := hide2 (show (m.rows.getD p [] == m.rows.getD q []) = bq by rw [show m.rows.getD p [] = xp by simp [hxp.out], show m.rows.getD q [] = xq by simp [hxq.out], hbq])
              clear hnp hb q0p q0q ixp ixq hbl hbl' hbq
              have hpn : p < nr := by omega
              have hpn' : (p : Int) < (nr : Int) := by omega
              have hqn' : (q : Int) < (nr : Int) := by omega
              cases bq
              · have GG := hide2 (NJ.out.more (by rw [SB.out, F0'.out]; rfl))
                go_upto_region 23 with fail
                go_quiet ((go_at_call 30; exact quietCallD (EQ.out _)))
                go_wp2
                go_roundg (gk - 1)
                case measure => omega
                case rel => exact ⟨p + 1, by omega, by simp, GG.out, DN.out _⟩
              ·
                by_cases g1 : (p : Int) ≠ mi
                · have g1' : (((p : Nat) : Int) == mi) = false := by simpa using g1
                  have g1'' : (((p : Nat) : Int) != mi) = true := by simpa using g1
                  by_cases g2 : (p : Int) ≠ mo
                  · have g2' : (((p : Nat) : Int) == mo) = false := by simpa using g2
                    have g2'' : (((p : Nat) : Int) != mo) = true := by simpa using g2
                    by_cases g3 : (q : Int) ≠ mi
                    · have g3' : (((q : Nat) : Int) == mi) = false := by simpa using g3
                      have g3'' : (((q : Nat) : Int) != mi) = true := by simpa using g3
                      by_cases g4 : (q : Int) ≠ mo
                      · have g4' : (((q : Nat) : Int) == mo) = false := by simpa using g4
                        have g4'' : (((q : Nat) : Int) != mo) = true := by simpa using g4
                        have FIN := hide2 (G0.out HT.out q p hqn hpq (by rw [SB.out, F0'.out, decide_eq_true g1, decide_eq_true g2, decide_eq_true g3, decide_eq_true g4]; rfl) NJ.out)
                        go_upto_region 23 with fail
                        go_quiet ((go_at_call 30; exact quietCallD (EQ.out _)))
                        have DZ := hide2 (DN.out nq)
                        generalize wr.drewN nq = wz at *
                        have BZ := hide2 (D0.out.trans (DZ.out.mono D0.out.size))
                        have CN := hide2 (noPlace_calls (p := q) (HM.out.keep BZ.out) (Nat.le_trans hBw BZ.out.size) hqn HMO.out.2.1 HMO.out.2.2)
                        rw [HMI.out, HMO2.out] at CN
                        obtain ⟨d0, d1, d2, d3⟩ := box4 (X0.out.keep DZ.out)
                        go_wp2_with fail
                        (with_reducible refine CN.out.mono ?_)
                        rintro e1 w5 ⟨L5, nl5, cl5, R5, nr5, cr5, rfl, MR5, BL5⟩
                        have X15 := hide2 ((X1.out.keep DZ.out).keep BL5)
                        have MR := hide2 MR5
                        have BW5 := hide2 ((D0.out.trans (DZ.out.mono D0.out.size)).trans (BL5.mono (D0.out.trans (DZ.out.mono D0.out.size)).size))
                        obtain ⟨fi, hfi⟩ : ∃ x, (noPlaceM m q).i = x := ⟨_, rfl⟩
                        obtain ⟨fo, hfo⟩ : ∃ x, (noPlaceM m q).o = x := ⟨_, rfl⟩
                        have HFI := hide2 hfi
                        have HFO := hide2 hfo
                        rw [hfi, hfo]
                        clear hfi hfo MR5 BL5
                        have r0 := X15.out.frozen 0
                        have r1 := X15.out.frozen 1
                        have r2 := X15.out.frozen 2
                        have r3 := X15.out.frozen 3
                        obtain ⟨z0, z1, z2, z3⟩ := box4 X15.out
                        go_wp2
                        obtain ⟨XR, AS⟩ := ansSer_box (m := m) (m' := noPlaceM m q) (b := w.heap.size + 1) MR.out X15.out BW5.out rfl (by omega) rfl
                        rw [HFI.out, HFO.out] at XR AS
                        obtain ⟨y0, y1, y2, y3⟩ := box4 XR
                        refine bodyPost_ret (v := .tuple #[.agg #[.slice L5 nl5 cl5, .slice R5 nr5 cr5, .int .i64 fi, .int .i64 fo], .bool true]) (by simp [results, Try.results45, go_sem, y0, y1, y2, y3]) rfl ?_
                        rw [FIN.out]
                        exact AS
                      · have GG := hide2 (NJ.out.more (by rw [SB.out, F0'.out, decide_eq_true g1, decide_eq_true g2, decide_eq_true g3, decide_eq_false g4]; simp))
                        have g4' : (((q : Nat) : Int) == mo) = true := by simpa using g4
                        have g4'' : (((q : Nat) : Int) != mo) = false := by simpa using g4
                        go_upto_region 23 with fail
                        go_quiet ((go_at_call 30; exact quietCallD (EQ.out _)))
                        go_wp2
                        go_roundg (gk - 1)
                        case measure => omega
                        case rel => exact ⟨p + 1, by omega, by simp, GG.out, DN.out _⟩
                    · have GG := hide2 (NJ.out.more (by rw [SB.out, F0'.out, decide_eq_true g1, decide_eq_true g2, decide_eq_false g3]; simp))
                      have g3' : (((q : Nat) : Int) == mi) = true := by simpa using g3
                      have g3'' : (((q : Nat) : Int) != mi) = false := by simpa using g3
                      go_upto_region 23 with fail
                      go_quiet ((go_at_call 30; exact quietCallD (EQ.out _)))
                      go_wp2
                      go_roundg (gk - 1)
                      case measure => omega
                      case rel => exact ⟨p + 1, by omega, by simp, GG.out, DN.out _⟩
                  · have GG := hide2 (NJ.out.more (by rw [SB.out, F0'.out, decide_eq_true g1, decide_eq_false g2]; simp))
                    have g2' : (((p : Nat) : Int) == mo) = true := by simpa using g2
                    have g2'' : (((p : Nat) : Int) != mo) = false := by simpa using g2
                    go_upto_region 23 with fail
                    go_quiet ((go_at_call 30; exact quietCallD (EQ.out _)))
                    go_wp2
                    go_roundg (gk - 1)
                    case measure => omega
                    case rel => exact ⟨p + 1, by omega, by simp, GG.out, DN.out _⟩
                · have GG := hide2 (NJ.out.more (by rw [SB.out, F0'.out, decide_eq_false g1]; simp))
                  have g1' : (((p : Nat) : Int) == mi) = true := by simpa using g1
                  have g1'' : (((p : Nat) : Int) != mi) = false := by simpa using g1
                  go_upto_region 23 with fail
                  go_quiet ((go_at_call 30; exact quietCallD (EQ.out _)))
                  go_wp2
                  go_roundg (gk - 1)
                  case measure => omega
                  case rel => exact ⟨p + 1, by omega, by simp, GG.out, DN.out _⟩
            · obtain rfl : p = q := by omega
              have NX := hide2 hnp.out.next
              go_wp2
              go_roundg (gO - 1)
              case measure => omega
              case rel => exact ⟨p + 1, by omega, by simp, NX.out, hb.out⟩
        · obtain rfl : q = nr := by omega
          have HP := hide2 (G1.out hnp.out)
          have DP := hide2 hb.out
          obtain ⟨c0, c1, c2, c3⟩ := box4 (X0.out.keep hb.out)
          clear hnp hb G0 G1
          go_wp2
          clear c0 c1 c2 c3
          go_loopg [120] q (fun gk iv wr => ∃ p : Nat, p + gk = q ∧ iv = .int .i64 p ∧ Hid (∀ a, a < p → serM m a = none) ∧ Hid (Below w0.heap.size w0 wr))
          case atStart => exact ⟨0, by omega, rfl, fun a ha => absurd ha (by omega), DP.out⟩
          case round =>
            obtain ⟨p, hp, rfl, hnp, hb⟩ := hrel
            by_cases hpq : p < q
            · have DZ := hide2 hb.out
              have BW := hide2 (D0.out.trans (hb.out.mono D0.out.size))
              obtain ⟨c0, c1, c2, c3⟩ := box4 (X0.out.keep hb.out)
              have CN := hide2 (serM_calls (p := p) (HM.out.keep BW.out) (Nat.le_trans hBw BW.out.size) hpq HMO.out.1 HMO.out.2.1 HMO.out.2.2)
              rw [HMI.out, HMO2.out] at CN
              have NM := hide2 (show serM m p = none → ∀ a, a < p + 1 → serM m a = none from fun h0 a ha => by
                by_cases e : a = p
                · subst e; exact h0
                · exact hnp.out a (by omega))
              have SO := hide2 (fun x hx => S0.out HT.out HP.out p x hpq hnp.out hx)
              clear hnp hb
              cases hs : serM m p with
              | none =>
                have NX := hide2 (NM.out hs)
                rw [hs] at CN
                clear hs
                go_wp2_with fail
                (with_reducible refine CN.out.mono ?_)
                rintro e1 w5 ⟨L5, nl5, cl5, R5, nr5, cr5, rfl, MR5, BL5⟩
                have B5 := hide2 (DZ.out.trans (BL5.mono DZ.out.size))
                clear MR5 BL5
                go_wp2
                go_roundg (gk - 1)
                case measure => omega
                case rel => exact ⟨p + 1, by omega, by simp, NX.out, B5.out.trans ((boxBelow _ _).mono B5.out.size)⟩
              | some x =>
                have FIN := hide2 (SO.out x hs)
                rw [hs] at CN
                clear hs
                go_wp2_with fail
                (with_reducible refine CN.out.mono ?_)
                rintro e1 w5 ⟨L5, nl5, cl5, R5, nr5, cr5, rfl, MR5, BL5⟩
                have X15 := hide2 ((X1.out.keep DZ.out).keep BL5)
                have MR := hide2 (show MnR B w5 L5 nl5 cl5 R5 nr5 cr5 x from MR5)
                have BW5 := hide2 (BW.out.trans (BL5.mono BW.out.size))
                obtain ⟨fi, hfi⟩ : ∃ y, x.i = y := ⟨_, rfl⟩
                obtain ⟨fo, hfo⟩ : ∃ y, x.o = y := ⟨_, rfl⟩
                have HFI := hide2 hfi
                have HFO := hide2 hfo
                rw [show ((some x).getD m).i = fi from hfi, show ((some x).getD m).o = fo from hfo]
                clear hfi hfo MR5 BL5
                go_upto_region 31 with fail
                generalize hw6 : w5.alloc (.cells #[.slice L5 nl5 cl5, .slice R5 nr5 cr5, .int .i64 fi, .int .i64 fo] 69) = w6
                have b56 : Below w5.heap.size w5 w6 := by rw [← hw6]; exact boxBelow _ _
                have X6 := hide2 (show Box w6 w5.heap.size 69 #[.slice L5 nl5 cl5, .slice R5 nr5 cr5, .int .i64 fi, .int .i64 fo] by rw [← hw6]; exact Box.new _ _ _)
                have X16 := hide2 (X15.out.keep b56)
                have MR6 := hide2 (MR.out.keep b56)
                have BW6 := hide2 (BW5.out.trans (b56.mono BW5.out.size))
                clear hw6 b56
                obtain ⟨d0, d1, d2, d3⟩ := box4 X6.out
                have r0 := X16.out.frozen 0
                have r1 := X16.out.frozen 1
                have r2 := X16.out.frozen 2
                have r3 := X16.out.frozen 3
                obtain ⟨z0, z1, z2, z3⟩ := box4 X16.out
                go_wp2
                obtain ⟨XR, AS⟩ := ansSer_box (m := m) (m' := x) (b := w.heap.size + 1) MR6.out X16.out BW6.out rfl (by omega) rfl
                rw [HFI.out, HFO.out] at XR AS
                obtain ⟨y0, y1, y2, y3⟩ := box4 XR
                refine bodyPost_ret (v := .tuple #[.agg #[.slice L5 nl5 cl5, .slice R5 nr5 cr5, .int .i64 fi, .int .i64 fo], .bool true]) (by simp [results, Try.results45, go_sem, y0, y1, y2, y3]) rfl ?_
                rw [FIN.out]
                exact AS
            · obtain rfl : p = q := by omega
              have NONE := hide2 (S1.out HT.out HP.out hnp.out)
              have X1z := hide2 (X1.out.keep hb.out)
              have BWz := hide2 (D0.out.trans (hb.out.mono D0.out.size))
              obtain ⟨c0, c1, c2, c3⟩ := box4 (X0.out.keep hb.out)
              have r0 := X1z.out.frozen 0
              have r1 := X1z.out.frozen 1
              have r2 := X1z.out.frozen 2
              have r3 := X1z.out.frozen 3
              obtain ⟨z0, z1, z2, z3⟩ := box4 X1z.out
              clear hb hnp
              go_wp2
              obtain ⟨y0, y1, y2, y3⟩ := box4 (MnM.box4 X1z.out (.slice L k cl) (.slice R p cr) (.int .i64 mi) (.int .i64 mo))
              refine bodyPost_ret (v := .tuple #[.agg #[.slice L k cl, .slice R p cr, .int .i64 mi, .int .i64 mo], .bool false]) (by simp [results, Try.results45, go_sem, y0, y1, y2, y3]) rfl ?_
              rw [NONE.out, ← HMI.out, ← HMO2.out]
              exact AnsSer.no HM.out (((((BWz.out.setCell (p := ⟨w.heap.size + 1, 0, none⟩) (by simp) _).setCell (p := ⟨w.heap.size + 1, 1, none⟩) (by simp) _).setCell (p := ⟨w.heap.size + 1, 2, none⟩) (by simp) _).setCell (p := ⟨w.heap.size + 1, 3, none⟩) (by simp) _))
end Go.Proofs.Ytadepofaobdbhaa
