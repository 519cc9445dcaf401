/- The contract of cases.Busy. Conditions: the net reads as a list. -/
import Derived.Test.YtmhcinmadelaeaaBusyA
import Derived.Test.YtmhcinmadelaeaaNetK
namespace Go.Proofs.Ytmhcinmadelaeaa
open Go.RowKit

/-- What a call answers that hands back a net and what is wrong. -/
def AnsNetE (p : PNet × Int) (w : World) (e : Ending) (w' : World) : Prop :=
  ∃ A n c, e = .returned (.tuple #[.agg #[.int .i64 p.1.places, .slice A n c], .int .i64 p.2]) ∧ Trans w' A n c p.1.trans ∧ Below w.heap.size w w'
theorem AnsNetE.no {e : Int} {w w' : World} (hb : Below w.heap.size w w') : AnsNetE (⟨0, []⟩, e) w (.returned (.tuple #[.agg #[.int .i64 0, .slice none 0 0], .int .i64 e])) w' :=
  ⟨none, 0, 0, rfl, Sl.nil0, hb⟩

set_option maxRecDepth 100000 in
set_option maxHeartbeats 8000000 in
theorem busyNet_calls {w : World} {P : Int} {A : Option Addr} {n c : Nat} {ts : List PTran} (h : Trans w A n c ts) :
    Calls Try.prog 50 #[.agg #[.int .i64 P, .slice A n c]] w (AnsNetE (busyNet ⟨P, ts⟩) w) := by
  have B0 := hide2 (((Below.refl _ _).alloc (Nat.le_refl _) (.cells #[.int .i64 P, .slice A n c] 38)).alloc (by simp) (.cells #[.int .i64 0, .slice none 0 0] 38) : Below w.heap.size w _)
  have X0 : Box ((w.alloc (.cells #[.int .i64 P, .slice A n c] 38)).alloc (.cells #[.int .i64 0, .slice none 0 0] 38)) w.heap.size 38 #[.int .i64 P, .slice A n c] := (Box.new _ _ _).old _
  have X1 : Box ((w.alloc (.cells #[.int .i64 P, .slice A n c] 38)).alloc (.cells #[.int .i64 0, .slice none 0 0] 38)) (w.heap.size + 1) 38 #[.int .i64 0, .slice none 0 0] := Box.newAt (by simp) _ _
  have hn := h.small
  have HL := hide2 h.len
  have H := hide2 h
  clear h
  cases hok : netOk ⟨P, ts⟩
  · have W0 := hide2 (wrongNet_not hok)
    have FIN := hide2 (show busyNet ⟨P, ts⟩ = (⟨0, []⟩, 2) by rw [busyNet, hok]; rfl)
    clear hok
    go_enter Try.func50, Try.ntmps50
    go_wp2_with fail
    refine (netWrong_calls _ P A n c ts (H.out.keep B0.out)).mono ?_
    rw [W0.out]
    rintro e w1 ⟨rfl, hb⟩
    have B1 := hide2 (B0.out.trans (hb.mono B0.out.size))
    have Y1 := hide2 (X1.keep hb)
    obtain ⟨c2, c3⟩ := Y1.out.two
    have cf := Y1.out.frozen 0
    have cg := Y1.out.frozen 1
    clear hb X0 X1
    go_wp2
    obtain ⟨r0, r1⟩ := (Y1.out.set2 (.int .i64 0) (.slice none 0 0)).two
    exact bodyPost_ret (v := .tuple #[.agg #[.int .i64 0, .slice none 0 0], .int .i64 2]) (by simp [results, Try.results50, go_sem, r0, r1]) rfl (by rw [FIN.out]; exact AnsNetE.no ((B1.out.setCell (by simp) _).setCell (by simp) _))
  · have W0 := hide2 (wrongNet_ok hok)
    have HO := hide2 hok
    clear hok
    obtain ⟨p, rfl⟩ : ∃ p : Nat, P = (p : Int) := ⟨P.toNat, by have := ((netOk_iff _).1 HO.out).1; simp only [] at this; omega⟩
    have hp16 : p ≤ 16 := by have := ((netOk_iff _).1 HO.out).2.1; simp only [] at this; omega
    have hn24 : n ≤ 24 := by have := ((netOk_iff _).1 HO.out).2.2.1; rw [HL.out] at this; exact this
    go_enter Try.func50, Try.ntmps50
    go_wp2_with fail
    refine (netWrong_calls _ (p : Int) A n c ts (H.out.keep B0.out)).mono ?_
    rw [W0.out]
    rintro e w1 ⟨rfl, hb⟩
    have B1 := hide2 (B0.out.trans (hb.mono B0.out.size))
    have Y0 := hide2 (X0.keep hb)
    have Y1 := hide2 (X1.keep hb)
    obtain ⟨c0, c1⟩ := Y0.out.two
    clear hb X0 X1
    go_upto_region 5 with fail
    generalize hw2 : w1.alloc (.cells #[.int .i64 p] 3) = w2
    have hb2 : Below w1.heap.size w1 w2 := by rw [← hw2]; exact boxBelow _ _
    have Z0 := hide2 (Y0.out.keep hb2)
    have Z1 := hide2 (Y1.out.keep hb2)
    have Z2 := hide2 (show Box w2 w1.heap.size 3 #[.int .i64 p] by rw [← hw2]; exact Box.new _ _ _)
    have B2 := hide2 (B1.out.trans (hb2.mono B1.out.size))
    have hb5 : w.heap.size + 1 < w1.heap.size := Y1.out.lt
    clear hw2 hb2 Y0 Y1 B1 c0 c1
    generalize w1.heap.size = b5 at *
    obtain ⟨c0, c1⟩ := Z0.out.two
    go_wp2
    go_loopw [25] (fun i wr => ∃ k : Nat, k ≤ n ∧ i = .int .i64 k ∧ Hid (Box wr w.heap.size 38 #[.int .i64 p, .slice A n c]) ∧ Hid (Box wr (w.heap.size + 1) 38 #[.int .i64 0, .slice none 0 0]) ∧ Hid (Box wr b5 3 #[.int .i64 ((p + seenN (ts.take k) : Nat) : Int)]) ∧ Hid (Below w.heap.size w wr)) (fun i _ => n - (intOf i).toNat)
    case atStart => exact ⟨0, Nat.zero_le _, rfl, Z0, Z1, by simpa [seenN] using Z2, B2⟩
    case round =>
      obtain ⟨k, hk, rfl, V0, V1, V2, D⟩ := hrel
      clear c0 c1
      by_cases hlt : k < n
      · have hki : (k : Int) < (n : Int) := by omega
        obtain ⟨bl, off, t, A1, n1, k1, A2, n2, k2, rfl, hbl, ht, q0, q1, q2, i1, i2, m1, m2⟩ := Trans.get (H.out.keep D.out) hlt
        have hT := netOk_tran HO.out ht.out
        have hl0 := hT.1
        have SN := hide2 (show seenN (ts.take (k + 1)) = seenN (ts.take k) + (if t.label = 0 then 0 else 1) by rw [take_snoc ht.out, seenN_snoc])
        have hs : seenN (ts.take k) ≤ 24 := by have := seenN_le (ts.take k); rw [List.length_take] at this; omega
        obtain ⟨sn, hsn⟩ : ∃ sn, seenN (ts.take k) = sn := ⟨_, rfl⟩
        rw [hsn] at V2 SN hs
        have BX := hide2 (boxBelow wr (.cells #[.int .i64 t.label, .slice A1 n1 k1, .slice A2 n2 k2] 107))
        have U0 := hide2 (V0.out.keep BX.out)
        have U1 := hide2 (V1.out.keep BX.out)
        have U2 := hide2 (V2.out.keep BX.out)
        have D2 := hide2 (D.out.trans (BX.out.mono D.out.size))
        have hb5r : b5 < wr.heap.size := V2.out.lt
        clear i1 i2 hsn hT V0 V1 V2 D BX
        go_upto_region 8 with fail
        generalize hw3 : wr.alloc (.cells #[.int .i64 t.label, .slice A1 n1 k1, .slice A2 n2 k2] 107) = w3 at *
        have U3 := hide2 (show Box w3 wr.heap.size 107 #[.int .i64 t.label, .slice A1 n1 k1, .slice A2 n2 k2] by rw [← hw3]; exact Box.new _ _ _)
        clear hw3 q0 q1 q2
        generalize wr.heap.size = bx at *
        obtain ⟨t0, t1, t2⟩ := U3.out.three
        have y0 := U2.out.cell 0
        have yf := U2.out.frozen 0
        simp only [List.getElem?_toArray, List.getElem?_cons_zero] at y0
        by_cases hz : t.label = 0
        · have S0 := hide2 (show Box w3 b5 3 #[.int .i64 ((p + seenN (ts.take (k + 1)) : Nat) : Int)] by rw [SN.out, if_pos hz]; exact U2.out)
          rw [hz] at t0
          clear hz SN
          go_wp2
          go_roundw
          case rel => exact ⟨k + 1, by omega, by go_num, U0, U1, S0, D2⟩
          case measure => simp [intOf]; omega
        · have hpos : 0 < t.label := by omega
          have hbs := Beside.set w3 b5 0 (.int .i64 ((p + sn : Nat) + 1 : Int))
          have S0 := hide2 (show Box (w3.setCell ⟨b5, 0, none⟩ (.int .i64 ((p + sn : Nat) + 1 : Int))) b5 3 #[.int .i64 ((p + seenN (ts.take (k + 1)) : Nat) : Int)] by
            rw [SN.out, if_neg hz]
            have := U2.out.set 0 (.int .i64 ((p + sn : Nat) + 1 : Int))
            simpa [Nat.add_assoc, Int.add_assoc] using this)
          have S1 := hide2 (hbs.box U0.out (by omega))
          have S2 := hide2 (hbs.box U1.out (by omega))
          have D3 := hide2 (D2.out.setCell (show w.heap.size ≤ (⟨b5, 0, none⟩ : Addr).block by show w.heap.size ≤ b5; omega) (.int .i64 ((p + sn : Nat) + 1 : Int)))
          clear hbs hz SN
          go_wp2
          go_roundw
          case rel => exact ⟨k + 1, by omega, by go_num, S1, S2, S0, D3⟩
          case measure => simp [intOf]; omega
      · obtain rfl : k = n := by omega
        have ET := hide2 (show ts.take k = ts by rw [List.take_of_length_le (by rw [HL.out]; exact Nat.le_refl _)])
        rw [ET.out] at V2
        have hs : seenN ts ≤ 24 := by have := seenN_le ts; rw [HL.out] at this; omega
        obtain ⟨sn, hsn⟩ : ∃ sn, seenN ts = sn := ⟨_, rfl⟩
        rw [hsn] at V2 hs
        obtain ⟨c0, c1⟩ := V0.out.two
        have y0 := V2.out.cell 0
        simp only [List.getElem?_toArray, List.getElem?_cons_zero] at y0
        obtain ⟨m, hm⟩ : ∃ m : Nat, p + sn = m := ⟨_, rfl⟩
        have hmi : ((p + sn : Nat) : Int) = (m : Int) := by rw [hm]
        rw [hmi] at V2 y0
        have HM := hide2 hm
        have HSN := hide2 hsn
        clear hmi hsn hm
        by_cases hfit : m ≤ 16 ∧ k + sn ≤ 24
        · obtain ⟨hm16, hk24⟩ := hfit
          have FIN := hide2 (show busyNet ⟨(p : Int), ts⟩ = (⟨(m : Int), busyGo m p ts⟩, 0) by
            rw [busyNet, if_pos HO.out]
            simp only [Int.toNat_natCast]
            rw [HSN.out, HL.out, HM.out, if_pos ⟨hm16, hk24⟩])
          have e24 : (k : Int) + (m : Int) - (p : Int) ≤ 24 := by have := HM.out; omega
          have mi16 : (m : Int) ≤ 16 := by omega
          go_upto_region 16 with fail
          generalize hw5 : wr.alloc (.cells #[.int .i64 m, .slice none 0 0] 38) = w5
          have hb5' : Below wr.heap.size wr w5 := by rw [← hw5]; exact boxBelow _ _
          have U0 := hide2 (V0.out.keep hb5')
          have U1 := hide2 (V1.out.keep hb5')
          have U2 := hide2 (V2.out.keep hb5')
          have U4 := hide2 (show Box w5 wr.heap.size 38 #[.int .i64 m, .slice none 0 0] by rw [← hw5]; exact Box.new _ _ _)
          have D5 := hide2 (D.out.trans (hb5'.mono D.out.size))
          have hb9 : b5 < wr.heap.size := V2.out.lt
          clear hw5 hb5' V0 V1 V2 D c0 c1 y0
          generalize wr.heap.size = b9 at *
          obtain ⟨c0, c1⟩ := U0.out.two
          go_wp2
          go_loopw [11, 58] (fun v i wr => ∃ (j : Nat) (A' : Option Addr) (c' : Nat), j ≤ k ∧ i = .int .i64 j ∧ v = .int .i64 ((p + seenN (ts.take j) : Nat) : Int) ∧ Hid (Box wr w.heap.size 38 #[.int .i64 p, .slice A k c]) ∧ Hid (Box wr (w.heap.size + 1) 38 #[.int .i64 0, .slice none 0 0]) ∧ Hid (Box wr b5 3 #[.int .i64 m]) ∧
            Hid (Box wr b9 38 #[.int .i64 m, .slice A' (j + seenN (ts.take j)) c']) ∧ Hid (OwnSl (OwnTranR w5.heap.size) 3 wr w5.heap.size 107 (.slice A' (j + seenN (ts.take j)) c') (j + seenN (ts.take j)) (busyGo m p (ts.take j))) ∧ Hid (Below w.heap.size w wr) ∧ w5.heap.size ≤ wr.heap.size) (fun _ i _ => k - (intOf i).toNat)
          case atStart => exact ⟨0, none, 0, Nat.zero_le _, rfl, by simp [seenN], U0, U1, U2, U4, OwnSl.nil, D5, Nat.le_refl _⟩
          case round =>
            obtain ⟨j, A', c', hj, rfl, rfl, V0, V1, V2, V4, OW, D, hsz⟩ := hrel
            have hb9q : b9 < w5.heap.size := U4.out.lt
            clear c0 c1
            by_cases hlj : j < k
            · have hji : (j : Int) < (k : Int) := by omega
              obtain ⟨bl, off, t, A1, n1, k1, A2, n2, k2, rfl, hbl, ht, q0', q1', q2', i1, i2, m1, m2⟩ := Trans.get H.out hlj
              have q0 := (D.out.cell (p := ⟨bl, off + j * 3, none⟩) hbl).trans q0'
              have q1 := (D.out.cell (p := ⟨bl, off + j * 3 + 1, none⟩) hbl).trans q1'
              have q2 := (D.out.cell (p := ⟨bl, off + j * 3 + 2, none⟩) hbl).trans q2'
              have hT := netOk_tran HO.out ht.out
              have e1 : n1 = p := by have := hT.2.2.1; rw [i1.len] at this; simp only [] at this; omega
              have e2 : n2 = p := by have := hT.2.2.2.1; rw [i2.len] at this; simp only [] at this; omega
              subst e1
              subst e2
              have I1 := hide2 i1
              have I2 := hide2 i2
              have SN := hide2 (show seenN (ts.take (j + 1)) = seenN (ts.take j) + (if t.label = 0 then 0 else 1) by rw [take_snoc ht.out, seenN_snoc])
              have BG := hide2 (show busyGo m n2 (ts.take (j + 1)) = busyGo m n2 (ts.take j) ++ twoT m (n2 + seenN (ts.take j)) t by rw [take_snoc ht.out, busyGo_snoc])
              have SLE := hide2 (show seenN (ts.take (j + 1)) ≤ sn by rw [← HSN.out]; exact ((List.take_sublist _ _).filter _).length_le)
              obtain ⟨sj, hsj⟩ : ∃ sj, seenN (ts.take j) = sj := ⟨_, rfl⟩
              rw [hsj] at V4 OW SN BG
              have hsj24 : sj ≤ sn := by have := SLE.out; rw [SN.out] at this; omega
              rw [hsj]
              obtain ⟨L, hL⟩ : ∃ L, j + sj = L := ⟨_, rfl⟩
              have HLL := hide2 hL
              rw [hL] at V4 OW
              have hL24 : L ≤ 48 := by omega
              obtain ⟨nx, hnx⟩ : ∃ nx, n2 + sj = nx := ⟨_, rfl⟩
              have HNX := hide2 hnx
              have hnxi : ((n2 + sj : Nat) : Int) = (nx : Int) := by rw [hnx]
              rw [hnx] at BG
              rw [hnxi]
              have hn2m : n2 ≤ m := by have := HM.out; omega
              clear i1 i2 hsj hL hnx hnxi hT q0' q1' q2'
              go_upto_region 20 with fail
              generalize hw6 : wr.alloc (.cells #[.int .i64 t.label, .slice A1 n2 k1, .slice A2 n2 k2] 107) = w6
              have hb6 : Below wr.heap.size wr w6 := by rw [← hw6]; exact boxBelow _ _
              have X0 := hide2 (V0.out.keep hb6)
              have X1 := hide2 (V1.out.keep hb6)
              have X2 := hide2 (V2.out.keep hb6)
              have X3 := hide2 (show Box w6 wr.heap.size 107 #[.int .i64 t.label, .slice A1 n2 k1, .slice A2 n2 k2] by rw [← hw6]; exact Box.new _ _ _)
              have X4 := hide2 (V4.out.keep hb6)
              have OX := hide2 (OW.out.keep (OwnTranR.kept _) hb6)
              have DX := hide2 (D.out.trans (hb6.mono D.out.size))
              have hszx := Nat.le_trans hsz hb6.size
              clear hw6 hb6 V0 V1 V2 V4 OW D q0 q1 q2
              generalize wr.heap.size = bx at *
              obtain ⟨t0, t1, t2⟩ := X3.out.three
              obtain ⟨_, o1⟩ := X4.out.two
              by_cases hz : t.label = 0
              · have SN0 := hide2 (show seenN (ts.take (j + 1)) = sj by rw [SN.out, if_pos hz, Nat.add_zero])
                have BGE := hide2 (show busyGo m n2 (ts.take (j + 1)) = busyGo m n2 (ts.take j) ++ [⟨0, padL m t.pre, padL m t.post⟩] by rw [BG.out, twoT, if_pos hz])
                have NXT := hide2 (show Value.int .i64 (nx : Int) = .int .i64 ((n2 + seenN (ts.take (j + 1)) : Nat) : Int) by rw [SN0.out, HNX.out])
                rw [hz] at t0 X3
                clear hz SN BG
                go_upto_region 21 with fail
                refine wp_region_scr 12 (.takes [0, 1, 2, 3, 4, 6, 7, 8] (.one 5 (.one 9 (.take 10 (.one 11 (.fins [12, 13, 14] .done)))))) (fun w' => w'.cell? ⟨bx, 0, none⟩ = some (.int .i64 0) ∧ w'.cell? ⟨bx, 1, none⟩ = some (.slice A1 n2 k1) ∧ w'.cell? ⟨bx, 2, none⟩ = some (.slice A2 n2 k2) ∧ w'.cell? ⟨b9, 1, none⟩ = some (.slice A' L c')) (by kernel_rfl) (by kernel_rfl) (by kernel_rfl) (fun _ _ _ _ _ h => h) ⟨t0, t1, t2, o1⟩ (fun hHeld => ?_)
                simp only [Scr.takes, Scr.fins]
                have V0 := hide2 X0.out.drew
                have V1 := hide2 X1.out.drew
                have V2 := hide2 X2.out.drew
                have V3 := hide2 X3.out.drew
                have V4 := hide2 X4.out.drew
                have DR := hide2 ((Below.refl _ _).drew : Below w6.heap.size w6 w6.drew)
                have D := hide2 (DX.out.trans (DR.out.mono DX.out.size))
                have OW := hide2 (OX.out.keep (OwnTranR.kept _) DR.out)
                have BQ := hide2 (show w5.heap.size ≤ w6.drew.heap.size from hszx)
                generalize w6.drew = ux0 at *
                clear X0 X1 X2 X3 X4 DX OX DR hszx t0 t1 t2 o1
                iterate 8
                  refine tkTake (v := ?_) rfl (by rfl) hHeld (fun w' hSw => ?_) ?_
                  rotate_left
                  · (go_simp; try with_reducible rfl)
                  simp only [Act.put, List.setIfInBounds_toArray, List.set_cons_zero, List.set_cons_succ]
                refine tkOne rfl (fun K hK => ?_)
                go_simp; go_at_call 118
                (with_reducible refine (widePad_calls (V2.out.cell 0) (Ints.keep I1.out D.out) hn2m hm16).mono ?_)
                rintro e ux1 ⟨vv, rfl, oo', hb⟩
                obtain ⟨O3A, O3c, rfl, _⟩ := oo'.sl (by omega)
                have O3 := hide2 (show OwnInts ux1 w5.heap.size (.slice O3A m O3c) m (padL m t.pre) from oo'.base BQ.out)
                replace V0 := hide2 (V0.out.keep hb)
                replace V1 := hide2 (V1.out.keep hb)
                replace V2 := hide2 (V2.out.keep hb)
                replace V3 := hide2 (V3.out.keep hb)
                replace V4 := hide2 (V4.out.keep hb)
                replace OW := hide2 (OW.out.keep (OwnTranR.kept _) hb)
                replace BQ := hide2 (Nat.le_trans BQ.out hb.size)
                replace D := hide2 (D.out.trans (hb.mono D.out.size))
                clear hb oo'
                obtain ⟨t0, t1, t2⟩ := V3.out.three
                obtain ⟨_, o1⟩ := V4.out.two
                refine hK.out _ _ ⟨t0, t1, t2, o1⟩ (fun hHeld => ?_)
                clear hK
                try simp only [Act.put, List.setIfInBounds_toArray, List.set_cons_zero, List.set_cons_succ]
                refine tkOne rfl (fun K hK => ?_)
                go_simp; go_at_call 118
                (with_reducible refine (widePad_calls (V2.out.cell 0) (Ints.keep I2.out D.out) hn2m hm16).mono ?_)
                rintro e ux2 ⟨vv, rfl, oo', hb⟩
                obtain ⟨O4A, O4c, rfl, _⟩ := oo'.sl (by omega)
                have O4 := hide2 (show OwnInts ux2 w5.heap.size (.slice O4A m O4c) m (padL m t.post) from oo'.base BQ.out)
                replace V0 := hide2 (V0.out.keep hb)
                replace V1 := hide2 (V1.out.keep hb)
                replace V2 := hide2 (V2.out.keep hb)
                replace V3 := hide2 (V3.out.keep hb)
                replace V4 := hide2 (V4.out.keep hb)
                replace O3 := hide2 (show OwnInts ux2 w5.heap.size _ m _ from O3.out.keep IntR.kept hb)
                replace OW := hide2 (OW.out.keep (OwnTranR.kept _) hb)
                replace BQ := hide2 (Nat.le_trans BQ.out hb.size)
                replace D := hide2 (D.out.trans (hb.mono D.out.size))
                clear hb oo'
                obtain ⟨t0, t1, t2⟩ := V3.out.three
                obtain ⟨_, o1⟩ := V4.out.two
                refine hK.out _ _ ⟨t0, t1, t2, o1⟩ (fun hHeld => ?_)
                clear hK
                try simp only [Act.put, List.setIfInBounds_toArray, List.set_cons_zero, List.set_cons_succ]
                iterate 1
                  refine tkTake (v := ?_) rfl (by rfl) hHeld (fun w' hSw => ?_) ?_
                  rotate_left
                  · (go_simp; try with_reducible rfl)
                  simp only [Act.put, List.setIfInBounds_toArray, List.set_cons_zero, List.set_cons_succ]
                refine tkOne rfl (fun K hK => ?_)
                go_simp
                obtain ⟨t0, t1, t2⟩ := V3.out.three
                obtain ⟨_, o1⟩ := V4.out.two
                refine hK.out _ _ ⟨(V3.out.old _).three.1, (V3.out.old _).three.2.1, (V3.out.old _).three.2.2, (V4.out.old _).two.2⟩ (fun hHeld => ?_)
                clear hK
                try simp only [Act.put, List.setIfInBounds_toArray, List.set_cons_zero, List.set_cons_succ]
                have RD := hide2 (show OwnTranR w5.heap.size ux2 (fun j => [Value.int .i64 0, .slice O3A m O3c, .slice O4A m O4c].getD j undef) ⟨0, padL m t.pre, padL m t.post⟩ from ⟨rfl, m, m, O3.out, O4.out, by omega, by omega⟩)
                refine tkEnd rfl (fun K hK => ?_)
                have KP := keepTran OW.out
                refine step_appNew tyTrans rfl (.tmp 66) (.tmp 76) rfl [⟨0, padL m t.pre, padL m t.post⟩] #[.int .i64 0, .slice O3A m O3c, .slice O4A m O4c] rfl rfl (by first | rfl | simp) rfl rfl (by omega) (by simp [Value.oneCell']) OW.out (Reads.tran RD.out) rfl (Below.refl w5.heap.size ux2) BQ.out (by omega) (by omega) KP ?_
                intro g cap wz ownz hgz hbz hBg hgl
                have Z0 := hide2 (V0.out.keepB hbz (by have := U4.out.lt; omega))
                have Z1 := hide2 (V1.out.keepB hbz (by have := U4.out.lt; omega))
                have Z2 := hide2 (V2.out.keepB hbz (by have := U4.out.lt; omega))
                have Z4 := hide2 (V4.out.keepB hbz U4.out.lt)
                have DZ := hide2 (D.out.trans (hbz.mono D5.out.size))
                have SZ := hide2 (Nat.le_trans BQ.out hbz.size)
                obtain ⟨z0, z1⟩ := Z4.out.two
                have zf := Z4.out.frozen 1
                have OZ := hide2 ownz
                clear KP ownz hgz hbz
                refine hK.out _ _ ?_
                clear hK
                simp only [Act.put, List.setIfInBounds_toArray, List.set_cons_zero, List.set_cons_succ]
                iterate 2
                  refine tkEnd rfl (fun K hK => ?_)
                  go_simp
                  refine hK.out _ _ ?_
                  clear hK
                  try simp only [Act.put, List.setIfInBounds_toArray, List.set_cons_zero, List.set_cons_succ]
                refine tkDone ?_
                have hbs := Beside.set wz b9 1 (.slice (some ⟨g, 0, none⟩) (L + 1) cap)
                have Q0 := hide2 (hbs.box Z0.out (by omega))
                have Q1 := hide2 (hbs.box Z1.out (by omega))
                have Q2 := hide2 (hbs.box Z2.out (by omega))
                have Q4 := hide2 (show Box (wz.setCell ⟨b9, 1, none⟩ (.slice (some ⟨g, 0, none⟩) (L + 1) cap)) b9 38 #[.int .i64 m, .slice (some ⟨g, 0, none⟩) (L + 1) cap] by simpa using Z4.out.set 1 (.slice (some ⟨g, 0, none⟩) (L + 1) cap))
                have OQ := turnedEnd (j := 1) (u := .slice (some ⟨g, 0, none⟩) (L + 1) cap) OZ.out U4.out.lt
                have DQ := hide2 (DZ.out.setCell (show w.heap.size ≤ (⟨b9, 1, none⟩ : Addr).block by show w.heap.size ≤ b9; omega) (.slice (some ⟨g, 0, none⟩) (L + 1) cap))
                have SQ : w5.heap.size ≤ (wz.setCell ⟨b9, 1, none⟩ (.slice (some ⟨g, 0, none⟩) (L + 1) cap)).heap.size := by rw [hbs.1]; exact SZ.out
                have EL := hide2 (show L + 1 = (j + 1) + seenN (ts.take (j + 1)) by rw [SN0.out]; have := HLL.out; omega)
                clear hbs V0 V1 V2 V3 V4 D OW BQ Z0 Z1 Z2 Z4 DZ SZ OZ z0 z1 zf
                go_wp2
                go_roundw
                case rel => exact ⟨j + 1, some ⟨g, 0, none⟩, cap, by omega, by go_num, NXT.out, Q0, Q1, Q2, by rw [← EL.out]; exact Q4, by rw [← EL.out, BGE.out]; exact OQ, DQ, SQ⟩
                case measure => simp [intOf]; omega
              · have SN0 := hide2 (show seenN (ts.take (j + 1)) = sj + 1 by rw [SN.out, if_neg hz])
                have hnxm : nx < m := by have := SLE.out; rw [SN0.out] at this; have := HM.out; have := HNX.out; omega
                have BGE := hide2 (show busyGo m n2 (ts.take (j + 1)) = busyGo m n2 (ts.take j) ++ [⟨0, padL m t.pre, oneL m (nx : Int)⟩, ⟨t.label, oneL m (nx : Int), padL m t.post⟩] by rw [BG.out, twoT, if_neg hz])
                have NXT := hide2 (show Value.int .i64 ((nx : Int) + 1) = .int .i64 ((n2 + seenN (ts.take (j + 1)) : Nat) : Int) by rw [SN0.out, ← HNX.out]; congr 1)
                have hne : (t.label == 0) = false := by simpa using hz
                clear hz SN BG
                go_upto_region 22 with fail
                refine wp_region_scr 21 (.takes [0, 1, 2, 3, 4, 6, 7, 10, 11, 12, 13, 15, 16, 17] (.one 5 (.one 8 (.take 9 (.one 14 (.one 18 (.take 19 (.one 20 (.fins [21, 22, 23] .done))))))))) (fun w' => w'.cell? ⟨bx, 0, none⟩ = some (.int .i64 t.label) ∧ w'.cell? ⟨bx, 1, none⟩ = some (.slice A1 n2 k1) ∧ w'.cell? ⟨bx, 2, none⟩ = some (.slice A2 n2 k2) ∧ w'.cell? ⟨b9, 1, none⟩ = some (.slice A' L c')) (by kernel_rfl) (by kernel_rfl) (by kernel_rfl) (fun _ _ _ _ _ h => h) ⟨t0, t1, t2, o1⟩ (fun hHeld => ?_)
                simp only [Scr.takes, Scr.fins]
                have V0 := hide2 X0.out.drew
                have V1 := hide2 X1.out.drew
                have V2 := hide2 X2.out.drew
                have V3 := hide2 X3.out.drew
                have V4 := hide2 X4.out.drew
                have DR := hide2 ((Below.refl _ _).drew : Below w6.heap.size w6 w6.drew)
                have D := hide2 (DX.out.trans (DR.out.mono DX.out.size))
                have OW := hide2 (OX.out.keep (OwnTranR.kept _) DR.out)
                have BQ := hide2 (show w5.heap.size ≤ w6.drew.heap.size from hszx)
                generalize w6.drew = ux0 at *
                clear X0 X1 X2 X3 X4 DX OX DR hszx t0 t1 t2 o1
                iterate 14
                  refine tkTake (v := ?_) rfl (by rfl) hHeld (fun w' hSw => ?_) ?_
                  rotate_left
                  · (go_simp; try with_reducible rfl)
                  simp only [Act.put, List.setIfInBounds_toArray, List.set_cons_zero, List.set_cons_succ]
                refine tkOne rfl (fun K hK => ?_)
                go_simp; go_at_call 118
                (with_reducible refine (widePad_calls (V2.out.cell 0) (Ints.keep I1.out D.out) hn2m hm16).mono ?_)
                rintro e ux1 ⟨vv, rfl, oo', hb⟩
                obtain ⟨O3A, O3c, rfl, _⟩ := oo'.sl (by omega)
                have O3 := hide2 (show OwnInts ux1 w5.heap.size (.slice O3A m O3c) m (padL m t.pre) from oo'.base BQ.out)
                replace V0 := hide2 (V0.out.keep hb)
                replace V1 := hide2 (V1.out.keep hb)
                replace V2 := hide2 (V2.out.keep hb)
                replace V3 := hide2 (V3.out.keep hb)
                replace V4 := hide2 (V4.out.keep hb)
                replace OW := hide2 (OW.out.keep (OwnTranR.kept _) hb)
                replace BQ := hide2 (Nat.le_trans BQ.out hb.size)
                replace D := hide2 (D.out.trans (hb.mono D.out.size))
                clear hb oo'
                obtain ⟨t0, t1, t2⟩ := V3.out.three
                obtain ⟨_, o1⟩ := V4.out.two
                refine hK.out _ _ ⟨t0, t1, t2, o1⟩ (fun hHeld => ?_)
                clear hK
                try simp only [Act.put, List.setIfInBounds_toArray, List.set_cons_zero, List.set_cons_succ]
                refine tkOne rfl (fun K hK => ?_)
                go_simp; go_at_call 118
                (with_reducible refine (wideOne_calls (V2.out.cell 0) hnxm hm16).mono ?_)
                rintro e ux2 ⟨vv, rfl, oo', hb⟩
                obtain ⟨O4A, O4c, rfl, _⟩ := oo'.sl (by omega)
                have O4 := hide2 (show OwnInts ux2 w5.heap.size (.slice O4A m O4c) m (oneL m (nx : Int)) from oo'.base BQ.out)
                replace V0 := hide2 (V0.out.keep hb)
                replace V1 := hide2 (V1.out.keep hb)
                replace V2 := hide2 (V2.out.keep hb)
                replace V3 := hide2 (V3.out.keep hb)
                replace V4 := hide2 (V4.out.keep hb)
                replace O3 := hide2 (show OwnInts ux2 w5.heap.size _ m _ from O3.out.keep IntR.kept hb)
                replace OW := hide2 (OW.out.keep (OwnTranR.kept _) hb)
                replace BQ := hide2 (Nat.le_trans BQ.out hb.size)
                replace D := hide2 (D.out.trans (hb.mono D.out.size))
                clear hb oo'
                obtain ⟨t0, t1, t2⟩ := V3.out.three
                obtain ⟨_, o1⟩ := V4.out.two
                refine hK.out _ _ ⟨t0, t1, t2, o1⟩ (fun hHeld => ?_)
                clear hK
                try simp only [Act.put, List.setIfInBounds_toArray, List.set_cons_zero, List.set_cons_succ]
                iterate 1
                  refine tkTake (v := ?_) rfl (by rfl) hHeld (fun w' hSw => ?_) ?_
                  rotate_left
                  · (go_simp; try with_reducible rfl)
                  simp only [Act.put, List.setIfInBounds_toArray, List.set_cons_zero, List.set_cons_succ]
                refine tkOne rfl (fun K hK => ?_)
                go_simp; go_at_call 118
                (with_reducible refine (wideOne_calls (V2.out.cell 0) hnxm hm16).mono ?_)
                rintro e ux3 ⟨vv, rfl, oo', hb⟩
                obtain ⟨O5A, O5c, rfl, _⟩ := oo'.sl (by omega)
                have O5 := hide2 (show OwnInts ux3 w5.heap.size (.slice O5A m O5c) m (oneL m (nx : Int)) from oo'.base BQ.out)
                replace V0 := hide2 (V0.out.keep hb)
                replace V1 := hide2 (V1.out.keep hb)
                replace V2 := hide2 (V2.out.keep hb)
                replace V3 := hide2 (V3.out.keep hb)
                replace V4 := hide2 (V4.out.keep hb)
                replace O3 := hide2 (show OwnInts ux3 w5.heap.size _ m _ from O3.out.keep IntR.kept hb)
                replace O4 := hide2 (show OwnInts ux3 w5.heap.size _ m _ from O4.out.keep IntR.kept hb)
                replace OW := hide2 (OW.out.keep (OwnTranR.kept _) hb)
                replace BQ := hide2 (Nat.le_trans BQ.out hb.size)
                replace D := hide2 (D.out.trans (hb.mono D.out.size))
                clear hb oo'
                obtain ⟨t0, t1, t2⟩ := V3.out.three
                obtain ⟨_, o1⟩ := V4.out.two
                refine hK.out _ _ ⟨t0, t1, t2, o1⟩ (fun hHeld => ?_)
                clear hK
                try simp only [Act.put, List.setIfInBounds_toArray, List.set_cons_zero, List.set_cons_succ]
                refine tkOne rfl (fun K hK => ?_)
                go_simp; go_at_call 118
                (with_reducible refine (widePad_calls (V2.out.cell 0) (Ints.keep I2.out D.out) hn2m hm16).mono ?_)
                rintro e ux4 ⟨vv, rfl, oo', hb⟩
                obtain ⟨O6A, O6c, rfl, _⟩ := oo'.sl (by omega)
                have O6 := hide2 (show OwnInts ux4 w5.heap.size (.slice O6A m O6c) m (padL m t.post) from oo'.base BQ.out)
                replace V0 := hide2 (V0.out.keep hb)
                replace V1 := hide2 (V1.out.keep hb)
                replace V2 := hide2 (V2.out.keep hb)
                replace V3 := hide2 (V3.out.keep hb)
                replace V4 := hide2 (V4.out.keep hb)
                replace O3 := hide2 (show OwnInts ux4 w5.heap.size _ m _ from O3.out.keep IntR.kept hb)
                replace O4 := hide2 (show OwnInts ux4 w5.heap.size _ m _ from O4.out.keep IntR.kept hb)
                replace O5 := hide2 (show OwnInts ux4 w5.heap.size _ m _ from O5.out.keep IntR.kept hb)
                replace OW := hide2 (OW.out.keep (OwnTranR.kept _) hb)
                replace BQ := hide2 (Nat.le_trans BQ.out hb.size)
                replace D := hide2 (D.out.trans (hb.mono D.out.size))
                clear hb oo'
                obtain ⟨t0, t1, t2⟩ := V3.out.three
                obtain ⟨_, o1⟩ := V4.out.two
                refine hK.out _ _ ⟨t0, t1, t2, o1⟩ (fun hHeld => ?_)
                clear hK
                try simp only [Act.put, List.setIfInBounds_toArray, List.set_cons_zero, List.set_cons_succ]
                iterate 1
                  refine tkTake (v := ?_) rfl (by rfl) hHeld (fun w' hSw => ?_) ?_
                  rotate_left
                  · (go_simp; try with_reducible rfl)
                  simp only [Act.put, List.setIfInBounds_toArray, List.set_cons_zero, List.set_cons_succ]
                refine tkOne rfl (fun K hK => ?_)
                go_simp
                obtain ⟨t0, t1, t2⟩ := V3.out.three
                obtain ⟨_, o1⟩ := V4.out.two
                refine hK.out _ _ ⟨(V3.out.old _).three.1, (V3.out.old _).three.2.1, (V3.out.old _).three.2.2, (V4.out.old _).two.2⟩ (fun hHeld => ?_)
                clear hK
                try simp only [Act.put, List.setIfInBounds_toArray, List.set_cons_zero, List.set_cons_succ]
                have RD := hide2 (show OwnTranR w5.heap.size ux4 (fun j => [Value.int .i64 0, .slice O3A m O3c, .slice O4A m O4c].getD j undef) ⟨0, padL m t.pre, oneL m (nx : Int)⟩ from ⟨rfl, m, m, O3.out, O4.out, by omega, by omega⟩)
                have RE := hide2 (show OwnTranR w5.heap.size ux4 (fun j => [Value.int .i64 t.label, .slice O5A m O5c, .slice O6A m O6c].getD j undef) ⟨t.label, oneL m (nx : Int), padL m t.post⟩ from ⟨rfl, m, m, O5.out, O6.out, by omega, by omega⟩)
                refine tkEnd rfl (fun K hK => ?_)
                have KP := keepTran OW.out
                refine step_appNew tyTrans rfl (.tmp 80) (.tmp 99) rfl [⟨0, padL m t.pre, oneL m (nx : Int)⟩, ⟨t.label, oneL m (nx : Int), padL m t.post⟩] #[.int .i64 0, .slice O3A m O3c, .slice O4A m O4c, .int .i64 t.label, .slice O5A m O5c, .slice O6A m O6c] rfl rfl (by first | rfl | simp) rfl rfl (by omega) (by simp [Value.oneCell']) OW.out (show Reads (OwnTranR w5.heap.size) 3 ux4 [.int .i64 0, .slice O3A m O3c, .slice O4A m O4c, .int .i64 t.label, .slice O5A m O5c, .slice O6A m O6c] [⟨0, padL m t.pre, oneL m (nx : Int)⟩, ⟨t.label, oneL m (nx : Int), padL m t.post⟩] from (Reads.tran RD.out).append (Reads.tran RE.out)) rfl (Below.refl w5.heap.size ux4) BQ.out (by omega) (by omega) KP ?_
                intro g cap wz ownz hgz hbz hBg hgl
                have Z0 := hide2 (V0.out.keepB hbz (by have := U4.out.lt; omega))
                have Z1 := hide2 (V1.out.keepB hbz (by have := U4.out.lt; omega))
                have Z2 := hide2 (V2.out.keepB hbz (by have := U4.out.lt; omega))
                have Z4 := hide2 (V4.out.keepB hbz U4.out.lt)
                have DZ := hide2 (D.out.trans (hbz.mono D5.out.size))
                have SZ := hide2 (Nat.le_trans BQ.out hbz.size)
                obtain ⟨z0, z1⟩ := Z4.out.two
                have zf := Z4.out.frozen 1
                have OZ := hide2 ownz
                clear KP ownz hgz hbz
                refine hK.out _ _ ?_
                clear hK
                simp only [Act.put, List.setIfInBounds_toArray, List.set_cons_zero, List.set_cons_succ]
                iterate 2
                  refine tkEnd rfl (fun K hK => ?_)
                  go_simp
                  refine hK.out _ _ ?_
                  clear hK
                  try simp only [Act.put, List.setIfInBounds_toArray, List.set_cons_zero, List.set_cons_succ]
                refine tkDone ?_
                have hbs := Beside.set wz b9 1 (.slice (some ⟨g, 0, none⟩) (L + 2) cap)
                have Q0 := hide2 (hbs.box Z0.out (by omega))
                have Q1 := hide2 (hbs.box Z1.out (by omega))
                have Q2 := hide2 (hbs.box Z2.out (by omega))
                have Q4 := hide2 (show Box (wz.setCell ⟨b9, 1, none⟩ (.slice (some ⟨g, 0, none⟩) (L + 2) cap)) b9 38 #[.int .i64 m, .slice (some ⟨g, 0, none⟩) (L + 2) cap] by simpa using Z4.out.set 1 (.slice (some ⟨g, 0, none⟩) (L + 2) cap))
                have OQ := turnedEnd (j := 1) (u := .slice (some ⟨g, 0, none⟩) (L + 2) cap) OZ.out U4.out.lt
                have DQ := hide2 (DZ.out.setCell (show w.heap.size ≤ (⟨b9, 1, none⟩ : Addr).block by show w.heap.size ≤ b9; omega) (.slice (some ⟨g, 0, none⟩) (L + 2) cap))
                have SQ : w5.heap.size ≤ (wz.setCell ⟨b9, 1, none⟩ (.slice (some ⟨g, 0, none⟩) (L + 2) cap)).heap.size := by rw [hbs.1]; exact SZ.out
                have EL := hide2 (show L + 2 = (j + 1) + seenN (ts.take (j + 1)) by rw [SN0.out]; have := HLL.out; omega)
                clear hbs V0 V1 V2 V3 V4 D OW BQ Z0 Z1 Z2 Z4 DZ SZ OZ z0 z1 zf
                go_wp2
                go_roundw
                case rel => exact ⟨j + 1, some ⟨g, 0, none⟩, cap, by omega, by go_num, NXT.out, Q0, Q1, Q2, by rw [← EL.out]; exact Q4, by rw [← EL.out, BGE.out]; exact OQ, DQ, SQ⟩
                case measure => simp [intOf]; omega
            · obtain rfl : j = k := by omega
              obtain ⟨z0, z1⟩ := V4.out.two
              obtain ⟨x0, x1⟩ := V1.out.two
              have xf := V1.out.frozen 0
              have xg := V1.out.frozen 1
              have hb1q : w.heap.size + 1 < w5.heap.size := by omega
              rw [ET.out, HSN.out] at V4 OW z1
              obtain ⟨E, es, hv, hE⟩ := OW.out.ofOwnTran.sl (by omega)
              have OWN := OW
              clear hE OW
              go_wp2
              have hbs := Beside.set2 wr (w.heap.size + 1) 0 1 (.int .i64 m) (.slice A' (j + sn) c')
              have OW1 := turnedEnd (j := 0) (u := .int .i64 m) OWN.out hb1q
              have OW2 := turnedEnd (j := 1) (u := .slice A' (j + sn) c') OW1.out hb1q
              obtain ⟨E', es', hv', hE'⟩ := OW2.out.ofOwnTran.sl (by omega)
              injection hv' with h1 h2 h3
              subst h1 h3
              obtain ⟨r0, r1⟩ := (V1.out.set2 (.int .i64 m) (.slice A' (j + sn) c')).two
              exact bodyPost_ret (v := .tuple #[.agg #[.int .i64 m, .slice A' (j + sn) c'], .int .i64 0]) (by simp [results, Try.results50, go_sem, r0, r1]) rfl
                ⟨A', j + sn, c', by rw [FIN.out], by rw [FIN.out]; exact hE', (D.out.setCell (by simp) _).setCell (by simp) _⟩
        · have FIN := hide2 (show busyNet ⟨(p : Int), ts⟩ = (⟨0, []⟩, 4) by
            rw [busyNet, if_pos HO.out]
            simp only [Int.toNat_natCast]
            rw [HSN.out, HL.out, HM.out, if_neg hfit])
          obtain ⟨x0, x1⟩ := V1.out.two
          have xf := V1.out.frozen 0
          have xg := V1.out.frozen 1
          by_cases hm16 : m ≤ 16
          · have e24 : 24 < (k : Int) + (m : Int) - (p : Int) := by have := HM.out; omega
            have mi16 : (m : Int) ≤ 16 := by omega
            clear hfit
            go_wp2
            obtain ⟨r0, r1⟩ := (V1.out.set2 (.int .i64 0) (.slice none 0 0)).two
            exact bodyPost_ret (v := .tuple #[.agg #[.int .i64 0, .slice none 0 0], .int .i64 4]) (by simp [results, Try.results50, go_sem, r0, r1]) rfl (by rw [FIN.out]; exact AnsNetE.no ((D.out.setCell (by simp) _).setCell (by simp) _))
          · have mi16 : 16 < (m : Int) := by omega
            clear hfit hm16
            go_wp2
            obtain ⟨r0, r1⟩ := (V1.out.set2 (.int .i64 0) (.slice none 0 0)).two
            exact bodyPost_ret (v := .tuple #[.agg #[.int .i64 0, .slice none 0 0], .int .i64 4]) (by simp [results, Try.results50, go_sem, r0, r1]) rfl (by rw [FIN.out]; exact AnsNetE.no ((D.out.setCell (by simp) _).setCell (by simp) _))
end Go.Proofs.Ytmhcinmadelaeaa
