/- The contract of PBusy. Conditions: the net reads as a list. -/
import Derived.Test.YtmhcinmadelaeaaBusyB
import Derived.Test.YtmhcinmadelaeaaBusyC
namespace Go.Proofs.Ytmhcinmadelaeaa
open Go.RowKit

theorem scr_end {P : Program} {ops : Array Oper} {Q : Exit → Act → World → Prop} {S : World → Prop} {T : Scr} (Tend : Scr) {a0 : Act} {w0 : World} (F : Act → Act → World → Prop) (hF : ∀ a' w', F a0 a' w' → S w' → wpScr P ops Q S Tend a' w')
    (h : Hid (∀ a' w', F a0 a' w' → S w' → wpScr P ops Q S Tend a' w') → wpScr P ops Q S T a0 w0) : wpScr P ops Q S T a0 w0 := h hF
theorem betweenL (a b j : Nat) (_ : j < b) : List.replicate a (0 : Int) ++ oneL b (j : Int) = oneL (a + b) ((a + j : Nat) : Int) := by
  rw [← oneL_set b j, ← oneL_set (a + b) (a + j), ← List.replicate_append_replicate, List.set_append_right _ _ (by simp)]
  simp
theorem neGrow {v v' u : Value} {N : Nat} (hat : v'.ownBlock = v.ownBlock ∨ v'.ownBlock = some N) (ne : v.ownBlock ≠ u.ownBlock) (hu : ∀ k, u.ownBlock = some k → k < N) : v'.ownBlock ≠ u.ownBlock := by
  intro e
  rcases hat with h | h
  · exact ne (h.symm.trans e)
  · have := hu N (e.symm.trans h); omega

set_option maxRecDepth 100000 in
set_option maxHeartbeats 60000000 in
theorem refBusyNet_calls {w : World} {P : Int} {A : Option Addr} {n c : Nat} {ts : List PTran} (h : Trans w A n c ts) :
    Calls Try.prog 51 #[.agg #[.int .i64 P, .slice A n c]] w (AnsNetE (busyNet ⟨P, ts⟩) w) := by
  have B0 := hide2 (((Below.refl _ _).alloc (Nat.le_refl _) (.cells #[.int .i64 P, .slice A n c] 38)).alloc (by simp) (.cells #[.int .i64 0, .slice none 0 0] 38) : Below w.heap.size w _)
  have X0 : Box ((w.alloc (.cells #[.int .i64 P, .slice A n c] 38)).alloc (.cells #[.int .i64 0, .slice none 0 0] 38)) w.heap.size 38 #[.int .i64 P, .slice A n c] := (Box.new _ _ _).old _
  have X1 : Box ((w.alloc (.cells #[.int .i64 P, .slice A n c] 38)).alloc (.cells #[.int .i64 0, .slice none 0 0] 38)) (w.heap.size + 1) 38 #[.int .i64 0, .slice none 0 0] := Box.newAt (by simp) _ _
  have hn := h.small
  have HL := hide2 h.len
  have H := hide2 h
  clear h
  cases hok : netOk ⟨P, ts⟩
  · have W0 := hide2 (wrongNet_not hok)
    have FIN := hide2 (show busyNet ⟨P, ts⟩ = (⟨0, []⟩, 2) by rw [busyNet, hok]; rfl)
    clear hok
    go_enter Try.func51, Try.ntmps51
    go_wp2_with fail
    refine (refWrong_calls _ P A n c ts (H.out.keep B0.out)).mono ?_
    rw [W0.out]
    rintro e w1 ⟨rfl, hb⟩
    have B1 := hide2 (B0.out.trans (hb.mono B0.out.size))
    have Y1 := hide2 (X1.keep hb)
    obtain ⟨c2, c3⟩ := Y1.out.two
    have cf := Y1.out.frozen 0
    have cg := Y1.out.frozen 1
    clear hb X0 X1
    go_wp2
    obtain ⟨r0, r1⟩ := (Y1.out.set2 (.int .i64 0) (.slice none 0 0)).two
    exact bodyPost_ret (v := .tuple #[.agg #[.int .i64 0, .slice none 0 0], .int .i64 2]) (by simp [results, Try.results51, go_sem, r0, r1]) rfl (by rw [FIN.out]; exact AnsNetE.no ((B1.out.setCell (by simp) _).setCell (by simp) _))
  · have W0 := hide2 (wrongNet_ok hok)
    have HO := hide2 hok
    clear hok
    obtain ⟨p, rfl⟩ : ∃ p : Nat, P = (p : Int) := ⟨P.toNat, by have := ((netOk_iff _).1 HO.out).1; simp only [] at this; omega⟩
    have hp16 : p ≤ 16 := by have := ((netOk_iff _).1 HO.out).2.1; simp only [] at this; omega
    have hn24 : n ≤ 24 := by have := ((netOk_iff _).1 HO.out).2.2.1; rw [HL.out] at this; exact this
    go_enter Try.func51, Try.ntmps51
    go_wp2_with fail
    refine (refWrong_calls _ (p : Int) A n c ts (H.out.keep B0.out)).mono ?_
    rw [W0.out]
    rintro e w1 ⟨rfl, hb⟩
    have B1 := hide2 (B0.out.trans (hb.mono B0.out.size))
    have Y0 := hide2 (X0.keep hb)
    have Y1 := hide2 (X1.keep hb)
    obtain ⟨c0, c1⟩ := Y0.out.two
    clear hb X0 X1
    go_wp2
    go_loopw [5, 25] (fun v i wr => ∃ k : Nat, k ≤ n ∧ i = .int .i64 k ∧ v = .int .i64 ((seenN (ts.take k) : Nat) : Int) ∧ Hid (Box wr w.heap.size 38 #[.int .i64 p, .slice A n c]) ∧ Hid (Box wr (w.heap.size + 1) 38 #[.int .i64 0, .slice none 0 0]) ∧ Hid (Below w.heap.size w wr)) (fun _ i _ => n - (intOf i).toNat)
    case atStart => exact ⟨0, Nat.zero_le _, rfl, by simp [seenN], Y0, Y1, B1⟩
    case round =>
      obtain ⟨k, hk, rfl, rfl, V0, V1, D⟩ := hrel
      clear c0 c1
      by_cases hlt : k < n
      · have hki : (k : Int) < (n : Int) := by omega
        obtain ⟨bl, off, t, A1, n1, k1, A2, n2, k2, rfl, hbl, ht, q0, q1, q2, i1, i2, m1, m2⟩ := Trans.get (H.out.keep D.out) hlt
        have hT := netOk_tran HO.out ht.out
        have hl0 := hT.1
        have SN := hide2 (show seenN (ts.take (k + 1)) = seenN (ts.take k) + (if t.label = 0 then 0 else 1) by rw [take_snoc ht.out, seenN_snoc])
        have hs : seenN (ts.take k) ≤ 24 := by have := seenN_le (ts.take k); rw [List.length_take] at this; omega
        obtain ⟨sn, hsn⟩ : ∃ sn, seenN (ts.take k) = sn := ⟨_, rfl⟩
        rw [hsn] at SN hs
        rw [hsn]
        have BX := hide2 (boxBelow wr (.cells #[.int .i64 t.label, .slice A1 n1 k1, .slice A2 n2 k2] 107))
        have U0 := hide2 (V0.out.keep BX.out)
        have U1 := hide2 (V1.out.keep BX.out)
        have D2 := hide2 (D.out.trans (BX.out.mono D.out.size))
        clear i1 i2 hsn hT V0 V1 D BX
        by_cases hz : t.label = 0
        · have S0 := hide2 (show Value.int .i64 (sn : Int) = .int .i64 ((seenN (ts.take (k + 1)) : Nat) : Int) by rw [SN.out, if_pos hz]; rfl)
          have hmin : min t.label 1 = 0 := by omega
          clear hz SN
          go_wp2
          go_roundw
          case rel => exact ⟨k + 1, by omega, by go_num, S0.out, U0, U1, D2⟩
          case measure => simp [intOf]; omega
        · have S0 := hide2 (show Value.int .i64 ((sn : Int) + 1) = .int .i64 ((seenN (ts.take (k + 1)) : Nat) : Int) by rw [SN.out, if_neg hz]; rfl)
          have hmin : min t.label 1 = 1 := by omega
          clear hz SN
          go_wp2
          go_roundw
          case rel => exact ⟨k + 1, by omega, by go_num, S0.out, U0, U1, D2⟩
          case measure => simp [intOf]; omega
      · obtain rfl : k = n := by omega
        have ET := hide2 (show ts.take k = ts by rw [List.take_of_length_le (by rw [HL.out]; exact Nat.le_refl _)])
        have hs : seenN ts ≤ 24 := by have := seenN_le ts; rw [HL.out] at this; omega
        obtain ⟨sn, hsn⟩ : ∃ sn, seenN ts = sn := ⟨_, rfl⟩
        rw [ET.out, hsn]
        rw [hsn] at hs
        obtain ⟨c0, c1⟩ := V0.out.two
        obtain ⟨m, hm⟩ : ∃ m : Nat, p + sn = m := ⟨_, rfl⟩
        have HM := hide2 hm
        have HSN := hide2 hsn
        clear hsn hm
        by_cases hfit : m ≤ 16 ∧ k + sn ≤ 24
        · obtain ⟨hm16, hk24⟩ := hfit
          have FIN := hide2 (show busyNet ⟨(p : Int), ts⟩ = (⟨(m : Int), busyGo m p ts⟩, 0) by
            rw [busyNet, if_pos HO.out]
            simp only [Int.toNat_natCast]
            rw [HSN.out, HL.out, HM.out, if_pos ⟨hm16, hk24⟩])
          have e24 : (k : Int) + (sn : Int) ≤ 24 := by omega
          have e16 : (p : Int) + (sn : Int) ≤ 16 := by have := HM.out; omega
          go_upto_region 13 with fail
          have hpm : (p : Int) + (sn : Int) = (m : Int) := by have := HM.out; omega
          rw [hpm]
          clear hpm
          generalize hw5 : wr.alloc (.cells #[.int .i64 m, .slice none 0 0] 38) = w5
          have hb5' : Below wr.heap.size wr w5 := by rw [← hw5]; exact boxBelow _ _
          have U0 := hide2 (V0.out.keep hb5')
          have U1 := hide2 (V1.out.keep hb5')
          have U4 := hide2 (show Box w5 wr.heap.size 38 #[.int .i64 m, .slice none 0 0] by rw [← hw5]; exact Box.new _ _ _)
          have D5 := hide2 (D.out.trans (hb5'.mono D.out.size))
          have hb9 : w.heap.size + 1 < wr.heap.size := V1.out.lt
          clear hw5 hb5' V0 V1 D c0 c1 e24 e16
          generalize wr.heap.size = b9 at *
          obtain ⟨c0, c1⟩ := U0.out.two
          go_wp2
          go_loopw [9, 57] (fun v i wr => ∃ (j : Nat) (A' : Option Addr) (c' : Nat), j ≤ k ∧ i = .int .i64 j ∧ v = .int .i64 ((seenN (ts.take j) : Nat) : Int) ∧ Hid (Box wr w.heap.size 38 #[.int .i64 p, .slice A k c]) ∧ Hid (Box wr (w.heap.size + 1) 38 #[.int .i64 0, .slice none 0 0]) ∧
            Hid (Box wr b9 38 #[.int .i64 m, .slice A' (j + seenN (ts.take j)) c']) ∧ Hid (OwnSl (OwnTranR w5.heap.size) 3 wr w5.heap.size 107 (.slice A' (j + seenN (ts.take j)) c') (j + seenN (ts.take j)) (busyGo m p (ts.take j))) ∧ Hid (Below w.heap.size w wr) ∧ w5.heap.size ≤ wr.heap.size) (fun _ i _ => k - (intOf i).toNat)
          case atStart => exact ⟨0, none, 0, Nat.zero_le _, rfl, by simp [seenN], U0, U1, U4, OwnSl.nil, D5, Nat.le_refl _⟩
          case round =>
            obtain ⟨j, A', c', hj, rfl, rfl, V0, V1, V4, OW, D, hsz⟩ := hrel
            have hb9q : b9 < w5.heap.size := U4.out.lt
            clear c0 c1
            by_cases hlj : j < k
            · have hji : (j : Int) < (k : Int) := by omega
              obtain ⟨bl, off, t, A1, n1, k1, A2, n2, k2, rfl, hbl, ht, q0', q1', q2', i1, i2, m1, m2⟩ := Trans.get H.out hlj
              have q0 := (D.out.cell (p := ⟨bl, off + j * 3, none⟩) hbl).trans q0'
              have q1 := (D.out.cell (p := ⟨bl, off + j * 3 + 1, none⟩) hbl).trans q1'
              have q2 := (D.out.cell (p := ⟨bl, off + j * 3 + 2, none⟩) hbl).trans q2'
              have hT := netOk_tran HO.out ht.out
              have e1 : n1 = p := by have := hT.2.2.1; rw [i1.len] at this; simp only [] at this; omega
              have e2 : n2 = p := by have := hT.2.2.2.1; rw [i2.len] at this; simp only [] at this; omega
              subst e1
              subst e2
              have I1 := hide2 i1
              have I2 := hide2 i2
              have SN := hide2 (show seenN (ts.take (j + 1)) = seenN (ts.take j) + (if t.label = 0 then 0 else 1) by rw [take_snoc ht.out, seenN_snoc])
              have BG := hide2 (show busyGo m n2 (ts.take (j + 1)) = busyGo m n2 (ts.take j) ++ twoT m (n2 + seenN (ts.take j)) t by rw [take_snoc ht.out, busyGo_snoc])
              have SLE := hide2 (show seenN (ts.take (j + 1)) ≤ sn by rw [← HSN.out]; exact ((List.take_sublist _ _).filter _).length_le)
              obtain ⟨sj, hsj⟩ : ∃ sj, seenN (ts.take j) = sj := ⟨_, rfl⟩
              rw [hsj] at V4 OW SN BG
              have hsj24 : sj ≤ sn := by have := SLE.out; rw [SN.out] at this; omega
              rw [hsj]
              obtain ⟨L, hL⟩ : ∃ L, j + sj = L := ⟨_, rfl⟩
              have HLL := hide2 hL
              rw [hL] at V4 OW
              have hL24 : L ≤ 48 := by omega
              have hn2m : n2 ≤ m := by have := HM.out; omega
              clear i1 i2 hsj hL hT q0' q1' q2'
              go_upto_region 17 with fail
              generalize hw6 : wr.alloc (.cells #[.int .i64 t.label, .slice A1 n2 k1, .slice A2 n2 k2] 107) = w6
              have hb6 : Below wr.heap.size wr w6 := by rw [← hw6]; exact boxBelow _ _
              have Y0 := hide2 (V0.out.keep hb6)
              have Y1 := hide2 (V1.out.keep hb6)
              have Y3 := hide2 (show Box w6 wr.heap.size 107 #[.int .i64 t.label, .slice A1 n2 k1, .slice A2 n2 k2] by rw [← hw6]; exact Box.new _ _ _)
              have Y4 := hide2 (V4.out.keep hb6)
              have OY := hide2 (OW.out.keep (OwnTranR.kept _) hb6)
              have DY := hide2 (D.out.trans (hb6.mono D.out.size))
              have hszy := Nat.le_trans hsz hb6.size
              clear hw6 hb6 V0 V1 V4 OW D q0 q1 q2
              generalize wr.heap.size = bx at *
              go_upto_region 18 with (at_make; refine wpList_mk Try.underlying45 infoInt rfl rfl _ _ rfl sn rfl rfl rfl rfl (by omega) (by omega) (Below.refl _ _) (Nat.le_refl _) ?_; intro w7 own7 hg7 hb7)
              have X0 := hide2 (Y0.out.keep hb7)
              have X1 := hide2 (Y1.out.keep hb7)
              have X3 := hide2 (Y3.out.keep hb7)
              have X4 := hide2 (Y4.out.keep hb7)
              have OX := hide2 (OY.out.keep (OwnTranR.kept _) hb7)
              have DX := hide2 (DY.out.trans (hb7.mono DY.out.size))
              have TX := hide2 (ints_made own7 (by omega))
              have hszx := Nat.le_trans hszy hb7.size
              clear own7 hg7 hb7 Y0 Y1 Y3 Y4 OY DY hszy
              generalize w6.heap.size = bz at *
              obtain ⟨t0, t1, t2⟩ := X3.out.three
              obtain ⟨_, o1⟩ := X4.out.two
              by_cases hz : t.label = 0
              · have SN0 := hide2 (show seenN (ts.take (j + 1)) = sj by rw [SN.out, if_pos hz, Nat.add_zero])
                have BGE := hide2 (show busyGo m n2 (ts.take (j + 1)) = busyGo m n2 (ts.take j) ++ [⟨0, padL m t.pre, padL m t.post⟩] by rw [BG.out, twoT, if_pos hz])
                have NXT := hide2 (show Value.int .i64 (sj : Int) = .int .i64 ((seenN (ts.take (j + 1)) : Nat) : Int) by rw [SN0.out])
                rw [hz] at t0 X3
                clear hz SN BG
                go_upto_region 19 with fail
                refine wp_region_scr 16 (.takes [0, 1, 3, 4, 6, 9, 10, 12] (.two 2 (.two 5 (.two 7 (.one 8 (.one 11 (.one 13 (.take 14 (.one 15 (.fins [16, 17, 18] .done)))))) 8 (.one 7 (.one 11 (.one 13 (.take 14 (.one 15 (.fins [16, 17, 18] .done))))))) 8 (.one 5 (.one 7 (.one 11 (.one 13 (.take 14 (.one 15 (.fins [16, 17, 18] .done)))))))) 8 (.one 2 (.one 5 (.one 7 (.one 11 (.one 13 (.take 14 (.one 15 (.fins [16, 17, 18] .done)))))))))) (fun w' => w'.cell? ⟨bx, 0, none⟩ = some (.int .i64 0) ∧ w'.cell? ⟨bx, 1, none⟩ = some (.slice A1 n2 k1) ∧ w'.cell? ⟨bx, 2, none⟩ = some (.slice A2 n2 k2) ∧ w'.cell? ⟨b9, 1, none⟩ = some (.slice A' L c')) (by kernel_rfl) (by kernel_rfl) (by kernel_rfl) (fun _ _ _ _ _ h => h) ⟨t0, t1, t2, o1⟩ (fun hHeld => ?_)
                simp only [Scr.takes, Scr.fins]
                have V0 := hide2 X0.out.drew
                have V1 := hide2 X1.out.drew
                have V3 := hide2 X3.out.drew
                have V4 := hide2 X4.out.drew
                have DR := hide2 ((Below.refl _ _).drew : Below w7.heap.size w7 w7.drew)
                have D := hide2 (DX.out.trans (DR.out.mono DX.out.size))
                have OW := hide2 (OX.out.keep (OwnTranR.kept _) DR.out)
                have TZ := hide2 (Ints.keep TX.out DR.out)
                have BQ := hide2 (show w5.heap.size ≤ w7.drew.heap.size from hszx)
                have P1 := hide2 (Ints.keep I1.out D.out)
                have P2 := hide2 (Ints.keep I2.out D.out)
                generalize w7.drew = ux0 at *
                have E := hide2 (Below.refl ux0.heap.size ux0)
                clear X0 X1 X3 X4 DX OX DR hszx t0 t1 t2 o1 TX
                iterate 8
                  refine tkTake (v := ?_) rfl (by rfl) hHeld (fun w' hSw => ?_) ?_
                  rotate_left
                  · (go_simp; try with_reducible rfl)
                  simp only [Act.put, List.setIfInBounds_toArray, List.set_cons_zero, List.set_cons_succ]
                refine scr_end (.take 14 (.one 15 (.fins [16, 17, 18] .done))) (fun a0 a' w' => ∃ e1 e2 e3 e4 v1 v2 : Value, a' = ((((((a0.put (some 68) e1).put (some 71) e2).put (some 73) v1).put (some 74) e3).put (some 77) e4).put (some 79) v2) ∧ Hid (OwnInts w' ux0.heap.size v1 (0 + n2 + sn) ([] ++ t.pre ++ List.replicate sn 0)) ∧ Hid (OwnInts w' ux0.heap.size v2 (0 + n2 + sn) ([] ++ t.post ++ List.replicate sn 0)) ∧ Hid (Below ux0.heap.size ux0 w')) ?_ (fun EN => ?_)
                · rintro a' wE ⟨e1, e2, e3, e4, v1, v2, rfl, R1, R2, E⟩ hHeld
                  simp only [Act.put, List.setIfInBounds_toArray, List.set_cons_zero, List.set_cons_succ]
                  obtain ⟨A1x, c1x, hv1, _⟩ := R1.out.sl (by omega)
                  have Q1 := hide2 (show OwnInts _ ux0.heap.size v1 m (padL m t.pre) by
                    have h1 := R1.out
                    rw [show 0 + n2 + sn = m by have := HM.out; omega] at h1
                    rw [padL, I1.out.len, show m - n2 = sn by have := HM.out; omega]
                    simpa using h1)
                  rw [show 0 + n2 + sn = m by have := HM.out; omega] at hv1
                  subst hv1
                  clear R1

                  obtain ⟨A2x, c2x, hv2, _⟩ := R2.out.sl (by omega)
                  have Q2 := hide2 (show OwnInts _ ux0.heap.size v2 m (padL m t.post) by
                    have h1 := R2.out
                    rw [show 0 + n2 + sn = m by have := HM.out; omega] at h1
                    rw [padL, I2.out.len, show m - n2 = sn by have := HM.out; omega]
                    simpa using h1)
                  rw [show 0 + n2 + sn = m by have := HM.out; omega] at hv2
                  subst hv2
                  clear R2

                  replace V0 := hide2 (V0.out.keep E.out)
                  replace V1 := hide2 (V1.out.keep E.out)
                  replace V3 := hide2 (V3.out.keep E.out)
                  replace V4 := hide2 (V4.out.keep E.out)
                  replace D := hide2 (D.out.trans (E.out.mono D.out.size))
                  replace OW := hide2 (OW.out.keep (OwnTranR.kept _) E.out)
                  have BQ2 := hide2 (Nat.le_trans BQ.out E.out.size)
                  clear TZ P1 P2
                  refine tkTake (v := ?_) rfl (by rfl) hHeld (fun w' hSw => ?_) ?_
                  rotate_left
                  · (go_simp; try with_reducible rfl)
                  simp only [Act.put, List.setIfInBounds_toArray, List.set_cons_zero, List.set_cons_succ]
                  refine tkOne rfl (fun K hK => ?_)
                  go_simp
                  obtain ⟨t0, t1, t2⟩ := V3.out.three
                  obtain ⟨_, o1⟩ := V4.out.two
                  refine hK.out _ _ ⟨(V3.out.old _).three.1, (V3.out.old _).three.2.1, (V3.out.old _).three.2.2, (V4.out.old _).two.2⟩ (fun hHeld => ?_)
                  clear hK
                  try simp only [Act.put, List.setIfInBounds_toArray, List.set_cons_zero, List.set_cons_succ]
                  have RD := hide2 (show OwnTranR w5.heap.size wE (fun j => [Value.int .i64 0, .slice A1x m c1x, .slice A2x m c2x].getD j undef) ⟨0, padL m t.pre, padL m t.post⟩ from ⟨rfl, m, m, Q1.out.base BQ.out, Q2.out.base BQ.out, by omega, by omega⟩)
                  refine tkEnd rfl (fun K hK => ?_)
                  have KP := keepTran OW.out
                  refine step_appNew tyTrans rfl (.tmp 67) (.tmp 81) rfl [⟨0, padL m t.pre, padL m t.post⟩] #[.int .i64 0, .slice A1x m c1x, .slice A2x m c2x] rfl rfl (by first | rfl | simp) rfl rfl (by omega) (by simp [Value.oneCell']) OW.out (Reads.tran RD.out) rfl (Below.refl w5.heap.size wE) BQ2.out (by omega) (by omega) KP ?_
                  intro g cap wz ownz hgz hbz hBg hgl
                  have Z0 := hide2 (V0.out.keepB hbz (by have := U4.out.lt; omega))
                  have Z1 := hide2 (V1.out.keepB hbz (by have := U4.out.lt; omega))
                  have Z4 := hide2 (V4.out.keepB hbz U4.out.lt)
                  have DZ := hide2 (D.out.trans (hbz.mono D5.out.size))
                  have SZ := hide2 (Nat.le_trans BQ2.out hbz.size)
                  obtain ⟨z0, z1⟩ := Z4.out.two
                  have zf := Z4.out.frozen 1
                  have OZ := hide2 ownz
                  clear KP ownz hgz hbz
                  refine hK.out _ _ ?_
                  clear hK
                  simp only [Act.put, List.setIfInBounds_toArray, List.set_cons_zero, List.set_cons_succ]
                  iterate 2
                    refine tkEnd rfl (fun K hK => ?_)
                    go_simp
                    refine hK.out _ _ ?_
                    clear hK
                    try simp only [Act.put, List.setIfInBounds_toArray, List.set_cons_zero, List.set_cons_succ]
                  refine tkDone ?_
                  have hbs := Beside.set wz b9 1 (.slice (some ⟨g, 0, none⟩) (L + 1) cap)
                  have Q0 := hide2 (hbs.box Z0.out (by omega))
                  have Q1 := hide2 (hbs.box Z1.out (by omega))
                  have Q4 := hide2 (show Box (wz.setCell ⟨b9, 1, none⟩ (.slice (some ⟨g, 0, none⟩) (L + 1) cap)) b9 38 #[.int .i64 m, .slice (some ⟨g, 0, none⟩) (L + 1) cap] by simpa using Z4.out.set 1 (.slice (some ⟨g, 0, none⟩) (L + 1) cap))
                  have OQ := turnedEnd (j := 1) (u := .slice (some ⟨g, 0, none⟩) (L + 1) cap) OZ.out U4.out.lt
                  have DQ := hide2 (DZ.out.setCell (show w.heap.size ≤ (⟨b9, 1, none⟩ : Addr).block by show w.heap.size ≤ b9; omega) (.slice (some ⟨g, 0, none⟩) (L + 1) cap))
                  have SQ : w5.heap.size ≤ (wz.setCell ⟨b9, 1, none⟩ (.slice (some ⟨g, 0, none⟩) (L + 1) cap)).heap.size := by rw [hbs.1]; exact SZ.out
                  have EL := hide2 (show L + 1 = (j + 1) + seenN (ts.take (j + 1)) by rw [SN0.out]; have := HLL.out; omega)
                  clear hbs V0 V1 V3 V4 D OW BQ BQ2 E Z0 Z1 Z4 DZ SZ OZ z0 z1 zf
                  go_wp2
                  go_roundw
                  case rel => exact ⟨j + 1, some ⟨g, 0, none⟩, cap, by omega, by go_num, NXT.out, Q0, Q1, by rw [← EL.out]; exact Q4, by rw [← EL.out, BGE.out]; exact OQ, DQ, SQ⟩
                  case measure => simp [intOf]; omega
                refine tkTwo rfl rfl (fun K hK => ?_) (fun K hK => ?_)
                · go_simp
                  have hb := boxBelow ux0 (.cells #[] 3)
                  have RR := OwnSl.empty (R := IntR) (sz := 1) (w := ux0) (B := ux0.heap.size) (e := 3) E.out.size
                  obtain ⟨vb2, hv⟩ : ∃ v : Value, v = .slice (some ⟨ux0.heap.size, 0, none⟩) 0 0 := ⟨_, rfl⟩
                  rw [← hv] at RR ⊢
                  generalize hE : ux0.alloc (.cells #[] 3) = uy1 at *
                  replace E := hide2 (E.out.trans (hb.mono E.out.size))
                  have R1 := hide2 (show OwnInts _ ux0.heap.size vb2 0 [] from RR)
                  clear hb hv hE RR
                  have t0 := (V3.out.keep E.out).three.1
                  have t1 := (V3.out.keep E.out).three.2.1
                  have t2 := (V3.out.keep E.out).three.2.2
                  have o1 := (V4.out.keep E.out).two.2
                  refine hK.out _ _ ⟨t0, t1, t2, o1⟩ (fun hHeld => ?_)
                  clear hK t0 t1 t2 o1
                  try simp only [Act.put, List.setIfInBounds_toArray, List.set_cons_zero, List.set_cons_succ]
                  refine tkTwo rfl rfl (fun K hK => ?_) (fun K hK => ?_)
                  · refine step_appOwn rfl (.tmp 68) (.tmp 70) rfl rfl rfl R1.out (Ints.keep P1.out E.out) E.out.size (by omega) E.out (Nat.le_refl _) ?_
                    intro va4 uy3 own' hg' hb' hat'
                    replace R1 := hide2 own'
                    replace E := hide2 hb'
                    clear own' hg' hb' hat'
                    have t0 := (V3.out.keep E.out).three.1
                    have t1 := (V3.out.keep E.out).three.2.1
                    have t2 := (V3.out.keep E.out).three.2.2
                    have o1 := (V4.out.keep E.out).two.2
                    refine hK.out _ _ ⟨t0, t1, t2, o1⟩ (fun hHeld => ?_)
                    clear hK t0 t1 t2 o1
                    try simp only [Act.put, List.setIfInBounds_toArray, List.set_cons_zero, List.set_cons_succ]
                    refine tkTwo rfl rfl (fun K hK => ?_) (fun K hK => ?_)
                    · refine step_appOwn rfl (.tmp 71) (.tmp 72) rfl rfl rfl R1.out (Ints.keep TZ.out E.out) E.out.size (by omega) E.out (Nat.le_refl _) ?_
                      intro va6 uy5 own' hg' hb' hat'
                      replace R1 := hide2 own'
                      replace E := hide2 hb'
                      clear own' hg' hb' hat'
                      have t0 := (V3.out.keep E.out).three.1
                      have t1 := (V3.out.keep E.out).three.2.1
                      have t2 := (V3.out.keep E.out).three.2.2
                      have o1 := (V4.out.keep E.out).two.2
                      refine hK.out _ _ ⟨t0, t1, t2, o1⟩ (fun hHeld => ?_)
                      clear hK t0 t1 t2 o1
                      try simp only [Act.put, List.setIfInBounds_toArray, List.set_cons_zero, List.set_cons_succ]
                      refine tkOne rfl (fun K hK => ?_)
                      go_simp
                      have hb := boxBelow uy5 (.cells #[] 3)
                      have RR := OwnSl.empty (R := IntR) (sz := 1) (w := uy5) (B := ux0.heap.size) (e := 3) E.out.size
                      obtain ⟨vb8, hv⟩ : ∃ v : Value, v = .slice (some ⟨uy5.heap.size, 0, none⟩) 0 0 := ⟨_, rfl⟩
                      rw [← hv] at RR ⊢
                      have NE := hide2 (show va6.ownBlock ≠ vb8.ownBlock from fun e => by
                        have h1 : vb8.ownBlock = some uy5.heap.size := by rw [hv]; rfl
                        have := (R1.out.lt _ (e.trans h1)).2; omega)
                      replace R1 := hide2 (show OwnInts _ ux0.heap.size va6 _ _ from R1.out.keep IntR.kept hb)
                      generalize hE : uy5.alloc (.cells #[] 3) = uy7 at *
                      replace E := hide2 (E.out.trans (hb.mono E.out.size))
                      have R2 := hide2 (show OwnInts _ ux0.heap.size vb8 0 [] from RR)
                      clear hb hv hE RR
                      have t0 := (V3.out.keep E.out).three.1
                      have t1 := (V3.out.keep E.out).three.2.1
                      have t2 := (V3.out.keep E.out).three.2.2
                      have o1 := (V4.out.keep E.out).two.2
                      refine hK.out _ _ ⟨t0, t1, t2, o1⟩ (fun hHeld => ?_)
                      clear hK t0 t1 t2 o1
                      try simp only [Act.put, List.setIfInBounds_toArray, List.set_cons_zero, List.set_cons_succ]
                      refine tkOne rfl (fun K hK => ?_)
                      refine step_appOwn rfl (.tmp 74) (.tmp 76) rfl rfl rfl R2.out (Ints.keep P2.out E.out) E.out.size (by omega) E.out (Nat.le_refl _) ?_
                      intro va10 uy9 own' hg' hb' hat'
                      have NX := hide2 (neGrow hat' (NE.out.symm) (fun q hq => (R1.out.lt q hq).2))
                      replace R1 := hide2 (show OwnInts uy9 ux0.heap.size va6 _ _ from OwnSl.kept R1.out hg' (.inr (fun e => NE.out.symm e.symm)) (fun _ _ h => h))
                      replace NE := hide2 (NX.out.symm)
                      clear NX
                      replace R2 := hide2 own'
                      replace E := hide2 hb'
                      clear own' hg' hb' hat'
                      have t0 := (V3.out.keep E.out).three.1
                      have t1 := (V3.out.keep E.out).three.2.1
                      have t2 := (V3.out.keep E.out).three.2.2
                      have o1 := (V4.out.keep E.out).two.2
                      refine hK.out _ _ ⟨t0, t1, t2, o1⟩ (fun hHeld => ?_)
                      clear hK t0 t1 t2 o1
                      try simp only [Act.put, List.setIfInBounds_toArray, List.set_cons_zero, List.set_cons_succ]
                      refine tkOne rfl (fun K hK => ?_)
                      refine step_appOwn rfl (.tmp 77) (.tmp 78) rfl rfl rfl R2.out (Ints.keep TZ.out E.out) E.out.size (by omega) E.out (Nat.le_refl _) ?_
                      intro va12 uy11 own' hg' hb' hat'
                      have NX := hide2 (neGrow hat' (NE.out.symm) (fun q hq => (R1.out.lt q hq).2))
                      replace R1 := hide2 (show OwnInts uy11 ux0.heap.size va6 _ _ from OwnSl.kept R1.out hg' (.inr (fun e => NE.out.symm e.symm)) (fun _ _ h => h))
                      replace NE := hide2 (NX.out.symm)
                      clear NX
                      replace R2 := hide2 own'
                      replace E := hide2 hb'
                      clear own' hg' hb' hat'
                      have t0 := (V3.out.keep E.out).three.1
                      have t1 := (V3.out.keep E.out).three.2.1
                      have t2 := (V3.out.keep E.out).three.2.2
                      have o1 := (V4.out.keep E.out).two.2
                      refine hK.out _ _ ⟨t0, t1, t2, o1⟩ (fun hHeld => ?_)
                      clear hK t0 t1 t2 o1
                      try simp only [Act.put, List.setIfInBounds_toArray, List.set_cons_zero, List.set_cons_succ]
                      exact EN.out _ _ ⟨_, _, _, _, _, _, rfl, R1, R2, E⟩ hHeld
                    · go_simp
                      have hb := boxBelow uy3 (.cells #[] 3)
                      have RR := OwnSl.empty (R := IntR) (sz := 1) (w := uy3) (B := ux0.heap.size) (e := 3) E.out.size
                      obtain ⟨vb14, hv⟩ : ∃ v : Value, v = .slice (some ⟨uy3.heap.size, 0, none⟩) 0 0 := ⟨_, rfl⟩
                      rw [← hv] at RR ⊢
                      have NE := hide2 (show va4.ownBlock ≠ vb14.ownBlock from fun e => by
                        have h1 : vb14.ownBlock = some uy3.heap.size := by rw [hv]; rfl
                        have := (R1.out.lt _ (e.trans h1)).2; omega)
                      replace R1 := hide2 (show OwnInts _ ux0.heap.size va4 _ _ from R1.out.keep IntR.kept hb)
                      generalize hE : uy3.alloc (.cells #[] 3) = uy13 at *
                      replace E := hide2 (E.out.trans (hb.mono E.out.size))
                      have R2 := hide2 (show OwnInts _ ux0.heap.size vb14 0 [] from RR)
                      clear hb hv hE RR
                      have t0 := (V3.out.keep E.out).three.1
                      have t1 := (V3.out.keep E.out).three.2.1
                      have t2 := (V3.out.keep E.out).three.2.2
                      have o1 := (V4.out.keep E.out).two.2
                      refine hK.out _ _ ⟨t0, t1, t2, o1⟩ (fun hHeld => ?_)
                      clear hK t0 t1 t2 o1
                      try simp only [Act.put, List.setIfInBounds_toArray, List.set_cons_zero, List.set_cons_succ]
                      refine tkOne rfl (fun K hK => ?_)
                      refine step_appOwn rfl (.tmp 71) (.tmp 72) rfl rfl rfl R1.out (Ints.keep TZ.out E.out) E.out.size (by omega) E.out (Nat.le_refl _) ?_
                      intro va16 uy15 own' hg' hb' hat'
                      have NX := hide2 (neGrow hat' (NE.out) (fun q hq => (R2.out.lt q hq).2))
                      replace R2 := hide2 (show OwnInts uy15 ux0.heap.size vb14 _ _ from OwnSl.kept R2.out hg' (.inr (fun e => NE.out e.symm)) (fun _ _ h => h))
                      replace NE := hide2 (NX.out)
                      clear NX
                      replace R1 := hide2 own'
                      replace E := hide2 hb'
                      clear own' hg' hb' hat'
                      have t0 := (V3.out.keep E.out).three.1
                      have t1 := (V3.out.keep E.out).three.2.1
                      have t2 := (V3.out.keep E.out).three.2.2
                      have o1 := (V4.out.keep E.out).two.2
                      refine hK.out _ _ ⟨t0, t1, t2, o1⟩ (fun hHeld => ?_)
                      clear hK t0 t1 t2 o1
                      try simp only [Act.put, List.setIfInBounds_toArray, List.set_cons_zero, List.set_cons_succ]
                      refine tkOne rfl (fun K hK => ?_)
                      refine step_appOwn rfl (.tmp 74) (.tmp 76) rfl rfl rfl R2.out (Ints.keep P2.out E.out) E.out.size (by omega) E.out (Nat.le_refl _) ?_
                      intro va18 uy17 own' hg' hb' hat'
                      have NX := hide2 (neGrow hat' (NE.out.symm) (fun q hq => (R1.out.lt q hq).2))
                      replace R1 := hide2 (show OwnInts uy17 ux0.heap.size va16 _ _ from OwnSl.kept R1.out hg' (.inr (fun e => NE.out.symm e.symm)) (fun _ _ h => h))
                      replace NE := hide2 (NX.out.symm)
                      clear NX
                      replace R2 := hide2 own'
                      replace E := hide2 hb'
                      clear own' hg' hb' hat'
                      have t0 := (V3.out.keep E.out).three.1
                      have t1 := (V3.out.keep E.out).three.2.1
                      have t2 := (V3.out.keep E.out).three.2.2
                      have o1 := (V4.out.keep E.out).two.2
                      refine hK.out _ _ ⟨t0, t1, t2, o1⟩ (fun hHeld => ?_)
                      clear hK t0 t1 t2 o1
                      try simp only [Act.put, List.setIfInBounds_toArray, List.set_cons_zero, List.set_cons_succ]
                      refine tkOne rfl (fun K hK => ?_)
                      refine step_appOwn rfl (.tmp 77) (.tmp 78) rfl rfl rfl R2.out (Ints.keep TZ.out E.out) E.out.size (by omega) E.out (Nat.le_refl _) ?_
                      intro va20 uy19 own' hg' hb' hat'
                      have NX := hide2 (neGrow hat' (NE.out.symm) (fun q hq => (R1.out.lt q hq).2))
                      replace R1 := hide2 (show OwnInts uy19 ux0.heap.size va16 _ _ from OwnSl.kept R1.out hg' (.inr (fun e => NE.out.symm e.symm)) (fun _ _ h => h))
                      replace NE := hide2 (NX.out.symm)
                      clear NX
                      replace R2 := hide2 own'
                      replace E := hide2 hb'
                      clear own' hg' hb' hat'
                      have t0 := (V3.out.keep E.out).three.1
                      have t1 := (V3.out.keep E.out).three.2.1
                      have t2 := (V3.out.keep E.out).three.2.2
                      have o1 := (V4.out.keep E.out).two.2
                      refine hK.out _ _ ⟨t0, t1, t2, o1⟩ (fun hHeld => ?_)
                      clear hK t0 t1 t2 o1
                      try simp only [Act.put, List.setIfInBounds_toArray, List.set_cons_zero, List.set_cons_succ]
                      exact EN.out _ _ ⟨_, _, _, _, _, _, rfl, R1, R2, E⟩ hHeld
                  · go_simp
                    have hb := boxBelow uy1 (.cells #[] 3)
                    have RR := OwnSl.empty (R := IntR) (sz := 1) (w := uy1) (B := ux0.heap.size) (e := 3) E.out.size
                    obtain ⟨vb22, hv⟩ : ∃ v : Value, v = .slice (some ⟨uy1.heap.size, 0, none⟩) 0 0 := ⟨_, rfl⟩
                    rw [← hv] at RR ⊢
                    have NE := hide2 (show vb2.ownBlock ≠ vb22.ownBlock from fun e => by
                      have h1 : vb22.ownBlock = some uy1.heap.size := by rw [hv]; rfl
                      have := (R1.out.lt _ (e.trans h1)).2; omega)
                    replace R1 := hide2 (show OwnInts _ ux0.heap.size vb2 _ _ from R1.out.keep IntR.kept hb)
                    generalize hE : uy1.alloc (.cells #[] 3) = uy21 at *
                    replace E := hide2 (E.out.trans (hb.mono E.out.size))
                    have R2 := hide2 (show OwnInts _ ux0.heap.size vb22 0 [] from RR)
                    clear hb hv hE RR
                    have t0 := (V3.out.keep E.out).three.1
                    have t1 := (V3.out.keep E.out).three.2.1
                    have t2 := (V3.out.keep E.out).three.2.2
                    have o1 := (V4.out.keep E.out).two.2
                    refine hK.out _ _ ⟨t0, t1, t2, o1⟩ (fun hHeld => ?_)
                    clear hK t0 t1 t2 o1
                    try simp only [Act.put, List.setIfInBounds_toArray, List.set_cons_zero, List.set_cons_succ]
                    refine tkOne rfl (fun K hK => ?_)
                    refine step_appOwn rfl (.tmp 68) (.tmp 70) rfl rfl rfl R1.out (Ints.keep P1.out E.out) E.out.size (by omega) E.out (Nat.le_refl _) ?_
                    intro va24 uy23 own' hg' hb' hat'
                    have NX := hide2 (neGrow hat' (NE.out) (fun q hq => (R2.out.lt q hq).2))
                    replace R2 := hide2 (show OwnInts uy23 ux0.heap.size vb22 _ _ from OwnSl.kept R2.out hg' (.inr (fun e => NE.out e.symm)) (fun _ _ h => h))
                    replace NE := hide2 (NX.out)
                    clear NX
                    replace R1 := hide2 own'
                    replace E := hide2 hb'
                    clear own' hg' hb' hat'
                    have t0 := (V3.out.keep E.out).three.1
                    have t1 := (V3.out.keep E.out).three.2.1
                    have t2 := (V3.out.keep E.out).three.2.2
                    have o1 := (V4.out.keep E.out).two.2
                    refine hK.out _ _ ⟨t0, t1, t2, o1⟩ (fun hHeld => ?_)
                    clear hK t0 t1 t2 o1
                    try simp only [Act.put, List.setIfInBounds_toArray, List.set_cons_zero, List.set_cons_succ]
                    refine tkOne rfl (fun K hK => ?_)
                    refine step_appOwn rfl (.tmp 71) (.tmp 72) rfl rfl rfl R1.out (Ints.keep TZ.out E.out) E.out.size (by omega) E.out (Nat.le_refl _) ?_
                    intro va26 uy25 own' hg' hb' hat'
                    have NX := hide2 (neGrow hat' (NE.out) (fun q hq => (R2.out.lt q hq).2))
                    replace R2 := hide2 (show OwnInts uy25 ux0.heap.size vb22 _ _ from OwnSl.kept R2.out hg' (.inr (fun e => NE.out e.symm)) (fun _ _ h => h))
                    replace NE := hide2 (NX.out)
                    clear NX
                    replace R1 := hide2 own'
                    replace E := hide2 hb'
                    clear own' hg' hb' hat'
                    have t0 := (V3.out.keep E.out).three.1
                    have t1 := (V3.out.keep E.out).three.2.1
                    have t2 := (V3.out.keep E.out).three.2.2
                    have o1 := (V4.out.keep E.out).two.2
                    refine hK.out _ _ ⟨t0, t1, t2, o1⟩ (fun hHeld => ?_)
                    clear hK t0 t1 t2 o1
                    try simp only [Act.put, List.setIfInBounds_toArray, List.set_cons_zero, List.set_cons_succ]
                    refine tkOne rfl (fun K hK => ?_)
                    refine step_appOwn rfl (.tmp 74) (.tmp 76) rfl rfl rfl R2.out (Ints.keep P2.out E.out) E.out.size (by omega) E.out (Nat.le_refl _) ?_
                    intro va28 uy27 own' hg' hb' hat'
                    have NX := hide2 (neGrow hat' (NE.out.symm) (fun q hq => (R1.out.lt q hq).2))
                    replace R1 := hide2 (show OwnInts uy27 ux0.heap.size va26 _ _ from OwnSl.kept R1.out hg' (.inr (fun e => NE.out.symm e.symm)) (fun _ _ h => h))
                    replace NE := hide2 (NX.out.symm)
                    clear NX
                    replace R2 := hide2 own'
                    replace E := hide2 hb'
                    clear own' hg' hb' hat'
                    have t0 := (V3.out.keep E.out).three.1
                    have t1 := (V3.out.keep E.out).three.2.1
                    have t2 := (V3.out.keep E.out).three.2.2
                    have o1 := (V4.out.keep E.out).two.2
                    refine hK.out _ _ ⟨t0, t1, t2, o1⟩ (fun hHeld => ?_)
                    clear hK t0 t1 t2 o1
                    try simp only [Act.put, List.setIfInBounds_toArray, List.set_cons_zero, List.set_cons_succ]
                    refine tkOne rfl (fun K hK => ?_)
                    refine step_appOwn rfl (.tmp 77) (.tmp 78) rfl rfl rfl R2.out (Ints.keep TZ.out E.out) E.out.size (by omega) E.out (Nat.le_refl _) ?_
                    intro va30 uy29 own' hg' hb' hat'
                    have NX := hide2 (neGrow hat' (NE.out.symm) (fun q hq => (R1.out.lt q hq).2))
                    replace R1 := hide2 (show OwnInts uy29 ux0.heap.size va26 _ _ from OwnSl.kept R1.out hg' (.inr (fun e => NE.out.symm e.symm)) (fun _ _ h => h))
                    replace NE := hide2 (NX.out.symm)
                    clear NX
                    replace R2 := hide2 own'
                    replace E := hide2 hb'
                    clear own' hg' hb' hat'
                    have t0 := (V3.out.keep E.out).three.1
                    have t1 := (V3.out.keep E.out).three.2.1
                    have t2 := (V3.out.keep E.out).three.2.2
                    have o1 := (V4.out.keep E.out).two.2
                    refine hK.out _ _ ⟨t0, t1, t2, o1⟩ (fun hHeld => ?_)
                    clear hK t0 t1 t2 o1
                    try simp only [Act.put, List.setIfInBounds_toArray, List.set_cons_zero, List.set_cons_succ]
                    exact EN.out _ _ ⟨_, _, _, _, _, _, rfl, R1, R2, E⟩ hHeld
                · go_simp
                  have hb := boxBelow ux0 (.cells #[] 3)
                  have RR := OwnSl.empty (R := IntR) (sz := 1) (w := ux0) (B := ux0.heap.size) (e := 3) E.out.size
                  obtain ⟨vb32, hv⟩ : ∃ v : Value, v = .slice (some ⟨ux0.heap.size, 0, none⟩) 0 0 := ⟨_, rfl⟩
                  rw [← hv] at RR ⊢
                  generalize hE : ux0.alloc (.cells #[] 3) = uy31 at *
                  replace E := hide2 (E.out.trans (hb.mono E.out.size))
                  have R2 := hide2 (show OwnInts _ ux0.heap.size vb32 0 [] from RR)
                  clear hb hv hE RR
                  have t0 := (V3.out.keep E.out).three.1
                  have t1 := (V3.out.keep E.out).three.2.1
                  have t2 := (V3.out.keep E.out).three.2.2
                  have o1 := (V4.out.keep E.out).two.2
                  refine hK.out _ _ ⟨t0, t1, t2, o1⟩ (fun hHeld => ?_)
                  clear hK t0 t1 t2 o1
                  try simp only [Act.put, List.setIfInBounds_toArray, List.set_cons_zero, List.set_cons_succ]
                  refine tkOne rfl (fun K hK => ?_)
                  go_simp
                  have hb := boxBelow uy31 (.cells #[] 3)
                  have RR := OwnSl.empty (R := IntR) (sz := 1) (w := uy31) (B := ux0.heap.size) (e := 3) E.out.size
                  obtain ⟨vb34, hv⟩ : ∃ v : Value, v = .slice (some ⟨uy31.heap.size, 0, none⟩) 0 0 := ⟨_, rfl⟩
                  rw [← hv] at RR ⊢
                  have NE := hide2 (show vb34.ownBlock ≠ vb32.ownBlock from fun e => by
                    have h1 : vb34.ownBlock = some uy31.heap.size := by rw [hv]; rfl
                    have := (R2.out.lt _ (e.symm.trans h1)).2; omega)
                  replace R2 := hide2 (show OwnInts _ ux0.heap.size vb32 _ _ from R2.out.keep IntR.kept hb)
                  generalize hE : uy31.alloc (.cells #[] 3) = uy33 at *
                  replace E := hide2 (E.out.trans (hb.mono E.out.size))
                  have R1 := hide2 (show OwnInts _ ux0.heap.size vb34 0 [] from RR)
                  clear hb hv hE RR
                  have t0 := (V3.out.keep E.out).three.1
                  have t1 := (V3.out.keep E.out).three.2.1
                  have t2 := (V3.out.keep E.out).three.2.2
                  have o1 := (V4.out.keep E.out).two.2
                  refine hK.out _ _ ⟨t0, t1, t2, o1⟩ (fun hHeld => ?_)
                  clear hK t0 t1 t2 o1
                  try simp only [Act.put, List.setIfInBounds_toArray, List.set_cons_zero, List.set_cons_succ]
                  refine tkOne rfl (fun K hK => ?_)
                  refine step_appOwn rfl (.tmp 68) (.tmp 70) rfl rfl rfl R1.out (Ints.keep P1.out E.out) E.out.size (by omega) E.out (Nat.le_refl _) ?_
                  intro va36 uy35 own' hg' hb' hat'
                  have NX := hide2 (neGrow hat' (NE.out) (fun q hq => (R2.out.lt q hq).2))
                  replace R2 := hide2 (show OwnInts uy35 ux0.heap.size vb32 _ _ from OwnSl.kept R2.out hg' (.inr (fun e => NE.out e.symm)) (fun _ _ h => h))
                  replace NE := hide2 (NX.out)
                  clear NX
                  replace R1 := hide2 own'
                  replace E := hide2 hb'
                  clear own' hg' hb' hat'
                  have t0 := (V3.out.keep E.out).three.1
                  have t1 := (V3.out.keep E.out).three.2.1
                  have t2 := (V3.out.keep E.out).three.2.2
                  have o1 := (V4.out.keep E.out).two.2
                  refine hK.out _ _ ⟨t0, t1, t2, o1⟩ (fun hHeld => ?_)
                  clear hK t0 t1 t2 o1
                  try simp only [Act.put, List.setIfInBounds_toArray, List.set_cons_zero, List.set_cons_succ]
                  refine tkOne rfl (fun K hK => ?_)
                  refine step_appOwn rfl (.tmp 71) (.tmp 72) rfl rfl rfl R1.out (Ints.keep TZ.out E.out) E.out.size (by omega) E.out (Nat.le_refl _) ?_
                  intro va38 uy37 own' hg' hb' hat'
                  have NX := hide2 (neGrow hat' (NE.out) (fun q hq => (R2.out.lt q hq).2))
                  replace R2 := hide2 (show OwnInts uy37 ux0.heap.size vb32 _ _ from OwnSl.kept R2.out hg' (.inr (fun e => NE.out e.symm)) (fun _ _ h => h))
                  replace NE := hide2 (NX.out)
                  clear NX
                  replace R1 := hide2 own'
                  replace E := hide2 hb'
                  clear own' hg' hb' hat'
                  have t0 := (V3.out.keep E.out).three.1
                  have t1 := (V3.out.keep E.out).three.2.1
                  have t2 := (V3.out.keep E.out).three.2.2
                  have o1 := (V4.out.keep E.out).two.2
                  refine hK.out _ _ ⟨t0, t1, t2, o1⟩ (fun hHeld => ?_)
                  clear hK t0 t1 t2 o1
                  try simp only [Act.put, List.setIfInBounds_toArray, List.set_cons_zero, List.set_cons_succ]
                  refine tkOne rfl (fun K hK => ?_)
                  refine step_appOwn rfl (.tmp 74) (.tmp 76) rfl rfl rfl R2.out (Ints.keep P2.out E.out) E.out.size (by omega) E.out (Nat.le_refl _) ?_
                  intro va40 uy39 own' hg' hb' hat'
                  have NX := hide2 (neGrow hat' (NE.out.symm) (fun q hq => (R1.out.lt q hq).2))
                  replace R1 := hide2 (show OwnInts uy39 ux0.heap.size va38 _ _ from OwnSl.kept R1.out hg' (.inr (fun e => NE.out.symm e.symm)) (fun _ _ h => h))
                  replace NE := hide2 (NX.out.symm)
                  clear NX
                  replace R2 := hide2 own'
                  replace E := hide2 hb'
                  clear own' hg' hb' hat'
                  have t0 := (V3.out.keep E.out).three.1
                  have t1 := (V3.out.keep E.out).three.2.1
                  have t2 := (V3.out.keep E.out).three.2.2
                  have o1 := (V4.out.keep E.out).two.2
                  refine hK.out _ _ ⟨t0, t1, t2, o1⟩ (fun hHeld => ?_)
                  clear hK t0 t1 t2 o1
                  try simp only [Act.put, List.setIfInBounds_toArray, List.set_cons_zero, List.set_cons_succ]
                  refine tkOne rfl (fun K hK => ?_)
                  refine step_appOwn rfl (.tmp 77) (.tmp 78) rfl rfl rfl R2.out (Ints.keep TZ.out E.out) E.out.size (by omega) E.out (Nat.le_refl _) ?_
                  intro va42 uy41 own' hg' hb' hat'
                  have NX := hide2 (neGrow hat' (NE.out.symm) (fun q hq => (R1.out.lt q hq).2))
                  replace R1 := hide2 (show OwnInts uy41 ux0.heap.size va38 _ _ from OwnSl.kept R1.out hg' (.inr (fun e => NE.out.symm e.symm)) (fun _ _ h => h))
                  replace NE := hide2 (NX.out.symm)
                  clear NX
                  replace R2 := hide2 own'
                  replace E := hide2 hb'
                  clear own' hg' hb' hat'
                  have t0 := (V3.out.keep E.out).three.1
                  have t1 := (V3.out.keep E.out).three.2.1
                  have t2 := (V3.out.keep E.out).three.2.2
                  have o1 := (V4.out.keep E.out).two.2
                  refine hK.out _ _ ⟨t0, t1, t2, o1⟩ (fun hHeld => ?_)
                  clear hK t0 t1 t2 o1
                  try simp only [Act.put, List.setIfInBounds_toArray, List.set_cons_zero, List.set_cons_succ]
                  exact EN.out _ _ ⟨_, _, _, _, _, _, rfl, R1, R2, E⟩ hHeld
              · have SN0 := hide2 (show seenN (ts.take (j + 1)) = sj + 1 by rw [SN.out, if_neg hz])
                have hsjn : sj < sn := by have := SLE.out; rw [SN0.out] at this; omega
                have hsji : (sj : Int) < (sn : Int) := by omega
                have hsj0 : (0 : Int) ≤ (sj : Int) := by omega
                have BGE := hide2 (show busyGo m n2 (ts.take (j + 1)) = busyGo m n2 (ts.take j) ++ [⟨0, padL m t.pre, oneL m ((n2 + sj : Nat) : Int)⟩, ⟨t.label, oneL m ((n2 + sj : Nat) : Int), padL m t.post⟩] by rw [BG.out, twoT, if_neg hz])
                have NXT := hide2 (show Value.int .i64 ((sj : Int) + 1) = .int .i64 ((seenN (ts.take (j + 1)) : Nat) : Int) by rw [SN0.out]; rfl)
                have hne : (t.label == 0) = false := by simpa using hz
                clear hz SN BG
                go_upto_region 21 with (at_make; refine wpList_mk Try.underlying45 infoInt rfl rfl _ _ rfl sn rfl rfl rfl rfl (by omega) (by omega) (Below.refl _ _) (Nat.le_refl _) ?_; intro w8 own8 hg8 hb8)
                have s0 : w8.cell? ⟨w7.heap.size, sj, none⟩ = some (.int .i64 0) := by rw [own8.cellAt sj (by omega)]; simp [hsjn]
                have sf : w8.frozen? ⟨w7.heap.size, sj, none⟩ = false := own8.frozenAt sj
                have ST := hide2 (own8.stored sj (.int .i64 1)).1
                have HB8 := hide2 hb8
                clear own8 hg8 hb8
                go_upto_region 22 with fail
                obtain ⟨w9, hw9⟩ : ∃ w9, w9 = w8.setCell ⟨w7.heap.size, sj, none⟩ (.int .i64 1) := ⟨_, rfl⟩
                rw [← hw9]
                have hb9' : Below w7.heap.size w7 w9 := by rw [hw9]; exact HB8.out.setCell (Nat.le_refl _) _
                have Y0 := hide2 (X0.out.keep hb9')
                have Y1 := hide2 (X1.out.keep hb9')
                have Y3 := hide2 (X3.out.keep hb9')
                have Y4 := hide2 (X4.out.keep hb9')
                have OY := hide2 (OX.out.keep (OwnTranR.kept _) hb9')
                have DY := hide2 (DX.out.trans (hb9'.mono DX.out.size))
                have TY := hide2 (Ints.keep TX.out hb9')
                have UY := hide2 (show Ints w9 (some ⟨w7.heap.size, 0, none⟩) sn sn (oneL sn (sj : Int)) by
                  have o2 := ST.out
                  rw [← hw9, show (List.replicate sn (Value.int .i64 0)).set sj (.int .i64 1) = (oneL sn (sj : Int)).map (Value.int .i64) by rw [← oneL_set, List.map_set, List.map_replicate]] at o2
                  exact OwnInts.ints (OwnInts.of_row o2) (by omega))
                have hszy := Nat.le_trans hszx hb9'.size
                clear hw9 hb9' ST HB8 X0 X1 X3 X4 OX DX TX hszx t0 t1 t2 o1 s0 sf
                generalize w7.heap.size = bo at *
                obtain ⟨c0, c1⟩ := Y0.out.two
                go_upto_region 24 with (at_make; refine wpList_mk Try.underlying45 infoInt rfl rfl _ _ rfl n2 rfl rfl rfl rfl (by omega) (by omega) (Below.refl _ _) (Nat.le_refl _) ?_; intro w10 own10 hg10 hb10)
                have Z0 := hide2 (Y0.out.keep hb10)
                have Z1 := hide2 (Y1.out.keep hb10)
                have Z3 := hide2 (Y3.out.keep hb10)
                have Z4 := hide2 (Y4.out.keep hb10)
                have OZ := hide2 (OY.out.keep (OwnTranR.kept _) hb10)
                have DZ := hide2 (DY.out.trans (hb10.mono DY.out.size))
                have TZ := hide2 (Ints.keep TY.out hb10)
                have UZ := hide2 (Ints.keep UY.out hb10)
                have NZ := hide2 (ints_made own10 (by omega))
                have hszz := Nat.le_trans hszy hb10.size
                clear own10 hg10 hb10 Y0 Y1 Y3 Y4 OY DY TY UY hszy c0 c1
                generalize w9.heap.size = bn at *
                have EMP := hide2 (OwnSl.empty (R := IntR) (sz := 1) (w := w10) (B := w10.heap.size) (e := 3) (Nat.le_refl _))
                have HBE := hide2 (boxBelow w10 (.cells #[] 3))
                go_upto_region 25 with (first
                  | ((with_reducible show wpList _ _ _ _ _ _); refine wpList_appOwn (o := ⟨some 96, _, _, _, _, _⟩) rfl (.tmp 94) (.tmp 95) rfl rfl rfl EMP.out (Ints.keep NZ.out HBE.out) HBE.out.size (by omega) HBE.out (Nat.le_refl _) ?_; intro v11 w11 own11' hg11 hb11' hat11; have own11 := hide2 own11'; have hb11 := hide2 hb11'; clear own11' hg11 hb11' hat11)
                  | ((with_reducible show wpList _ _ _ _ _ _); refine wpList_appOwn (o := ⟨some 98, _, _, _, _, _⟩) rfl (.tmp 96) (.tmp 97) rfl rfl rfl own11.out (Ints.keep UZ.out hb11.out) hb11.out.size (by omega) hb11.out (Nat.le_refl _) ?_; intro v12 w12 own12' hg12 hb12' hat12; have own12 := hide2 own12'; have hb12 := hide2 hb12'; clear own12' hg12 hb12' hat12))
                have BX0 := hide2 (show OwnInts w12 w5.heap.size v12 m (oneL m ((n2 + sj : Nat) : Int)) by
                  have h1 := own12.out.base hszz
                  rw [show 0 + n2 + sn = m by have := HM.out; omega, List.nil_append, betweenL n2 sn sj hsjn, show n2 + sn = m by have := HM.out; omega] at h1
                  exact h1)
                obtain ⟨A5, c5, hv5, _⟩ := BX0.out.sl (by omega)
                subst hv5
                have X0 := hide2 (Z0.out.keep hb12.out)
                have X1 := hide2 (Z1.out.keep hb12.out)
                have X3 := hide2 (Z3.out.keep hb12.out)
                have X4 := hide2 (Z4.out.keep hb12.out)
                have OX := hide2 (OZ.out.keep (OwnTranR.kept _) hb12.out)
                have DX := hide2 (DZ.out.trans (hb12.out.mono DZ.out.size))
                have TX := hide2 (Ints.keep TZ.out hb12.out)
                have hszx := Nat.le_trans hszz hb12.out.size
                clear Z0 Z1 Z3 Z4 OZ DZ TZ UZ NZ hszz EMP HBE own11 hb11 own12 hb12
                obtain ⟨t0, t1, t2⟩ := X3.out.three
                obtain ⟨_, o1⟩ := X4.out.two
                refine wp_region_scr 21 (.takes [0, 1, 3, 4, 6, 8, 10, 11, 12, 14, 15, 17] (.two 2 (.two 5 (.two 7 (.take 9 (.one 13 (.one 16 (.one 18 (.take 19 (.one 20 (.fins [21, 22, 23] .done))))))) 13 (.one 7 (.take 9 (.one 16 (.one 18 (.take 19 (.one 20 (.fins [21, 22, 23] .done)))))))) 13 (.one 5 (.one 7 (.take 9 (.one 16 (.one 18 (.take 19 (.one 20 (.fins [21, 22, 23] .done))))))))) 13 (.one 2 (.one 5 (.one 7 (.take 9 (.one 16 (.one 18 (.take 19 (.one 20 (.fins [21, 22, 23] .done))))))))))) (fun w' => w'.cell? ⟨bx, 0, none⟩ = some (.int .i64 t.label) ∧ w'.cell? ⟨bx, 1, none⟩ = some (.slice A1 n2 k1) ∧ w'.cell? ⟨bx, 2, none⟩ = some (.slice A2 n2 k2) ∧ w'.cell? ⟨b9, 1, none⟩ = some (.slice A' L c')) (by kernel_rfl) (by kernel_rfl) (by kernel_rfl) (fun _ _ _ _ _ h => h) ⟨t0, t1, t2, o1⟩ (fun hHeld => ?_)
                simp only [Scr.takes, Scr.fins]
                have V0 := hide2 X0.out.drew
                have V1 := hide2 X1.out.drew
                have V3 := hide2 X3.out.drew
                have V4 := hide2 X4.out.drew
                have DR := hide2 ((Below.refl _ _).drew : Below w12.heap.size w12 w12.drew)
                have D := hide2 (DX.out.trans (DR.out.mono DX.out.size))
                have OW := hide2 (OX.out.keep (OwnTranR.kept _) DR.out)
                have TZ := hide2 (Ints.keep TX.out DR.out)
                have BT := hide2 (show OwnInts w12.drew w5.heap.size (.slice A5 m c5) m _ from BX0.out.keep IntR.kept DR.out)
                clear BX0
                have BQ := hide2 (show w5.heap.size ≤ w12.drew.heap.size from hszx)
                have P1 := hide2 (Ints.keep I1.out D.out)
                have P2 := hide2 (Ints.keep I2.out D.out)
                generalize w12.drew = ux0 at *
                have E := hide2 (Below.refl ux0.heap.size ux0)
                clear X0 X1 X3 X4 DX OX DR hszx t0 t1 t2 o1 TX
                iterate 12
                  refine tkTake (v := ?_) rfl (by rfl) hHeld (fun w' hSw => ?_) ?_
                  rotate_left
                  · (go_simp; try with_reducible rfl)
                  simp only [Act.put, List.setIfInBounds_toArray, List.set_cons_zero, List.set_cons_succ]
                refine scr_end (.take 19 (.one 20 (.fins [21, 22, 23] .done))) (fun a0 a' w' => ∃ e1 e2 e3 e4 v1 v2 : Value, a' = (((((((a0.put (some 101) e1).put (some 104) e2).put (some 106) v1).put (some 108) (.agg #[.int .i64 0, v1, .slice A5 m c5])).put (some 112) e3).put (some 115) e4).put (some 117) v2) ∧ Hid (OwnInts w' ux0.heap.size v1 (0 + n2 + sn) ([] ++ t.pre ++ List.replicate sn 0)) ∧ Hid (OwnInts w' ux0.heap.size v2 (0 + n2 + sn) ([] ++ t.post ++ List.replicate sn 0)) ∧ Hid (Below ux0.heap.size ux0 w')) ?_ (fun EN => ?_)
                · rintro a' wE ⟨e1, e2, e3, e4, v1, v2, rfl, R1, R2, E⟩ hHeld
                  simp only [Act.put, List.setIfInBounds_toArray, List.set_cons_zero, List.set_cons_succ]
                  obtain ⟨A1x, c1x, hv1, _⟩ := R1.out.sl (by omega)
                  have Q1 := hide2 (show OwnInts _ ux0.heap.size v1 m (padL m t.pre) by
                    have h1 := R1.out
                    rw [show 0 + n2 + sn = m by have := HM.out; omega] at h1
                    rw [padL, I1.out.len, show m - n2 = sn by have := HM.out; omega]
                    simpa using h1)
                  rw [show 0 + n2 + sn = m by have := HM.out; omega] at hv1
                  subst hv1
                  clear R1

                  obtain ⟨A2x, c2x, hv2, _⟩ := R2.out.sl (by omega)
                  have Q2 := hide2 (show OwnInts _ ux0.heap.size v2 m (padL m t.post) by
                    have h1 := R2.out
                    rw [show 0 + n2 + sn = m by have := HM.out; omega] at h1
                    rw [padL, I2.out.len, show m - n2 = sn by have := HM.out; omega]
                    simpa using h1)
                  rw [show 0 + n2 + sn = m by have := HM.out; omega] at hv2
                  subst hv2
                  clear R2

                  replace V0 := hide2 (V0.out.keep E.out)
                  replace V1 := hide2 (V1.out.keep E.out)
                  replace V3 := hide2 (V3.out.keep E.out)
                  replace V4 := hide2 (V4.out.keep E.out)
                  replace D := hide2 (D.out.trans (E.out.mono D.out.size))
                  replace OW := hide2 (OW.out.keep (OwnTranR.kept _) E.out)
                  have BQ2 := hide2 (Nat.le_trans BQ.out E.out.size)
                  clear TZ P1 P2
                  replace BT := hide2 (show OwnInts wE w5.heap.size (.slice A5 m c5) m _ from BT.out.keep IntR.kept E.out)
                  refine tkTake (v := ?_) rfl (by rfl) hHeld (fun w' hSw => ?_) ?_
                  rotate_left
                  · (go_simp; try with_reducible rfl)
                  simp only [Act.put, List.setIfInBounds_toArray, List.set_cons_zero, List.set_cons_succ]
                  refine tkOne rfl (fun K hK => ?_)
                  go_simp
                  obtain ⟨t0, t1, t2⟩ := V3.out.three
                  obtain ⟨_, o1⟩ := V4.out.two
                  refine hK.out _ _ ⟨(V3.out.old _).three.1, (V3.out.old _).three.2.1, (V3.out.old _).three.2.2, (V4.out.old _).two.2⟩ (fun hHeld => ?_)
                  clear hK
                  try simp only [Act.put, List.setIfInBounds_toArray, List.set_cons_zero, List.set_cons_succ]
                  have RD := hide2 (show OwnTranR w5.heap.size wE (fun j => [Value.int .i64 0, .slice A1x m c1x, .slice A5 m c5].getD j undef) ⟨0, padL m t.pre, oneL m ((n2 + sj : Nat) : Int)⟩ from ⟨rfl, m, m, Q1.out.base BQ.out, BT.out, by omega, by omega⟩)
                  have RE := hide2 (show OwnTranR w5.heap.size wE (fun j => [Value.int .i64 t.label, .slice A5 m c5, .slice A2x m c2x].getD j undef) ⟨t.label, oneL m ((n2 + sj : Nat) : Int), padL m t.post⟩ from ⟨rfl, m, m, BT.out, Q2.out.base BQ.out, by omega, by omega⟩)
                  refine tkEnd rfl (fun K hK => ?_)
                  have KP := keepTran OW.out
                  refine step_appNew tyTrans rfl (.tmp 100) (.tmp 119) rfl [⟨0, padL m t.pre, oneL m ((n2 + sj : Nat) : Int)⟩, ⟨t.label, oneL m ((n2 + sj : Nat) : Int), padL m t.post⟩] #[.int .i64 0, .slice A1x m c1x, .slice A5 m c5, .int .i64 t.label, .slice A5 m c5, .slice A2x m c2x] rfl rfl (by first | rfl | simp) rfl rfl (by omega) (by simp [Value.oneCell']) OW.out (show Reads (OwnTranR w5.heap.size) 3 wE [.int .i64 0, .slice A1x m c1x, .slice A5 m c5, .int .i64 t.label, .slice A5 m c5, .slice A2x m c2x] [⟨0, padL m t.pre, oneL m ((n2 + sj : Nat) : Int)⟩, ⟨t.label, oneL m ((n2 + sj : Nat) : Int), padL m t.post⟩] from (Reads.tran RD.out).append (Reads.tran RE.out)) rfl (Below.refl w5.heap.size wE) BQ2.out (by omega) (by omega) KP ?_
                  intro g cap wz ownz hgz hbz hBg hgl
                  have Z0 := hide2 (V0.out.keepB hbz (by have := U4.out.lt; omega))
                  have Z1 := hide2 (V1.out.keepB hbz (by have := U4.out.lt; omega))
                  have Z4 := hide2 (V4.out.keepB hbz U4.out.lt)
                  have DZ := hide2 (D.out.trans (hbz.mono D5.out.size))
                  have SZ := hide2 (Nat.le_trans BQ2.out hbz.size)
                  obtain ⟨z0, z1⟩ := Z4.out.two
                  have zf := Z4.out.frozen 1
                  have OZ := hide2 ownz
                  clear KP ownz hgz hbz
                  refine hK.out _ _ ?_
                  clear hK
                  simp only [Act.put, List.setIfInBounds_toArray, List.set_cons_zero, List.set_cons_succ]
                  iterate 2
                    refine tkEnd rfl (fun K hK => ?_)
                    go_simp
                    refine hK.out _ _ ?_
                    clear hK
                    try simp only [Act.put, List.setIfInBounds_toArray, List.set_cons_zero, List.set_cons_succ]
                  refine tkDone ?_
                  have hbs := Beside.set wz b9 1 (.slice (some ⟨g, 0, none⟩) (L + 2) cap)
                  have Q0 := hide2 (hbs.box Z0.out (by omega))
                  have Q1 := hide2 (hbs.box Z1.out (by omega))
                  have Q4 := hide2 (show Box (wz.setCell ⟨b9, 1, none⟩ (.slice (some ⟨g, 0, none⟩) (L + 2) cap)) b9 38 #[.int .i64 m, .slice (some ⟨g, 0, none⟩) (L + 2) cap] by simpa using Z4.out.set 1 (.slice (some ⟨g, 0, none⟩) (L + 2) cap))
                  have OQ := turnedEnd (j := 1) (u := .slice (some ⟨g, 0, none⟩) (L + 2) cap) OZ.out U4.out.lt
                  have DQ := hide2 (DZ.out.setCell (show w.heap.size ≤ (⟨b9, 1, none⟩ : Addr).block by show w.heap.size ≤ b9; omega) (.slice (some ⟨g, 0, none⟩) (L + 2) cap))
                  have SQ : w5.heap.size ≤ (wz.setCell ⟨b9, 1, none⟩ (.slice (some ⟨g, 0, none⟩) (L + 2) cap)).heap.size := by rw [hbs.1]; exact SZ.out
                  have EL := hide2 (show L + 2 = (j + 1) + seenN (ts.take (j + 1)) by rw [SN0.out]; have := HLL.out; omega)
                  clear hbs V0 V1 V3 V4 D OW BQ BQ2 E Z0 Z1 Z4 DZ SZ OZ z0 z1 zf
                  go_wp2
                  go_roundw
                  case rel => exact ⟨j + 1, some ⟨g, 0, none⟩, cap, by omega, by go_num, NXT.out, Q0, Q1, by rw [← EL.out]; exact Q4, by rw [← EL.out, BGE.out]; exact OQ, DQ, SQ⟩
                  case measure => simp [intOf]; omega
                refine tkTwo rfl rfl (fun K hK => ?_) (fun K hK => ?_)
                · go_simp
                  have hb := boxBelow ux0 (.cells #[] 3)
                  have RR := OwnSl.empty (R := IntR) (sz := 1) (w := ux0) (B := ux0.heap.size) (e := 3) E.out.size
                  obtain ⟨vb44, hv⟩ : ∃ v : Value, v = .slice (some ⟨ux0.heap.size, 0, none⟩) 0 0 := ⟨_, rfl⟩
                  rw [← hv] at RR ⊢
                  generalize hE : ux0.alloc (.cells #[] 3) = uy43 at *
                  replace E := hide2 (E.out.trans (hb.mono E.out.size))
                  have R1 := hide2 (show OwnInts _ ux0.heap.size vb44 0 [] from RR)
                  clear hb hv hE RR
                  have t0 := (V3.out.keep E.out).three.1
                  have t1 := (V3.out.keep E.out).three.2.1
                  have t2 := (V3.out.keep E.out).three.2.2
                  have o1 := (V4.out.keep E.out).two.2
                  refine hK.out _ _ ⟨t0, t1, t2, o1⟩ (fun hHeld => ?_)
                  clear hK t0 t1 t2 o1
                  try simp only [Act.put, List.setIfInBounds_toArray, List.set_cons_zero, List.set_cons_succ]
                  refine tkTwo rfl rfl (fun K hK => ?_) (fun K hK => ?_)
                  · refine step_appOwn rfl (.tmp 101) (.tmp 103) rfl rfl rfl R1.out (Ints.keep P1.out E.out) E.out.size (by omega) E.out (Nat.le_refl _) ?_
                    intro va46 uy45 own' hg' hb' hat'
                    replace R1 := hide2 own'
                    replace E := hide2 hb'
                    clear own' hg' hb' hat'
                    have t0 := (V3.out.keep E.out).three.1
                    have t1 := (V3.out.keep E.out).three.2.1
                    have t2 := (V3.out.keep E.out).three.2.2
                    have o1 := (V4.out.keep E.out).two.2
                    refine hK.out _ _ ⟨t0, t1, t2, o1⟩ (fun hHeld => ?_)
                    clear hK t0 t1 t2 o1
                    try simp only [Act.put, List.setIfInBounds_toArray, List.set_cons_zero, List.set_cons_succ]
                    refine tkTwo rfl rfl (fun K hK => ?_) (fun K hK => ?_)
                    · refine step_appOwn rfl (.tmp 104) (.tmp 105) rfl rfl rfl R1.out (Ints.keep TZ.out E.out) E.out.size (by omega) E.out (Nat.le_refl _) ?_
                      intro va48 uy47 own' hg' hb' hat'
                      replace R1 := hide2 own'
                      replace E := hide2 hb'
                      clear own' hg' hb' hat'
                      have t0 := (V3.out.keep E.out).three.1
                      have t1 := (V3.out.keep E.out).three.2.1
                      have t2 := (V3.out.keep E.out).three.2.2
                      have o1 := (V4.out.keep E.out).two.2
                      refine hK.out _ _ ⟨t0, t1, t2, o1⟩ (fun hHeld => ?_)
                      clear hK t0 t1 t2 o1
                      try simp only [Act.put, List.setIfInBounds_toArray, List.set_cons_zero, List.set_cons_succ]
                      obtain ⟨Ax49, Ax49c, hvAx49, _⟩ := R1.out.sl (by omega)
                      rw [show 0 + n2 + sn = m by have := HM.out; omega] at hvAx49
                      subst hvAx49
                      refine tkTake (v := ?_) rfl (by rfl) hHeld (fun w' hSw => ?_) ?_
                      rotate_left
                      · (go_simp; try with_reducible rfl)
                      simp only [Act.put, List.setIfInBounds_toArray, List.set_cons_zero, List.set_cons_succ]
                      refine tkOne rfl (fun K hK => ?_)
                      go_simp
                      have hb := boxBelow uy47 (.cells #[] 3)
                      have RR := OwnSl.empty (R := IntR) (sz := 1) (w := uy47) (B := ux0.heap.size) (e := 3) E.out.size
                      obtain ⟨vb51, hv⟩ : ∃ v : Value, v = .slice (some ⟨uy47.heap.size, 0, none⟩) 0 0 := ⟨_, rfl⟩
                      rw [← hv] at RR ⊢
                      have NE := hide2 (show (Value.slice Ax49 m Ax49c).ownBlock ≠ vb51.ownBlock from fun e => by
                        have h1 : vb51.ownBlock = some uy47.heap.size := by rw [hv]; rfl
                        have := (R1.out.lt _ (e.trans h1)).2; omega)
                      replace R1 := hide2 (show OwnInts _ ux0.heap.size (Value.slice Ax49 m Ax49c) _ _ from R1.out.keep IntR.kept hb)
                      generalize hE : uy47.alloc (.cells #[] 3) = uy50 at *
                      replace E := hide2 (E.out.trans (hb.mono E.out.size))
                      have R2 := hide2 (show OwnInts _ ux0.heap.size vb51 0 [] from RR)
                      clear hb hv hE RR
                      have t0 := (V3.out.keep E.out).three.1
                      have t1 := (V3.out.keep E.out).three.2.1
                      have t2 := (V3.out.keep E.out).three.2.2
                      have o1 := (V4.out.keep E.out).two.2
                      refine hK.out _ _ ⟨t0, t1, t2, o1⟩ (fun hHeld => ?_)
                      clear hK t0 t1 t2 o1
                      try simp only [Act.put, List.setIfInBounds_toArray, List.set_cons_zero, List.set_cons_succ]
                      refine tkOne rfl (fun K hK => ?_)
                      refine step_appOwn rfl (.tmp 112) (.tmp 114) rfl rfl rfl R2.out (Ints.keep P2.out E.out) E.out.size (by omega) E.out (Nat.le_refl _) ?_
                      intro va53 uy52 own' hg' hb' hat'
                      have NX := hide2 (neGrow hat' (NE.out.symm) (fun q hq => (R1.out.lt q hq).2))
                      replace R1 := hide2 (show OwnInts uy52 ux0.heap.size (Value.slice Ax49 m Ax49c) _ _ from OwnSl.kept R1.out hg' (.inr (fun e => NE.out.symm e.symm)) (fun _ _ h => h))
                      replace NE := hide2 (NX.out.symm)
                      clear NX
                      replace R2 := hide2 own'
                      replace E := hide2 hb'
                      clear own' hg' hb' hat'
                      have t0 := (V3.out.keep E.out).three.1
                      have t1 := (V3.out.keep E.out).three.2.1
                      have t2 := (V3.out.keep E.out).three.2.2
                      have o1 := (V4.out.keep E.out).two.2
                      refine hK.out _ _ ⟨t0, t1, t2, o1⟩ (fun hHeld => ?_)
                      clear hK t0 t1 t2 o1
                      try simp only [Act.put, List.setIfInBounds_toArray, List.set_cons_zero, List.set_cons_succ]
                      refine tkOne rfl (fun K hK => ?_)
                      refine step_appOwn rfl (.tmp 115) (.tmp 116) rfl rfl rfl R2.out (Ints.keep TZ.out E.out) E.out.size (by omega) E.out (Nat.le_refl _) ?_
                      intro va55 uy54 own' hg' hb' hat'
                      have NX := hide2 (neGrow hat' (NE.out.symm) (fun q hq => (R1.out.lt q hq).2))
                      replace R1 := hide2 (show OwnInts uy54 ux0.heap.size (Value.slice Ax49 m Ax49c) _ _ from OwnSl.kept R1.out hg' (.inr (fun e => NE.out.symm e.symm)) (fun _ _ h => h))
                      replace NE := hide2 (NX.out.symm)
                      clear NX
                      replace R2 := hide2 own'
                      replace E := hide2 hb'
                      clear own' hg' hb' hat'
                      have t0 := (V3.out.keep E.out).three.1
                      have t1 := (V3.out.keep E.out).three.2.1
                      have t2 := (V3.out.keep E.out).three.2.2
                      have o1 := (V4.out.keep E.out).two.2
                      refine hK.out _ _ ⟨t0, t1, t2, o1⟩ (fun hHeld => ?_)
                      clear hK t0 t1 t2 o1
                      try simp only [Act.put, List.setIfInBounds_toArray, List.set_cons_zero, List.set_cons_succ]
                      exact EN.out _ _ ⟨_, _, _, _, _, _, rfl, R1, R2, E⟩ hHeld
                    · go_simp
                      have hb := boxBelow uy45 (.cells #[] 3)
                      have RR := OwnSl.empty (R := IntR) (sz := 1) (w := uy45) (B := ux0.heap.size) (e := 3) E.out.size
                      obtain ⟨vb57, hv⟩ : ∃ v : Value, v = .slice (some ⟨uy45.heap.size, 0, none⟩) 0 0 := ⟨_, rfl⟩
                      rw [← hv] at RR ⊢
                      have NE := hide2 (show va46.ownBlock ≠ vb57.ownBlock from fun e => by
                        have h1 : vb57.ownBlock = some uy45.heap.size := by rw [hv]; rfl
                        have := (R1.out.lt _ (e.trans h1)).2; omega)
                      replace R1 := hide2 (show OwnInts _ ux0.heap.size va46 _ _ from R1.out.keep IntR.kept hb)
                      generalize hE : uy45.alloc (.cells #[] 3) = uy56 at *
                      replace E := hide2 (E.out.trans (hb.mono E.out.size))
                      have R2 := hide2 (show OwnInts _ ux0.heap.size vb57 0 [] from RR)
                      clear hb hv hE RR
                      have t0 := (V3.out.keep E.out).three.1
                      have t1 := (V3.out.keep E.out).three.2.1
                      have t2 := (V3.out.keep E.out).three.2.2
                      have o1 := (V4.out.keep E.out).two.2
                      refine hK.out _ _ ⟨t0, t1, t2, o1⟩ (fun hHeld => ?_)
                      clear hK t0 t1 t2 o1
                      try simp only [Act.put, List.setIfInBounds_toArray, List.set_cons_zero, List.set_cons_succ]
                      refine tkOne rfl (fun K hK => ?_)
                      refine step_appOwn rfl (.tmp 104) (.tmp 105) rfl rfl rfl R1.out (Ints.keep TZ.out E.out) E.out.size (by omega) E.out (Nat.le_refl _) ?_
                      intro va59 uy58 own' hg' hb' hat'
                      have NX := hide2 (neGrow hat' (NE.out) (fun q hq => (R2.out.lt q hq).2))
                      replace R2 := hide2 (show OwnInts uy58 ux0.heap.size vb57 _ _ from OwnSl.kept R2.out hg' (.inr (fun e => NE.out e.symm)) (fun _ _ h => h))
                      replace NE := hide2 (NX.out)
                      clear NX
                      replace R1 := hide2 own'
                      replace E := hide2 hb'
                      clear own' hg' hb' hat'
                      have t0 := (V3.out.keep E.out).three.1
                      have t1 := (V3.out.keep E.out).three.2.1
                      have t2 := (V3.out.keep E.out).three.2.2
                      have o1 := (V4.out.keep E.out).two.2
                      refine hK.out _ _ ⟨t0, t1, t2, o1⟩ (fun hHeld => ?_)
                      clear hK t0 t1 t2 o1
                      try simp only [Act.put, List.setIfInBounds_toArray, List.set_cons_zero, List.set_cons_succ]
                      obtain ⟨Ax60, Ax60c, hvAx60, _⟩ := R1.out.sl (by omega)
                      rw [show 0 + n2 + sn = m by have := HM.out; omega] at hvAx60
                      subst hvAx60
                      refine tkTake (v := ?_) rfl (by rfl) hHeld (fun w' hSw => ?_) ?_
                      rotate_left
                      · (go_simp; try with_reducible rfl)
                      simp only [Act.put, List.setIfInBounds_toArray, List.set_cons_zero, List.set_cons_succ]
                      refine tkOne rfl (fun K hK => ?_)
                      refine step_appOwn rfl (.tmp 112) (.tmp 114) rfl rfl rfl R2.out (Ints.keep P2.out E.out) E.out.size (by omega) E.out (Nat.le_refl _) ?_
                      intro va62 uy61 own' hg' hb' hat'
                      have NX := hide2 (neGrow hat' (NE.out.symm) (fun q hq => (R1.out.lt q hq).2))
                      replace R1 := hide2 (show OwnInts uy61 ux0.heap.size (Value.slice Ax60 m Ax60c) _ _ from OwnSl.kept R1.out hg' (.inr (fun e => NE.out.symm e.symm)) (fun _ _ h => h))
                      replace NE := hide2 (NX.out.symm)
                      clear NX
                      replace R2 := hide2 own'
                      replace E := hide2 hb'
                      clear own' hg' hb' hat'
                      have t0 := (V3.out.keep E.out).three.1
                      have t1 := (V3.out.keep E.out).three.2.1
                      have t2 := (V3.out.keep E.out).three.2.2
                      have o1 := (V4.out.keep E.out).two.2
                      refine hK.out _ _ ⟨t0, t1, t2, o1⟩ (fun hHeld => ?_)
                      clear hK t0 t1 t2 o1
                      try simp only [Act.put, List.setIfInBounds_toArray, List.set_cons_zero, List.set_cons_succ]
                      refine tkOne rfl (fun K hK => ?_)
                      refine step_appOwn rfl (.tmp 115) (.tmp 116) rfl rfl rfl R2.out (Ints.keep TZ.out E.out) E.out.size (by omega) E.out (Nat.le_refl _) ?_
                      intro va64 uy63 own' hg' hb' hat'
                      have NX := hide2 (neGrow hat' (NE.out.symm) (fun q hq => (R1.out.lt q hq).2))
                      replace R1 := hide2 (show OwnInts uy63 ux0.heap.size (Value.slice Ax60 m Ax60c) _ _ from OwnSl.kept R1.out hg' (.inr (fun e => NE.out.symm e.symm)) (fun _ _ h => h))
                      replace NE := hide2 (NX.out.symm)
                      clear NX
                      replace R2 := hide2 own'
                      replace E := hide2 hb'
                      clear own' hg' hb' hat'
                      have t0 := (V3.out.keep E.out).three.1
                      have t1 := (V3.out.keep E.out).three.2.1
                      have t2 := (V3.out.keep E.out).three.2.2
                      have o1 := (V4.out.keep E.out).two.2
                      refine hK.out _ _ ⟨t0, t1, t2, o1⟩ (fun hHeld => ?_)
                      clear hK t0 t1 t2 o1
                      try simp only [Act.put, List.setIfInBounds_toArray, List.set_cons_zero, List.set_cons_succ]
                      exact EN.out _ _ ⟨_, _, _, _, _, _, rfl, R1, R2, E⟩ hHeld
                  · go_simp
                    have hb := boxBelow uy43 (.cells #[] 3)
                    have RR := OwnSl.empty (R := IntR) (sz := 1) (w := uy43) (B := ux0.heap.size) (e := 3) E.out.size
                    obtain ⟨vb66, hv⟩ : ∃ v : Value, v = .slice (some ⟨uy43.heap.size, 0, none⟩) 0 0 := ⟨_, rfl⟩
                    rw [← hv] at RR ⊢
                    have NE := hide2 (show vb44.ownBlock ≠ vb66.ownBlock from fun e => by
                      have h1 : vb66.ownBlock = some uy43.heap.size := by rw [hv]; rfl
                      have := (R1.out.lt _ (e.trans h1)).2; omega)
                    replace R1 := hide2 (show OwnInts _ ux0.heap.size vb44 _ _ from R1.out.keep IntR.kept hb)
                    generalize hE : uy43.alloc (.cells #[] 3) = uy65 at *
                    replace E := hide2 (E.out.trans (hb.mono E.out.size))
                    have R2 := hide2 (show OwnInts _ ux0.heap.size vb66 0 [] from RR)
                    clear hb hv hE RR
                    have t0 := (V3.out.keep E.out).three.1
                    have t1 := (V3.out.keep E.out).three.2.1
                    have t2 := (V3.out.keep E.out).three.2.2
                    have o1 := (V4.out.keep E.out).two.2
                    refine hK.out _ _ ⟨t0, t1, t2, o1⟩ (fun hHeld => ?_)
                    clear hK t0 t1 t2 o1
                    try simp only [Act.put, List.setIfInBounds_toArray, List.set_cons_zero, List.set_cons_succ]
                    refine tkOne rfl (fun K hK => ?_)
                    refine step_appOwn rfl (.tmp 101) (.tmp 103) rfl rfl rfl R1.out (Ints.keep P1.out E.out) E.out.size (by omega) E.out (Nat.le_refl _) ?_
                    intro va68 uy67 own' hg' hb' hat'
                    have NX := hide2 (neGrow hat' (NE.out) (fun q hq => (R2.out.lt q hq).2))
                    replace R2 := hide2 (show OwnInts uy67 ux0.heap.size vb66 _ _ from OwnSl.kept R2.out hg' (.inr (fun e => NE.out e.symm)) (fun _ _ h => h))
                    replace NE := hide2 (NX.out)
                    clear NX
                    replace R1 := hide2 own'
                    replace E := hide2 hb'
                    clear own' hg' hb' hat'
                    have t0 := (V3.out.keep E.out).three.1
                    have t1 := (V3.out.keep E.out).three.2.1
                    have t2 := (V3.out.keep E.out).three.2.2
                    have o1 := (V4.out.keep E.out).two.2
                    refine hK.out _ _ ⟨t0, t1, t2, o1⟩ (fun hHeld => ?_)
                    clear hK t0 t1 t2 o1
                    try simp only [Act.put, List.setIfInBounds_toArray, List.set_cons_zero, List.set_cons_succ]
                    refine tkOne rfl (fun K hK => ?_)
                    refine step_appOwn rfl (.tmp 104) (.tmp 105) rfl rfl rfl R1.out (Ints.keep TZ.out E.out) E.out.size (by omega) E.out (Nat.le_refl _) ?_
                    intro va70 uy69 own' hg' hb' hat'
                    have NX := hide2 (neGrow hat' (NE.out) (fun q hq => (R2.out.lt q hq).2))
                    replace R2 := hide2 (show OwnInts uy69 ux0.heap.size vb66 _ _ from OwnSl.kept R2.out hg' (.inr (fun e => NE.out e.symm)) (fun _ _ h => h))
                    replace NE := hide2 (NX.out)
                    clear NX
                    replace R1 := hide2 own'
                    replace E := hide2 hb'
                    clear own' hg' hb' hat'
                    have t0 := (V3.out.keep E.out).three.1
                    have t1 := (V3.out.keep E.out).three.2.1
                    have t2 := (V3.out.keep E.out).three.2.2
                    have o1 := (V4.out.keep E.out).two.2
                    refine hK.out _ _ ⟨t0, t1, t2, o1⟩ (fun hHeld => ?_)
                    clear hK t0 t1 t2 o1
                    try simp only [Act.put, List.setIfInBounds_toArray, List.set_cons_zero, List.set_cons_succ]
                    obtain ⟨Ax71, Ax71c, hvAx71, _⟩ := R1.out.sl (by omega)
                    rw [show 0 + n2 + sn = m by have := HM.out; omega] at hvAx71
                    subst hvAx71
                    refine tkTake (v := ?_) rfl (by rfl) hHeld (fun w' hSw => ?_) ?_
                    rotate_left
                    · (go_simp; try with_reducible rfl)
                    simp only [Act.put, List.setIfInBounds_toArray, List.set_cons_zero, List.set_cons_succ]
                    refine tkOne rfl (fun K hK => ?_)
                    refine step_appOwn rfl (.tmp 112) (.tmp 114) rfl rfl rfl R2.out (Ints.keep P2.out E.out) E.out.size (by omega) E.out (Nat.le_refl _) ?_
                    intro va73 uy72 own' hg' hb' hat'
                    have NX := hide2 (neGrow hat' (NE.out.symm) (fun q hq => (R1.out.lt q hq).2))
                    replace R1 := hide2 (show OwnInts uy72 ux0.heap.size (Value.slice Ax71 m Ax71c) _ _ from OwnSl.kept R1.out hg' (.inr (fun e => NE.out.symm e.symm)) (fun _ _ h => h))
                    replace NE := hide2 (NX.out.symm)
                    clear NX
                    replace R2 := hide2 own'
                    replace E := hide2 hb'
                    clear own' hg' hb' hat'
                    have t0 := (V3.out.keep E.out).three.1
                    have t1 := (V3.out.keep E.out).three.2.1
                    have t2 := (V3.out.keep E.out).three.2.2
                    have o1 := (V4.out.keep E.out).two.2
                    refine hK.out _ _ ⟨t0, t1, t2, o1⟩ (fun hHeld => ?_)
                    clear hK t0 t1 t2 o1
                    try simp only [Act.put, List.setIfInBounds_toArray, List.set_cons_zero, List.set_cons_succ]
                    refine tkOne rfl (fun K hK => ?_)
                    refine step_appOwn rfl (.tmp 115) (.tmp 116) rfl rfl rfl R2.out (Ints.keep TZ.out E.out) E.out.size (by omega) E.out (Nat.le_refl _) ?_
                    intro va75 uy74 own' hg' hb' hat'
                    have NX := hide2 (neGrow hat' (NE.out.symm) (fun q hq => (R1.out.lt q hq).2))
                    replace R1 := hide2 (show OwnInts uy74 ux0.heap.size (Value.slice Ax71 m Ax71c) _ _ from OwnSl.kept R1.out hg' (.inr (fun e => NE.out.symm e.symm)) (fun _ _ h => h))
                    replace NE := hide2 (NX.out.symm)
                    clear NX
                    replace R2 := hide2 own'
                    replace E := hide2 hb'
                    clear own' hg' hb' hat'
                    have t0 := (V3.out.keep E.out).three.1
                    have t1 := (V3.out.keep E.out).three.2.1
                    have t2 := (V3.out.keep E.out).three.2.2
                    have o1 := (V4.out.keep E.out).two.2
                    refine hK.out _ _ ⟨t0, t1, t2, o1⟩ (fun hHeld => ?_)
                    clear hK t0 t1 t2 o1
                    try simp only [Act.put, List.setIfInBounds_toArray, List.set_cons_zero, List.set_cons_succ]
                    exact EN.out _ _ ⟨_, _, _, _, _, _, rfl, R1, R2, E⟩ hHeld
                · go_simp
                  have hb := boxBelow ux0 (.cells #[] 3)
                  have RR := OwnSl.empty (R := IntR) (sz := 1) (w := ux0) (B := ux0.heap.size) (e := 3) E.out.size
                  obtain ⟨vb77, hv⟩ : ∃ v : Value, v = .slice (some ⟨ux0.heap.size, 0, none⟩) 0 0 := ⟨_, rfl⟩
                  rw [← hv] at RR ⊢
                  generalize hE : ux0.alloc (.cells #[] 3) = uy76 at *
                  replace E := hide2 (E.out.trans (hb.mono E.out.size))
                  have R2 := hide2 (show OwnInts _ ux0.heap.size vb77 0 [] from RR)
                  clear hb hv hE RR
                  have t0 := (V3.out.keep E.out).three.1
                  have t1 := (V3.out.keep E.out).three.2.1
                  have t2 := (V3.out.keep E.out).three.2.2
                  have o1 := (V4.out.keep E.out).two.2
                  refine hK.out _ _ ⟨t0, t1, t2, o1⟩ (fun hHeld => ?_)
                  clear hK t0 t1 t2 o1
                  try simp only [Act.put, List.setIfInBounds_toArray, List.set_cons_zero, List.set_cons_succ]
                  refine tkOne rfl (fun K hK => ?_)
                  go_simp
                  have hb := boxBelow uy76 (.cells #[] 3)
                  have RR := OwnSl.empty (R := IntR) (sz := 1) (w := uy76) (B := ux0.heap.size) (e := 3) E.out.size
                  obtain ⟨vb79, hv⟩ : ∃ v : Value, v = .slice (some ⟨uy76.heap.size, 0, none⟩) 0 0 := ⟨_, rfl⟩
                  rw [← hv] at RR ⊢
                  have NE := hide2 (show vb79.ownBlock ≠ vb77.ownBlock from fun e => by
                    have h1 : vb79.ownBlock = some uy76.heap.size := by rw [hv]; rfl
                    have := (R2.out.lt _ (e.symm.trans h1)).2; omega)
                  replace R2 := hide2 (show OwnInts _ ux0.heap.size vb77 _ _ from R2.out.keep IntR.kept hb)
                  generalize hE : uy76.alloc (.cells #[] 3) = uy78 at *
                  replace E := hide2 (E.out.trans (hb.mono E.out.size))
                  have R1 := hide2 (show OwnInts _ ux0.heap.size vb79 0 [] from RR)
                  clear hb hv hE RR
                  have t0 := (V3.out.keep E.out).three.1
                  have t1 := (V3.out.keep E.out).three.2.1
                  have t2 := (V3.out.keep E.out).three.2.2
                  have o1 := (V4.out.keep E.out).two.2
                  refine hK.out _ _ ⟨t0, t1, t2, o1⟩ (fun hHeld => ?_)
                  clear hK t0 t1 t2 o1
                  try simp only [Act.put, List.setIfInBounds_toArray, List.set_cons_zero, List.set_cons_succ]
                  refine tkOne rfl (fun K hK => ?_)
                  refine step_appOwn rfl (.tmp 101) (.tmp 103) rfl rfl rfl R1.out (Ints.keep P1.out E.out) E.out.size (by omega) E.out (Nat.le_refl _) ?_
                  intro va81 uy80 own' hg' hb' hat'
                  have NX := hide2 (neGrow hat' (NE.out) (fun q hq => (R2.out.lt q hq).2))
                  replace R2 := hide2 (show OwnInts uy80 ux0.heap.size vb77 _ _ from OwnSl.kept R2.out hg' (.inr (fun e => NE.out e.symm)) (fun _ _ h => h))
                  replace NE := hide2 (NX.out)
                  clear NX
                  replace R1 := hide2 own'
                  replace E := hide2 hb'
                  clear own' hg' hb' hat'
                  have t0 := (V3.out.keep E.out).three.1
                  have t1 := (V3.out.keep E.out).three.2.1
                  have t2 := (V3.out.keep E.out).three.2.2
                  have o1 := (V4.out.keep E.out).two.2
                  refine hK.out _ _ ⟨t0, t1, t2, o1⟩ (fun hHeld => ?_)
                  clear hK t0 t1 t2 o1
                  try simp only [Act.put, List.setIfInBounds_toArray, List.set_cons_zero, List.set_cons_succ]
                  refine tkOne rfl (fun K hK => ?_)
                  refine step_appOwn rfl (.tmp 104) (.tmp 105) rfl rfl rfl R1.out (Ints.keep TZ.out E.out) E.out.size (by omega) E.out (Nat.le_refl _) ?_
                  intro va83 uy82 own' hg' hb' hat'
                  have NX := hide2 (neGrow hat' (NE.out) (fun q hq => (R2.out.lt q hq).2))
                  replace R2 := hide2 (show OwnInts uy82 ux0.heap.size vb77 _ _ from OwnSl.kept R2.out hg' (.inr (fun e => NE.out e.symm)) (fun _ _ h => h))
                  replace NE := hide2 (NX.out)
                  clear NX
                  replace R1 := hide2 own'
                  replace E := hide2 hb'
                  clear own' hg' hb' hat'
                  have t0 := (V3.out.keep E.out).three.1
                  have t1 := (V3.out.keep E.out).three.2.1
                  have t2 := (V3.out.keep E.out).three.2.2
                  have o1 := (V4.out.keep E.out).two.2
                  refine hK.out _ _ ⟨t0, t1, t2, o1⟩ (fun hHeld => ?_)
                  clear hK t0 t1 t2 o1
                  try simp only [Act.put, List.setIfInBounds_toArray, List.set_cons_zero, List.set_cons_succ]
                  obtain ⟨Ax84, Ax84c, hvAx84, _⟩ := R1.out.sl (by omega)
                  rw [show 0 + n2 + sn = m by have := HM.out; omega] at hvAx84
                  subst hvAx84
                  refine tkTake (v := ?_) rfl (by rfl) hHeld (fun w' hSw => ?_) ?_
                  rotate_left
                  · (go_simp; try with_reducible rfl)
                  simp only [Act.put, List.setIfInBounds_toArray, List.set_cons_zero, List.set_cons_succ]
                  refine tkOne rfl (fun K hK => ?_)
                  refine step_appOwn rfl (.tmp 112) (.tmp 114) rfl rfl rfl R2.out (Ints.keep P2.out E.out) E.out.size (by omega) E.out (Nat.le_refl _) ?_
                  intro va86 uy85 own' hg' hb' hat'
                  have NX := hide2 (neGrow hat' (NE.out.symm) (fun q hq => (R1.out.lt q hq).2))
                  replace R1 := hide2 (show OwnInts uy85 ux0.heap.size (Value.slice Ax84 m Ax84c) _ _ from OwnSl.kept R1.out hg' (.inr (fun e => NE.out.symm e.symm)) (fun _ _ h => h))
                  replace NE := hide2 (NX.out.symm)
                  clear NX
                  replace R2 := hide2 own'
                  replace E := hide2 hb'
                  clear own' hg' hb' hat'
                  have t0 := (V3.out.keep E.out).three.1
                  have t1 := (V3.out.keep E.out).three.2.1
                  have t2 := (V3.out.keep E.out).three.2.2
                  have o1 := (V4.out.keep E.out).two.2
                  refine hK.out _ _ ⟨t0, t1, t2, o1⟩ (fun hHeld => ?_)
                  clear hK t0 t1 t2 o1
                  try simp only [Act.put, List.setIfInBounds_toArray, List.set_cons_zero, List.set_cons_succ]
                  refine tkOne rfl (fun K hK => ?_)
                  refine step_appOwn rfl (.tmp 115) (.tmp 116) rfl rfl rfl R2.out (Ints.keep TZ.out E.out) E.out.size (by omega) E.out (Nat.le_refl _) ?_
                  intro va88 uy87 own' hg' hb' hat'
                  have NX := hide2 (neGrow hat' (NE.out.symm) (fun q hq => (R1.out.lt q hq).2))
                  replace R1 := hide2 (show OwnInts uy87 ux0.heap.size (Value.slice Ax84 m Ax84c) _ _ from OwnSl.kept R1.out hg' (.inr (fun e => NE.out.symm e.symm)) (fun _ _ h => h))
                  replace NE := hide2 (NX.out.symm)
                  clear NX
                  replace R2 := hide2 own'
                  replace E := hide2 hb'
                  clear own' hg' hb' hat'
                  have t0 := (V3.out.keep E.out).three.1
                  have t1 := (V3.out.keep E.out).three.2.1
                  have t2 := (V3.out.keep E.out).three.2.2
                  have o1 := (V4.out.keep E.out).two.2
                  refine hK.out _ _ ⟨t0, t1, t2, o1⟩ (fun hHeld => ?_)
                  clear hK t0 t1 t2 o1
                  try simp only [Act.put, List.setIfInBounds_toArray, List.set_cons_zero, List.set_cons_succ]
                  exact EN.out _ _ ⟨_, _, _, _, _, _, rfl, R1, R2, E⟩ hHeld

            · obtain rfl : j = k := by omega
              obtain ⟨z0, z1⟩ := V4.out.two
              obtain ⟨x0, x1⟩ := V1.out.two
              have xf := V1.out.frozen 0
              have xg := V1.out.frozen 1
              have hb1q : w.heap.size + 1 < w5.heap.size := by omega
              rw [ET.out, HSN.out] at V4 OW z1
              obtain ⟨E, es, hv, hE⟩ := OW.out.ofOwnTran.sl (by omega)
              have OWN := OW
              clear hE OW
              go_wp2
              have hbs := Beside.set2 wr (w.heap.size + 1) 0 1 (.int .i64 m) (.slice A' (j + sn) c')
              have OW1 := turnedEnd (j := 0) (u := .int .i64 m) OWN.out hb1q
              have OW2 := turnedEnd (j := 1) (u := .slice A' (j + sn) c') OW1.out hb1q
              obtain ⟨E', es', hv', hE'⟩ := OW2.out.ofOwnTran.sl (by omega)
              injection hv' with h1 h2 h3
              subst h1 h3
              obtain ⟨r0, r1⟩ := (V1.out.set2 (.int .i64 m) (.slice A' (j + sn) c')).two
              exact bodyPost_ret (v := .tuple #[.agg #[.int .i64 m, .slice A' (j + sn) c'], .int .i64 0]) (by simp [results, Try.results51, go_sem, r0, r1]) rfl
                ⟨A', j + sn, c', by rw [FIN.out], by rw [FIN.out]; exact hE', (D.out.setCell (by simp) _).setCell (by simp) _⟩
        · have FIN := hide2 (show busyNet ⟨(p : Int), ts⟩ = (⟨0, []⟩, 4) by
            rw [busyNet, if_pos HO.out]
            simp only [Int.toNat_natCast]
            rw [HSN.out, HL.out, HM.out, if_neg hfit])
          obtain ⟨x0, x1⟩ := V1.out.two
          have xf := V1.out.frozen 0
          have xg := V1.out.frozen 1
          by_cases hm16 : m ≤ 16
          · have e24 : 24 < (k : Int) + (sn : Int) := by omega
            have e16 : (p : Int) + (sn : Int) ≤ 16 := by have := HM.out; omega
            clear hfit
            go_wp2
            obtain ⟨r0, r1⟩ := (V1.out.set2 (.int .i64 0) (.slice none 0 0)).two
            exact bodyPost_ret (v := .tuple #[.agg #[.int .i64 0, .slice none 0 0], .int .i64 4]) (by simp [results, Try.results51, go_sem, r0, r1]) rfl (by rw [FIN.out]; exact AnsNetE.no ((D.out.setCell (by simp) _).setCell (by simp) _))
          · have e16 : 16 < (p : Int) + (sn : Int) := by have := HM.out; omega
            clear hfit hm16
            go_wp2
            obtain ⟨r0, r1⟩ := (V1.out.set2 (.int .i64 0) (.slice none 0 0)).two
            exact bodyPost_ret (v := .tuple #[.agg #[.int .i64 0, .slice none 0 0], .int .i64 4]) (by simp [results, Try.results51, go_sem, r0, r1]) rfl (by rw [FIN.out]; exact AnsNetE.no ((D.out.setCell (by simp) _).setCell (by simp) _))
end Go.Proofs.Ytmhcinmadelaeaa
