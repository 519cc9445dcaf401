/- The contract of QPlay. Conditions: the net, the roles and the things to do read as lists. | The library's Equal on items and on answers; SameDesk; the law DeskPlays as a call: it returns true. Conditions: the net, the roles and the things to do read as lists. | From a reading of an argument to things done at a desk. Conditions: none. -/
import Derived.Test.YtpagenlealddhaaDeskF
import Derived.Test.YtpagenlealddhaaDeskG
import Derived.Test.YtpagenlealddhaaListV
namespace Go.Proofs.Ytpagenlealddhaa
open Go.RowKit

set_option maxRecDepth 100000 in
set_option maxHeartbeats 16000000 in
theorem qplay_calls {w : World} {P : Int} {A R O : Option Addr} {n c r q s so : Nat} {ts : List PTran} {roles : List (List Int)} {os : List POp} (i : Int) (h : Trans w A n c ts) (g : Lists w R r q roles) (x : DOps w O s so os) (hs : s ≤ 3518437208780) :
    Calls Try.prog 50 #[.agg #[.int .i64 P, .slice A n c], .int .i64 i, .slice R r q, .slice O s so] w (AnsPlayD (playD ⟨P, ts⟩ roles i os) w) := by
  generalize hw : (w.alloc (.cells #[.int .i64 P, .slice A n c] 38)).alloc (.cells #[.slice none 0 0, .slice none 0 0, .slice none 0 0] 81) = w0
  have HB := hide2 (show Below w.heap.size w w0 by rw [← hw]; exact ((Below.refl _ _).alloc (Nat.le_refl _) _).alloc (by simp) _)
  have X0 := hide2 (show Box w0 w.heap.size 38 #[.int .i64 P, .slice A n c] by rw [← hw]; exact (Box.new _ _ _).old _)
  have X1 := hide2 (show Box w0 (w.heap.size + 1) 81 #[.slice none 0 0, .slice none 0 0, .slice none 0 0] by rw [← hw]; exact Box.newAt (by simp) _ _)
  have HO := hide2 h
  have GO := hide2 g
  have XO := hide2 x
  have HL := hide2 x.len
  have CB := hide2 (refBegin_calls (P := P) i (h.keep HB.out))
  obtain ⟨p, hp⟩ : ∃ p, beginL ⟨P, ts⟩ i = p := ⟨_, rfl⟩
  rw [hp] at CB
  have HP := hide2 hp
  clear h g x hp
  go_enter Try.func50, Try.ntmps50
  go_upto_region 1 with fail
  clear hw
  obtain ⟨a0, a1⟩ := X0.out.two
  go_upto_region 2 with (go_at_call 109; (with_reducible refine CB.out.mono ?_); rintro e1 w1 ⟨A3, n3, k3, A4, n4, k4, rfl, i3, i4, hb1, fr3, fr4⟩; have I3 := hide2 i3; have I4 := hide2 i4; have B1 := hide2 hb1; clear i3 i4 hb1 fr3 fr4)
  have XC := hide2 (Box.new w1 #[.slice A3 n3 k3, .slice A4 n4 k4] 78)
  have NB := newBelow w1 (.cells #[.slice A3 n3 k3, .slice A4 n4 k4] 78)
  have bb := B1.out.trans (NB.mono B1.out.size)
  have W0 := hide2 (X0.out.keep bb)
  have W1 := hide2 (X1.out.keep bb)
  have J3 := hide2 (I3.out.keep NB)
  have J4 := hide2 (I4.out.keep NB)
  have BC := hide2 (HB.out.trans (bb.mono HB.out.size))
  have SZ := hide2 (show w.heap.size + 1 < w1.heap.size from Nat.lt_of_lt_of_le X1.out.lt B1.out.size)
  clear X0 X1 I3 I4 B1 NB bb a0 a1 HB CB
  generalize w1.alloc (.cells #[.slice A3 n3 k3, .slice A4 n4 k4] 78) = w2 at *
  generalize w1.heap.size = bc at *
  obtain ⟨a0, a1⟩ := W0.out.two
  obtain ⟨z0, z1, z2⟩ := W1.out.three
  have f0 := W1.out.frozen 0
  have f1 := W1.out.frozen 1
  have f2 := W1.out.frozen 2
  obtain ⟨q0, q1⟩ := XC.out.two
  by_cases he : p.2 = 0
  · have FN := hide2 (playD_yes (roles := roles) (l := os) HP.out he)
    have OK0 := hide2 (show DeskOk ⟨P, ts⟩ ⟨p.1, []⟩ by have := DeskOk.start (N := ⟨P, ts⟩) (i := i) (by rw [HP.out]; exact he); rw [HP.out] at this; exact this)
    have hee : (p.2 != 0) = false := by simpa using he
    clear he
    clear z0 z1 z2 f0 f1 f2
    have NB := newBelow w2 (.cells #[.slice A3 n3 k3, .slice A4 n4 k4, .slice none 0 0] 81)
    have VK := hide2 (Box.new w2 #[.slice A3 n3 k3, .slice A4 n4 k4, .slice none 0 0] 81)
    have V0 := hide2 (W0.out.keep NB)
    have V1 := hide2 (W1.out.keep NB)
    have VD := hide2 (show DeskW _ A3 n3 k3 A4 n4 k4 none 0 0 ⟨p.1, []⟩ from ⟨J3.out.keep NB, J4.out.keep NB, Sl.nil0⟩)
    have BV := hide2 (BC.out.trans (NB.mono BC.out.size))
    have hk1 : w.heap.size + 1 < w2.heap.size := W1.out.lt
    go_upto_region 5 with fail
    clear hee a0 a1 q0 q1 NB W0 W1 J3 J4 BC XC
    generalize w2.alloc (.cells #[.slice A3 n3 k3, .slice A4 n4 k4, .slice none 0 0] 81) = w6 at *
    generalize w2.heap.size = bk at *
    go_upto_region 7 with fail
    go_loopw [14, 32] (fun u v wr => ∃ k : Nat, k ≤ s ∧ v = .int .i64 k ∧ ∃ B m d D l e I ni ci, Hid (Box wr w.heap.size 38 #[.int .i64 P, .slice A n c]) ∧ Hid (Box wr bk 81 #[.slice B m d, .slice D l e, .slice I ni ci]) ∧ Hid (Box wr (w.heap.size + 1) 81 #[.slice none 0 0, .slice none 0 0, .slice none 0 0]) ∧ Hid (DeskW wr B m d D l e I ni ci (runD ⟨P, ts⟩ roles ⟨p.1, []⟩ (os.take k)).1) ∧ Hid (OwnAnswers wr w.heap.size u k (runD ⟨P, ts⟩ roles ⟨p.1, []⟩ (os.take k)).2) ∧ Hid (FarD u B m D l I ni) ∧ Hid (Below w.heap.size w wr)) (fun _ v _ => s - (intOf v).toNat)
    case atStart => exact ⟨0, Nat.zero_le _, rfl, A3, n3, k3, A4, n4, k4, none, 0, 0, V0, VK, V1, VD, OwnSl.nil, FarD.nil, BV⟩
    case round =>
      clear V0 VK V1 VD BV
      obtain ⟨k, hk, rfl, B, m, d, D, l, e, I, ni, ci, V0, VK, V1, VD, OA, FD, BV⟩ := hrel
      by_cases hlt : k < s
      · have hki : (k : Int) < (s : Int) := by omega
        obtain ⟨bl, off, o, rfl, hbl, ho, x0, x1, x2, x3, x4⟩ := DOps.at (Sl.keep DOpR.kept XO.out BV.out) hlt
        obtain ⟨rk, rl, rn⟩ := runD_ok ⟨P, ts⟩ roles (os.take k) _ OK0.out
        have SN := hide2 (runD_snoc ⟨P, ts⟩ roles (os.take k) ⟨p.1, []⟩ o)
        rw [← take_snoc ho.out] at SN
        have RS := rk.small
        have hl24 : l ≤ 24 := by rw [← VD.out.busy.len]; exact RS.1
        have hnik : ni ≤ k := by
          have h1 := VD.out.items.len
          have h2 : (os.take k).length ≤ k := by rw [List.length_take]; omega
          simp only [List.length_nil, Nat.zero_add] at rl
          omega
        have RT := hide2 rk.trans
        clear rk rl rn RS
        obtain ⟨K, hK⟩ : ∃ K, runD ⟨P, ts⟩ roles ⟨p.1, []⟩ (os.take k) = K := ⟨_, rfl⟩
        rw [hK] at VD OA RT SN
        clear hK
        have CS := hide2 (fun (w' : World) (hb : Below wr.heap.size wr w') => qdo_calls (P := P) o (HO.out.keep (BV.out.trans (hb.mono BV.out.size))) (Sl.keep ListR.kept GO.out (BV.out.trans (hb.mono BV.out.size))) (VD.out.keep hb) (by omega) (by omega) RT.out)
        obtain ⟨P2, hP2⟩ : ∃ P2, stepD ⟨P, ts⟩ roles K.1 o = P2 := ⟨_, rfl⟩
        simp only [hP2] at CS SN
        clear hP2 RT
        have bb1 := ((Below.refl wr.heap.size wr).alloc (Nat.le_refl _) (.cells #[.int .i64 o.kind, .int .i64 o.user, .int .i64 o.tran, .int .i64 o.item, .int .i64 o.to_] 23)).alloc (by simp) (.cells #[.int .i64 0, .int .i64 0] 88)
        have XP := hide2 ((Box.new wr #[.int .i64 o.kind, .int .i64 o.user, .int .i64 o.tran, .int .i64 o.item, .int .i64 o.to_] 23).old (.cells #[.int .i64 0, .int .i64 0] 88))
        have XA := hide2 (Box.newAt (w := wr.alloc (.cells #[.int .i64 o.kind, .int .i64 o.user, .int .i64 o.tran, .int .i64 o.item, .int .i64 o.to_] 23)) (n := wr.heap.size + 1) (by simp) #[.int .i64 0, .int .i64 0] 88)
        have BB := hide2 bb1
        clear bb1
        go_upto_region 10 with fail
        clear x0 x1 x2 x3 x4
        generalize (wr.alloc (.cells #[.int .i64 o.kind, .int .i64 o.user, .int .i64 o.tran, .int .i64 o.item, .int .i64 o.to_] 23)).alloc (.cells #[.int .i64 0, .int .i64 0] 88) = wa at *
        have Y0 := hide2 (V0.out.keep BB.out)
        have YK := hide2 (VK.out.keep BB.out)
        have Y1 := hide2 (V1.out.keep BB.out)
        have YO := hide2 (OwnSl.keep AnsR.kept OA.out BB.out)
        have YL := hide2 OA.out.lt
        have NK := hide2 (OA.out.notBox VK.out (by decide))
        have hkl := VK.out.lt
        obtain ⟨a0, a1⟩ := Y0.out.two
        obtain ⟨c0, c1, c2⟩ := YK.out.three
        obtain ⟨y0, y1, y2, y3, y4⟩ := XP.out.five
        obtain ⟨v0, v1⟩ := XA.out.two
        have g0 := XA.out.frozen 0
        have g1 := XA.out.frozen 1
        have k0 := YK.out.frozen 0
        have k1 := YK.out.frozen 1
        have k2 := YK.out.frozen 2
        go_upto_region 11 with (go_at_call 110; (with_reducible refine (CS.out _ BB.out).mono ?_); rintro e2 w3 ⟨B2, m2, d2, D2, l2, f2, I2, n2, c2', rfl, dw, hb2, od1, od2, od3⟩; have DW := hide2 dw; have B9 := hide2 hb2; have OD1 := hide2 od1; have OD2 := hide2 od2; have OD3 := hide2 od3; clear dw hb2 od1 od2 od3 a0 a1 c0 c1 c2 y0 y1 y2 y3 y4 v0 v1 g0 g1 k0 k1 k2; obtain ⟨c0, c1, c2⟩ := (YK.out.keep B9.out).three; obtain ⟨v0, v1⟩ := (XA.out.keep B9.out).two; have g0 := (XA.out.keep B9.out).frozen 0; have g1 := (XA.out.keep B9.out).frozen 1; have k0 := (YK.out.keep B9.out).frozen 0; have k1 := (YK.out.keep B9.out).frozen 1; have k2 := (YK.out.keep B9.out).frozen 2)
        have hb18 : wr.heap.size + 1 < wa.heap.size := XA.out.lt
        have hkn : bk ≠ wr.heap.size + 1 := by omega
        have h1k : w.heap.size + 1 ≠ bk := by omega
        have h1l := V1.out.lt
        have h1n : w.heap.size + 1 ≠ wr.heap.size + 1 := by omega
        have h0k : w.heap.size ≠ bk := by omega
        have h0n : w.heap.size ≠ wr.heap.size + 1 := by have := V0.out.lt; omega
        have SA := hide2 (show ∀ v0 v1 v2 v3 v4 : Value, World.setCell (World.setCell (((w3.setCell ⟨bk, 0, none⟩ v0).setCell ⟨bk, 1, none⟩ v1).setCell ⟨bk, 2, none⟩ v2) ⟨wr.heap.size + 1, 0, none⟩ v3) ⟨wr.heap.size + 1, 1, none⟩ v4 = World.setCell (World.setCell (((w3.setCell ⟨bk, 0, none⟩ v0).setCell ⟨bk, 1, none⟩ v1).setCell ⟨bk, 2, none⟩ v2) ⟨wr.heap.size + 1, 0, none⟩ v3) ⟨wr.heap.size + 1, 1, none⟩ v4 from fun _ _ _ _ _ => rfl)
        have Z0 := hide2 ((((((Y0.out.keep B9.out).other (a := ⟨bk, 0, none⟩) (.slice B2 m2 d2) h0k).other (a := ⟨bk, 1, none⟩) (.slice D2 l2 f2) h0k).other (a := ⟨bk, 2, none⟩) (.slice I2 n2 c2') h0k).other (a := ⟨wr.heap.size + 1, 0, none⟩) (.int .i64 P2.2.2) h0n).other (a := ⟨wr.heap.size + 1, 1, none⟩) (.int .i64 P2.2.1) h0n)
        have ZK := hide2 ((((YK.out.keep B9.out).set3 (.slice B2 m2 d2) (.slice D2 l2 f2) (.slice I2 n2 c2')).other (a := ⟨wr.heap.size + 1, 0, none⟩) (.int .i64 P2.2.2) hkn).other (a := ⟨wr.heap.size + 1, 1, none⟩) (.int .i64 P2.2.1) hkn)
        have Z1 := hide2 ((((((Y1.out.keep B9.out).other (a := ⟨bk, 0, none⟩) (.slice B2 m2 d2) h1k).other (a := ⟨bk, 1, none⟩) (.slice D2 l2 f2) h1k).other (a := ⟨bk, 2, none⟩) (.slice I2 n2 c2') h1k).other (a := ⟨wr.heap.size + 1, 0, none⟩) (.int .i64 P2.2.2) h1n).other (a := ⟨wr.heap.size + 1, 1, none⟩) (.int .i64 P2.2.1) h1n)
        have ZA := hide2 (((((XA.out.keep B9.out).other (a := ⟨bk, 0, none⟩) (.slice B2 m2 d2) hkn.symm).other (a := ⟨bk, 1, none⟩) (.slice D2 l2 f2) hkn.symm).other (a := ⟨bk, 2, none⟩) (.slice I2 n2 c2') hkn.symm).set2 (.int .i64 P2.2.2) (.int .i64 P2.2.1))
        have fa := OD1.out.far VD.out.mark (b := wr.heap.size + 1) (by omega) hb18
        have fb := OD2.out.far VD.out.busy (b := wr.heap.size + 1) (by omega) hb18
        have fc := OD3.out.far VD.out.items (b := wr.heap.size + 1) (by omega) hb18
        have ZD := hide2 (((DW.out.beside (YK.out.keep B9.out) noInt3 (Beside.set3 _ _ (.slice B2 m2 d2) (.slice D2 l2 f2) (.slice I2 n2 c2'))).set (p := ⟨wr.heap.size + 1, 0, none⟩) (v := .int .i64 P2.2.2) fa fb fc).set (p := ⟨wr.heap.size + 1, 1, none⟩) (v := .int .i64 P2.2.1) fa fb fc)
        have hu1 := OA.out.notAt (b := wr.heap.size + 1) (by omega)
        have ZO := hide2 ((((((OwnSl.keep AnsR.kept YO.out B9.out).setOther (p := ⟨bk, 0, none⟩) (u := .slice B2 m2 d2) NK.out (fun _ _ h => h)).setOther (p := ⟨bk, 1, none⟩) (u := .slice D2 l2 f2) NK.out (fun _ _ h => h)).setOther (p := ⟨bk, 2, none⟩) (u := .slice I2 n2 c2') NK.out (fun _ _ h => h)).setOther (p := ⟨wr.heap.size + 1, 0, none⟩) (u := .int .i64 P2.2.2) hu1 (fun _ _ h => h)).setOther (p := ⟨wr.heap.size + 1, 1, none⟩) (u := .int .i64 P2.2.1) hu1 (fun _ _ h => h))
        have FD2 := hide2 (FD.out.step (W := wa) (fun q hq => Nat.lt_of_lt_of_le (YL.out q hq).2 BB.out.size) OD1.out OD2.out OD3.out)
        have hwk : w.heap.size ≤ bk := by omega
        have hwr := BV.out.size
        have BW := hide2 (((below_set3 ((BV.out.trans (BB.out.mono BV.out.size)).trans (B9.out.mono (Nat.le_trans BV.out.size BB.out.size))) hwk (.slice B2 m2 d2) (.slice D2 l2 f2) (.slice I2 n2 c2')).setCell (p := ⟨wr.heap.size + 1, 0, none⟩) (by show w.heap.size ≤ wr.heap.size + 1; omega) (.int .i64 P2.2.2)).setCell (p := ⟨wr.heap.size + 1, 1, none⟩) (by show w.heap.size ≤ wr.heap.size + 1; omega) (.int .i64 P2.2.1))
        clear V0 VK V1 VD OA FD BV BB Y0 YK Y1 YO YL NK XP XA DW B9 OD1 OD2 OD3 fa fb fc c0 c1 c2 v0 v1 g0 g1 k0 k1 k2 hu1 SA
        generalize World.setCell (World.setCell (((w3.setCell ⟨bk, 0, none⟩ (.slice B2 m2 d2)).setCell ⟨bk, 1, none⟩ (.slice D2 l2 f2)).setCell ⟨bk, 2, none⟩ (.slice I2 n2 c2')) ⟨wr.heap.size + 1, 0, none⟩ (.int .i64 P2.2.2)) ⟨wr.heap.size + 1, 1, none⟩ (.int .i64 P2.2.1) = w4 at *
        obtain ⟨v0, v1⟩ := ZA.out.two
        have N0 := hide2 (ZO.out.notBox Z0.out (by decide))
        have NKK := hide2 (ZO.out.notBox ZK.out (by decide))
        have N1 := hide2 (ZO.out.notBox Z1.out (by decide))
        go_wp2_with (at_builtin; refine wpList_appLies tyAnswers rfl _ _ rfl [(P2.2.2, P2.2.1)] #[.int .i64 P2.2.2, .int .i64 P2.2.1] rfl rfl (by first | rfl | simp) rfl (by omega) (by simp [Value.oneCell']) ZO.out Reads.ans rfl BW.out BW.out.size (by omega) (by omega) (fun _ _ _ _ h => h) ?_; intro g' cap w5 own5 hg5 hb5 lies5; have O5 := hide2 own5; have G5 := hide2 hg5; have B5 := hide2 hb5; have L5 := hide2 lies5; clear own5 hg5 hb5 lies5)
        go_roundw
        case rel => exact ⟨k + 1, by omega, by go_num, B2, m2, d2, D2, l2, f2, I2, n2, c2', Z0.out.grown G5.out N0.out, ZK.out.grown G5.out NKK.out, Z1.out.grown G5.out N1.out, hide2 (by rw [SN.out]; exact ZD.out.grown G5.out FD2.out), hide2 (by rw [SN.out]; exact O5.out), FD2.out.app ZD.out L5.out, B5.out⟩
        case measure => simp [intOf]; omega
      · obtain rfl : k = s := by omega
        have TK := hide2 (show os.take k = os from List.take_of_length_le (by rw [HL.out]; exact Nat.le_refl _))
        rw [TK.out] at VD OA
        obtain ⟨Au, cu, hu, iu⟩ := OA.out.sl (by omega)
        have IU := hide2 iu
        subst hu
        clear iu
        obtain ⟨c0, c1, c2⟩ := VK.out.three
        obtain ⟨z0, z1, z2⟩ := V1.out.three
        have f0 := V1.out.frozen 0
        have f1 := V1.out.frozen 1
        have f2 := V1.out.frozen 2
        go_wp2
        obtain ⟨r0, r1, r2⟩ := (V1.out.set3 (.slice B m d) (.slice D l e) (.slice I ni ci)).three
        exact bodyPost_ret (v := .tuple #[.agg #[.slice B m d, .slice D l e, .slice I ni ci], .slice Au k cu, .int .i64 0]) (by simp [results, Try.results50, go_sem, r0, r1, r2]) rfl (by rw [FN.out]; exact ⟨B, m, d, D, l, e, I, ni, ci, Au, k, cu, rfl, VD.out.beside V1.out noInt3 (Beside.set3 _ _ _ _ _), Sl.beside IU.out (by omega) (fun vs x hx => ⟨⟨_, hx.1⟩, hx⟩) V1.out noInt3 (Beside.set3 _ _ _ _ _), below_set3 BV.out (by omega) _ _ _⟩)
  · have FN := hide2 (playD_err (roles := roles) (l := os) HP.out he)
    have hee : (p.2 != 0) = true := by simpa using he
    clear he
    go_wp2
    obtain ⟨r0, r1, r2⟩ := (W1.out.set3 (.slice none 0 0) (.slice none 0 0) (.slice none 0 0)).three
    exact bodyPost_ret (v := .tuple #[.agg #[.slice none 0 0, .slice none 0 0, .slice none 0 0], .slice none 0 0, .int .i64 p.2]) (by simp [results, Try.results50, go_sem, r0, r1, r2]) rfl (by rw [FN.out]; exact ⟨none, 0, 0, none, 0, 0, none, 0, 0, none, 0, 0, rfl, ⟨Sl.nil0, Sl.nil0, Sl.nil0⟩, Sl.nil0, below_set3 BC.out (by omega) _ _ _⟩)
end Go.Proofs.Ytpagenlealddhaa
namespace Go.Proofs.Ytpagenlealddhaa
open Go.RowKit

set_option maxRecDepth 100000 in
theorem equalItems_same {w : World} {A B : Option Addr} {n c m d : Nat} {xs : List PItem} (h : Items w A n c xs) (g : Items w B m d xs) :
    Calls Try.prog 112 #[.slice A n c, .slice B m d] w fun e w' => e = .returned (.bool true) ∧ Below w.heap.size w w' := by
  have hn := h.small
  obtain rfl : n = m := by rw [← h.len, ← g.len]
  go_enter Try.func112, Try.ntmps112
  go_wp2
  go_loopw [13] (fun i wr => ∃ k : Nat, k ≤ n ∧ i = .int .i64 k ∧ ∃ q, wr = w.drewN q) (fun i _ => n - (intOf i).toNat)
  case atStart => exact ⟨0, Nat.zero_le _, rfl, 0, rfl⟩
  case round =>
    obtain ⟨k, hk, rfl, q, rfl⟩ := hrel
    by_cases hlt : k < n
    · obtain ⟨b, off, x, rfl, hb, hx, x0, x1, x2⟩ := Items.get h hlt
      obtain ⟨b', off', y, rfl, hb', hy, y0, y1, y2⟩ := Items.get g hlt
      obtain rfl : x = y := by have h1 := hx.out; rw [hy.out] at h1; injection h1 with h1; exact h1.symm
      clear h g hx hy
      have hi : (k : Int) < (n : Int) := by omega
      go_wp2
      go_quiet (fail)
      go_wp2
      go_roundw
      case rel => exact ⟨k + 1, by omega, by go_num, _, rfl⟩
      case measure => simp [intOf]; omega
    · clear h g
      go_wp2
      go_ret
      exact ⟨rfl, belowN _ _⟩
theorem Answers.get {w : World} {A : Option Addr} {n c k : Nat} {os : List (Int × Int)} (h : Answers w A n c os) (hk : k < n) :
    ∃ b off o, A = some ⟨b, off, none⟩ ∧ b < w.heap.size ∧ Hid (os[k]? = some o) ∧ w.cell? ⟨b, off + k * 2, none⟩ = some (.int .i64 o.1) ∧ w.cell? ⟨b, off + k * 2 + 1, none⟩ = some (.int .i64 o.2) := by
  obtain ⟨b, off, o, vs, h1, h2, h3, h4, e0, e1⟩ := Sl.get h hk
  refine ⟨b, off, o, h1, h2, h3, ?_, ?_⟩
  · rw [← e0]; exact h4 0 (by omega)
  · rw [← e1]; exact h4 1 (by omega)
set_option maxRecDepth 100000 in
theorem equalAnswers_same {w : World} {A B : Option Addr} {n c m d : Nat} {xs : List (Int × Int)} (h : Answers w A n c xs) (g : Answers w B m d xs) :
    Calls Try.prog 52 #[.slice A n c, .slice B m d] w fun e w' => e = .returned (.bool true) ∧ Below w.heap.size w w' := by
  have hn := h.small
  obtain rfl : n = m := by rw [← h.len, ← g.len]
  go_enter Try.func52, Try.ntmps52
  go_wp2
  go_loopw [13] (fun i wr => ∃ k : Nat, k ≤ n ∧ i = .int .i64 k ∧ ∃ q, wr = w.drewN q) (fun i _ => n - (intOf i).toNat)
  case atStart => exact ⟨0, Nat.zero_le _, rfl, 0, rfl⟩
  case round =>
    obtain ⟨k, hk, rfl, q, rfl⟩ := hrel
    by_cases hlt : k < n
    · obtain ⟨b, off, x, rfl, hb, hx, x0, x1⟩ := Answers.get h hlt
      obtain ⟨b', off', y, rfl, hb', hy, y0, y1⟩ := Answers.get g hlt
      obtain rfl : x = y := by have h1 := hx.out; rw [hy.out] at h1; injection h1 with h1; exact h1.symm
      clear h g hx hy
      have hi : (k : Int) < (n : Int) := by omega
      go_wp2
      go_quiet (fail)
      go_wp2
      go_roundw
      case rel => exact ⟨k + 1, by omega, by go_num, _, rfl⟩
      case measure => simp [intOf]; omega
    · clear h g
      go_wp2
      go_ret
      exact ⟨rfl, belowN _ _⟩
set_option maxRecDepth 100000 in
theorem sameDesk_calls {w : World} {B D I B' D' I' : Option Addr} {m d l e n c m' d' l' e' n' c' : Nat} {k : PDesk} (h : DeskW w B m d D l e I n c k) (g : DeskW w B' m' d' D' l' e' I' n' c' k) :
    Calls Try.prog 51 #[.agg #[.slice B m d, .slice D l e, .slice I n c], .agg #[.slice B' m' d', .slice D' l' e', .slice I' n' c']] w fun e w' => e = .returned (.bool true) ∧ Below w.heap.size w w' := by
  generalize hw : (w.alloc (.cells #[.slice B m d, .slice D l e, .slice I n c] 81)).alloc (.cells #[.slice B' m' d', .slice D' l' e', .slice I' n' c'] 81) = w0
  have HB := hide2 (show Below w.heap.size w w0 by rw [← hw]; exact ((Below.refl _ _).alloc (Nat.le_refl _) _).alloc (by simp) _)
  have X0 := hide2 (show Box w0 w.heap.size 81 #[.slice B m d, .slice D l e, .slice I n c] by rw [← hw]; exact (Box.new _ _ _).old _)
  have X1 := hide2 (show Box w0 (w.heap.size + 1) 81 #[.slice B' m' d', .slice D' l' e', .slice I' n' c'] by rw [← hw]; exact Box.newAt (by simp) _ _)
  have H := hide2 (h.keep HB.out)
  have G := hide2 (g.keep HB.out)
  clear h g
  go_enter Try.func51, Try.ntmps51
  go_upto_region 1 with fail
  clear hw
  obtain ⟨c0, c1, c2⟩ := X0.out.three
  obtain ⟨d0, d1, d2⟩ := X1.out.three
  go_wp2_with (first
    | (go_at_call 111; (with_reducible refine (sameCase_calls (p := k.case_) H.out.mark H.out.busy G.out.mark G.out.busy).mono ?_); rintro x w1 ⟨rfl, hb⟩; have B1 := hide2 hb; clear hb c0 c1 c2 d0 d1 d2; obtain ⟨c0, c1, c2⟩ := (X0.out.keep B1.out).three; obtain ⟨d0, d1, d2⟩ := (X1.out.keep B1.out).three)
    | (go_at_call 112; (with_reducible refine (equalItems_same (Sl.keep ItemR.kept H.out.items B1.out) (Sl.keep ItemR.kept G.out.items B1.out)).mono ?_); rintro x w2 ⟨rfl, hb⟩; have B2 := hide2 (B1.out.trans (hb.mono B1.out.size)); clear hb))
  go_ret
  exact ⟨by first | rfl | simp, HB.out.trans (B2.out.mono HB.out.size)⟩

set_option maxRecDepth 100000 in
set_option maxHeartbeats 1000000 in
theorem deskPlays_walk {w : World} (P : Int) {A R O : Option Addr} {n c r q s so : Nat} {ts : List PTran} {roles : List (List Int)} {os : List POp} (h : Trans w A n c ts) (_ : n ≤ 2513169434916) (i : Int) (_ : (Lit.int .i64 i).wf = true) (g : Lists w R r q roles) (_ : r ≤ 5864062014634) (x : DOps w O s so os) (hs : s ≤ 3518437208780) :
    Calls Try.prog 10 #[.agg #[.int .i64 P, .slice A n c], .int .i64 i, .slice R r q, .slice O s so] w fun e w' => e = .returned (.bool true) ∧ Below w.heap.size w w' := by
  have HB := hide2 (newBelow w (.cells #[.int .i64 P, .slice A n c] 38))
  have X0 := hide2 (Box.new w #[.int .i64 P, .slice A n c] 38)
  obtain ⟨p, hp⟩ : ∃ p, playD ⟨P, ts⟩ roles i os = p := ⟨_, rfl⟩
  have C1 := hide2 (fun (w' : World) (hb : Below w.heap.size w w') => deskPlay_calls (P := P) i (h.keep hb) (Sl.keep ListR.kept g hb) (Sl.keep DOpR.kept x hb) hs)
  have C2 := hide2 (fun (w' : World) (hb : Below w.heap.size w w') => qplay_calls (P := P) i (h.keep hb) (Sl.keep ListR.kept g hb) (Sl.keep DOpR.kept x hb) hs)
  simp only [hp] at C1 C2
  clear h g x hp
  go_enter Try.func10, Try.ntmps10
  go_upto_region 1 with fail
  generalize w.alloc (.cells #[.int .i64 P, .slice A n c] 38) = w0 at *
  obtain ⟨c0, c1⟩ := X0.out.two
  go_upto_region 2 with (go_at_call 49; (with_reducible refine (C1.out _ HB.out).mono ?_); rintro e w1 ⟨B1, m1, d1, D1, l1, f1, I1, n1, k1, A1, a1, ca1, rfl, dw, an, hb⟩; have DW := hide2 dw; have AN := hide2 an; have BA := hide2 (HB.out.trans (hb.mono HB.out.size)); have XA := hide2 (X0.out.keep hb); clear dw an hb c0 c1)
  have NB := newBelow w1 (.cells #[.slice B1 m1 d1, .slice D1 l1 f1, .slice I1 n1 k1] 81)
  have Y1 := hide2 (Box.new w1 #[.slice B1 m1 d1, .slice D1 l1 f1, .slice I1 n1 k1] 81)
  have DW1 := hide2 (DW.out.keep NB)
  have AN1 := hide2 (Sl.keep AnsR.kept AN.out NB)
  have B2 := hide2 (BA.out.trans (NB.mono BA.out.size))
  obtain ⟨c0, c1⟩ := (XA.out.keep NB).two
  clear NB DW AN BA
  generalize w1.alloc (.cells #[.slice B1 m1 d1, .slice D1 l1 f1, .slice I1 n1 k1] 81) = w2 at *
  generalize w1.heap.size = b1 at *
  go_upto_region 3 with (go_at_call 50; (with_reducible refine (C2.out _ B2.out).mono ?_); rintro e w3 ⟨B2', m2, d2, D2, l2, f2, I2, n2, k2, A2, a2, ca2, rfl, dw, an, hb⟩; have DW := hide2 dw; have AN := hide2 an; have BA := hide2 (B2.out.trans (hb.mono B2.out.size)); have YA := hide2 (Y1.out.keep hb); have DV := hide2 (DW1.out.keep hb); have AV := hide2 (Sl.keep AnsR.kept AN1.out hb); clear dw an hb c0 c1)
  have NB := newBelow w3 (.cells #[.slice B2' m2 d2, .slice D2 l2 f2, .slice I2 n2 k2] 81)
  have Y2 := hide2 (Box.new w3 #[.slice B2' m2 d2, .slice D2 l2 f2, .slice I2 n2 k2] 81)
  have DW2 := hide2 (DW.out.keep NB)
  have DV2 := hide2 (DV.out.keep NB)
  have AN2 := hide2 (Sl.keep AnsR.kept AN.out NB)
  have AV2 := hide2 (Sl.keep AnsR.kept AV.out NB)
  have B4 := hide2 (BA.out.trans (NB.mono BA.out.size))
  obtain ⟨c0, c1, c2⟩ := (YA.out.keep NB).three
  clear NB DW AN BA DV AV
  generalize w3.alloc (.cells #[.slice B2' m2 d2, .slice D2 l2 f2, .slice I2 n2 k2] 81) = w4 at *
  generalize w3.heap.size = b2 at *
  obtain ⟨q0, q1, q2⟩ := Y2.out.three
  go_wp2_with (first
    | (go_at_call 51; (with_reducible refine (sameDesk_calls DV2.out DW2.out).mono ?_); rintro e w5 ⟨rfl, hb⟩; have F5 := hide2 hb; have B5 := hide2 (B4.out.trans (hb.mono B4.out.size)); clear hb c0 c1 c2 q0 q1 q2)
    | (go_at_call 52; (with_reducible refine (equalAnswers_same (Sl.keep AnsR.kept AV2.out F5.out) (Sl.keep AnsR.kept AN2.out F5.out)).mono ?_); rintro e w6 ⟨rfl, hb⟩; have B6 := hide2 (B5.out.trans (hb.mono B5.out.size)); clear hb))
  go_ret
  exact ⟨by first | rfl | simp, B6.out⟩
end Go.Proofs.Ytpagenlealddhaa
namespace Go.Proofs.Ytpagenlealddhaa
open Go.ChangeShapes Go.WideShapes Go.ChangeAt Go.RowKit Go.Deep
section
variable {H : Type} {enc : TypeId × Value → H} {W : World}
theorem readsDOp : ReadsAs DOpR 5 40 23 := by
  refine ⟨DOpR.good, by kernel_rfl, by kernel_rfl, by omega, fun enc W fuel cs d pl h hw hl => ?_⟩
  obtain ⟨n, hg⟩ := struct_fields Try.underlying23 (by kernel_rfl) h hw hl
  obtain ⟨v0, y0, e0, t0, _⟩ := hg 0 _ rfl
  obtain ⟨v1, y1, e1, t1, _⟩ := hg 1 _ rfl
  obtain ⟨v2, y2, e2, t2, _⟩ := hg 2 _ rfl
  obtain ⟨v3, y3, e3, t3, _⟩ := hg 3 _ rfl
  obtain ⟨v4, y4, e4, t4, _⟩ := hg 4 _ rfl
  obtain ⟨k, hk, _, _⟩ := DataW.trod_int Try.underlying3 t0
  obtain ⟨u, hu, _, _⟩ := DataW.trod_int Try.underlying3 t1
  obtain ⟨t, ht, _, _⟩ := DataW.trod_int Try.underlying3 t2
  obtain ⟨i, hi, _, _⟩ := DataW.trod_int Try.underlying3 t3
  obtain ⟨o, ho, _, _⟩ := DataW.trod_int Try.underlying3 t4
  injection hk with hk
  injection hu with hu
  injection ht with ht
  injection hi with hi
  injection ho with ho
  exact ⟨⟨k, u, t, i, o⟩, by show cs.getD 0 undef = _; rw [e0, hk], by show cs.getD 1 undef = _; rw [e1, hu], by show cs.getD 2 undef = _; rw [e2, ht], by show cs.getD 3 undef = _; rw [e3, hi], by show cs.getD 4 undef = _; rw [e4, ho]⟩
end
end Go.Proofs.Ytpagenlealddhaa
