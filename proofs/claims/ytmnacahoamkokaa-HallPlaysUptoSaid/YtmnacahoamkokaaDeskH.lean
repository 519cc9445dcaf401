/- The contract of QPlay. Conditions: the net, the roles and the things to do read as lists. | The library's Equal on items and on answers; SameDesk; the law DeskPlays as a call: it returns true. Conditions: the net, the roles and the things to do read as lists. | From a reading of an argument to things done at a desk. Conditions: none. | The law JournalTells as a call: it returns true. Conditions: the bytes read as a list, of bounded length. | From a reading of an argument to bytes and things done at a desk; the bulk of a slice. Conditions: none. | The contract of SPlay. Conditions: the net, the roles and the things read as lists. | The law HallPlays as a call: it returns true; how []HallOp reads. Conditions: the net, the roles and the things read as lists. -/
import Derived.Test.YtmnacahoamkokaaDeskF
import Derived.Test.YtmnacahoamkokaaDeskG
import Derived.Test.YtmnacahoamkokaaRead
import Derived.Test.YtmnacahoamkokaaJourD
import Derived.Test.YtmnacahoamkokaaRows
import Derived.Test.YtmnacahoamkokaaHallA
namespace Go.Proofs.Ytmnacahoamkokaa
open Go.RowKit

set_option maxRecDepth 100000 in
set_option maxHeartbeats 16000000 in
theorem qplay_calls {w : World} {P : Int} {A R O : Option Addr} {n c r q s so : Nat} {ts : List PTran} {roles : List (List Int)} {os : List POp} (i : Int) (h : Trans w A n c ts) (g : Lists w R r q roles) (x : DOps w O s so os) (hs : s ≤ 3518437208780) :
    Calls Try.prog 104 #[.agg #[.int .i64 P, .slice A n c], .int .i64 i, .slice R r q, .slice O s so] w (AnsPlayD (playD ⟨P, ts⟩ roles i os) w) := by
  generalize hw : (w.alloc (.cells #[.int .i64 P, .slice A n c] 27)).alloc (.cells #[.slice none 0 0, .slice none 0 0, .slice none 0 0] 78) = w0
  have HB := hide2 (show Below w.heap.size w w0 by rw [← hw]; exact ((Below.refl _ _).alloc (Nat.le_refl _) _).alloc (by simp) _)
  have X0 := hide2 (show Box w0 w.heap.size 27 #[.int .i64 P, .slice A n c] by rw [← hw]; exact (Box.new _ _ _).old _)
  have X1 := hide2 (show Box w0 (w.heap.size + 1) 78 #[.slice none 0 0, .slice none 0 0, .slice none 0 0] by rw [← hw]; exact Box.newAt (by simp) _ _)
  have HO := hide2 h
  have GO := hide2 g
  have XO := hide2 x
  have HL := hide2 x.len
  have CB := hide2 (refBegin_calls (P := P) i (h.keep HB.out))
  obtain ⟨p, hp⟩ : ∃ p, beginL ⟨P, ts⟩ i = p := ⟨_, rfl⟩
  rw [hp] at CB
  have HP := hide2 hp
  clear h g x hp
  go_enter Try.func104, Try.ntmps104
  go_upto_region 1 with fail
  clear hw
  obtain ⟨a0, a1⟩ := X0.out.two
  go_upto_region 2 with (go_at_call 161; (with_reducible refine CB.out.mono ?_); rintro e1 w1 ⟨A3, n3, k3, A4, n4, k4, rfl, i3, i4, hb1, fr3, fr4⟩; have I3 := hide2 i3; have I4 := hide2 i4; have B1 := hide2 hb1; clear i3 i4 hb1 fr3 fr4)
  have XC := hide2 (Box.new w1 #[.slice A3 n3 k3, .slice A4 n4 k4] 75)
  have NB := newBelow w1 (.cells #[.slice A3 n3 k3, .slice A4 n4 k4] 75)
  have bb := B1.out.trans (NB.mono B1.out.size)
  have W0 := hide2 (X0.out.keep bb)
  have W1 := hide2 (X1.out.keep bb)
  have J3 := hide2 (I3.out.keep NB)
  have J4 := hide2 (I4.out.keep NB)
  have BC := hide2 (HB.out.trans (bb.mono HB.out.size))
  have SZ := hide2 (show w.heap.size + 1 < w1.heap.size from Nat.lt_of_lt_of_le X1.out.lt B1.out.size)
  clear X0 X1 I3 I4 B1 NB bb a0 a1 HB CB
  generalize w1.alloc (.cells #[.slice A3 n3 k3, .slice A4 n4 k4] 75) = w2 at *
  generalize w1.heap.size = bc at *
  obtain ⟨a0, a1⟩ := W0.out.two
  obtain ⟨z0, z1, z2⟩ := W1.out.three
  have f0 := W1.out.frozen 0
  have f1 := W1.out.frozen 1
  have f2 := W1.out.frozen 2
  obtain ⟨q0, q1⟩ := XC.out.two
  by_cases he : p.2 = 0
  · have FN := hide2 (playD_yes (roles := roles) (l := os) HP.out he)
    have OK0 := hide2 (show DeskOk ⟨P, ts⟩ ⟨p.1, []⟩ by have := DeskOk.start (N := ⟨P, ts⟩) (i := i) (by rw [HP.out]; exact he); rw [HP.out] at this; exact this)
    have hee : (p.2 != 0) = false := by simpa using he
    clear he
    clear z0 z1 z2 f0 f1 f2
    have NB := newBelow w2 (.cells #[.slice A3 n3 k3, .slice A4 n4 k4, .slice none 0 0] 78)
    have VK := hide2 (Box.new w2 #[.slice A3 n3 k3, .slice A4 n4 k4, .slice none 0 0] 78)
    have V0 := hide2 (W0.out.keep NB)
    have V1 := hide2 (W1.out.keep NB)
    have VD := hide2 (show DeskW _ A3 n3 k3 A4 n4 k4 none 0 0 ⟨p.1, []⟩ from ⟨J3.out.keep NB, J4.out.keep NB, Sl.nil0⟩)
    have BV := hide2 (BC.out.trans (NB.mono BC.out.size))
    have hk1 : w.heap.size + 1 < w2.heap.size := W1.out.lt
    go_upto_region 5 with fail
    clear hee a0 a1 q0 q1 NB W0 W1 J3 J4 BC XC
    generalize w2.alloc (.cells #[.slice A3 n3 k3, .slice A4 n4 k4, .slice none 0 0] 78) = w6 at *
    generalize w2.heap.size = bk at *
    go_upto_region 7 with fail
    go_loopw [14, 32] (fun u v wr => ∃ k : Nat, k ≤ s ∧ v = .int .i64 k ∧ ∃ B m d D l e I ni ci, Hid (Box wr w.heap.size 27 #[.int .i64 P, .slice A n c]) ∧ Hid (Box wr bk 78 #[.slice B m d, .slice D l e, .slice I ni ci]) ∧ Hid (Box wr (w.heap.size + 1) 78 #[.slice none 0 0, .slice none 0 0, .slice none 0 0]) ∧ Hid (DeskW wr B m d D l e I ni ci (runD ⟨P, ts⟩ roles ⟨p.1, []⟩ (os.take k)).1) ∧ Hid (OwnAnswers wr w.heap.size u k (runD ⟨P, ts⟩ roles ⟨p.1, []⟩ (os.take k)).2) ∧ Hid (FarD u B m D l I ni) ∧ Hid (Below w.heap.size w wr)) (fun _ v _ => s - (intOf v).toNat)
    case atStart => exact ⟨0, Nat.zero_le _, rfl, A3, n3, k3, A4, n4, k4, none, 0, 0, V0, VK, V1, VD, OwnSl.nil, FarD.nil, BV⟩
    case round =>
      clear V0 VK V1 VD BV
      obtain ⟨k, hk, rfl, B, m, d, D, l, e, I, ni, ci, V0, VK, V1, VD, OA, FD, BV⟩ := hrel
      by_cases hlt : k < s
      · have hki : (k : Int) < (s : Int) := by omega
        obtain ⟨bl, off, o, rfl, hbl, ho, x0, x1, x2, x3, x4⟩ := DOps.at (Sl.keep DOpR.kept XO.out BV.out) hlt
        obtain ⟨rk, rl, rn⟩ := runD_ok ⟨P, ts⟩ roles (os.take k) _ OK0.out
        have SN := hide2 (runD_snoc ⟨P, ts⟩ roles (os.take k) ⟨p.1, []⟩ o)
        rw [← take_snoc ho.out] at SN
        have RS := rk.small
        have hl24 : l ≤ 24 := by rw [← VD.out.busy.len]; exact RS.1
        have hnik : ni ≤ k := by
          have h1 := VD.out.items.len
          have h2 : (os.take k).length ≤ k := by rw [List.length_take]; omega
          simp only [List.length_nil, Nat.zero_add] at rl
          omega
        have RT := hide2 rk.trans
        clear rk rl rn RS
        obtain ⟨K, hK⟩ : ∃ K, runD ⟨P, ts⟩ roles ⟨p.1, []⟩ (os.take k) = K := ⟨_, rfl⟩
        rw [hK] at VD OA RT SN
        clear hK
        have CS := hide2 (fun (w' : World) (hb : Below wr.heap.size wr w') => qdo_calls (P := P) o (HO.out.keep (BV.out.trans (hb.mono BV.out.size))) (Sl.keep ListR.kept GO.out (BV.out.trans (hb.mono BV.out.size))) (VD.out.keep hb) (by omega) (by omega) RT.out)
        obtain ⟨P2, hP2⟩ : ∃ P2, stepD ⟨P, ts⟩ roles K.1 o = P2 := ⟨_, rfl⟩
        simp only [hP2] at CS SN
        clear hP2 RT
        have bb1 := ((Below.refl wr.heap.size wr).alloc (Nat.le_refl _) (.cells #[.int .i64 o.kind, .int .i64 o.user, .int .i64 o.tran, .int .i64 o.item, .int .i64 o.to_] 187)).alloc (by simp) (.cells #[.int .i64 0, .int .i64 0] 85)
        have XP := hide2 ((Box.new wr #[.int .i64 o.kind, .int .i64 o.user, .int .i64 o.tran, .int .i64 o.item, .int .i64 o.to_] 187).old (.cells #[.int .i64 0, .int .i64 0] 85))
        have XA := hide2 (Box.newAt (w := wr.alloc (.cells #[.int .i64 o.kind, .int .i64 o.user, .int .i64 o.tran, .int .i64 o.item, .int .i64 o.to_] 187)) (n := wr.heap.size + 1) (by simp) #[.int .i64 0, .int .i64 0] 85)
        have BB := hide2 bb1
        clear bb1
        go_upto_region 10 with fail
        clear x0 x1 x2 x3 x4
        generalize (wr.alloc (.cells #[.int .i64 o.kind, .int .i64 o.user, .int .i64 o.tran, .int .i64 o.item, .int .i64 o.to_] 187)).alloc (.cells #[.int .i64 0, .int .i64 0] 85) = wa at *
        have Y0 := hide2 (V0.out.keep BB.out)
        have YK := hide2 (VK.out.keep BB.out)
        have Y1 := hide2 (V1.out.keep BB.out)
        have YO := hide2 (OwnSl.keep AnsR.kept OA.out BB.out)
        have YL := hide2 OA.out.lt
        have NK := hide2 (OA.out.notBox VK.out (by decide))
        have hkl := VK.out.lt
        obtain ⟨a0, a1⟩ := Y0.out.two
        obtain ⟨c0, c1, c2⟩ := YK.out.three
        obtain ⟨y0, y1, y2, y3, y4⟩ := XP.out.five
        obtain ⟨v0, v1⟩ := XA.out.two
        have g0 := XA.out.frozen 0
        have g1 := XA.out.frozen 1
        have k0 := YK.out.frozen 0
        have k1 := YK.out.frozen 1
        have k2 := YK.out.frozen 2
        go_upto_region 11 with (go_at_call 106; (with_reducible refine (CS.out _ BB.out).mono ?_); rintro e2 w3 ⟨B2, m2, d2, D2, l2, f2, I2, n2, c2', rfl, dw, hb2, od1, od2, od3⟩; have DW := hide2 dw; have B9 := hide2 hb2; have OD1 := hide2 od1; have OD2 := hide2 od2; have OD3 := hide2 od3; clear dw hb2 od1 od2 od3 a0 a1 c0 c1 c2 y0 y1 y2 y3 y4 v0 v1 g0 g1 k0 k1 k2; obtain ⟨c0, c1, c2⟩ := (YK.out.keep B9.out).three; obtain ⟨v0, v1⟩ := (XA.out.keep B9.out).two; have g0 := (XA.out.keep B9.out).frozen 0; have g1 := (XA.out.keep B9.out).frozen 1; have k0 := (YK.out.keep B9.out).frozen 0; have k1 := (YK.out.keep B9.out).frozen 1; have k2 := (YK.out.keep B9.out).frozen 2)
        have hb18 : wr.heap.size + 1 < wa.heap.size := XA.out.lt
        have hkn : bk ≠ wr.heap.size + 1 := by omega
        have h1k : w.heap.size + 1 ≠ bk := by omega
        have h1l := V1.out.lt
        have h1n : w.heap.size + 1 ≠ wr.heap.size + 1 := by omega
        have h0k : w.heap.size ≠ bk := by omega
        have h0n : w.heap.size ≠ wr.heap.size + 1 := by have := V0.out.lt; omega
        have SA := hide2 (show ∀ v0 v1 v2 v3 v4 : Value, World.setCell (World.setCell (((w3.setCell ⟨bk, 0, none⟩ v0).setCell ⟨bk, 1, none⟩ v1).setCell ⟨bk, 2, none⟩ v2) ⟨wr.heap.size + 1, 0, none⟩ v3) ⟨wr.heap.size + 1, 1, none⟩ v4 = World.setCell (World.setCell (((w3.setCell ⟨bk, 0, none⟩ v0).setCell ⟨bk, 1, none⟩ v1).setCell ⟨bk, 2, none⟩ v2) ⟨wr.heap.size + 1, 0, none⟩ v3) ⟨wr.heap.size + 1, 1, none⟩ v4 from fun _ _ _ _ _ => rfl)
        have Z0 := hide2 ((((((Y0.out.keep B9.out).other (a := ⟨bk, 0, none⟩) (.slice B2 m2 d2) h0k).other (a := ⟨bk, 1, none⟩) (.slice D2 l2 f2) h0k).other (a := ⟨bk, 2, none⟩) (.slice I2 n2 c2') h0k).other (a := ⟨wr.heap.size + 1, 0, none⟩) (.int .i64 P2.2.2) h0n).other (a := ⟨wr.heap.size + 1, 1, none⟩) (.int .i64 P2.2.1) h0n)
        have ZK := hide2 ((((YK.out.keep B9.out).set3 (.slice B2 m2 d2) (.slice D2 l2 f2) (.slice I2 n2 c2')).other (a := ⟨wr.heap.size + 1, 0, none⟩) (.int .i64 P2.2.2) hkn).other (a := ⟨wr.heap.size + 1, 1, none⟩) (.int .i64 P2.2.1) hkn)
        have Z1 := hide2 ((((((Y1.out.keep B9.out).other (a := ⟨bk, 0, none⟩) (.slice B2 m2 d2) h1k).other (a := ⟨bk, 1, none⟩) (.slice D2 l2 f2) h1k).other (a := ⟨bk, 2, none⟩) (.slice I2 n2 c2') h1k).other (a := ⟨wr.heap.size + 1, 0, none⟩) (.int .i64 P2.2.2) h1n).other (a := ⟨wr.heap.size + 1, 1, none⟩) (.int .i64 P2.2.1) h1n)
        have ZA := hide2 (((((XA.out.keep B9.out).other (a := ⟨bk, 0, none⟩) (.slice B2 m2 d2) hkn.symm).other (a := ⟨bk, 1, none⟩) (.slice D2 l2 f2) hkn.symm).other (a := ⟨bk, 2, none⟩) (.slice I2 n2 c2') hkn.symm).set2 (.int .i64 P2.2.2) (.int .i64 P2.2.1))
        have fa := OD1.out.far VD.out.mark (b := wr.heap.size + 1) (by omega) hb18
        have fb := OD2.out.far VD.out.busy (b := wr.heap.size + 1) (by omega) hb18
        have fc := OD3.out.far VD.out.items (b := wr.heap.size + 1) (by omega) hb18
        have ZD := hide2 (((DW.out.beside (YK.out.keep B9.out) noInt3 (Beside.set3 _ _ (.slice B2 m2 d2) (.slice D2 l2 f2) (.slice I2 n2 c2'))).set (p := ⟨wr.heap.size + 1, 0, none⟩) (v := .int .i64 P2.2.2) fa fb fc).set (p := ⟨wr.heap.size + 1, 1, none⟩) (v := .int .i64 P2.2.1) fa fb fc)
        have hu1 := OA.out.notAt (b := wr.heap.size + 1) (by omega)
        have ZO := hide2 ((((((OwnSl.keep AnsR.kept YO.out B9.out).setOther (p := ⟨bk, 0, none⟩) (u := .slice B2 m2 d2) NK.out (fun _ _ h => h)).setOther (p := ⟨bk, 1, none⟩) (u := .slice D2 l2 f2) NK.out (fun _ _ h => h)).setOther (p := ⟨bk, 2, none⟩) (u := .slice I2 n2 c2') NK.out (fun _ _ h => h)).setOther (p := ⟨wr.heap.size + 1, 0, none⟩) (u := .int .i64 P2.2.2) hu1 (fun _ _ h => h)).setOther (p := ⟨wr.heap.size + 1, 1, none⟩) (u := .int .i64 P2.2.1) hu1 (fun _ _ h => h))
        have FD2 := hide2 (FD.out.step (W := wa) (fun q hq => Nat.lt_of_lt_of_le (YL.out q hq).2 BB.out.size) OD1.out OD2.out OD3.out)
        have hwk : w.heap.size ≤ bk := by omega
        have hwr := BV.out.size
        have BW := hide2 (((below_set3 ((BV.out.trans (BB.out.mono BV.out.size)).trans (B9.out.mono (Nat.le_trans BV.out.size BB.out.size))) hwk (.slice B2 m2 d2) (.slice D2 l2 f2) (.slice I2 n2 c2')).setCell (p := ⟨wr.heap.size + 1, 0, none⟩) (by show w.heap.size ≤ wr.heap.size + 1; omega) (.int .i64 P2.2.2)).setCell (p := ⟨wr.heap.size + 1, 1, none⟩) (by show w.heap.size ≤ wr.heap.size + 1; omega) (.int .i64 P2.2.1))
        clear V0 VK V1 VD OA FD BV BB Y0 YK Y1 YO YL NK XP XA DW B9 OD1 OD2 OD3 fa fb fc c0 c1 c2 v0 v1 g0 g1 k0 k1 k2 hu1 SA
        generalize World.setCell (World.setCell (((w3.setCell ⟨bk, 0, none⟩ (.slice B2 m2 d2)).setCell ⟨bk, 1, none⟩ (.slice D2 l2 f2)).setCell ⟨bk, 2, none⟩ (.slice I2 n2 c2')) ⟨wr.heap.size + 1, 0, none⟩ (.int .i64 P2.2.2)) ⟨wr.heap.size + 1, 1, none⟩ (.int .i64 P2.2.1) = w4 at *
        obtain ⟨v0, v1⟩ := ZA.out.two
        have N0 := hide2 (ZO.out.notBox Z0.out (by decide))
        have NKK := hide2 (ZO.out.notBox ZK.out (by decide))
        have N1 := hide2 (ZO.out.notBox Z1.out (by decide))
        go_wp2_with (at_builtin; refine wpList_appLies tyAnswers rfl _ _ rfl [(P2.2.2, P2.2.1)] #[.int .i64 P2.2.2, .int .i64 P2.2.1] rfl rfl (by first | rfl | simp) rfl (by omega) (by simp [Value.oneCell']) ZO.out Reads.ans rfl BW.out BW.out.size (by omega) (by omega) (fun _ _ _ _ h => h) ?_; intro g' cap w5 own5 hg5 hb5 lies5; have O5 := hide2 own5; have G5 := hide2 hg5; have B5 := hide2 hb5; have L5 := hide2 lies5; clear own5 hg5 hb5 lies5)
        go_roundw
        case rel => exact ⟨k + 1, by omega, by go_num, B2, m2, d2, D2, l2, f2, I2, n2, c2', Z0.out.grown G5.out N0.out, ZK.out.grown G5.out NKK.out, Z1.out.grown G5.out N1.out, hide2 (by rw [SN.out]; exact ZD.out.grown G5.out FD2.out), hide2 (by rw [SN.out]; exact O5.out), FD2.out.app ZD.out L5.out, B5.out⟩
        case measure => simp [intOf]; omega
      · obtain rfl : k = s := by omega
        have TK := hide2 (show os.take k = os from List.take_of_length_le (by rw [HL.out]; exact Nat.le_refl _))
        rw [TK.out] at VD OA
        obtain ⟨Au, cu, hu, iu⟩ := OA.out.sl (by omega)
        have IU := hide2 iu
        subst hu
        clear iu
        obtain ⟨c0, c1, c2⟩ := VK.out.three
        obtain ⟨z0, z1, z2⟩ := V1.out.three
        have f0 := V1.out.frozen 0
        have f1 := V1.out.frozen 1
        have f2 := V1.out.frozen 2
        go_wp2
        obtain ⟨r0, r1, r2⟩ := (V1.out.set3 (.slice B m d) (.slice D l e) (.slice I ni ci)).three
        exact bodyPost_ret (v := .tuple #[.agg #[.slice B m d, .slice D l e, .slice I ni ci], .slice Au k cu, .int .i64 0]) (by simp [results, Try.results104, go_sem, r0, r1, r2]) rfl (by rw [FN.out]; exact ⟨B, m, d, D, l, e, I, ni, ci, Au, k, cu, rfl, VD.out.beside V1.out noInt3 (Beside.set3 _ _ _ _ _), Sl.beside IU.out (by omega) (fun vs x hx => ⟨⟨_, hx.1⟩, hx⟩) V1.out noInt3 (Beside.set3 _ _ _ _ _), below_set3 BV.out (by omega) _ _ _⟩)
  · have FN := hide2 (playD_err (roles := roles) (l := os) HP.out he)
    have hee : (p.2 != 0) = true := by simpa using he
    clear he
    go_wp2
    obtain ⟨r0, r1, r2⟩ := (W1.out.set3 (.slice none 0 0) (.slice none 0 0) (.slice none 0 0)).three
    exact bodyPost_ret (v := .tuple #[.agg #[.slice none 0 0, .slice none 0 0, .slice none 0 0], .slice none 0 0, .int .i64 p.2]) (by simp [results, Try.results104, go_sem, r0, r1, r2]) rfl (by rw [FN.out]; exact ⟨none, 0, 0, none, 0, 0, none, 0, 0, none, 0, 0, rfl, ⟨Sl.nil0, Sl.nil0, Sl.nil0⟩, Sl.nil0, below_set3 BC.out (by omega) _ _ _⟩)
end Go.Proofs.Ytmnacahoamkokaa
namespace Go.Proofs.Ytmnacahoamkokaa
open Go.RowKit

set_option maxRecDepth 100000 in
theorem equalItems_same {w : World} {A B : Option Addr} {n c m d : Nat} {xs : List PItem} (h : Items w A n c xs) (g : Items w B m d xs) :
    Calls Try.prog 108 #[.slice A n c, .slice B m d] w fun e w' => e = .returned (.bool true) ∧ Below w.heap.size w w' := by
  have hn := h.small
  obtain rfl : n = m := by rw [← h.len, ← g.len]
  go_enter Try.func108, Try.ntmps108
  go_wp2
  go_loopw [13] (fun i wr => ∃ k : Nat, k ≤ n ∧ i = .int .i64 k ∧ ∃ q, wr = w.drewN q) (fun i _ => n - (intOf i).toNat)
  case atStart => exact ⟨0, Nat.zero_le _, rfl, 0, rfl⟩
  case round =>
    obtain ⟨k, hk, rfl, q, rfl⟩ := hrel
    by_cases hlt : k < n
    · obtain ⟨b, off, x, rfl, hb, hx, x0, x1, x2⟩ := Items.get h hlt
      obtain ⟨b', off', y, rfl, hb', hy, y0, y1, y2⟩ := Items.get g hlt
      obtain rfl : x = y := by have h1 := hx.out; rw [hy.out] at h1; injection h1 with h1; exact h1.symm
      clear h g hx hy
      have hi : (k : Int) < (n : Int) := by omega
      go_wp2
      go_quiet (fail)
      go_wp2
      go_roundw
      case rel => exact ⟨k + 1, by omega, by go_num, _, rfl⟩
      case measure => simp [intOf]; omega
    · clear h g
      go_wp2
      go_ret
      exact ⟨rfl, belowN _ _⟩
theorem Answers.get {w : World} {A : Option Addr} {n c k : Nat} {os : List (Int × Int)} (h : Answers w A n c os) (hk : k < n) :
    ∃ b off o, A = some ⟨b, off, none⟩ ∧ b < w.heap.size ∧ Hid (os[k]? = some o) ∧ w.cell? ⟨b, off + k * 2, none⟩ = some (.int .i64 o.1) ∧ w.cell? ⟨b, off + k * 2 + 1, none⟩ = some (.int .i64 o.2) := by
  obtain ⟨b, off, o, vs, h1, h2, h3, h4, e0, e1⟩ := Sl.get h hk
  refine ⟨b, off, o, h1, h2, h3, ?_, ?_⟩
  · rw [← e0]; exact h4 0 (by omega)
  · rw [← e1]; exact h4 1 (by omega)
set_option maxRecDepth 100000 in
theorem equalAnswers_same {w : World} {A B : Option Addr} {n c m d : Nat} {xs : List (Int × Int)} (h : Answers w A n c xs) (g : Answers w B m d xs) :
    Calls Try.prog 41 #[.slice A n c, .slice B m d] w fun e w' => e = .returned (.bool true) ∧ Below w.heap.size w w' := by
  have hn := h.small
  obtain rfl : n = m := by rw [← h.len, ← g.len]
  go_enter Try.func41, Try.ntmps41
  go_wp2
  go_loopw [13] (fun i wr => ∃ k : Nat, k ≤ n ∧ i = .int .i64 k ∧ ∃ q, wr = w.drewN q) (fun i _ => n - (intOf i).toNat)
  case atStart => exact ⟨0, Nat.zero_le _, rfl, 0, rfl⟩
  case round =>
    obtain ⟨k, hk, rfl, q, rfl⟩ := hrel
    by_cases hlt : k < n
    · obtain ⟨b, off, x, rfl, hb, hx, x0, x1⟩ := Answers.get h hlt
      obtain ⟨b', off', y, rfl, hb', hy, y0, y1⟩ := Answers.get g hlt
      obtain rfl : x = y := by have h1 := hx.out; rw [hy.out] at h1; injection h1 with h1; exact h1.symm
      clear h g hx hy
      have hi : (k : Int) < (n : Int) := by omega
      go_wp2
      go_quiet (fail)
      go_wp2
      go_roundw
      case rel => exact ⟨k + 1, by omega, by go_num, _, rfl⟩
      case measure => simp [intOf]; omega
    · clear h g
      go_wp2
      go_ret
      exact ⟨rfl, belowN _ _⟩
set_option maxRecDepth 100000 in
theorem sameDesk_calls {w : World} {B D I B' D' I' : Option Addr} {m d l e n c m' d' l' e' n' c' : Nat} {k : PDesk} (h : DeskW w B m d D l e I n c k) (g : DeskW w B' m' d' D' l' e' I' n' c' k) :
    Calls Try.prog 40 #[.agg #[.slice B m d, .slice D l e, .slice I n c], .agg #[.slice B' m' d', .slice D' l' e', .slice I' n' c']] w fun e w' => e = .returned (.bool true) ∧ Below w.heap.size w w' := by
  generalize hw : (w.alloc (.cells #[.slice B m d, .slice D l e, .slice I n c] 78)).alloc (.cells #[.slice B' m' d', .slice D' l' e', .slice I' n' c'] 78) = w0
  have HB := hide2 (show Below w.heap.size w w0 by rw [← hw]; exact ((Below.refl _ _).alloc (Nat.le_refl _) _).alloc (by simp) _)
  have X0 := hide2 (show Box w0 w.heap.size 78 #[.slice B m d, .slice D l e, .slice I n c] by rw [← hw]; exact (Box.new _ _ _).old _)
  have X1 := hide2 (show Box w0 (w.heap.size + 1) 78 #[.slice B' m' d', .slice D' l' e', .slice I' n' c'] by rw [← hw]; exact Box.newAt (by simp) _ _)
  have H := hide2 (h.keep HB.out)
  have G := hide2 (g.keep HB.out)
  clear h g
  go_enter Try.func40, Try.ntmps40
  go_upto_region 1 with fail
  clear hw
  obtain ⟨c0, c1, c2⟩ := X0.out.three
  obtain ⟨d0, d1, d2⟩ := X1.out.three
  go_wp2_with (first
    | (go_at_call 107; (with_reducible refine (sameCase_calls (p := k.case_) H.out.mark H.out.busy G.out.mark G.out.busy).mono ?_); rintro x w1 ⟨rfl, hb⟩; have B1 := hide2 hb; clear hb c0 c1 c2 d0 d1 d2; obtain ⟨c0, c1, c2⟩ := (X0.out.keep B1.out).three; obtain ⟨d0, d1, d2⟩ := (X1.out.keep B1.out).three)
    | (go_at_call 108; (with_reducible refine (equalItems_same (Sl.keep ItemR.kept H.out.items B1.out) (Sl.keep ItemR.kept G.out.items B1.out)).mono ?_); rintro x w2 ⟨rfl, hb⟩; have B2 := hide2 (B1.out.trans (hb.mono B1.out.size)); clear hb))
  go_ret
  exact ⟨by first | rfl | simp, HB.out.trans (B2.out.mono HB.out.size)⟩

end Go.Proofs.Ytmnacahoamkokaa
namespace Go.Proofs.Ytmnacahoamkokaa
open Go.ChangeShapes Go.WideShapes Go.ChangeAt Go.RowKit Go.Deep
section
variable {H : Type} {enc : TypeId × Value → H} {W : World}
theorem readsDOp : ReadsAs DOpR 5 40 187 := by
  refine ⟨DOpR.good, by kernel_rfl, by kernel_rfl, by omega, fun enc W fuel cs d pl h hw hl => ?_⟩
  obtain ⟨n, hg⟩ := struct_fields Try.underlying187 (by kernel_rfl) h hw hl
  obtain ⟨v0, y0, e0, t0, _⟩ := hg 0 _ rfl
  obtain ⟨v1, y1, e1, t1, _⟩ := hg 1 _ rfl
  obtain ⟨v2, y2, e2, t2, _⟩ := hg 2 _ rfl
  obtain ⟨v3, y3, e3, t3, _⟩ := hg 3 _ rfl
  obtain ⟨v4, y4, e4, t4, _⟩ := hg 4 _ rfl
  obtain ⟨k, hk, _, _⟩ := DataW.trod_int Try.underlying3 t0
  obtain ⟨u, hu, _, _⟩ := DataW.trod_int Try.underlying3 t1
  obtain ⟨t, ht, _, _⟩ := DataW.trod_int Try.underlying3 t2
  obtain ⟨i, hi, _, _⟩ := DataW.trod_int Try.underlying3 t3
  obtain ⟨o, ho, _, _⟩ := DataW.trod_int Try.underlying3 t4
  injection hk with hk
  injection hu with hu
  injection ht with ht
  injection hi with hi
  injection ho with ho
  exact ⟨⟨k, u, t, i, o⟩, by show cs.getD 0 undef = _; rw [e0, hk], by show cs.getD 1 undef = _; rw [e1, hu], by show cs.getD 2 undef = _; rw [e2, ht], by show cs.getD 3 undef = _; rw [e3, hi], by show cs.getD 4 undef = _; rw [e4, ho]⟩
end
end Go.Proofs.Ytmnacahoamkokaa
namespace Go.Proofs.Ytmnacahoamkokaa
open Go.RowKit

theorem DOps.get {w : World} {A : Option Addr} {n c k : Nat} {os : List POp} (h : DOps w A n c os) (hk : k < n) :
    ∃ b off o, A = some ⟨b, off, none⟩ ∧ b < w.heap.size ∧ Hid (os[k]? = some o) ∧ w.cell? ⟨b, off + k * 5, none⟩ = some (.int .i64 o.kind) ∧ w.cell? ⟨b, off + k * 5 + 1, none⟩ = some (.int .i64 o.user) ∧
      w.cell? ⟨b, off + k * 5 + 2, none⟩ = some (.int .i64 o.tran) ∧ w.cell? ⟨b, off + k * 5 + 3, none⟩ = some (.int .i64 o.item) ∧ w.cell? ⟨b, off + k * 5 + 4, none⟩ = some (.int .i64 o.to_) := by
  obtain ⟨b, off, o, vs, h1, h2, h3, h4, e0, e1, e2, e3, e4⟩ := Sl.get h hk
  refine ⟨b, off, o, h1, h2, h3, ?_, ?_, ?_, ?_, ?_⟩
  · rw [← e0]; exact h4 0 (by omega)
  · rw [← e1]; exact h4 1 (by omega)
  · rw [← e2]; exact h4 2 (by omega)
  · rw [← e3]; exact h4 3 (by omega)
  · rw [← e4]; exact h4 4 (by omega)
end Go.Proofs.Ytmnacahoamkokaa
namespace Go.Proofs.Ytmnacahoamkokaa
open Go.ChangeShapes Go.WideShapes Go.ChangeAt Go.RowKit Go.Deep
section
variable {H : Type} {enc : TypeId × Value → H} {W : World}

theorem readsByte : ReadsAs ByteR 1 1 5 := by
  refine ⟨ByteR.good, by kernel_rfl, by kernel_rfl, by omega, fun enc W fuel cs d pl h _ hl => ?_⟩
  obtain ⟨n, rfl, _, hwf⟩ := DataW.trod_int Try.underlying5 h
  have hr : 0 ≤ n ∧ n ≤ 255 := by simpa [Lit.wf, IntKind.min, IntKind.max, IntKind.signed, IntKind.bits] using hwf
  exact ⟨n.toNat, by show Value.int .u8 n = Value.int .u8 (n.toNat : Int); rw [Int.toNat_of_nonneg hr.1], by omega⟩
theorem one_bulk (d : DataW H) : 1 ≤ Rows.uptoBulk d := by
  cases d with
  | lit l => cases l <;> simp [Rows.uptoBulk]
  | nil => simp [Rows.uptoBulk]
  | ptr d => simp [Rows.uptoBulk]
  | slice elems spare => simp [Rows.uptoBulk]
  | agg parts => simp [Rows.uptoBulk]
  | iface t d => simp [Rows.uptoBulk]
  | map entries => simp [Rows.uptoBulk]
  | held h => simp [Rows.uptoBulk]
theorem length_bulk (l : List (DataW H)) : l.length ≤ Rows.uptoBulkAll l := by
  induction l with
  | nil => simp [Rows.uptoBulkAll]
  | cons x r ih => have := one_bulk x; simp only [Rows.uptoBulkAll, List.length_cons]; omega
/-- A slice has no more elements than its bulk. -/
theorem slice_bulk {t e : Nat} (ht : Try.prog.underlying t = some (.slice e)) {fuel : Nat} {A : Option Addr} {n c : Nat} {D : DataW H} {pl : List MemPlace}
    (h : DataW.trod enc Try.prog W 0 (fun _ => true) true fuel t [.slice A n c] = some (D, pl)) : n ≤ Rows.uptoBulk D := by
  rcases open_slice ht h with ⟨hcs, hx⟩ | ⟨a, len, cap, m, fu, Dx, Pl, hcs, _, _, _, _, hx, _⟩
  · injection hcs with hcs
    injection hcs with _ h2 _
    omega
  · injection hcs with hcs
    injection hcs with _ h2 _
    injection hx with hx _
    subst h2 hx
    have := length_bulk ((List.range n).map Dx)
    simp only [List.length_map, List.length_range] at this
    simp only [Rows.uptoBulk]
    omega
theorem fiveCells {cs : Array Value} {v0 v1 v2 v3 v4 : Value} (hl : cs.toList.length = 5) (e0 : cs.toList.getD 0 undef = v0) (e1 : cs.toList.getD 1 undef = v1) (e2 : cs.toList.getD 2 undef = v2) (e3 : cs.toList.getD 3 undef = v3) (e4 : cs.toList.getD 4 undef = v4) : cs = #[v0, v1, v2, v3, v4] := by
  have : cs.toList = [v0, v1, v2, v3, v4] := by
    match hcl : cs.toList, hl with
    | [a, b, c, d, e], _ =>
      rw [hcl] at e0 e1 e2 e3 e4
      have f0 : a = v0 := e0
      have f1 : b = v1 := e1
      have f2 : c = v2 := e2
      have f3 : d = v3 := e3
      have f4 : e = v4 := e4
      rw [f0, f1, f2, f3, f4]
  exact Array.toList_inj.1 (by rw [this])
theorem cellsDOp : Try.prog.cellsOf 187 = 5 := by kernel_rfl
set_option maxRecDepth 100000 in
theorem dopOf {base : Nat} {v : Value} {d : DataW H} {p : List MemPlace} (hv : Value.okWide Try.prog W .any base 187 v) (h : DataW.Trod enc Try.prog W 0 (fun _ => true) true 187 v d p) (hw : ∀ x ∈ d.weights Try.prog 187, x ≤ reachBytes) :
    ∃ o : POp, v = .agg #[.int .i64 o.kind, .int .i64 o.user, .int .i64 o.tran, .int .i64 o.item, .int .i64 o.to_] := by
  obtain ⟨cs, rfl, hsz⟩ := okWide_struct Try.underlying187 hv
  obtain ⟨fuel, hf⟩ := h
  have hl : cs.toList.length = 5 := by rw [Array.length_toList, hsz, cellsDOp]
  obtain ⟨n, hg⟩ := struct_fields Try.underlying187 (by kernel_rfl) hf hw hl
  obtain ⟨v0, y0, e0, t0, _⟩ := hg 0 _ rfl
  obtain ⟨v1, y1, e1, t1, _⟩ := hg 1 _ rfl
  obtain ⟨v2, y2, e2, t2, _⟩ := hg 2 _ rfl
  obtain ⟨v3, y3, e3, t3, _⟩ := hg 3 _ rfl
  obtain ⟨v4, y4, e4, t4, _⟩ := hg 4 _ rfl
  obtain ⟨k, hk, _, _⟩ := DataW.trod_int Try.underlying3 t0
  obtain ⟨u, hu, _, _⟩ := DataW.trod_int Try.underlying3 t1
  obtain ⟨t, ht, _, _⟩ := DataW.trod_int Try.underlying3 t2
  obtain ⟨i, hi, _, _⟩ := DataW.trod_int Try.underlying3 t3
  obtain ⟨o, ho, _, _⟩ := DataW.trod_int Try.underlying3 t4
  injection hk with hk
  injection hu with hu
  injection ht with ht
  injection hi with hi
  injection ho with ho
  exact ⟨⟨k, u, t, i, o⟩, by rw [fiveCells hl e0 e1 e2 e3 e4, hk, hu, ht, hi, ho]⟩
end
end Go.Proofs.Ytmnacahoamkokaa
namespace Go.Proofs.Ytmnacahoamkokaa
open Go.RowKit

set_option maxRecDepth 100000 in
set_option maxHeartbeats 16000000 in
theorem splay_calls {w : World} {P : Int} {A R O : Option Addr} {n c r q s so : Nat} {ts : List PTran} {roles : List (List Int)} {os : List HOp} (i : Int) (h : Trans w A n c ts) (g : Lists w R r q roles) (x : HOps w O s so os) (hs : s ≤ 1048576) :
    Calls Try.prog 39 #[.agg #[.int .i64 P, .slice A n c], .int .i64 i, .slice R r q, .slice O s so] w (AnsPlayD (hplay ⟨P, ts⟩ roles i os) w) := by
  generalize hw : (w.alloc (.cells #[.int .i64 P, .slice A n c] 27)).alloc (.cells #[.slice none 0 0, .slice none 0 0, .slice none 0 0] 78) = w0
  have HB := hide2 (show Below w.heap.size w w0 by rw [← hw]; exact ((Below.refl _ _).alloc (Nat.le_refl _) _).alloc (by simp) _)
  have X0 := hide2 (show Box w0 w.heap.size 27 #[.int .i64 P, .slice A n c] by rw [← hw]; exact (Box.new _ _ _).old _)
  have X1 := hide2 (show Box w0 (w.heap.size + 1) 78 #[.slice none 0 0, .slice none 0 0, .slice none 0 0] by rw [← hw]; exact Box.newAt (by simp) _ _)
  have HSZ := hide2 (show w0.heap.size = w.heap.size + 2 by rw [← hw]; simp)
  have H := hide2 h
  have G := hide2 g
  have X := hide2 x
  have PE := hide2 (show ∀ e, (beginL ⟨P, ts⟩ i).2 = e → e ≠ 0 → hplay ⟨P, ts⟩ roles i os = (PDesk.nil, [], e) from fun e he h0 => by rw [hplay, if_neg (by rw [he]; exact h0), he])
  have PL0 := hide2 (show ∀ e, (beginL ⟨P, ts⟩ i).2 = e → e ≠ 0 → playD ⟨P, ts⟩ roles i [] = (PDesk.nil, [], e) from fun e he h0 => by rw [playD, if_neg (by rw [he]; exact h0), he])
  have PY := hide2 (show (beginL ⟨P, ts⟩ i).2 = 0 → hplay ⟨P, ts⟩ roles i os = ((runD ⟨P, ts⟩ roles ⟨(beginL ⟨P, ts⟩ i).1, []⟩ (hrun ⟨P, ts⟩ roles ⟨(beginL ⟨P, ts⟩ i).1, []⟩ ([], 0) os).1.1).1, (hrun ⟨P, ts⟩ roles ⟨(beginL ⟨P, ts⟩ i).1, []⟩ ([], 0) os).2, 0) from fun h0 => by rw [hplay, if_pos h0])
  have PLY := hide2 (show (beginL ⟨P, ts⟩ i).2 = 0 → playD ⟨P, ts⟩ roles i [] = (⟨(beginL ⟨P, ts⟩ i).1, []⟩, [], 0) from fun h0 => by rw [playD, if_pos h0]; rfl)
  generalize hplay ⟨P, ts⟩ roles i os = RES at *
  have CQ := hide2 (qplay_calls (P := P) (ts := ts) (roles := roles) i (h.keep HB.out) (Sl.keep ListR.kept g HB.out) (Sl.nil0 (R := DOpR) (sz := 5)) (by omega))
  clear h g x
  go_enter Try.func39, Try.ntmps39
  go_upto_region 1 with fail
  clear hw
  obtain ⟨a0, a1⟩ := X0.out.two
  obtain ⟨be, hbe⟩ : ∃ be, (beginL ⟨P, ts⟩ i).2 = be := ⟨_, rfl⟩
  by_cases h0 : be = 0
  · subst h0
    have DOK := hide2 (DeskOk.start hbe)
    have PY1 := hide2 (PY.out hbe)
    rw [PLY.out hbe] at CQ
    clear hbe PE PL0 PY PLY
    obtain ⟨k0, hk0⟩ : ∃ k0 : PDesk, (⟨(beginL ⟨P, ts⟩ i).1, []⟩ : PDesk) = k0 := ⟨_, rfl⟩
    have HK0 := hide2 (show k0.items = [] by rw [← hk0])
    rw [hk0] at PY1 CQ DOK
    clear hk0
    go_upto_region 2 with (go_at_call 104; go_loud ((with_reducible refine CQ.out.mono ?_); rintro e w2 ⟨B2, m2, d2, D2, l2, f2, I2, n2, c2, A2, na, ca, rfl, dw, _, hb2⟩; have DW := hide2 dw; have E2 := hide2 hb2; clear dw hb2 a0 a1))
    generalize hw3 : w2.alloc (.cells #[.slice B2 m2 d2, .slice D2 l2 f2, .slice I2 n2 c2] 78) = w3
    have hb3 : Below w2.heap.size w2 w3 := by rw [← hw3]; exact (Below.refl _ _).alloc (Nat.le_refl _) _
    have E3 := hide2 (E2.out.trans (hb3.mono E2.out.size))
    have XD := hide2 (show Box w3 w2.heap.size 78 #[.slice B2 m2 d2, .slice D2 l2 f2, .slice I2 n2 c2] by rw [← hw3]; exact Box.new _ _ _)
    have DW3 := hide2 (DW.out.keep hb3)
    have B1 := hide2 (HB.out.trans (E3.out.mono HB.out.size))
    have SB := hide2 (show w.heap.size + 2 ≤ w3.heap.size by rw [← HSZ.out]; exact E3.out.size)
    have Z0 := hide2 (X0.out.keep E3.out)
    have Z1 := hide2 (X1.out.keep E3.out)
    clear hw3 hb3 E2 CQ DW HB X0 X1 E3
    generalize w2.heap.size = b11 at *
    obtain ⟨p0, p1, p2⟩ := XD.out.three
    go_upto_region 5 with fail
    have OD := hide2 (show OwnDesks (.slice none 0 0) (w3.alloc (.cells #[.slice B2 m2 d2, .slice D2 l2 f2, .slice I2 n2 c2] 78)) w3.heap.size (.slice (some ⟨w3.heap.size, 0, none⟩) 1 1) 1 [k0] from OwnSl.row (Nat.le_refl _) rfl (by decide) (Reads.desk (DW3.out.keep ((Below.refl w3.heap.size w3).alloc (Nat.le_refl _) _)) FarD.nil) rfl)
    have D4 := hide2 ((Below.refl w3.heap.size w3).alloc (Nat.le_refl _) (.cells #[.slice B2 m2 d2, .slice D2 l2 f2, .slice I2 n2 c2] 78))
    generalize w3.alloc (.cells #[.slice B2 m2 d2, .slice D2 l2 f2, .slice I2 n2 c2] 78) = w4 at *
    clear p0 p1 p2 XD DW3
    go_wp2
    go_loopw [14, 15, 16, 40] (fun dv sv ov jv wr => ∃ (j m : Nat) (Ad : Option Addr) (cd : Nat) (st : HSt) (la : List (Int × Int)), j ≤ s ∧ jv = .int .i64 j ∧ dv = .slice Ad (m + 1) cd ∧ sv = .int .i64 (st.2 : Int) ∧ Hid (st.1.length = m) ∧ m ≤ j ∧ Hid (OwnAnswers wr w3.heap.size ov j la) ∧ Hid (OwnDesks ov wr w3.heap.size (.slice Ad (m + 1) cd) (m + 1) (desksL ⟨P, ts⟩ roles k0 st.1)) ∧ Hid (HallOk st) ∧ Hid (Below w3.heap.size w3 wr) ∧ Hid (hrun ⟨P, ts⟩ roles k0 ([], 0) (os.take j) = (st, la))) (fun _ _ _ jv _ => s - (intOf jv).toNat)
    case atStart => exact ⟨0, 0, _, _, ([], 0), [], Nat.zero_le _, rfl, rfl, rfl, rfl, Nat.le_refl _, OwnSl.nil, OD, HallOk.start, D4, rfl⟩
    case round =>
      obtain ⟨j, m, Ad, cd, st, la, hj, rfl, rfl, rfl, HM, hmj, OV, OD, OK, BW, HR⟩ := hrel
      have BZ := hide2 (B1.out.trans (BW.out.mono B1.out.size))
      have DM := hide2 (runD_items ⟨P, ts⟩ roles k0 DOK.out HK0.out st.1)
      have hsm : st.2 ≤ m := by have := OK.out.sure; rw [HM.out] at this; exact this
      by_cases hlj : j < s
      · have hji : (j : Int) < (s : Int) := by omega
        obtain ⟨b, off, o, rfl, hb, hx, q0, q1, q2, q3, q4, q5, q6, WK⟩ := HOps.get (Sl.keep HOpR.kept X.out BZ.out) hlj
        have RT := hide2 (hrun_take hx.out HR.out)
        have hBr := hide2 (show w3.heap.size ≤ wr.heap.size from BW.out.size)
        clear hx
        go_upto_region 11 with fail
        generalize hwa : (wr.alloc (.cells #[.int .i64 o.kind, .int .i64 o.keep, .int .i64 o.op.kind, .int .i64 o.op.user, .int .i64 o.op.tran, .int .i64 o.op.item, .int .i64 o.op.to_] 189)).alloc (.cells #[.int .i64 0, .int .i64 0] 85) = wa
        have ha := hide2 (show Below wr.heap.size wr wa by rw [← hwa]; exact ((Below.refl _ _).alloc (Nat.le_refl _) _).alloc (by simp) _)
        have XO := hide2 (show Box wa wr.heap.size 189 #[.int .i64 o.kind, .int .i64 o.keep, .int .i64 o.op.kind, .int .i64 o.op.user, .int .i64 o.op.tran, .int .i64 o.op.item, .int .i64 o.op.to_] by rw [← hwa]; exact (Box.new _ _ _).old _)
        have XA := hide2 (show Box wa (wr.heap.size + 1) 85 #[.int .i64 0, .int .i64 0] by rw [← hwa]; exact Box.newAt (by simp) _ _)
        have k0c : wa.cell? ⟨wr.heap.size, 0, none⟩ = some (.int .i64 o.kind) := XO.out.cell 0
        clear hwa q0 q1 q2 q3 q4 q5 q6
        obtain ⟨kd, hkd⟩ : ∃ kd, o.kind = kd := ⟨_, rfl⟩
        rw [hkd] at k0c
        by_cases h1 : kd = 1
        · subst h1
          have HS := hide2 (hstep_1 (N := ⟨P, ts⟩) (roles := roles) (k0 := k0) (st := st) hkd)
          rw [HS.out] at RT
          have SOK0 := hide2 (show HallOk (hdo ⟨P, ts⟩ roles k0 st o.op).1 from HS.out ▸ hstep_ok o OK.out)
          have HE0 := hide2 (show (writeL o.op).2 ≠ 0 → hdo ⟨P, ts⟩ roles k0 st o.op = (st, ((writeL o.op).2, 0)) from fun hw => by rw [hdo, if_neg hw])
          have HE1 := hide2 (show (writeL o.op).2 = 0 → (stepD ⟨P, ts⟩ roles (runD ⟨P, ts⟩ roles k0 st.1).1 o.op).2.2 ≠ 0 → hdo ⟨P, ts⟩ roles k0 st o.op = (st, ((stepD ⟨P, ts⟩ roles (runD ⟨P, ts⟩ roles k0 st.1).1 o.op).2.2, (stepD ⟨P, ts⟩ roles (runD ⟨P, ts⟩ roles k0 st.1).1 o.op).2.1)) from fun hw he => by rw [hdo, if_pos hw, if_neg he])
          have HE2 := hide2 (show (writeL o.op).2 = 0 → (stepD ⟨P, ts⟩ roles (runD ⟨P, ts⟩ roles k0 st.1).1 o.op).2.2 = 0 → hdo ⟨P, ts⟩ roles k0 st o.op = ((st.1 ++ [o.op], st.2), (0, (stepD ⟨P, ts⟩ roles (runD ⟨P, ts⟩ roles k0 st.1).1 o.op).2.1)) from fun hw he => by rw [hdo, if_pos hw, if_pos he])
          generalize hdo ⟨P, ts⟩ roles k0 st o.op = HD at *
          have CW := hide2 (refWrite_calls (w := wa) o.op)
          obtain ⟨⟨bl, ew⟩, hbw⟩ : ∃ p, writeL o.op = p := ⟨_, rfl⟩
          rw [hbw] at CW HE0 HE1 HE2
          simp only at HE0 HE1 HE2
          have k2 : wa.cell? ⟨wr.heap.size, 2, none⟩ = some (.int .i64 o.op.kind) := XO.out.cell 2
          have k3 : wa.cell? ⟨wr.heap.size, 3, none⟩ = some (.int .i64 o.op.user) := XO.out.cell 3
          have k4 : wa.cell? ⟨wr.heap.size, 4, none⟩ = some (.int .i64 o.op.tran) := XO.out.cell 4
          have k5 : wa.cell? ⟨wr.heap.size, 5, none⟩ = some (.int .i64 o.op.item) := XO.out.cell 5
          have k6 : wa.cell? ⟨wr.heap.size, 6, none⟩ = some (.int .i64 o.op.to_) := XO.out.cell 6
          clear HS hkd hbw
          by_cases hew : ew = 0
          · subst hew
            have KX := hide2 (desksL_last ⟨P, ts⟩ roles k0 st.1)
            have SNO := hide2 (desksL_snoc ⟨P, ts⟩ roles k0 st.1 o.op)
            rw [HM.out] at KX DM
            generalize (runD ⟨P, ts⟩ roles k0 st.1).1 = kx at *
            obtain ⟨⟨sk, it, er⟩, hSD⟩ : ∃ p, stepD ⟨P, ts⟩ roles kx o.op = p := ⟨_, rfl⟩
            rw [hSD] at HE1 HE2 SNO
            simp only at HE1 HE2 SNO
            have DSM := hide2 (DM.out.1.small)
            have HSD := hide2 hSD
            clear hSD HE0
            go_upto_region 18 with (go_at_call 105; go_loud ((with_reducible refine CW.out.mono ?_); rintro e wb ⟨Ab, nb, cb, rfl, _, hb'⟩; have Bb := hide2 (ha.out.trans (hb'.mono ha.out.size)); have XOb := hide2 (XO.out.keep hb'); have XAb := hide2 (XA.out.keep hb'); clear hb' k0c k2 k3 k4 k5 k6))
            generalize hwd : wb.alloc (.cells #[.slice none 0 0, .slice none 0 0, .slice none 0 0] 78) = wd
            have hbd : Below wb.heap.size wb wd := by rw [← hwd]; exact (Below.refl _ _).alloc (Nat.le_refl _) _
            have XK := hide2 (show Box wd wb.heap.size 78 #[.slice none 0 0, .slice none 0 0, .slice none 0 0] by rw [← hwd]; exact Box.new _ _ _)
            have Bd := hide2 (Bb.out.trans (hbd.mono Bb.out.size))
            have XOd := hide2 (XOb.out.keep hbd)
            have XAd := hide2 (XAb.out.keep hbd)
            have b22 := hide2 (show wr.heap.size + 1 < wb.heap.size from XAb.out.lt)
            have b22d := hide2 (show wb.heap.size < wd.heap.size from XK.out.lt)
            have Z0d := hide2 ((Z0.out.keep BW.out).keep Bd.out)
            have BZd := hide2 (BZ.out.trans (Bd.out.mono BZ.out.size))
            have OLT := hide2 (show ∀ k, u16.ownBlock = some k → k < wd.heap.size from fun k hk => Nat.lt_of_lt_of_le (OV.out.lt k hk).2 Bd.out.size)
            obtain ⟨bd, offd, x, Bx, mx, dx, Dx, lx, ex, Ix, nx, cx, hAd, hbdl, hx, d0', d1', d2', DW0, FDx⟩ := Desks.get (ownAny OD.out (by omega)) (show m < m + 1 by omega)
            subst hAd
            obtain rfl : x = kx := by have h := hx.out; rw [KX.out] at h; injection h with h; exact h.symm
            have d0 := (Bd.out.cell (p := ⟨bd, offd + m * 3, none⟩) hbdl).trans d0'
            have d1 := (Bd.out.cell (p := ⟨bd, offd + m * 3 + 1, none⟩) hbdl).trans d1'
            have d2 := (Bd.out.cell (p := ⟨bd, offd + m * 3 + 2, none⟩) hbdl).trans d2'
            have DWx := hide2 (DW0.out.keep Bd.out)
            have HBD := hide2 (Nat.lt_of_lt_of_le hbdl Bd.out.size)
            have HBL := hide2 hbdl
            clear d0' d1' d2' hbdl
            have CQ := hide2 (fun (w' : World) (hb' : Below wd.heap.size wd w') => qdo_calls (P := P) (ts := ts) (roles := roles) o.op ((H.out.keep BZd.out).keep hb') (Sl.keep ListR.kept (Sl.keep ListR.kept G.out BZd.out) hb') (DWx.out.keep hb') (by have h1 := DSM.out.1; have h2 := DWx.out.busy.len; omega) (by have h1 := DM.out.2; have h2 := DWx.out.items.len; omega) DM.out.1.trans)
            rw [HSD.out] at CQ
            clear hwd hbd hx Bb XOb XAb CW
            generalize wb.heap.size = bt at *
            obtain ⟨a0, a1⟩ := Z0d.out.two
            have k2 : wd.cell? ⟨wr.heap.size, 2, none⟩ = some (.int .i64 o.op.kind) := XOd.out.cell 2
            have k3 : wd.cell? ⟨wr.heap.size, 3, none⟩ = some (.int .i64 o.op.user) := XOd.out.cell 3
            have k4 : wd.cell? ⟨wr.heap.size, 4, none⟩ = some (.int .i64 o.op.tran) := XOd.out.cell 4
            have k5 : wd.cell? ⟨wr.heap.size, 5, none⟩ = some (.int .i64 o.op.item) := XOd.out.cell 5
            have k6 : wd.cell? ⟨wr.heap.size, 6, none⟩ = some (.int .i64 o.op.to_) := XOd.out.cell 6
            have hmi : (m : Int) < (m : Int) + 1 := by omega
            have hwm : IntKind.i64.wrap (m : Int) = (m : Int) := by rw [IntKind.wrap_i64]; omega
            have hm0 : (0 : Int) ≤ (m : Int) := by omega
            have DR := hide2 ((Below.refl wd.heap.size wd).drew)
            have KEEP := hide2 (show ∀ w', Below wd.heap.size wd w' → w'.cell? ⟨w.heap.size, 0, none⟩ = some (.int .i64 P) ∧ w'.cell? ⟨w.heap.size, 1, none⟩ = some (.slice A n c) ∧ w'.cell? ⟨bd, offd + m * 3, none⟩ = some (.slice Bx mx dx) ∧ w'.cell? ⟨bd, offd + m * 3 + 1, none⟩ = some (.slice Dx lx ex) ∧ w'.cell? ⟨bd, offd + m * 3 + 2, none⟩ = some (.slice Ix nx cx) ∧ w'.cell? ⟨wr.heap.size, 2, none⟩ = some (.int .i64 o.op.kind) ∧ w'.cell? ⟨wr.heap.size, 3, none⟩ = some (.int .i64 o.op.user) ∧ w'.cell? ⟨wr.heap.size, 4, none⟩ = some (.int .i64 o.op.tran) ∧ w'.cell? ⟨wr.heap.size, 5, none⟩ = some (.int .i64 o.op.item) ∧ w'.cell? ⟨wr.heap.size, 6, none⟩ = some (.int .i64 o.op.to_) from fun w' hb' => ⟨(Z0d.out.keep hb').cell 0, (Z0d.out.keep hb').cell 1, (hb'.cell (p := ⟨bd, offd + m * 3, none⟩) HBD.out).trans d0, (hb'.cell (p := ⟨bd, offd + m * 3 + 1, none⟩) HBD.out).trans d1, (hb'.cell (p := ⟨bd, offd + m * 3 + 2, none⟩) HBD.out).trans d2, (XOd.out.keep hb').cell 2, (XOd.out.keep hb').cell 3, (XOd.out.keep hb').cell 4, (XOd.out.keep hb').cell 5, (XOd.out.keep hb').cell 6⟩)
            have nw := hide2 (show w.heap.size ≠ bt by have h1 := b22.out; have h2 := SB.out; have h3 := hBr.out; omega)
            have nd := hide2 (show bd ≠ bt by have h1 := b22.out; have h2 := HBL.out; omega)
            have nr := hide2 (show wr.heap.size ≠ bt by have h1 := b22.out; omega)
            have SKEEP := hide2 (show ∀ (w' : World) (x y z : Value), w'.cell? ⟨w.heap.size, 0, none⟩ = some (.int .i64 P) ∧ w'.cell? ⟨w.heap.size, 1, none⟩ = some (.slice A n c) ∧ w'.cell? ⟨bd, offd + m * 3, none⟩ = some (.slice Bx mx dx) ∧ w'.cell? ⟨bd, offd + m * 3 + 1, none⟩ = some (.slice Dx lx ex) ∧ w'.cell? ⟨bd, offd + m * 3 + 2, none⟩ = some (.slice Ix nx cx) ∧ w'.cell? ⟨wr.heap.size, 2, none⟩ = some (.int .i64 o.op.kind) ∧ w'.cell? ⟨wr.heap.size, 3, none⟩ = some (.int .i64 o.op.user) ∧ w'.cell? ⟨wr.heap.size, 4, none⟩ = some (.int .i64 o.op.tran) ∧ w'.cell? ⟨wr.heap.size, 5, none⟩ = some (.int .i64 o.op.item) ∧ w'.cell? ⟨wr.heap.size, 6, none⟩ = some (.int .i64 o.op.to_) → (((w'.setCell ⟨bt, 0, none⟩ x).setCell ⟨bt, 1, none⟩ y).setCell ⟨bt, 2, none⟩ z).cell? ⟨w.heap.size, 0, none⟩ = some (.int .i64 P) ∧ (((w'.setCell ⟨bt, 0, none⟩ x).setCell ⟨bt, 1, none⟩ y).setCell ⟨bt, 2, none⟩ z).cell? ⟨w.heap.size, 1, none⟩ = some (.slice A n c) ∧ (((w'.setCell ⟨bt, 0, none⟩ x).setCell ⟨bt, 1, none⟩ y).setCell ⟨bt, 2, none⟩ z).cell? ⟨bd, offd + m * 3, none⟩ = some (.slice Bx mx dx) ∧ (((w'.setCell ⟨bt, 0, none⟩ x).setCell ⟨bt, 1, none⟩ y).setCell ⟨bt, 2, none⟩ z).cell? ⟨bd, offd + m * 3 + 1, none⟩ = some (.slice Dx lx ex) ∧ (((w'.setCell ⟨bt, 0, none⟩ x).setCell ⟨bt, 1, none⟩ y).setCell ⟨bt, 2, none⟩ z).cell? ⟨bd, offd + m * 3 + 2, none⟩ = some (.slice Ix nx cx) ∧ (((w'.setCell ⟨bt, 0, none⟩ x).setCell ⟨bt, 1, none⟩ y).setCell ⟨bt, 2, none⟩ z).cell? ⟨wr.heap.size, 2, none⟩ = some (.int .i64 o.op.kind) ∧ (((w'.setCell ⟨bt, 0, none⟩ x).setCell ⟨bt, 1, none⟩ y).setCell ⟨bt, 2, none⟩ z).cell? ⟨wr.heap.size, 3, none⟩ = some (.int .i64 o.op.user) ∧ (((w'.setCell ⟨bt, 0, none⟩ x).setCell ⟨bt, 1, none⟩ y).setCell ⟨bt, 2, none⟩ z).cell? ⟨wr.heap.size, 4, none⟩ = some (.int .i64 o.op.tran) ∧ (((w'.setCell ⟨bt, 0, none⟩ x).setCell ⟨bt, 1, none⟩ y).setCell ⟨bt, 2, none⟩ z).cell? ⟨wr.heap.size, 5, none⟩ = some (.int .i64 o.op.item) ∧ (((w'.setCell ⟨bt, 0, none⟩ x).setCell ⟨bt, 1, none⟩ y).setCell ⟨bt, 2, none⟩ z).cell? ⟨wr.heap.size, 6, none⟩ = some (.int .i64 o.op.to_) from fun w' x y z ⟨s0, s1, s2, s3, s4, s5, s6, s7, s8, s9⟩ => ⟨(cellOther3 w' nw.out _ x y z).trans s0, (cellOther3 w' nw.out _ x y z).trans s1, (cellOther3 w' nd.out _ x y z).trans s2, (cellOther3 w' nd.out _ x y z).trans s3, (cellOther3 w' nd.out _ x y z).trans s4, (cellOther3 w' nr.out _ x y z).trans s5, (cellOther3 w' nr.out _ x y z).trans s6, (cellOther3 w' nr.out _ x y z).trans s7, (cellOther3 w' nr.out _ x y z).trans s8, (cellOther3 w' nr.out _ x y z).trans s9⟩)
            refine wp_region_scr 15 (.takes [0, 1, 2, 3, 4, 5] (.takes [6, 7, 8, 9] (.one 10 (.takes [11, 12, 13] (.one 14 (.fin 15 .done)))))) (fun w' => w'.cell? ⟨w.heap.size, 0, none⟩ = some (.int .i64 P) ∧ w'.cell? ⟨w.heap.size, 1, none⟩ = some (.slice A n c) ∧ w'.cell? ⟨bd, offd + m * 3, none⟩ = some (.slice Bx mx dx) ∧ w'.cell? ⟨bd, offd + m * 3 + 1, none⟩ = some (.slice Dx lx ex) ∧ w'.cell? ⟨bd, offd + m * 3 + 2, none⟩ = some (.slice Ix nx cx) ∧ w'.cell? ⟨wr.heap.size, 2, none⟩ = some (.int .i64 o.op.kind) ∧ w'.cell? ⟨wr.heap.size, 3, none⟩ = some (.int .i64 o.op.user) ∧ w'.cell? ⟨wr.heap.size, 4, none⟩ = some (.int .i64 o.op.tran) ∧ w'.cell? ⟨wr.heap.size, 5, none⟩ = some (.int .i64 o.op.item) ∧ w'.cell? ⟨wr.heap.size, 6, none⟩ = some (.int .i64 o.op.to_)) (by kernel_rfl) (by kernel_rfl) (by kernel_rfl) (fun _ _ _ _ _ h => h) (KEEP.out _ DR.out) (fun hHeld => ?_)
            simp only [Scr.takes]
            generalize wd.drew = u0 at *
            iterate 6
              refine tkTake (v := ?_) rfl (by rfl) hHeld (fun w' hSw => ?_) ?_
              rotate_left
              · (go_simp; try with_reducible rfl)
              try simp only [Act.put, List.setIfInBounds_toArray, List.set_cons_zero, List.set_cons_succ]
            try rw [hwm]
            iterate 4
              refine tkTake (v := ?_) rfl (by rfl) hHeld (fun w' hSw => ?_) ?_
              rotate_left
              · (go_simp; try with_reducible rfl)
              try simp only [Act.put, List.setIfInBounds_toArray, List.set_cons_zero, List.set_cons_succ]
            refine tkOne rfl (fun Kf hKf => ?_)
            go_simp; go_at_call 106
            (with_reducible refine (CQ.out _ DR.out).mono ?_)
            rintro e wz ⟨B', m', d', D', l', f', I', n', c', rfl, dw, hbz, o1, o2, o3⟩
            have DWz := hide2 dw
            have Fz := hide2 (DR.out.trans (hbz.mono DR.out.size))
            have O1 := hide2 (o1.down DR.out.size)
            have O2 := hide2 (o2.down DR.out.size)
            have O3 := hide2 (o3.down DR.out.size)
            clear dw hbz o1 o2 o3 d0 d1 d2 k2 k3 k4 k5 k6 a0 a1 hwm
            refine hKf.out _ _ (KEEP.out wz Fz.out) (fun hHeld => ?_)
            clear hKf
            obtain ⟨y0, y1, y2⟩ := (XK.out.keep Fz.out).three
            obtain ⟨z0, z1⟩ := (XAd.out.keep Fz.out).two
            have g0 := (XK.out.keep Fz.out).frozen 0
            have g1 := (XK.out.keep Fz.out).frozen 1
            have g2 := (XK.out.keep Fz.out).frozen 2
            have g3 := (XAd.out.keep Fz.out).frozen 0
            have g4 := (XAd.out.keep Fz.out).frozen 1
            have hn1 : bt ≠ wr.heap.size + 1 := by have := b22.out; omega
            have hn2 : wr.heap.size + 1 ≠ bt := by have := b22.out; omega
            iterate 3
              refine tkTake (v := ?_) rfl (by rfl) hHeld (fun w' hSw => ?_) ?_
              rotate_left
              · (go_simp; try with_reducible rfl)
              try simp only [Act.put, List.setIfInBounds_toArray, List.set_cons_zero, List.set_cons_succ]
            refine tkOne rfl (fun Kf hKf => ?_)
            go_simp
            refine hKf.out _ _ (SKEEP.out wz _ _ _ (KEEP.out wz Fz.out)) (fun hHeld => ?_)
            clear hKf
            try simp only [Act.put, List.setIfInBounds_toArray, List.set_cons_zero, List.set_cons_succ]
            refine tkEnd rfl (fun Kf hKf => ?_)
            go_simp
            refine hKf.out _ _ ?_
            clear hKf
            try simp only [Act.put, List.setIfInBounds_toArray, List.set_cons_zero, List.set_cons_succ]
            refine tkDone ?_
            clear hHeld y0 y1 y2 z0 z1 g0 g1 g2 g3 g4
            have bw := hide2 (show wr.heap.size ≤ bt by have := b22.out; omega)
            have fb1 := hide2 (Old.far O1.out DW0.out.mark bw.out b22d.out)
            have fb2 := hide2 (Old.far O2.out DW0.out.busy bw.out b22d.out)
            have fb3 := hide2 (Old.far O3.out DW0.out.items bw.out b22d.out)
            have a18 := hide2 (show wr.heap.size + 1 < wd.heap.size by have h1 := b22.out; have h2 := b22d.out; omega)
            have fa1 := hide2 (Old.far O1.out DW0.out.mark (show wr.heap.size ≤ wr.heap.size + 1 by omega) a18.out)
            have fa2 := hide2 (Old.far O2.out DW0.out.busy (show wr.heap.size ≤ wr.heap.size + 1 by omega) a18.out)
            have fa3 := hide2 (Old.far O3.out DW0.out.items (show wr.heap.size ≤ wr.heap.size + 1 by omega) a18.out)
            have DWf := hide2 (show DeskW (((((wz.setCell ⟨bt, 0, none⟩ (.slice B' m' d')).setCell ⟨bt, 1, none⟩ (.slice D' l' f')).setCell ⟨bt, 2, none⟩ (.slice I' n' c')).setCell ⟨wr.heap.size + 1, 0, none⟩ (.int .i64 er)).setCell ⟨wr.heap.size + 1, 1, none⟩ (.int .i64 it)) B' m' d' D' l' f' I' n' c' sk from ((((DWz.out.set fb1.out fb2.out fb3.out).set fb1.out fb2.out fb3.out).set fb1.out fb2.out fb3.out).set fa1.out fa2.out fa3.out).set fa1.out fa2.out fa3.out)
            have FDn := hide2 (FDx.out.step OLT.out O1.out O2.out O3.out)
            have XKz := (XK.out.keep Fz.out).set3 (.slice B' m' d') (.slice D' l' f') (.slice I' n' c')
            have XKf := hide2 ((XKz.other (a := ⟨wr.heap.size + 1, 0, none⟩) (.int .i64 er) hn1).other (a := ⟨wr.heap.size + 1, 1, none⟩) (.int .i64 it) hn1)
            have XAz := (((XAd.out.keep Fz.out).other (a := ⟨bt, 0, none⟩) (.slice B' m' d') hn2).other (a := ⟨bt, 1, none⟩) (.slice D' l' f') hn2).other (a := ⟨bt, 2, none⟩) (.slice I' n' c') hn2
            have XAf := hide2 (XAz.set2 (.int .i64 er) (.int .i64 it))
            have BWf := hide2 (below_setAt (below_setAt (below_setAt (below_setAt (below_setAt (Bd.out.trans (Fz.out.mono Bd.out.size)) (Nat.le_refl _) bw.out 0 (.slice B' m' d')) (Nat.le_refl _) bw.out 1 (.slice D' l' f')) (Nat.le_refl _) bw.out 2 (.slice I' n' c')) (Nat.le_refl _) (show wr.heap.size ≤ wr.heap.size + 1 by omega) 0 (.int .i64 er)) (Nat.le_refl _) (show wr.heap.size ≤ wr.heap.size + 1 by omega) 1 (.int .i64 it))
            generalize (((((wz.setCell ⟨bt, 0, none⟩ (.slice B' m' d')).setCell ⟨bt, 1, none⟩ (.slice D' l' f')).setCell ⟨bt, 2, none⟩ (.slice I' n' c')).setCell ⟨wr.heap.size + 1, 0, none⟩ (.int .i64 er)).setCell ⟨wr.heap.size + 1, 1, none⟩ (.int .i64 it)) = wf at *
            clear XKz XAz hn1 hn2 fb1 fb2 fb3 fa1 fa2 fa3 O1 O2 O3 DWz Fz FDx DW0 DWx KEEP SKEEP XOd XAd XK Z0d BZd HBD HBL nw nd nr CQ DR Bd
            obtain ⟨e0, e1⟩ := XAf.out.two
            by_cases her : er = 0
            · subst her
              have HF := hide2 (HE2.out (by first | rfl | trivial) (by first | rfl | trivial))
              have SOK := hide2 (show HallOk (st.1 ++ [o.op], st.2) by have h := SOK0.out; rw [HF.out] at h; exact h)
              rw [HF.out] at RT
              have HM1 := hide2 (show (st.1 ++ [o.op], st.2).1.length = m + 1 by show (st.1 ++ [o.op]).length = m + 1; rw [List.length_append, HM.out]; rfl)
              go_upto_region 20 with fail
              have XK9 := hide2 XKf.out.drew
              have XA9 := hide2 XAf.out.drew
              have B9 := hide2 BWf.out.drew
              have DW9 := hide2 (show DeskW wf.drew B' m' d' D' l' f' I' n' c' sk from DWf.out.keep ⟨rfl, rfl, rfl, Nat.le_refl _, fun _ _ => rfl⟩)
              have SD := hide2 (Desks.to0 (ownAny (OD.out.keep (DeskR.kept _) B9.out) (by omega)) (Below.refl _ _))
              obtain ⟨y0, y1, y2⟩ := XK9.out.three
              clear e0 e1 XKf XAf BWf DWf
              refine wp_region_scr 6 (.takes [1, 3] (.two 0 (.two 2 (.one 4 (.one 5 (.fin 6 .done))) 4 (.one 2 (.one 5 (.fin 6 .done)))) 4 (.one 0 (.one 2 (.one 5 (.fin 6 .done)))))) (fun w' => w'.cell? ⟨bt, 0, none⟩ = some (.slice B' m' d') ∧ w'.cell? ⟨bt, 1, none⟩ = some (.slice D' l' f') ∧ w'.cell? ⟨bt, 2, none⟩ = some (.slice I' n' c')) (by kernel_rfl) (by kernel_rfl) (by kernel_rfl) (fun _ _ _ _ _ h => h) ⟨y0, y1, y2⟩ (fun hHeld => ?_)
              simp only [Scr.takes]
              generalize wf.drew = u9 at *
              iterate 2
                refine tkTake (v := ?_) rfl (by rfl) hHeld (fun w' hSw => ?_) ?_
                rotate_left
                · (go_simp; try with_reducible rfl)
                try simp only [Act.put, List.setIfInBounds_toArray, List.set_cons_zero, List.set_cons_succ]
              have B00 := hide2 (Below.refl u9.heap.size u9)
              refine scrMeet (.fin 6 .done) (fun a0 a' w' => ∃ (v77 v79 v81 : Value) (A' : Option Addr) (c9 : Nat), a' = ((((a0.put (some 77) v77).put (some 79) v79).put (some 81) v81).put (some 82) (.slice A' (m + 1 + 1) c9)) ∧ Hid (OwnSl (DeskR0 u16 u9) 3 w' u9.heap.size 78 (.slice A' (m + 1 + 1) c9) (m + 1 + 1) (desksL ⟨P, ts⟩ roles k0 st.1 ++ [sk])) ∧ Hid (Below u9.heap.size u9 w')) ?_ (fun EN => ?_)
              rotate_left
              · refine tkTwo rfl rfl (fun Kf hKf => ?_) (fun Kf hKf => ?_)
                · go_simp
                  have Bu10 := hide2 (B00.out.alloc B00.out.size (.cells #[] 78))
                  have Eu10 := hide2 (OwnSl.empty (R := DeskR0 u16 u9) (sz := 3) (w := u9) (B := u9.heap.size) (e := 78) B00.out.size)
                  refine hKf.out _ _ (XK9.out.keep Bu10.out).three (fun hHeld => ?_)
                  clear hKf
                  try simp only [Act.put, List.setIfInBounds_toArray, List.set_cons_zero, List.set_cons_succ]
                  have NE10 := hide2 (show u9.heap.size < (u9.alloc (.cells #[] 78)).heap.size by simp)
                  generalize u9.alloc (.cells #[] 78) = u10 at *
                  refine tkTwo rfl rfl (fun Kf hKf => ?_) (fun Kf hKf => ?_)
                  · refine step_appAnyH tyDesks (DeskR0.good u16 u9) rfl (.tmp 77) (.tmp 78) rfl rfl rfl Eu10.out (Sl.keep (DeskR0.kept _ _) SD.out Bu10.out) Bu10.out.size (by omega) (by omega) (fun _ _ _ _ h => h) Bu10.out (Nat.le_refl _) ?_
                    intro v79 u11 own hg hb _
                    replace hg : u10.grownBy u11 (some u9.heap.size) := hg
                    rw [Nat.zero_add, List.nil_append] at own
                    obtain ⟨Aq, cq, hvq, _⟩ := own.sl (by omega)
                    subst hvq
                    have Vu11 := hide2 own
                    have Bu11 := hide2 hb
                    clear own hg hb
                    refine hKf.out _ _ (XK9.out.keep Bu11.out).three (fun hHeld => ?_)
                    clear hKf
                    try simp only [Act.put, List.setIfInBounds_toArray, List.set_cons_zero, List.set_cons_succ]
                    refine tkOne rfl (fun Kf hKf => ?_)
                    go_simp
                    have Bu12 := hide2 (Bu11.out.alloc Bu11.out.size (.cells #[.slice B' m' d', .slice D' l' f', .slice I' n' c'] 78))
                    have Wu12 := hide2 (show OwnSl (DeskR0 u16 u9) 3 (u11.alloc (.cells #[.slice B' m' d', .slice D' l' f', .slice I' n' c'] 78)) u9.heap.size 78 (.slice (some ⟨u11.heap.size, 0, none⟩) 1 1) 1 [sk] from OwnSl.row Bu11.out.size rfl (by decide) (Reads.desk0 DW9.out FDn.out) rfl)
                    have Vu12 := hide2 (OwnSl.keep (DeskR0.kept _ _) Vu11.out ((Below.refl u11.heap.size u11).alloc (Nat.le_refl _) (.cells #[.slice B' m' d', .slice D' l' f', .slice I' n' c'] 78)))
                    refine hKf.out _ _ (XK9.out.keep Bu12.out).three (fun hHeld => ?_)
                    clear hKf
                    try simp only [Act.put, List.setIfInBounds_toArray, List.set_cons_zero, List.set_cons_succ]
                    generalize u11.alloc (.cells #[.slice B' m' d', .slice D' l' f', .slice I' n' c'] 78) = u12 at *
                    refine tkOne rfl (fun Kf hKf => ?_)
                    refine step_appAnyH tyDesks (DeskR0.good u16 u9) rfl (.tmp 79) (.tmp 81) rfl rfl rfl Vu12.out (ownAny Wu12.out (by omega)) Bu12.out.size (by omega) (by omega) (fun _ _ _ _ h => h) Bu12.out (Nat.le_refl _) ?_
                    intro v82 u13 own hg hb _
                    obtain ⟨A', c9, hvq, _⟩ := own.sl (by omega)
                    subst hvq
                    have Vu13 := hide2 own
                    have Bu13 := hide2 hb
                    clear own hg hb
                    refine hKf.out _ _ (XK9.out.keep Bu13.out).three (fun hHeld => ?_)
                    clear hKf
                    try simp only [Act.put, List.setIfInBounds_toArray, List.set_cons_zero, List.set_cons_succ]
                    exact EN.out _ _ ⟨_, _, _, A', c9, rfl, Vu13, Bu13⟩ hHeld
                  · go_simp
                    have Bu11 := hide2 (Bu10.out.alloc Bu10.out.size (.cells #[.slice B' m' d', .slice D' l' f', .slice I' n' c'] 78))
                    have Wu11 := hide2 (show OwnSl (DeskR0 u16 u9) 3 (u10.alloc (.cells #[.slice B' m' d', .slice D' l' f', .slice I' n' c'] 78)) u9.heap.size 78 (.slice (some ⟨u10.heap.size, 0, none⟩) 1 1) 1 [sk] from OwnSl.row Bu10.out.size rfl (by decide) (Reads.desk0 DW9.out FDn.out) rfl)
                    have Eu11 := hide2 (OwnSl.keep (DeskR0.kept _ _) Eu10.out ((Below.refl u10.heap.size u10).alloc (Nat.le_refl _) (.cells #[.slice B' m' d', .slice D' l' f', .slice I' n' c'] 78)))
                    refine hKf.out _ _ (XK9.out.keep Bu11.out).three (fun hHeld => ?_)
                    clear hKf
                    try simp only [Act.put, List.setIfInBounds_toArray, List.set_cons_zero, List.set_cons_succ]
                    have hrow := hide2 (show (Value.slice (some ⟨u10.heap.size, 0, none⟩) 1 1).ownBlock = some u10.heap.size from rfl)
                    generalize u10.alloc (.cells #[.slice B' m' d', .slice D' l' f', .slice I' n' c'] 78) = u11 at *
                    refine tkOne rfl (fun Kf hKf => ?_)
                    refine step_appAnyH tyDesks (DeskR0.good u16 u9) rfl (.tmp 77) (.tmp 78) rfl rfl rfl Eu11.out (Sl.keep (DeskR0.kept _ _) SD.out Bu11.out) Bu11.out.size (by omega) (by omega) (fun _ _ _ _ h => h) Bu11.out (Nat.le_refl _) ?_
                    intro v79 u12 own hg hb _
                    replace hg : u11.grownBy u12 (some u9.heap.size) := hg
                    rw [Nat.zero_add, List.nil_append] at own
                    obtain ⟨Aq, cq, hvq, _⟩ := own.sl (by omega)
                    subst hvq
                    have Vu12 := hide2 own
                    have Bu12 := hide2 hb
                    have Wu12 := hide2 (OwnSl.kept Wu11.out hg (.inr (fun e => by have h1 : u10.heap.size = u9.heap.size := (by injection e); have h2 := Bu10.out.size; have h3 := NE10.out; omega)) (fun _ _ h => h))
                    clear own hg hb
                    refine hKf.out _ _ (XK9.out.keep Bu12.out).three (fun hHeld => ?_)
                    clear hKf
                    try simp only [Act.put, List.setIfInBounds_toArray, List.set_cons_zero, List.set_cons_succ]
                    refine tkOne rfl (fun Kf hKf => ?_)
                    refine step_appAnyH tyDesks (DeskR0.good u16 u9) rfl (.tmp 79) (.tmp 81) rfl rfl rfl Vu12.out (ownAny Wu12.out (by omega)) Bu12.out.size (by omega) (by omega) (fun _ _ _ _ h => h) Bu12.out (Nat.le_refl _) ?_
                    intro v82 u13 own hg hb _
                    obtain ⟨A', c9, hvq, _⟩ := own.sl (by omega)
                    subst hvq
                    have Vu13 := hide2 own
                    have Bu13 := hide2 hb
                    clear own hg hb
                    refine hKf.out _ _ (XK9.out.keep Bu13.out).three (fun hHeld => ?_)
                    clear hKf
                    try simp only [Act.put, List.setIfInBounds_toArray, List.set_cons_zero, List.set_cons_succ]
                    exact EN.out _ _ ⟨_, _, _, A', c9, rfl, Vu13, Bu13⟩ hHeld
                · go_simp
                  have Bu10 := hide2 (B00.out.alloc B00.out.size (.cells #[.slice B' m' d', .slice D' l' f', .slice I' n' c'] 78))
                  have Wu10 := hide2 (show OwnSl (DeskR0 u16 u9) 3 (u9.alloc (.cells #[.slice B' m' d', .slice D' l' f', .slice I' n' c'] 78)) u9.heap.size 78 (.slice (some ⟨u9.heap.size, 0, none⟩) 1 1) 1 [sk] from OwnSl.row B00.out.size rfl (by decide) (Reads.desk0 DW9.out FDn.out) rfl)
                  refine hKf.out _ _ (XK9.out.keep Bu10.out).three (fun hHeld => ?_)
                  clear hKf
                  try simp only [Act.put, List.setIfInBounds_toArray, List.set_cons_zero, List.set_cons_succ]
                  have NE10 := hide2 (show u9.heap.size < (u9.alloc (.cells #[.slice B' m' d', .slice D' l' f', .slice I' n' c'] 78)).heap.size by simp)
                  generalize u9.alloc (.cells #[.slice B' m' d', .slice D' l' f', .slice I' n' c'] 78) = u10 at *
                  refine tkOne rfl (fun Kf hKf => ?_)
                  go_simp
                  have Bu11 := hide2 (Bu10.out.alloc Bu10.out.size (.cells #[] 78))
                  have Eu11 := hide2 (OwnSl.empty (R := DeskR0 u16 u9) (sz := 3) (w := u10) (B := u9.heap.size) (e := 78) Bu10.out.size)
                  have Wu11 := hide2 (OwnSl.keep (DeskR0.kept _ _) Wu10.out ((Below.refl u10.heap.size u10).alloc (Nat.le_refl _) (.cells #[] 78)))
                  refine hKf.out _ _ (XK9.out.keep Bu11.out).three (fun hHeld => ?_)
                  clear hKf
                  try simp only [Act.put, List.setIfInBounds_toArray, List.set_cons_zero, List.set_cons_succ]
                  generalize u10.alloc (.cells #[] 78) = u11 at *
                  refine tkOne rfl (fun Kf hKf => ?_)
                  refine step_appAnyH tyDesks (DeskR0.good u16 u9) rfl (.tmp 77) (.tmp 78) rfl rfl rfl Eu11.out (Sl.keep (DeskR0.kept _ _) SD.out Bu11.out) Bu11.out.size (by omega) (by omega) (fun _ _ _ _ h => h) Bu11.out (Nat.le_refl _) ?_
                  intro v79 u12 own hg hb _
                  replace hg : u11.grownBy u12 (some u10.heap.size) := hg
                  rw [Nat.zero_add, List.nil_append] at own
                  obtain ⟨Aq, cq, hvq, _⟩ := own.sl (by omega)
                  subst hvq
                  have Vu12 := hide2 own
                  have Bu12 := hide2 hb
                  have Wu12 := hide2 (OwnSl.kept Wu11.out hg (.inr (fun e => by have h1 : u9.heap.size = u10.heap.size := (by injection e); have h3 := NE10.out; omega)) (fun _ _ h => h))
                  clear own hg hb
                  refine hKf.out _ _ (XK9.out.keep Bu12.out).three (fun hHeld => ?_)
                  clear hKf
                  try simp only [Act.put, List.setIfInBounds_toArray, List.set_cons_zero, List.set_cons_succ]
                  refine tkOne rfl (fun Kf hKf => ?_)
                  refine step_appAnyH tyDesks (DeskR0.good u16 u9) rfl (.tmp 79) (.tmp 81) rfl rfl rfl Vu12.out (ownAny Wu12.out (by omega)) Bu12.out.size (by omega) (by omega) (fun _ _ _ _ h => h) Bu12.out (Nat.le_refl _) ?_
                  intro v82 u13 own hg hb _
                  obtain ⟨A', c9, hvq, _⟩ := own.sl (by omega)
                  subst hvq
                  have Vu13 := hide2 own
                  have Bu13 := hide2 hb
                  clear own hg hb
                  refine hKf.out _ _ (XK9.out.keep Bu13.out).three (fun hHeld => ?_)
                  clear hKf
                  try simp only [Act.put, List.setIfInBounds_toArray, List.set_cons_zero, List.set_cons_succ]
                  exact EN.out _ _ ⟨_, _, _, A', c9, rfl, Vu13, Bu13⟩ hHeld
              rintro a' wc ⟨v77, v79, v81, A', c9, rfl, VC, BC⟩ hHeld
              try simp only [Act.put, List.setIfInBounds_toArray, List.set_cons_zero, List.set_cons_succ]
              refine tkEnd rfl (fun Kf hKf => ?_)
              go_simp
              refine hKf.out _ _ ?_
              clear hKf
              try simp only [Act.put, List.setIfInBounds_toArray, List.set_cons_zero, List.set_cons_succ]
              refine tkDone ?_
              clear hHeld y0 y1 y2
              have ODC := hide2 (show OwnDesks u16 wc w3.heap.size (.slice A' (m + 1 + 1) c9) (m + 1 + 1) (desksL ⟨P, ts⟩ roles k0 (st.1 ++ [o.op])) by
                rw [SNO.out]
                exact (OwnSl.reR VC.out (fun vs x hx => DeskR.kept _ _ _ vs x BC.out hx)).base (Nat.le_trans hBr.out B9.out.size))
              have BWc := hide2 (B9.out.trans (BC.out.mono B9.out.size))
              have XAc := hide2 (XA9.out.keep BC.out)
              clear VC BC XA9 B9 XK9 SD DW9
              obtain ⟨e0, e1⟩ := XAc.out.two
              have OVc := hide2 (OV.out.keep AnsR.kept BWc.out)
              have ODc := hide2 (ODC.out)
              have Bc := hide2 (BW.out.trans (BWc.out.mono hBr.out))
              go_wp2_with (at_builtin; go_loud (refine wpList_appLies tyAnswers rfl _ _ rfl [(0, it)] #[.int .i64 0, .int .i64 it] rfl rfl (by first | rfl | simp) rfl (by omega) (by simp [Value.oneCell']) OVc.out Reads.ans rfl Bc.out Bc.out.size (by omega) (by omega) (fun _ _ _ _ h => h) ?_; intro g' cap w5 own5 hg5 hb5 lies5; have O5 := hide2 own5; have OD5 := hide2 (OwnDesks.answer (k := j + 1) (cap := cap) ODc.out OVc.out hg5 lies5); have B5 := hide2 hb5; clear own5 hg5 hb5 lies5))
              go_roundw
              case rel => exact ⟨j + 1, m + 1, _, _, (st.1 ++ [o.op], st.2), la ++ [(0, it)], by omega, by go_num, rfl, rfl, HM1, by omega, O5, OD5, SOK, B5, RT⟩
              case measure => simp [intOf]; omega
            · have HF := hide2 (HE1.out (by first | rfl | trivial) her)
              have SOK := hide2 (show HallOk st from OK.out)
              rw [HF.out] at RT
              go_upto_region 27 with fail
              have BWc := BWf
              have XAc := XAf
              clear e0 e1
              obtain ⟨e0, e1⟩ := XAc.out.two
              have OVc := hide2 (OV.out.keep AnsR.kept BWc.out)
              have ODc := hide2 (OD.out.keep (DeskR.kept _) BWc.out)
              have Bc := hide2 (BW.out.trans (BWc.out.mono hBr.out))
              go_wp2_with (at_builtin; go_loud (refine wpList_appLies tyAnswers rfl _ _ rfl [(er, it)] #[.int .i64 er, .int .i64 it] rfl rfl (by first | rfl | simp) rfl (by omega) (by simp [Value.oneCell']) OVc.out Reads.ans rfl Bc.out Bc.out.size (by omega) (by omega) (fun _ _ _ _ h => h) ?_; intro g' cap w5 own5 hg5 hb5 lies5; have O5 := hide2 own5; have OD5 := hide2 (OwnDesks.answer (k := j + 1) (cap := cap) ODc.out OVc.out hg5 lies5); have B5 := hide2 hb5; clear own5 hg5 hb5 lies5))
              go_roundw
              case rel => exact ⟨j + 1, m, _, _, st, la ++ [(er, it)], by omega, by go_num, rfl, rfl, HM, by omega, O5, OD5, SOK, B5, RT⟩
              case measure => simp [intOf]; omega
          · have HF := hide2 (HE0.out hew)
            have SOK := hide2 (show HallOk st from OK.out)
            rw [HF.out] at RT
            go_upto_region 27 with (go_at_call 105; go_loud ((with_reducible refine CW.out.mono ?_); rintro e wb ⟨Ab, nb, cb, rfl, _, hb'⟩; have Bb := hide2 (ha.out.trans (hb'.mono ha.out.size)); have XAb := hide2 (XA.out.keep hb'); clear hb' k0c k2 k3 k4 k5 k6; obtain ⟨z0, z1⟩ := XAb.out.two; have f0 := XAb.out.frozen 0))
            have XAc := hide2 (show Box (wb.setCell ⟨wr.heap.size + 1, 0, none⟩ (.int .i64 ew)) (wr.heap.size + 1) 85 #[.int .i64 ew, .int .i64 0] by simpa using XAb.out.set 0 (.int .i64 ew))
            have BWc := hide2 (below_setAt Bb.out (Nat.le_refl _) (show wr.heap.size ≤ wr.heap.size + 1 by omega) 0 (.int .i64 ew))
            generalize wb.setCell ⟨wr.heap.size + 1, 0, none⟩ (.int .i64 ew) = wc at *
            clear z0 z1 f0 XAb Bb
            obtain ⟨e0, e1⟩ := XAc.out.two
            have OVc := hide2 (OV.out.keep AnsR.kept BWc.out)
            have ODc := hide2 (OD.out.keep (DeskR.kept _) BWc.out)
            have Bc := hide2 (BW.out.trans (BWc.out.mono hBr.out))
            go_wp2_with (at_builtin; go_loud (refine wpList_appLies tyAnswers rfl _ _ rfl [(ew, 0)] #[.int .i64 ew, .int .i64 0] rfl rfl (by first | rfl | simp) rfl (by omega) (by simp [Value.oneCell']) OVc.out Reads.ans rfl Bc.out Bc.out.size (by omega) (by omega) (fun _ _ _ _ h => h) ?_; intro g' cap w5 own5 hg5 hb5 lies5; have O5 := hide2 own5; have OD5 := hide2 (OwnDesks.answer (k := j + 1) (cap := cap) ODc.out OVc.out hg5 lies5); have B5 := hide2 hb5; clear own5 hg5 hb5 lies5))
            go_roundw
            case rel => exact ⟨j + 1, m, _, _, st, la ++ [(ew, 0)], by omega, by go_num, rfl, rfl, HM, by omega, O5, OD5, SOK, B5, RT⟩
            case measure => simp [intOf]; omega
        · by_cases h2 : kd = 2
          · subst h2
            have HS := hide2 (hstep_2 (N := ⟨P, ts⟩) (roles := roles) (k0 := k0) (st := st) hkd)
            rw [HS.out] at RT
            clear HS hkd
            go_upto_region 27 with fail
            have BWc := ha
            have XAc := XA
            have SOK := hide2 OK.out.all
            clear k0c
            obtain ⟨e0, e1⟩ := XAc.out.two
            have OVc := hide2 (OV.out.keep AnsR.kept BWc.out)
            have ODc := hide2 (OD.out.keep (DeskR.kept _) BWc.out)
            have Bc := hide2 (BW.out.trans (BWc.out.mono hBr.out))
            go_wp2_with (at_builtin; go_loud (refine wpList_appLies tyAnswers rfl _ _ rfl [(0, 0)] #[.int .i64 0, .int .i64 0] rfl rfl (by first | rfl | simp) rfl (by omega) (by simp [Value.oneCell']) OVc.out Reads.ans rfl Bc.out Bc.out.size (by omega) (by omega) (fun _ _ _ _ h => h) ?_; intro g' cap w5 own5 hg5 hb5 lies5; have O5 := hide2 own5; have OD5 := hide2 (OwnDesks.answer (k := j + 1) (cap := cap) ODc.out OVc.out hg5 lies5); have B5 := hide2 hb5; clear own5 hg5 hb5 lies5))
            go_roundw
            case rel => exact ⟨j + 1, m, _, _, (st.1, st.1.length), la ++ [(0, 0)], by omega, by go_num, rfl, (by show Value.int .i64 (m : Int) = .int .i64 ((st.1.length : Nat) : Int); rw [HM.out]), HM, by omega, O5, OD5, SOK, B5, RT⟩
            case measure => simp [intOf]; omega
          · by_cases h3 : kd = 3
            · subst h3
              have HS := hide2 (hstep_3 (N := ⟨P, ts⟩) (roles := roles) (k0 := k0) (st := st) hkd)
              rw [HS.out] at RT
              clear HS hkd
              obtain ⟨Mn, hMn⟩ : ∃ Mn : Nat, max o.keep 0 = (Mn : Int) := ⟨(max o.keep 0).toNat, by omega⟩
              have hkb : o.keep ≤ 9223372036854775807 := by
                have h : -9223372036854775808 ≤ o.keep ∧ o.keep ≤ 9223372036854775807 := by simpa [Lit.wf, IntKind.min, IntKind.max, IntKind.signed, IntKind.bits] using WK.out
                exact h.2
              have hMb : (Mn : Int) ≤ 9223372036854775807 := by omega
              have SOK := hide2 (OK.out.cut o.keep)
              have k1 : wa.cell? ⟨wr.heap.size, 1, none⟩ = some (.int .i64 o.keep) := XO.out.cell 1
              have hcm : m + 1 ≤ cd := (ownAny OD.out (by omega)).le
              obtain ⟨lf, hlf⟩ : ∃ lf, leftN st o.keep = lf := ⟨_, rfl⟩
              have HLF := hide2 (show lf = min (Mn / 7) (m - st.2) by rw [← hlf, leftN, hMn, HM.out]; rfl)
              have hlfm : st.2 + lf ≤ m := by rw [HLF.out]; omega
              rw [hlf] at RT SOK
              have WQ := hide2 (show wrap64 ((st.2 : Int) + min (wrap64 ((Mn : Int) / 7)) ((m : Int) - (st.2 : Int))) = ((st.2 + lf : Nat) : Int) by
                have h1 : wrap64 ((Mn : Int) / 7) = (Mn : Int) / 7 := by unfold wrap64; omega
                rw [h1, HLF.out]
                unfold wrap64
                omega)
              clear hlf hkb hMb
              obtain ⟨gd, hgd⟩ : ∃ gd, Ad = some ⟨gd, 0, none⟩ := by
                rcases ownCase OD.out with ⟨_, h⟩ | ⟨g, cap, hv⟩
                · omega
                · injection hv with e1; exact ⟨g, e1⟩
              subst hgd
              go_upto_region 26 with fail
              rw [WQ.out]
              obtain ⟨ns, hns⟩ : ∃ ns, st.2 + lf = ns := ⟨_, rfl⟩
              rw [hns] at RT SOK hlfm ⊢
              have hnsi : (ns : Int) ≤ (m : Int) := by omega
              have hnsc : (ns : Int) + 1 ≤ (cd : Int) := by omega
              have ODn := hide2 (show OwnDesks u16 wr w3.heap.size (.slice (some ⟨gd, 0, none⟩) (ns + 1) cd) (ns + 1) (desksL ⟨P, ts⟩ roles k0 (st.1.take ns)) by
                rw [← desksL_take _ _ _ _ (show ns ≤ st.1.length by rw [HM.out]; exact hlfm)]
                exact OD.out.cutOff (by omega))
              have HMn := hide2 (show (st.1.take ns, ns).1.length = ns by show (st.1.take ns).length = ns; rw [List.length_take, HM.out]; omega)
              go_upto_region 27 with fail
              have BWc := ha
              have XAc := XA
              clear k0c k1
              obtain ⟨e0, e1⟩ := XAc.out.two
              have OVc := hide2 (OV.out.keep AnsR.kept BWc.out)
              have ODc := hide2 (ODn.out.keep (DeskR.kept _) BWc.out)
              have Bc := hide2 (BW.out.trans (BWc.out.mono hBr.out))
              go_wp2_with (at_builtin; go_loud (refine wpList_appLies tyAnswers rfl _ _ rfl [(0, 0)] #[.int .i64 0, .int .i64 0] rfl rfl (by first | rfl | simp) rfl (by omega) (by simp [Value.oneCell']) OVc.out Reads.ans rfl Bc.out Bc.out.size (by omega) (by omega) (fun _ _ _ _ h => h) ?_; intro g' cap w5 own5 hg5 hb5 lies5; have O5 := hide2 own5; have OD5 := hide2 (OwnDesks.answer (k := j + 1) (cap := cap) ODc.out OVc.out hg5 lies5); have B5 := hide2 hb5; clear own5 hg5 hb5 lies5))
              go_roundw
              case rel => exact ⟨j + 1, ns, _, _, (st.1.take ns, ns), la ++ [(0, 0)], by omega, by go_num, rfl, rfl, HMn, by omega, O5, OD5, SOK, B5, RT⟩
              case measure => simp [intOf]; omega
            · have HS := hide2 (hstep_no (N := ⟨P, ts⟩) (roles := roles) (k0 := k0) (st := st) (o := o) (by rw [hkd]; exact h1) (by rw [hkd]; exact h2) (by rw [hkd]; exact h3))
              rw [HS.out] at RT
              clear HS hkd
              obtain ⟨z0, z1⟩ := XA.out.two
              have f0 := XA.out.frozen 0
              go_upto_region 27 with fail
              have XAc := hide2 (show Box (wa.setCell ⟨wr.heap.size + 1, 0, none⟩ (.int .i64 5)) (wr.heap.size + 1) 85 #[.int .i64 5, .int .i64 0] by simpa using XA.out.set 0 (.int .i64 5))
              have BWc := hide2 (below_setAt ha.out (Nat.le_refl _) (show wr.heap.size ≤ wr.heap.size + 1 by omega) 0 (.int .i64 5))
              have SOK := OK
              generalize wa.setCell ⟨wr.heap.size + 1, 0, none⟩ (.int .i64 5) = wc at *
              clear z0 z1 f0 k0c
              obtain ⟨e0, e1⟩ := XAc.out.two
              have OVc := hide2 (OV.out.keep AnsR.kept BWc.out)
              have ODc := hide2 (OD.out.keep (DeskR.kept _) BWc.out)
              have Bc := hide2 (BW.out.trans (BWc.out.mono hBr.out))
              go_wp2_with (at_builtin; go_loud (refine wpList_appLies tyAnswers rfl _ _ rfl [(5, 0)] #[.int .i64 5, .int .i64 0] rfl rfl (by first | rfl | simp) rfl (by omega) (by simp [Value.oneCell']) OVc.out Reads.ans rfl Bc.out Bc.out.size (by omega) (by omega) (fun _ _ _ _ h => h) ?_; intro g' cap w5 own5 hg5 hb5 lies5; have O5 := hide2 own5; have OD5 := hide2 (OwnDesks.answer (k := j + 1) (cap := cap) ODc.out OVc.out hg5 lies5); have B5 := hide2 hb5; clear own5 hg5 hb5 lies5))
              go_roundw
              case rel => exact ⟨j + 1, m, _, _, st, la ++ [(5, 0)], by omega, by go_num, rfl, rfl, HM, by omega, O5, OD5, SOK, B5, RT⟩
              case measure => simp [intOf]; omega
      · obtain rfl : j = s := by omega
        have hfull : os.take j = os := List.take_of_length_le (by rw [X.out.len]; exact Nat.le_refl _)
        rw [hfull] at HR
        rw [HR.out] at PY1
        obtain ⟨bd, offd, x, Bx, mx, dx, Dx, lx, ex, Ix, nx, cx, rfl, _, hx, d0, d1, d2, DWx, _⟩ := Desks.get (ownAny OD.out (by omega)) (show m < m + 1 by omega)
        have KX := hide2 (desksL_last ⟨P, ts⟩ roles k0 st.1)
        rw [HM.out] at KX
        simp only at PY1
        generalize (runD ⟨P, ts⟩ roles k0 st.1).1 = kx at *
        obtain rfl : x = kx := by have h := hx.out; rw [KX.out] at h; injection h with h; exact h.symm
        obtain ⟨Av, cv, hov, av⟩ := OV.out.sl (by omega)
        subst hov
        have AV := hide2 av
        have Z1r := hide2 (Z1.out.keep BW.out)
        obtain ⟨z0, z1, z2⟩ := Z1r.out.three
        have f0 := Z1r.out.frozen 0
        have f1 := Z1r.out.frozen 1
        have f2' := Z1r.out.frozen 2
        clear hfull hx av OD OV KX
        go_wp2
        obtain ⟨r0, r1, r2⟩ := (Z1r.out.set3 (.slice Bx mx dx) (.slice Dx lx ex) (.slice Ix nx cx)).three
        have BWW := below_set3 BZ.out (show w.heap.size ≤ w.heap.size + 1 by omega) (.slice Bx mx dx) (.slice Dx lx ex) (.slice Ix nx cx)
        exact bodyPost_ret (v := .tuple #[.agg #[.slice Bx mx dx, .slice Dx lx ex, .slice Ix nx cx], .slice Av j cv, .int .i64 0]) (by simp [results, Try.results39, go_sem, r0, r1, r2]) rfl (by rw [PY1.out]; exact ⟨Bx, mx, dx, Dx, lx, ex, Ix, nx, cx, Av, j, cv, rfl, DWx.out.beside Z1r.out noInt3 (Beside.set3 _ _ _ _ _), Answers.beside AV.out Z1r.out noInt3 (Beside.set3 _ _ _ _ _), BWW⟩)
  · have RE := hide2 (PE.out be hbe h0)
    rw [PL0.out be hbe h0] at CQ
    clear PE PL0 PY PLY hbe
    obtain ⟨z0, z1, z2⟩ := X1.out.three
    go_wp2_with (go_at_call 104; (with_reducible refine CQ.out.mono ?_); rintro e w2 ⟨B2, m2, d2, D2, l2, f2, I2, n2, c2, A2, na, ca, rfl, _, an, hb2⟩; have D2b := hide2 (hb2.alloc hb2.size (.cells #[.slice B2 m2 d2, .slice D2 l2 f2, .slice I2 n2 c2] 78)); have Z1 := hide2 ((X1.out.keep hb2).old (.cells #[.slice B2 m2 d2, .slice D2 l2 f2, .slice I2 n2 c2] 78)); clear an hb2 z0 z1 z2 a0 a1; obtain ⟨z0, z1, z2⟩ := Z1.out.three; have f0 := Z1.out.frozen 0; have f1 := Z1.out.frozen 1; have f2' := Z1.out.frozen 2)
    obtain ⟨r0, r1, r2⟩ := (Z1.out.set3 (.slice none 0 0) (.slice none 0 0) (.slice none 0 0)).three
    have BW := below_set3 (HB.out.trans (D2b.out.mono HB.out.size)) (show w.heap.size ≤ w.heap.size + 1 by omega) (.slice none 0 0) (.slice none 0 0) (.slice none 0 0)
    exact bodyPost_ret (v := .tuple #[.agg #[.slice none 0 0, .slice none 0 0, .slice none 0 0], .slice none 0 0, .int .i64 be]) (by simp [results, Try.results39, go_sem, r0, r1, r2]) rfl (by rw [RE.out]; exact ⟨none, 0, 0, none, 0, 0, none, 0, 0, none, 0, 0, rfl, ⟨Sl.nil0, Sl.nil0, Sl.nil0⟩, Sl.nil0, BW⟩)
end Go.Proofs.Ytmnacahoamkokaa
namespace Go.Proofs.Ytmnacahoamkokaa
open Go.RowKit

set_option maxRecDepth 100000 in
set_option maxHeartbeats 4000000 in
theorem hallPlays_walk {w : World} (P : Int) {A R O : Option Addr} {n c r q s so : Nat} {ts : List PTran} {roles : List (List Int)} {os : List HOp} (h : Trans w A n c ts) (_ : n ≤ 2513169434916) (i : Int) (_ : (Lit.int .i64 i).wf = true) (g : Lists w R r q roles) (_ : r ≤ 5864062014634) (x : HOps w O s so os) (hs : s ≤ 1048576) :
    Calls Try.prog 10 #[.agg #[.int .i64 P, .slice A n c], .int .i64 i, .slice R r q, .slice O s so] w fun e w' => e = .returned (.bool true) ∧ Below w.heap.size w w' := by
  have HB := hide2 (newBelow w (.cells #[.int .i64 P, .slice A n c] 27))
  have X0 := hide2 (Box.new w #[.int .i64 P, .slice A n c] 27)
  obtain ⟨p, hp⟩ : ∃ p, hplay ⟨P, ts⟩ roles i os = p := ⟨_, rfl⟩
  have C1 := hide2 (fun (w' : World) (hb : Below w.heap.size w w') => hallPlay_calls (P := P) i (h.keep hb) (Sl.keep ListR.kept g hb) (Sl.keep HOpR.kept x hb) hs)
  have C2 := hide2 (fun (w' : World) (hb : Below w.heap.size w w') => splay_calls (P := P) i (h.keep hb) (Sl.keep ListR.kept g hb) (Sl.keep HOpR.kept x hb) hs)
  simp only [hp] at C1 C2
  clear h g x hp
  go_enter Try.func10, Try.ntmps10
  go_upto_region 1 with fail
  generalize w.alloc (.cells #[.int .i64 P, .slice A n c] 27) = w0 at *
  obtain ⟨c0, c1⟩ := X0.out.two
  go_upto_region 2 with (go_at_call 38; (with_reducible refine (C1.out _ HB.out).mono ?_); rintro e w1 ⟨B1, m1, d1, D1, l1, f1, I1, n1, k1, A1, a1, ca1, rfl, dw, an, hb⟩; have DW := hide2 dw; have AN := hide2 an; have BA := hide2 (HB.out.trans (hb.mono HB.out.size)); have XA := hide2 (X0.out.keep hb); clear dw an hb c0 c1)
  have NB := newBelow w1 (.cells #[.slice B1 m1 d1, .slice D1 l1 f1, .slice I1 n1 k1] 78)
  have Y1 := hide2 (Box.new w1 #[.slice B1 m1 d1, .slice D1 l1 f1, .slice I1 n1 k1] 78)
  have DW1 := hide2 (DW.out.keep NB)
  have AN1 := hide2 (Sl.keep AnsR.kept AN.out NB)
  have B2 := hide2 (BA.out.trans (NB.mono BA.out.size))
  obtain ⟨c0, c1⟩ := (XA.out.keep NB).two
  clear NB DW AN BA
  generalize w1.alloc (.cells #[.slice B1 m1 d1, .slice D1 l1 f1, .slice I1 n1 k1] 78) = w2 at *
  generalize w1.heap.size = b1 at *
  go_upto_region 3 with (go_at_call 39; (with_reducible refine (C2.out _ B2.out).mono ?_); rintro e w3 ⟨B2', m2, d2, D2, l2, f2, I2, n2, k2, A2, a2, ca2, rfl, dw, an, hb⟩; have DW := hide2 dw; have AN := hide2 an; have BA := hide2 (B2.out.trans (hb.mono B2.out.size)); have YA := hide2 (Y1.out.keep hb); have DV := hide2 (DW1.out.keep hb); have AV := hide2 (Sl.keep AnsR.kept AN1.out hb); clear dw an hb c0 c1)
  have NB := newBelow w3 (.cells #[.slice B2' m2 d2, .slice D2 l2 f2, .slice I2 n2 k2] 78)
  have Y2 := hide2 (Box.new w3 #[.slice B2' m2 d2, .slice D2 l2 f2, .slice I2 n2 k2] 78)
  have DW2 := hide2 (DW.out.keep NB)
  have DV2 := hide2 (DV.out.keep NB)
  have AN2 := hide2 (Sl.keep AnsR.kept AN.out NB)
  have AV2 := hide2 (Sl.keep AnsR.kept AV.out NB)
  have B4 := hide2 (BA.out.trans (NB.mono BA.out.size))
  obtain ⟨c0, c1, c2⟩ := (YA.out.keep NB).three
  clear NB DW AN BA DV AV
  generalize w3.alloc (.cells #[.slice B2' m2 d2, .slice D2 l2 f2, .slice I2 n2 k2] 78) = w4 at *
  generalize w3.heap.size = b2 at *
  obtain ⟨q0, q1, q2⟩ := Y2.out.three
  go_wp2_with (first
    | (go_at_call 40; (with_reducible refine (sameDesk_calls DV2.out DW2.out).mono ?_); rintro e w5 ⟨rfl, hb⟩; have F5 := hide2 hb; have B5 := hide2 (B4.out.trans (hb.mono B4.out.size)); clear hb c0 c1 c2 q0 q1 q2)
    | (go_at_call 41; (with_reducible refine (equalAnswers_same (Sl.keep AnsR.kept AV2.out F5.out) (Sl.keep AnsR.kept AN2.out F5.out)).mono ?_); rintro e w6 ⟨rfl, hb⟩; have B6 := hide2 (B5.out.trans (hb.mono B5.out.size)); clear hb))
  go_ret
  exact ⟨by first | rfl | simp, B6.out⟩
end Go.Proofs.Ytmnacahoamkokaa
namespace Go.Proofs.Ytmnacahoamkokaa
open Go.ChangeShapes Go.WideShapes Go.ChangeAt Go.RowKit Go.Deep
section
variable {H : Type} {enc : TypeId × Value → H} {W : World}
set_option maxRecDepth 100000 in
theorem readsHOp : ReadsAs HOpR 7 56 189 := by
  refine ⟨HOpR.good, by kernel_rfl, by kernel_rfl, by omega, fun enc W fuel cs d pl h hw hl => ?_⟩
  obtain ⟨xs, n, _, hx, _, hlen, hg⟩ := DataW.trod_struct Try.underlying189 h
  injection hx with hx1 hx2
  subst hx1
  obtain ⟨x0, x1, x2, rfl⟩ : ∃ x0 x1 x2, xs = [x0, x1, x2] := by
    match xs, hlen with
    | [a, b, c], _ => exact ⟨a, b, c, rfl⟩
  obtain ⟨c0, c1, c2, c3, c4, c5, c6, rfl⟩ : ∃ c0 c1 c2 c3 c4 c5 c6, cs = [c0, c1, c2, c3, c4, c5, c6] := by
    match cs, hl with
    | [a, b, c, d, e, f, g], _ => exact ⟨a, b, c, d, e, f, g, rfl⟩
  have g0 := hg 0 _ rfl
  have g1 := hg 1 _ rfl
  have g2 := hg 2 _ rfl
  simp only [List.getElem?_cons_zero, List.getElem?_cons_succ] at g0 g1 g2
  obtain ⟨k, hk, _, _⟩ := DataW.trod_int Try.underlying3 g0
  obtain ⟨u, hu, _, wf⟩ := DataW.trod_int Try.underlying3 g1
  injection hk with hk
  injection hu with hu
  have hw2 : ∀ x ∈ x2.1.weights Try.prog 187, x ≤ reachBytes := fun x hx => hw x (by
    unfold DataW.weights
    rw [Try.underlying189]
    exact DataW.weights_mem_each (j := 2) (t := 187) (d := x2.1) rfl rfl x hx)
  obtain ⟨o, h0, h1, h2, h3, h4⟩ := readsDOp.2.2.2.2 enc W n [c2, c3, c4, c5, c6] x2.1 x2.2 g2 hw2 rfl
  exact ⟨⟨k, u, o⟩, hk, hu, h0, h1, h2, h3, h4, wf⟩
end
end Go.Proofs.Ytmnacahoamkokaa
