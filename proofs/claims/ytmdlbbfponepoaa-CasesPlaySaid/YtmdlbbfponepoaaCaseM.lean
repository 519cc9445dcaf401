/- The contract of cases.Play. Conditions: the net and the list of things to do read as lists. -/
import Derived.Test.YtmdlbbfponepoaaCaseK
import Derived.Test.YtmdlbbfponepoaaCaseL
import Derived.Deep.DeepCutAuto
namespace Go.Proofs.Ytmdlbbfponepoaa
open Go.RowKit

set_option maxRecDepth 100000 in
set_option maxHeartbeats 8000000 in
theorem play_calls {w : World} {P : Int} {A O : Option Addr} {n c r s : Nat} {ts : List PTran} {os : List (Int × Int)} (i : Int) (h : Trans w A n c ts) (g : COps w O r s os) (hr : r ≤ 8796093022208) :
    Calls Try.prog 49 #[.agg #[.int .i64 P, .slice A n c], .int .i64 i, .slice O r s] w (AnsPlay (playL ⟨P, ts⟩ i os) w) := by
  have B0 := hide2 (((Below.refl _ _).alloc (Nat.le_refl _) (.cells #[.int .i64 P, .slice A n c] 24)).alloc (by simp) (.cells #[.slice none 0 0, .slice none 0 0] 68) : Below w.heap.size w _)
  have X0 : Box ((w.alloc (.cells #[.int .i64 P, .slice A n c] 24)).alloc (.cells #[.slice none 0 0, .slice none 0 0] 68)) w.heap.size 24 #[.int .i64 P, .slice A n c] := (Box.new _ _ _).old _
  have X1 : Box ((w.alloc (.cells #[.int .i64 P, .slice A n c] 24)).alloc (.cells #[.slice none 0 0, .slice none 0 0] 68)) (w.heap.size + 1) 68 #[.slice none 0 0, .slice none 0 0] := Box.newAt (by simp) _ _
  have HL := hide2 h.len
  have GL := hide2 g.len
  have H := hide2 h
  have G := hide2 g
  clear h g
  obtain ⟨q, hq⟩ : ∃ q, beginL ⟨P, ts⟩ i = q := ⟨_, rfl⟩
  have HQ := hide2 hq
  clear hq
  go_enter Try.func49, Try.ntmps49
  go_wp2_with fail
  refine (begin_calls (P := P) i (H.out.keep B0.out)).mono ?_
  rw [HQ.out]
  rintro e w1 ⟨A1, n1, c1, A2, n2, c2, rfl, i1, i2, hb, hfa, hfb⟩
  have B1 := hide2 (B0.out.trans (hb.mono B0.out.size))
  have Y0 := hide2 (X0.keep hb)
  have Y1 := hide2 (X1.keep hb)
  have I1 := hide2 (show Ints w1 A1 n1 c1 q.1.mark from i1)
  have I2 := hide2 (show Ints w1 A2 n2 c2 q.1.busy from i2)
  clear hb i1 i2 X0 X1 hfa hfb
  go_upto_region 2 with fail
  generalize hw2 : w1.alloc (.cells #[.slice A1 n1 c1, .slice A2 n2 c2] 68) = w2
  have hb2 : Below w1.heap.size w1 w2 := by rw [← hw2]; exact boxBelow _ _
  have Z0 := hide2 (Y0.out.keep hb2)
  have Z1 := hide2 (Y1.out.keep hb2)
  have Z2 := hide2 (show Box w2 w1.heap.size 68 #[.slice A1 n1 c1, .slice A2 n2 c2] by rw [← hw2]; exact Box.new _ _ _)
  have J1 := hide2 (Ints.keep I1.out hb2)
  have J2 := hide2 (Ints.keep I2.out hb2)
  have B2 := hide2 (B1.out.trans (hb2.mono B1.out.size))
  have hbig : w.heap.size + 1 < w1.heap.size := Y1.out.lt
  clear hb2 Y0 Y1 I1 I2 B1 hw2
  generalize w1.heap.size = bc at *
  obtain ⟨a0, a1⟩ := Z0.out.two
  obtain ⟨x0, x1⟩ := Z2.out.two
  by_cases hz : q.2 = 0
  · have F1 := hide2 (show playL ⟨P, ts⟩ i os = (playC ⟨P, ts⟩ q.1 os, playE ⟨P, ts⟩ q.1 os, 0) by rw [playL, HQ.out, if_pos hz])
    have OK := hide2 (show caseOk ⟨P, ts⟩ q.1 = true by have := beginL_ok (N := ⟨P, ts⟩) (i := i) (by rw [HQ.out]; exact hz); rw [HQ.out] at this; exact this)
    rw [hz]
    clear hz
    go_wp2
    go_loopw [11, 28] (fun v j wr => ∃ k : Nat, k ≤ r ∧ j = .int .i64 k ∧ Hid (OwnSl IntR 1 wr w2.heap.size 26 v k (playE ⟨P, ts⟩ q.1 (os.take k))) ∧
      (∃ A n c B m d, Hid (Box wr bc 68 #[.slice A n c, .slice B m d]) ∧ Hid (Ints wr A n c (playC ⟨P, ts⟩ q.1 (os.take k)).mark) ∧ Hid (Ints wr B m d (playC ⟨P, ts⟩ q.1 (os.take k)).busy) ∧ Hid (NeRow A n v) ∧ Hid (NeRow B m v)) ∧
      Hid (Box wr w.heap.size 24 #[.int .i64 P, .slice A n c]) ∧ Hid (Box wr (w.heap.size + 1) 68 #[.slice none 0 0, .slice none 0 0]) ∧ Hid (Below w.heap.size w wr) ∧ w2.heap.size ≤ wr.heap.size) (fun _ j _ => r - (intOf j).toNat)
    case atStart => exact ⟨0, Nat.zero_le _, rfl, OwnSl.nil, ⟨A1, n1, c1, A2, n2, c2, Z2, J1, J2, fun _ _ _ _ h => (by cases h), fun _ _ _ _ h => (by cases h)⟩, Z0, Z1, B2, Nat.le_refl _⟩
    case round =>
      obtain ⟨k, hk, rfl, own, ⟨A3, n3, c3, A4, n4, c4, V2, K1, K2, NE3, NE4⟩, V0, V1, D, hsz⟩ := hrel
      have hbc2 : bc < w2.heap.size := Z2.out.lt
      clear a0 a1 x0 x1
      by_cases hlt : k < r
      · obtain ⟨ob, oo, x, y, rfl, hob, hxy, o0', o1'⟩ := COps.get G.out hlt
        have o0 := (D.out.cell (p := ⟨ob, oo + k * 2, none⟩) hob).trans o0'
        have o1 := (D.out.cell (p := ⟨ob, oo + k * 2 + 1, none⟩) hob).trans o1'
        have hki : (k : Int) < (r : Int) := by omega
        obtain ⟨pc, hpc⟩ : ∃ pc, playC ⟨P, ts⟩ q.1 (os.take k) = pc := ⟨_, rfl⟩
        have POK := hide2 (show caseOk ⟨P, ts⟩ pc = true by rw [← hpc]; exact playC_ok _ _ _ OK.out)
        obtain ⟨dq, hdq⟩ : ∃ dq, doL ⟨P, ts⟩ pc x y = dq := ⟨_, rfl⟩
        have TE := hide2 (show playE ⟨P, ts⟩ q.1 (os.take (k + 1)) = playE ⟨P, ts⟩ q.1 (os.take k) ++ [dq.2] by rw [take_snoc hxy.out, playE_snoc, hpc, hdq])
        have TC := hide2 (show playC ⟨P, ts⟩ q.1 (os.take (k + 1)) = if dq.2 = 0 then dq.1 else pc by rw [take_snoc hxy.out, playC_snoc, hpc, hdq])
        rw [hpc] at K1 K2
        have DQ := hide2 hdq
        have hn4 : n4 ≤ 17592186044416 := by
          have h1 := (caseOk_iff _ _).1 POK.out
          have h2 := ((netOk_iff _).1 h1.1).2.2.1
          have h3 := h1.2.2.2.1
          rw [K2.out.len] at h3
          simp only [] at h2 h3
          omega
        clear hpc hdq o0' o1'
        go_upto_region 8 with fail
        generalize hw3 : wr.alloc (.cells #[.int .i64 x, .int .i64 y] 76) = w3
        have hb3 : Below wr.heap.size wr w3 := by rw [← hw3]; exact boxBelow _ _
        have U0 := hide2 (V0.out.keep hb3)
        have U1 := hide2 (V1.out.keep hb3)
        have U2 := hide2 (V2.out.keep hb3)
        have U3 := hide2 (show Box w3 wr.heap.size 76 #[.int .i64 x, .int .i64 y] by rw [← hw3]; exact Box.new _ _ _)
        have L1 := hide2 (Ints.keep K1.out hb3)
        have L2 := hide2 (Ints.keep K2.out hb3)
        have D3 := hide2 (D.out.trans (hb3.mono D.out.size))
        have own3 := hide2 (own.out.keep IntR.kept hb3)
        have hsz3 := Nat.le_trans hsz hb3.size
        clear hw3 hb3 V0 V1 V2 K1 K2 own o0 o1
        generalize wr.heap.size = ba at *
        obtain ⟨a0, a1⟩ := U0.out.two
        obtain ⟨x0, x1⟩ := U2.out.two
        obtain ⟨y0, y1⟩ := U3.out.two
        go_wp2_with fail
        refine (do_calls (P := P) (p := pc) x y (H.out.keep D3.out) L1.out L2.out hn4).mono ?_
        rw [DQ.out]
        rintro e w4 ⟨A5, n5, c5, A6, n6, c6, rfl, i5, i6, hb4, hf5, hf6⟩
        have T0 := hide2 (U0.out.keep hb4)
        have T1 := hide2 (U1.out.keep hb4)
        have T2 := hide2 (U2.out.keep hb4)
        have M1 := hide2 (Ints.keep L1.out hb4)
        have M2 := hide2 (Ints.keep L2.out hb4)
        have N1 := hide2 (show Ints w4 A5 n5 c5 dq.1.mark from i5)
        have N2 := hide2 (show Ints w4 A6 n6 c6 dq.1.busy from i6)
        have D4 := hide2 (D3.out.trans (hb4.mono D3.out.size))
        have own4 := hide2 (own3.out.keep IntR.kept hb4)
        have NE5 := hide2 (NeRow.fresh (n := n5) hf5 (fun k hk => (own3.out.lt k hk).2))
        have NE6 := hide2 (NeRow.fresh (n := n6) hf6 (fun k hk => (own3.out.lt k hk).2))
        have hsz4 := Nat.le_trans hsz3 hb4.size
        clear hb4 i5 i6 hf5 hf6 U0 U1 U2 U3 L1 L2 D3 own3 a0 a1 x0 x1 y0 y1
        go_upto_region 9 with fail
        generalize hw5 : w4.alloc (.cells #[.slice A5 n5 c5, .slice A6 n6 c6] 68) = w5
        have hb5 : Below w4.heap.size w4 w5 := by rw [← hw5]; exact boxBelow _ _
        have S0 := hide2 (T0.out.keep hb5)
        have S1 := hide2 (T1.out.keep hb5)
        have S2 := hide2 (T2.out.keep hb5)
        have S3 := hide2 (show Box w5 w4.heap.size 68 #[.slice A5 n5 c5, .slice A6 n6 c6] by rw [← hw5]; exact Box.new _ _ _)
        have M3 := hide2 (Ints.keep M1.out hb5)
        have M4 := hide2 (Ints.keep M2.out hb5)
        have N3 := hide2 (Ints.keep N1.out hb5)
        have N4 := hide2 (Ints.keep N2.out hb5)
        have D5 := hide2 (D4.out.trans (hb5.mono D4.out.size))
        have own5 := hide2 (own4.out.keep IntR.kept hb5)
        have hsz5 := Nat.le_trans hsz4 hb5.size
        clear hw5 hb5 T0 T1 T2 M1 M2 N1 N2 D4 own4
        generalize w4.heap.size = bb at *
        obtain ⟨x0, x1⟩ := S2.out.two
        obtain ⟨y0, y1⟩ := S3.out.two
        have xf := S2.out.frozen 0
        have xg := S2.out.frozen 1
        by_cases hd0 : dq.2 = 0
        · have TC2 := hide2 (show playC ⟨P, ts⟩ q.1 (os.take (k + 1)) = dq.1 by rw [TC.out, if_pos hd0])
          have TE2 := hide2 (show playE ⟨P, ts⟩ q.1 (os.take (k + 1)) = playE ⟨P, ts⟩ q.1 (os.take k) ++ [0] by rw [TE.out, hd0])
          rw [hd0]
          clear hd0 TC TE
          have hbs := Beside.set2 w5 bc 0 1 (.slice A5 n5 c5) (.slice A6 n6 c6)
          have R0 := hide2 (hbs.box S0.out (by omega))
          have R1 := hide2 (hbs.box S1.out (by omega))
          have R2 := hide2 (S2.out.set2 (.slice A5 n5 c5) (.slice A6 n6 c6))
          have N5 := hide2 (N3.out.beside S2.out noInt2 hbs)
          have N6 := hide2 (N4.out.beside S2.out noInt2 hbs)
          have D6 : Hid (Below w.heap.size w ((w5.setCell ⟨bc, 0, none⟩ (.slice A5 n5 c5)).setCell ⟨bc, 1, none⟩ (.slice A6 n6 c6))) := (D5.out.setCell (by show w.heap.size ≤ bc; omega) _).setCell (by show w.heap.size ≤ bc; omega) _
          have own6 := hide2 (own5.out.besideBox hbc2 hbs rfl rfl rfl (fun _ _ h => h))
          have hsz6 : w2.heap.size ≤ ((w5.setCell ⟨bc, 0, none⟩ (.slice A5 n5 c5)).setCell ⟨bc, 1, none⟩ (.slice A6 n6 c6)).heap.size := by rw [hbs.1]; exact hsz5
          clear hbs
          go_upto_region 11 with fail
          generalize (w5.setCell ⟨bc, 0, none⟩ (.slice A5 n5 c5)).setCell ⟨bc, 1, none⟩ (.slice A6 n6 c6) = w6 at *
          clear S0 S1 S2 S3 M3 M4 N3 N4 D5 own5 x0 x1 y0 y1 xf xg
          go_wp2_with (at_builtin; refine wpList_appLies tyErrs rfl _ _ rfl [0] #[.int .i64 0] rfl rfl (by first | rfl | simp) rfl (by omega) (by simp [Value.oneCell']) own6.out (Reads.one (vs := fun _ => .int .i64 0) rfl rfl (fun j hj => (by obtain rfl : j = 0 := (by omega); rfl))) rfl (Below.refl w2.heap.size w6) hsz6 (by omega) (by omega) (fun _ _ _ _ h => h) ?_; intro g7 cap7 w7 own7 hg7 hb7 hat7)
          go_roundw
          case rel => exact ⟨k + 1, by omega, by go_num, by rw [TE2.out]; exact own7, ⟨_, _, _, _, _, _, R2.out.keepB hb7 hbc2, by rw [TC2.out]; exact N5.out.grownNe NE5.out hg7, by rw [TC2.out]; exact N6.out.grownNe NE6.out hg7, NE5.out.after N5.out hat7, NE6.out.after N6.out hat7⟩, R0.out.keepB hb7 (by omega), R1.out.keepB hb7 (by omega), D6.out.trans (hb7.mono (by have := B2.out.size; omega)), Nat.le_trans hsz6 hb7.size⟩
          case measure => simp [intOf]; omega
        · have TC2 := hide2 (show playC ⟨P, ts⟩ q.1 (os.take (k + 1)) = pc by rw [TC.out, if_neg hd0])
          have hne : (dq.2 == 0) = false := by simpa using hd0
          obtain ⟨de, hde⟩ : ∃ de, dq.2 = de := ⟨_, rfl⟩
          rw [hde] at TE hne
          rw [hde]
          clear hd0 TC hde
          go_wp2_with (at_builtin; refine wpList_appLies tyErrs rfl _ _ rfl [de] #[.int .i64 de] rfl rfl (by first | rfl | simp) rfl (by omega) (by simp [Value.oneCell']) own5.out (Reads.one (vs := fun _ => .int .i64 de) rfl rfl (fun j hj => (by obtain rfl : j = 0 := (by omega); rfl))) rfl (Below.refl w2.heap.size w5) hsz5 (by omega) (by omega) (fun _ _ _ _ h => h) ?_; intro g7 cap7 w7 own7 hg7 hb7 hat7)
          go_roundw
          case rel => exact ⟨k + 1, by omega, by go_num, by rw [TE.out]; exact own7, ⟨_, _, _, _, _, _, S2.out.keepB hb7 hbc2, by rw [TC2.out]; exact M3.out.grownNe NE3.out hg7, by rw [TC2.out]; exact M4.out.grownNe NE4.out hg7, NE3.out.after M3.out hat7, NE4.out.after M4.out hat7⟩, S0.out.keepB hb7 (by omega), S1.out.keepB hb7 (by omega), D5.out.trans (hb7.mono (by have := B2.out.size; omega)), Nat.le_trans hsz5 hb7.size⟩
          case measure => simp [intOf]; omega
      · obtain rfl : k = r := by omega
        have ET := hide2 (show os.take k = os by rw [List.take_of_length_le (by rw [GL.out]; exact Nat.le_refl _)])
        obtain ⟨E, es, hv, hE⟩ := own.out.sl (by omega)
        subst hv
        obtain ⟨x0, x1⟩ := V2.out.two
        obtain ⟨z0, z1⟩ := V1.out.two
        have zf := V1.out.frozen 0
        have zg := V1.out.frozen 1
        have HE := hide2 hE
        have OWN := own
        clear hE own
        go_wp2
        have hbs := Beside.set2 wr (w.heap.size + 1) 0 1 (.slice A3 n3 c3) (.slice A4 n4 c4)
        have own8 := OwnSl.besideBox OWN.out (show w.heap.size + 1 < w2.heap.size by omega) hbs rfl rfl rfl (fun _ _ h => h)
        obtain ⟨E', es', hv', hE'⟩ := own8.sl (by omega)
        injection hv' with h1 h2 h3
        subst h1 h3
        obtain ⟨r0, r1⟩ := (V1.out.set2 (.slice A3 n3 c3) (.slice A4 n4 c4)).two
        exact bodyPost_ret (v := .tuple #[.agg #[.slice A3 n3 c3, .slice A4 n4 c4], .slice E k es, .int .i64 0]) (by simp [results, Try.results49, go_sem, r0, r1]) rfl
          ⟨A3, n3, c3, A4, n4, c4, E, k, es, by rw [F1.out], by rw [F1.out]; have := K1.out.beside V1.out noInt2 hbs; rw [ET.out] at this; exact this, by rw [F1.out]; have := K2.out.beside V1.out noInt2 hbs; rw [ET.out] at this; exact this, by rw [F1.out]; rw [ET.out] at hE'; exact hE', Below.setCell (Below.setCell D.out (show w.heap.size ≤ w.heap.size + 1 by omega) _) (show w.heap.size ≤ w.heap.size + 1 by omega) _⟩
  · have F1 := hide2 (show playL ⟨P, ts⟩ i os = (PCase.nil, [], q.2) by rw [playL, HQ.out, if_neg hz])
    have hne : (q.2 == 0) = false := by simpa using hz
    have hne' : (q.2 != 0) = true := by simpa using hz
    clear hz
    obtain ⟨z0, z1⟩ := Z1.out.two
    have zf := Z1.out.frozen 0
    have zg := Z1.out.frozen 1
    go_wp2
    obtain ⟨r0, r1⟩ := (Z1.out.set2 (.slice none 0 0) (.slice none 0 0)).two
    exact bodyPost_ret (v := .tuple #[.agg #[.slice none 0 0, .slice none 0 0], .slice none 0 0, .int .i64 q.2]) (by simp [results, Try.results49, go_sem, r0, r1]) rfl
      ⟨none, 0, 0, none, 0, 0, none, 0, 0, by rw [F1.out], by rw [F1.out]; exact Sl.nil0, by rw [F1.out]; exact Sl.nil0, by rw [F1.out]; exact Sl.nil0, Below.setCell (Below.setCell B2.out (show w.heap.size ≤ w.heap.size + 1 by omega) _) (show w.heap.size ≤ w.heap.size + 1 by omega) _⟩
end Go.Proofs.Ytmdlbbfponepoaa
