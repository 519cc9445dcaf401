/- The contract of the reference's VOf: the walk. Conditions: the log reads as lists. -/
import Derived.Test.YtnfppolgaeibeaaTrkK
namespace Go.Proofs.Ytnfppolgaeibeaa
open Go.RowKit

set_option maxRecDepth 100000 in
set_option maxHeartbeats 8000000 in
theorem vof_calls {w : World} {A : Option Addr} {n c : Nat} {log : List (List Int)} (h : Lists w A n c log) :
    Calls Try.prog 29 #[.slice A n c] w (AnsPr log w) := by
  have hns := h.small
  have X0 := hide2 ((Box.new w #[.slice A n c] 54).old (.cells #[nilS, nilS, nilS, nilS] 57))
  have X1 := hide2 (Box.newAt (w := w.alloc (.cells #[.slice A n c] 54)) (n := w.heap.size + 1) (by simp) #[nilS, nilS, nilS, nilS] 57)
  have B0 := hide2 ((boxBelow w (.cells #[.slice A n c] 54)).alloc (by simp) (.cells #[nilS, nilS, nilS, nilS] 57))
  have S0 := hide2 (show ((w.alloc (.cells #[.slice A n c] 54)).alloc (.cells #[nilS, nilS, nilS, nilS] 57)).heap.size = w.heap.size + 1 + 1 by simp)
  have henter : ∀ args w, (callFunc 84 args).run Try.prog w = .ok (.enter 84 args) w := fun args w => by kernel_rfl
  have H := hide2 h
  clear h
  obtain ⟨z, hz⟩ : ∃ z, wrongV log = z := ⟨_, rfl⟩
  have HZ := hide2 hz
  clear hz
  go_enter Try.func29, Try.ntmps29
  go_upto_region 1 with fail
  generalize (w.alloc (.cells #[.slice A n c] 54)).alloc (.cells #[nilS, nilS, nilS, nilS] 57) = w0 at *
  have x0 := X0.out.cell 0
  simp only [List.getElem?_toArray, List.getElem?_cons_zero] at x0
  go_wp2_with fail
  refine (vwrong_calls (Sl.keep ListR.kept H.out B0.out)).mono ?_
  rw [HZ.out]
  rintro e w1 ⟨rfl, rfl⟩
  by_cases h0 : z = 0
  · subst h0
    go_upto_region 5 with fail
    have V0 := hide2 (show VSt (w0.alloc (.cells #[nilS, nilS, nilS, nilS] 57)) w.heap.size w0.heap.size (.slice A n c) (gotV log 0 0 0 0 0) nilS nilS nilS nilS 0 0 0 0 by
      rw [gotV_start]
      exact ⟨⟨by rw [S0.out]; omega, X0.out.old _, X1.out.old _, OwnSl.nil, OwnSl.nil, OwnSl.nil, OwnSl.nil, .inl rfl, .inl rfl, .inl rfl⟩, Box.new _ _ _⟩)
    have D0 := hide2 (boxBelow w0 (.cells #[nilS, nilS, nilS, nilS] 57))
    go_upto_region 6 with fail
    generalize w0.alloc (.cells #[nilS, nilS, nilS, nilS] 57) = w2 at *
    have I0 := hide2 (V0.out.new 1)
    have V1 := hide2 (V0.out.alloc (.cells #[.int .i64 1] 3))
    have D1 := hide2 (D0.out.alloc D0.out.size (.cells #[.int .i64 1] 3))
    clear x0
    go_wp2
    generalize w2.alloc (.cells #[.int .i64 1] 3) = w3 at *
    go_loopg [7] 26 (fun gk v wr => ∃ (k ba : Nat) (s1 s2 s3 s4 : Value) (n1 n2 n3 n4 : Nat), k + gk = 26 ∧ v = .pointer (some ⟨ba, 0, none⟩) ∧ Hid (VSt wr w.heap.size w0.heap.size (.slice A n c) (gotV log k k k k 0) s1 s2 s3 s4 n1 n2 n3 n4) ∧ Hid (IBx wr w0.heap.size ba ((k : Int) + 1) s1 s2 s3 s4) ∧ Hid (Below w0.heap.size w0 wr))
    case atStart => exact ⟨0, w2.heap.size, nilS, nilS, nilS, nilS, 0, 0, 0, 0, by omega, rfl, V1, I0, D1⟩
    case round =>
      clear V0 V1 I0 D0 D1
      obtain ⟨k, ba, s1, s2, s3, s4, n1, n2, n3, n4, hk, rfl, V, I, D⟩ := hrel
      by_cases hlt : k < 26
      · have hki : (k : Int) + 1 ≤ 26 := by omega
        have hkw : IntKind.i64.wrap ((k : Int) + 1 + 1) = ((k + 1 : Nat) : Int) + 1 := by simp [IntKind.wrap, IntKind.bits, IntKind.signed]; omega
        have HKW := hide2 hkw
        clear hkw
        have DL := hide2 D.out.size
        have DW := hide2 (B0.out.trans (D.out.mono B0.out.size))
        have i0 := I.out.box.cell 0
        simp only [List.getElem?_toArray, List.getElem?_cons_zero] at i0
        obtain ⟨b1, hb1⟩ : ∃ b, log.any (p2 ((k : Int) + 1)) = b := ⟨_, rfl⟩
        have HB1 := hide2 hb1
        clear hb1
        have C1 := hide2 (some_calls V.out.r.xl (Sl.keep ListR.kept H.out DW.out) (pred2 I.out.box))
        rw [HB1.out] at C1
        go_upto_if 22 with (refine C1.out.mono ?_; rintro e wx ⟨rfl, hbx⟩; have VX := hide2 (V.out.keep hbx); have IX := hide2 (I.out.keep hbx); have DX := hide2 (D.out.trans (hbx.mono DL.out)); clear hbx)
        clear i0 V I D DW DL C1
        go_cut [] (fun wy => ∃ (s1 : Value) (n1 : Nat), Hid (VSt wy w.heap.size w0.heap.size (.slice A n c) (gotV log (k + 1) k k k 0) s1 s2 s3 s4 n1 n2 n3 n4) ∧ Hid (IBx wy w0.heap.size ba ((k : Int) + 1) s1 s2 s3 s4) ∧ Hid (Below w0.heap.size w0 wy))
        case first =>
          cases b1
          · have VN := hide2 (show VSt wx w.heap.size w0.heap.size (.slice A n c) (gotV log (k + 1) k k k 0) s1 s2 s3 s4 n1 n2 n3 n4 by
              have := VX.out
              unfold gotV at this ⊢
              rw [onR_no HB1.out]
              exact this)
            go_wp2
            go_meet
            exact ⟨s1, n1, VN, IX, DX⟩
          · have i0 := IX.out.box.cell 0
            have y0 := VX.out.xp.cell 0
            simp only [List.getElem?_toArray, List.getElem?_cons_zero] at i0 y0
            have hnn : n1 ≤ 26 := by
              have := VX.out.r.o1.len
              have := (gotV_len log k k k k 0).1
              omega
            go_wp2_with (at_builtin; refine wpList_appIntAt rfl _ _ rfl rfl rfl rfl VX.out.r.o1 VX.out.xp.lt hnn ?_; intro v8 w8 own8 hg8 hl8; obtain ⟨A8, c8, rfl, _⟩ := own8.sl (by omega); have VN := hide2 (VX.out.app1 own8 hg8 hl8); have IN := hide2 (IX.out.app1 hg8 hl8); have DN := hide2 (below_app (v := .slice A8 (n1 + 1) c8) (j := 0) DX.out DX.out.size VX.out.r.o1 hg8); have fz := (VX.out.xp.grown hg8 (own_far VX.out.r.o1 (Nat.lt_succ_self _))).frozen 0; have cz := (VX.out.xp.grown hg8 (own_far VX.out.r.o1 (Nat.lt_succ_self _))).cell 0; simp only [List.getElem?_toArray, List.getElem?_cons_zero] at cz; clear own8 hg8 hl8 i0 y0)
            have VM := hide2 (show VSt (w8.setCell ⟨w0.heap.size, 0, none⟩ (.slice A8 (n1 + 1) c8)) w.heap.size w0.heap.size (.slice A n c) (gotV log (k + 1) k k k 0) (.slice A8 (n1 + 1) c8) s2 s3 s4 (n1 + 1) n2 n3 n4 by
              have := VN.out
              unfold gotV at this ⊢
              rw [onR_yes HB1.out]
              exact this)
            go_meet
            exact ⟨.slice A8 (n1 + 1) c8, n1 + 1, VM, IN, DN⟩
        case rest =>
        clear VX IX DX
        obtain ⟨s1, n1, V, I, D⟩ := hcut
        have DL := hide2 D.out.size
        have DW := hide2 (B0.out.trans (D.out.mono B0.out.size))
        have i0 := I.out.box.cell 0
        simp only [List.getElem?_toArray, List.getElem?_cons_zero] at i0
        obtain ⟨b2, hb2⟩ : ∃ b, log.any (p3 ((k : Int) + 1)) = b := ⟨_, rfl⟩
        have HB2 := hide2 hb2
        clear hb2
        have C2 := hide2 (some_calls V.out.r.xl (Sl.keep ListR.kept H.out DW.out) (pred3 I.out.box))
        rw [HB2.out] at C2
        go_upto_if 31 with (refine C2.out.mono ?_; rintro e wx ⟨rfl, hbx⟩; have VX := hide2 (V.out.keep hbx); have IX := hide2 (I.out.keep hbx); have DX := hide2 (D.out.trans (hbx.mono DL.out)); clear hbx)
        clear i0 V I D DW DL C2
        go_cut [] (fun wy => ∃ (s2 : Value) (n2 : Nat), Hid (VSt wy w.heap.size w0.heap.size (.slice A n c) (gotV log (k + 1) (k + 1) k k 0) s1 s2 s3 s4 n1 n2 n3 n4) ∧ Hid (IBx wy w0.heap.size ba ((k : Int) + 1) s1 s2 s3 s4) ∧ Hid (Below w0.heap.size w0 wy))
        case first =>
          cases b2
          · have VN := hide2 (show VSt wx w.heap.size w0.heap.size (.slice A n c) (gotV log (k + 1) (k + 1) k k 0) s1 s2 s3 s4 n1 n2 n3 n4 by
              have := VX.out
              unfold gotV at this ⊢
              rw [onR_no HB2.out]
              exact this)
            go_wp2
            go_meet
            exact ⟨s2, n2, VN, IX, DX⟩
          · have i0 := IX.out.box.cell 0
            have y0 := VX.out.xp.cell 1
            simp only [List.getElem?_toArray, List.getElem?_cons_zero, List.getElem?_cons_succ] at i0 y0
            have hnn : n2 ≤ 26 := by
              have := VX.out.r.o2.len
              have := (gotV_len log (k + 1) k k k 0).2.1
              omega
            go_wp2_with (at_builtin; refine wpList_appIntAt rfl _ _ rfl rfl rfl rfl VX.out.r.o2 VX.out.xp.lt hnn ?_; intro v8 w8 own8 hg8 hl8; obtain ⟨A8, c8, rfl, _⟩ := own8.sl (by omega); have VN := hide2 (VX.out.app2 own8 hg8 hl8); have IN := hide2 (IX.out.app2 hg8 hl8); have DN := hide2 (below_app (v := .slice A8 (n2 + 1) c8) (j := 1) DX.out DX.out.size VX.out.r.o2 hg8); have fz := (VX.out.xp.grown hg8 (own_far VX.out.r.o2 (Nat.lt_succ_self _))).frozen 1; have cz := (VX.out.xp.grown hg8 (own_far VX.out.r.o2 (Nat.lt_succ_self _))).cell 1; simp only [List.getElem?_toArray, List.getElem?_cons_zero, List.getElem?_cons_succ] at cz; clear own8 hg8 hl8 i0 y0)
            have VM := hide2 (show VSt (w8.setCell ⟨w0.heap.size, 1, none⟩ (.slice A8 (n2 + 1) c8)) w.heap.size w0.heap.size (.slice A n c) (gotV log (k + 1) (k + 1) k k 0) s1 (.slice A8 (n2 + 1) c8) s3 s4 n1 (n2 + 1) n3 n4 by
              have := VN.out
              unfold gotV at this ⊢
              rw [onR_yes HB2.out]
              exact this)
            go_meet
            exact ⟨.slice A8 (n2 + 1) c8, n2 + 1, VM, IN, DN⟩
        case rest =>
        clear VX IX DX
        obtain ⟨s2, n2, V, I, D⟩ := hcut
        have DL := hide2 D.out.size
        have DW := hide2 (B0.out.trans (D.out.mono B0.out.size))
        have i0 := I.out.box.cell 0
        simp only [List.getElem?_toArray, List.getElem?_cons_zero] at i0
        obtain ⟨b3, hb3⟩ : ∃ b, log.any (p4 ((k : Int) + 1)) = b := ⟨_, rfl⟩
        have HB3 := hide2 hb3
        clear hb3
        have C3 := hide2 (some_calls V.out.r.xl (Sl.keep ListR.kept H.out DW.out) (pred4 I.out.box))
        rw [HB3.out] at C3
        go_upto_if 40 with (refine C3.out.mono ?_; rintro e wx ⟨rfl, hbx⟩; have VX := hide2 (V.out.keep hbx); have IX := hide2 (I.out.keep hbx); have DX := hide2 (D.out.trans (hbx.mono DL.out)); clear hbx)
        clear i0 V I D DW DL C3
        go_cut [] (fun wy => ∃ (s3 : Value) (n3 : Nat), Hid (VSt wy w.heap.size w0.heap.size (.slice A n c) (gotV log (k + 1) (k + 1) (k + 1) k 0) s1 s2 s3 s4 n1 n2 n3 n4) ∧ Hid (IBx wy w0.heap.size ba ((k : Int) + 1) s1 s2 s3 s4) ∧ Hid (Below w0.heap.size w0 wy))
        case first =>
          cases b3
          · have VN := hide2 (show VSt wx w.heap.size w0.heap.size (.slice A n c) (gotV log (k + 1) (k + 1) (k + 1) k 0) s1 s2 s3 s4 n1 n2 n3 n4 by
              have := VX.out
              unfold gotV at this ⊢
              rw [onR_no HB3.out]
              exact this)
            go_wp2
            go_meet
            exact ⟨s3, n3, VN, IX, DX⟩
          · have i0 := IX.out.box.cell 0
            have y0 := VX.out.xp.cell 2
            simp only [List.getElem?_toArray, List.getElem?_cons_zero, List.getElem?_cons_succ] at i0 y0
            have hnn : n3 ≤ 26 := by
              have := VX.out.r.o3.len
              have := (gotV_len log (k + 1) (k + 1) k k 0).2.2.1
              omega
            go_wp2_with (at_builtin; refine wpList_appIntAt rfl _ _ rfl rfl rfl rfl VX.out.r.o3 VX.out.xp.lt hnn ?_; intro v8 w8 own8 hg8 hl8; obtain ⟨A8, c8, rfl, _⟩ := own8.sl (by omega); have VN := hide2 (VX.out.app3 own8 hg8 hl8); have IN := hide2 (IX.out.app3 hg8 hl8); have DN := hide2 (below_app (v := .slice A8 (n3 + 1) c8) (j := 2) DX.out DX.out.size VX.out.r.o3 hg8); have fz := (VX.out.xp.grown hg8 (own_far VX.out.r.o3 (Nat.lt_succ_self _))).frozen 2; have cz := (VX.out.xp.grown hg8 (own_far VX.out.r.o3 (Nat.lt_succ_self _))).cell 2; simp only [List.getElem?_toArray, List.getElem?_cons_zero, List.getElem?_cons_succ] at cz; clear own8 hg8 hl8 i0 y0)
            have VM := hide2 (show VSt (w8.setCell ⟨w0.heap.size, 2, none⟩ (.slice A8 (n3 + 1) c8)) w.heap.size w0.heap.size (.slice A n c) (gotV log (k + 1) (k + 1) (k + 1) k 0) s1 s2 (.slice A8 (n3 + 1) c8) s4 n1 n2 (n3 + 1) n4 by
              have := VN.out
              unfold gotV at this ⊢
              rw [onR_yes HB3.out]
              exact this)
            go_meet
            exact ⟨.slice A8 (n3 + 1) c8, n3 + 1, VM, IN, DN⟩
        case rest =>
        clear VX IX DX
        obtain ⟨s3, n3, V, I, D⟩ := hcut
        have DL := hide2 D.out.size
        have DW := hide2 (B0.out.trans (D.out.mono B0.out.size))
        have i0 := I.out.box.cell 0
        simp only [List.getElem?_toArray, List.getElem?_cons_zero] at i0
        have JN := hide2 (V.out.new 1)
        have VN := hide2 (V.out.alloc (.cells #[.int .i64 1] 3))
        have IN := hide2 (I.out.alloc (.cells #[.int .i64 1] 3))
        have DN := hide2 (D.out.alloc D.out.size (.cells #[.int .i64 1] 3))
        have NE := hide2 (show ba ≠ wc.heap.size from Nat.ne_of_lt I.out.box.lt)
        go_wp2
        clear i0
        generalize wc.alloc (.cells #[.int .i64 1] 3) = wd at *
        clear V I D DW DL
        obtain ⟨go, hgo⟩ : ∃ go : Nat, go = gk := ⟨_, rfl⟩
        subst hgo
        go_loopg [8] 26 (fun gj v wq => ∃ (j bb : Nat) (s4 : Value) (n4 : Nat), j + gj = 26 ∧ v = .pointer (some ⟨bb, 0, none⟩) ∧ Hid (VSt wq w.heap.size w0.heap.size (.slice A n c) (gotV log (k + 1) (k + 1) (k + 1) k j) s1 s2 s3 s4 n1 n2 n3 n4) ∧ Hid (IBx wq w0.heap.size ba ((k : Int) + 1) s1 s2 s3 s4) ∧ Hid (IBx wq w0.heap.size bb ((j : Int) + 1) s1 s2 s3 s4) ∧ Hid (Below w0.heap.size w0 wq))
        case atStart => exact ⟨0, wc.heap.size, s4, n4, by omega, rfl, VN, IN, JN, DN⟩
        case round =>
          clear VN IN JN NE DN
          obtain ⟨j, bb, s4, n4, hj, rfl, V, I, J, D⟩ := hrel
          have DL := hide2 D.out.size
          have DW := hide2 (B0.out.trans (D.out.mono B0.out.size))
          have i0 := I.out.box.cell 0
          have j0 := J.out.box.cell 0
          simp only [List.getElem?_toArray, List.getElem?_cons_zero] at i0 j0
          by_cases hjl : j < 26
          · have hji : (j : Int) + 1 ≤ 26 := by omega
            have HJW := hide2 (show IntKind.i64.wrap ((j : Int) + 1 + 1) = ((j + 1 : Nat) : Int) + 1 by simp [IntKind.wrap, IntKind.bits, IntKind.signed]; omega)
            obtain ⟨b4, hb4⟩ : ∃ b, log.any (p5 ((k : Int) + 1) ((j : Int) + 1)) = b := ⟨_, rfl⟩
            have HB4 := hide2 hb4
            clear hb4
            have C4 := hide2 (some_calls V.out.r.xl (Sl.keep ListR.kept H.out DW.out) (pred5 I.out.box J.out.box))
            rw [HB4.out] at C4
            go_upto_if 53 with (refine C4.out.mono ?_; rintro e wx ⟨rfl, hbx⟩; have VX := hide2 (V.out.keep hbx); have IX := hide2 (I.out.keep hbx); have JX := hide2 (J.out.keep hbx); have DX := hide2 (D.out.trans (hbx.mono DL.out)); clear hbx)
            clear i0 j0 V I J D DW DL C4
            cases b4
            · have VN := hide2 (show VSt wx w.heap.size w0.heap.size (.slice A n c) (gotV log (k + 1) (k + 1) (k + 1) k (j + 1)) s1 s2 s3 s4 n1 n2 n3 n4 by
                have := VX.out
                unfold gotV at this ⊢
                rw [behI_no HB4.out]
                exact this)
              have j0 := JX.out.box.cell 0
              simp only [List.getElem?_toArray, List.getElem?_cons_zero] at j0
              have hjw := HJW.out
              have JN2 := hide2 (VN.out.new (((j + 1 : Nat) : Int) + 1))
              have VN2 := hide2 (VN.out.alloc (.cells #[.int .i64 (((j + 1 : Nat) : Int) + 1)] 3))
              have IN2 := hide2 (IX.out.alloc (.cells #[.int .i64 (((j + 1 : Nat) : Int) + 1)] 3))
              have DN2 := hide2 (DX.out.alloc DX.out.size (.cells #[.int .i64 (((j + 1 : Nat) : Int) + 1)] 3))
              go_wp2
              go_roundg (gk - 1)
              case measure => omega
              case rel => exact ⟨j + 1, wx.heap.size, s4, n4, by omega, rfl, VN2, IN2, JN2, DN2⟩
            · have i0 := IX.out.box.cell 0
              have j0 := JX.out.box.cell 0
              have y0 := VX.out.xp.cell 3
              simp only [List.getElem?_toArray, List.getElem?_cons_zero, List.getElem?_cons_succ] at i0 j0 y0
              have hnn : n4 ≤ 1000 := by
                have := VX.out.r.o4.len
                have := (gotV_len log (k + 1) (k + 1) (k + 1) k j).2.2.2
                omega
              go_upto_region 20 with (at_builtin; refine wpList_appPairAt rfl _ _ rfl rfl rfl rfl VX.out.r.o4 VX.out.xp.lt hnn ?_; intro v8 w8 own8 hg8 hl8; obtain ⟨A8, c8, rfl, _⟩ := own8.sl (by omega); have VN := hide2 (VX.out.app4 own8 hg8); have IN := hide2 (IX.out.app4 hg8 hl8); have JN := hide2 (JX.out.app4 hg8 hl8); have DN := hide2 (below_app (v := .slice A8 (n4 + 1) c8) (j := 3) DX.out DX.out.size VX.out.r.o4 hg8); have fz := (VX.out.xp.grown hg8 (own_far VX.out.r.o4 (Nat.lt_succ_self _))).frozen 3; have cz := (VX.out.xp.grown hg8 (own_far VX.out.r.o4 (Nat.lt_succ_self _))).cell 3; simp only [List.getElem?_toArray, List.getElem?_cons_zero, List.getElem?_cons_succ] at cz; clear own8 hg8 hl8 i0 j0 y0)
              clear fz cz
              have VM := hide2 (show VSt (w8.setCell ⟨w0.heap.size, 3, none⟩ (.slice A8 (n4 + 1) c8)) w.heap.size w0.heap.size (.slice A n c) (gotV log (k + 1) (k + 1) (k + 1) k (j + 1)) s1 s2 s3 (.slice A8 (n4 + 1) c8) n1 n2 n3 (n4 + 1) by
                have := VN.out
                unfold gotV at this ⊢
                rw [behI_yes HB4.out, ← List.append_assoc]
                exact this)
              generalize w8.setCell ⟨w0.heap.size, 3, none⟩ (.slice A8 (n4 + 1) c8) = w9 at *
              have j0 := JN.out.box.cell 0
              simp only [List.getElem?_toArray, List.getElem?_cons_zero] at j0
              have hjw := HJW.out
              have JN2 := hide2 (VM.out.new (((j + 1 : Nat) : Int) + 1))
              have VN2 := hide2 (VM.out.alloc (.cells #[.int .i64 (((j + 1 : Nat) : Int) + 1)] 3))
              have IN2 := hide2 (IN.out.alloc (.cells #[.int .i64 (((j + 1 : Nat) : Int) + 1)] 3))
              have DN2 := hide2 (DN.out.alloc DN.out.size (.cells #[.int .i64 (((j + 1 : Nat) : Int) + 1)] 3))
              go_wp2
              go_roundg (gk - 1)
              case measure => omega
              case rel => exact ⟨j + 1, w9.heap.size, .slice A8 (n4 + 1) c8, n4 + 1, by omega, rfl, VN2, IN2, JN2, DN2⟩
          · have hji : ¬ (j : Int) + 1 ≤ 26 := by omega
            have hkw := HKW.out
            have VK := hide2 (show VSt wr w.heap.size w0.heap.size (.slice A n c) (gotV log (k + 1) (k + 1) (k + 1) (k + 1) 0) s1 s2 s3 s4 n1 n2 n3 n4 by
              have := V.out
              obtain rfl : j = 26 := by omega
              rw [gotV_next] at this
              exact this)
            have IN := hide2 (VK.out.new (((k + 1 : Nat) : Int) + 1))
            have VN := hide2 (VK.out.alloc (.cells #[.int .i64 (((k + 1 : Nat) : Int) + 1)] 3))
            have DN := hide2 (D.out.alloc D.out.size (.cells #[.int .i64 (((k + 1 : Nat) : Int) + 1)] 3))
            go_wp2
            go_roundg (go - 1)
            case measure => omega
            case rel => exact ⟨k + 1, wr.heap.size, s1, s2, s3, s4, n1, n2, n3, n4, by omega, rfl, VN, IN, DN⟩
      · have hki : ¬ (k : Int) + 1 ≤ 26 := by omega
        have i0 := I.out.box.cell 0
        simp only [List.getElem?_toArray, List.getElem?_cons_zero] at i0
        obtain rfl : k = 26 := by omega
        have DW := hide2 (B0.out.trans (D.out.mono B0.out.size))
        have LN := hide2 (show n1 ≤ 26 ∧ n2 ≤ 26 ∧ n3 ≤ 26 ∧ n4 ≤ 1000 by
          obtain ⟨l1, l2, l3, l4⟩ := gotV_len log 26 26 26 26 0
          have := V.out.r.o1.len
          have := V.out.r.o2.len
          have := V.out.r.o3.len
          have := V.out.r.o4.len
          omega)
        obtain ⟨A1, c1, rfl, i1⟩ := V.out.r.o1.sl (by have := LN.out; omega)
        obtain ⟨A2, c2, rfl, i2⟩ := V.out.r.o2.sl (by have := LN.out; omega)
        obtain ⟨A3, c3, rfl, i3⟩ := V.out.r.o3.sl (by have := LN.out; omega)
        obtain ⟨A4, c4, rfl, i4⟩ := V.out.r.o4.sl (by have := LN.out; omega)
        have I1 := hide2 i1
        have I2 := hide2 i2
        have I3 := hide2 i3
        have I4 := hide2 i4
        clear i1 i2 i3 i4
        have X4 := hide2 V.out.r.xr
        have z0 := V.out.xp.cell 0
        have z1 := V.out.xp.cell 1
        have z2 := V.out.xp.cell 2
        have z3 := V.out.xp.cell 3
        have y0 := X4.out.cell 0
        have y1 := X4.out.cell 1
        have y2 := X4.out.cell 2
        have y3 := X4.out.cell 3
        have f0 := X4.out.frozen 0
        have f1 := X4.out.frozen 1
        have f2 := X4.out.frozen 2
        have f3 := X4.out.frozen 3
        simp only [List.getElem?_toArray, List.getElem?_cons_zero, List.getElem?_cons_succ] at y0 y1 y2 y3 z0 z1 z2 z3
        have XE := hide2 (X4.out.laid (.slice A1 n1 c1) (.slice A2 n2 c2) (.slice A3 n3 c3) (.slice A4 n4 c4))
        have BE := hide2 (Beside.lay4 wr (w.heap.size + 1) (.slice A1 n1 c1) (.slice A2 n2 c2) (.slice A3 n3 c3) (.slice A4 n4 c4))
        have EE := hide2 (below_lay4 DW.out (Nat.le_succ _) (.slice A1 n1 c1) (.slice A2 n2 c2) (.slice A3 n3 c3) (.slice A4 n4 c4))
        have NI := hide2 (noInt4 (v0 := .slice none 0 0) (v1 := .slice none 0 0) (v2 := .slice none 0 0) (v3 := .slice none 0 0) (fun x e => (by cases e)) (fun x e => (by cases e)) (fun x e => (by cases e)) (fun x e => (by cases e)))
        have OF := hide2 (gotV_shows HZ.out)
        clear V I D DW LN
        go_wp2
        clear y0 y1 y2 y3 f0 f1 f2 f3 z0 z1 z2 z3
        have e0 := XE.out.cell 0
        have e1 := XE.out.cell 1
        have e2 := XE.out.cell 2
        have e3 := XE.out.cell 3
        simp only [List.getElem?_toArray, List.getElem?_cons_zero, List.getElem?_cons_succ, lay4] at e0 e1 e2 e3
        refine bodyPost_ret (v := .tuple #[.agg #[.slice A1 n1 c1, .slice A2 n2 c2, .slice A3 n3 c3, .slice A4 n4 c4], .int .i64 0]) (by simp [results, Try.results29, go_sem, e0, e1, e2, e3]) rfl ?_
        exact ⟨gotV log 26 26 26 26 0, 0, A1, A2, A3, A4, n1, c1, n2, c2, n3, c3, n4, c4, OF.out, rfl, Ints.beside I1.out X4.out NI.out BE.out, Ints.beside I2.out X4.out NI.out BE.out, Ints.beside I3.out X4.out NI.out BE.out, Pairs.beside I4.out X4.out NI.out BE.out, EE.out⟩
  · have hzb : (z == 0) = false := by simpa using h0
    have x0 := X1.out.cell 0
    have x1 := X1.out.cell 1
    have x2 := X1.out.cell 2
    have x3 := X1.out.cell 3
    have f0 := X1.out.frozen 0
    have f1 := X1.out.frozen 1
    have f2 := X1.out.frozen 2
    have f3 := X1.out.frozen 3
    simp only [List.getElem?_toArray, List.getElem?_cons_zero, List.getElem?_cons_succ] at x0 x1 x2 x3
    have NO := hide2 (OfP.no HZ.out h0)
    have XE := hide2 (X1.out.laid (.slice none 0 0) (.slice none 0 0) (.slice none 0 0) (.slice none 0 0))
    have EE := hide2 (below_lay4 B0.out (Nat.le_succ _) (.slice none 0 0) (.slice none 0 0) (.slice none 0 0) (.slice none 0 0))
    go_wp2
    clear x0 x1 x2 x3 f0 f1 f2 f3
    have e0 := XE.out.cell 0
    have e1 := XE.out.cell 1
    have e2 := XE.out.cell 2
    have e3 := XE.out.cell 3
    simp only [List.getElem?_toArray, List.getElem?_cons_zero, List.getElem?_cons_succ, lay4] at e0 e1 e2 e3
    refine bodyPost_ret (v := .tuple #[.agg #[.slice none 0 0, .slice none 0 0, .slice none 0 0, .slice none 0 0], .int .i64 z]) (by simp [results, Try.results29, go_sem, e0, e1, e2, e3]) rfl ?_
    exact ⟨emptyP, z, none, none, none, none, 0, 0, 0, 0, 0, 0, 0, 0, NO.out, rfl, Sl.nil0, Sl.nil0, Sl.nil0, Sl.nil0, EE.out⟩
end Go.Proofs.Ytnfppolgaeibeaa
