/- The contract of Tree. Conditions: the net and the mark read as lists. -/
import Derived.Test.YtcjjmfppkfmheaaCoverJ
import Derived.Test.YtcjjmfppkfmheaaNetE
namespace Go.Proofs.Ytcjjmfppkfmheaa
open Go.RowKit

def AnsTree (r : List PKnot × Int) (w : World) (e : Ending) (w' : World) : Prop := ∃ A c, e = .returned (.tuple #[.slice A r.1.length c, .int .i64 r.2]) ∧ Knots w' A r.1.length c r.1 ∧ Below w.heap.size w w'
theorem treeL_not {N : PNet} {m : List Int} {most : Int} (h : ¬ (1 ≤ most ∧ most ≤ 300 ∧ fitsB N m = true)) : treeL N m most = ([], 2) := by rw [treeL, if_neg h]
def firstK (m : List Int) : List LKnot := [(⟨-1, -1, m⟩, [])]
theorem treeL_some {N : PNet} {m : List Int} {most : Int} (h : 1 ≤ most ∧ most ≤ 300 ∧ fitsB N m = true) {ks : List LKnot} (hg : goK most.toNat N.trans most.toNat 0 (firstK m) = some ks) : treeL N m most = (ks.map fun x => x.1, 0) := by
  rw [treeL, if_pos h]; unfold firstK at hg; rw [hg]
theorem treeL_none {N : PNet} {m : List Int} {most : Int} (h : 1 ≤ most ∧ most ≤ 300 ∧ fitsB N m = true) (hg : goK most.toNat N.trans most.toNat 0 (firstK m) = none) : treeL N m most = ([], 4) := by
  rw [treeL, if_pos h]; unfold firstK at hg; rw [hg]

set_option maxRecDepth 100000 in
set_option maxHeartbeats 8000000 in
theorem tree_calls {w : World} {P : Int} {A B : Option Addr} {n c m d : Nat} {ts : List PTran} {xs : List Int} (most : Int) (h : Trans w A n c ts) (g : Ints w B m d xs) :
    Calls Try.prog 14 #[.agg #[.int .i64 P, .slice A n c], .slice B m d, .int .i64 most] w (AnsTree (treeL ⟨P, ts⟩ xs most) w) := by
  have HB := hide2 (boxBelow w (.cells #[.int .i64 P, .slice A n c] 27))
  have X0 := hide2 (Box.new w #[.int .i64 P, .slice A n c] 27)
  have CE := hide2 (fun (w' : World) (hb : Below w.heap.size w w') => enabled_calls (P := P) (h.keep hb) (g.keep hb))
  have H := hide2 h
  have G := hide2 g
  have GL := hide2 (show xs.length = m from g.len)
  have TL := hide2 (show ts.length = n from h.len)
  clear h g
  by_cases hr : 1 ≤ most ∧ most ≤ 300
  · have hm1 : ¬ most < 1 := by omega
    have hm2 : ¬ 300 < most := by omega
    have HR := hide2 hr
    clear hr
    cases hf : fitsB ⟨P, ts⟩ xs
    · have FIN := hide2 (treeL_not (N := ⟨P, ts⟩) (m := xs) (most := most) (fun h => by rw [hf] at h; cases h.2.2))
      have EN := hide2 (show enabledL ⟨P, ts⟩ xs = ([], 2) from by rw [enabledL, hf]; rfl)
      clear hf
      go_enter Try.func14, Try.ntmps14
      go_upto_region 1 with fail
      generalize w.alloc (.cells #[.int .i64 P, .slice A n c] 27) = w0 at *
      obtain ⟨c0, c1⟩ := X0.out.two
      go_wp2_with ((with_reducible refine (CE.out _ HB.out).mono ?_); rw [EN.out]; rintro e w1 ⟨C, l, lc, rfl, hi, hb1⟩)
      go_ret2
      exact ⟨none, 0, by rw [FIN.out]; rfl, by rw [FIN.out]; exact Sl.nil0, HB.out.trans (hb1.mono HB.out.size)⟩
    · have EN := hide2 (show enabledL ⟨P, ts⟩ xs = (enIdx ts xs, 0) from by rw [enabledL, if_pos hf])
      have HF := hide2 hf
      have hok := (netOk_iff _).1 ((fitsB_iff _ _).1 hf).1
      have hm16 : m ≤ 16 := by have h1 := ((fitsB_iff _ _).1 hf).2.1; have h2 := hok.2.1; simp only [] at h1 h2; rw [GL.out] at h1; omega
      have hn24 : n ≤ 24 := by have := hok.2.2.1; simp only [] at this; rw [TL.out] at this; exact this
      have TO := hide2 (show ∀ t, t ∈ ts → t.pre.length = m ∧ t.post.length = m from fun t ht => by
        have h1 := ((fitsB_iff _ _).1 hf).2.1
        have h2 := (tranOk_iff _ _).1 (hok.2.2.2 t ht)
        simp only [] at h1
        rw [GL.out] at h1
        have h3 := h2.2.2.1
        have h4 := h2.2.2.2.1
        simp only [] at h3 h4
        exact ⟨by omega, by omega⟩)
      have OKr := hide2 (show 1 ≤ most ∧ most ≤ 300 ∧ fitsB ⟨P, ts⟩ xs = true from ⟨HR.out.1, HR.out.2, hf⟩)
      clear hf hok
      obtain ⟨M, hM⟩ : ∃ M : Nat, most = (M : Int) := ⟨most.toNat, by have := HR.out.1; omega⟩
      subst hM
      have hM1 : 1 ≤ M := by have := HR.out.1; omega
      have hM3 : M ≤ 300 := by have := HR.out.2; omega
      obtain ⟨R, hR⟩ : ∃ R, goK M ts M 0 (firstK xs) = R := ⟨_, rfl⟩
      have RN := hide2 (show R = none → treeL ⟨P, ts⟩ xs (M : Int) = ([], 4) from fun h => treeL_none OKr.out (by rw [Int.toNat_natCast]; exact hR.trans h))
      have RS := hide2 (show ∀ ks, R = some ks → treeL ⟨P, ts⟩ xs (M : Int) = (ks.map fun x => x.1, 0) from fun ks h => treeL_some OKr.out (by rw [Int.toNat_natCast]; exact hR.trans h))
      have HR1 := hide2 hR
      clear hR
      go_enter Try.func14, Try.ntmps14
      go_upto_region 1 with fail
      generalize w.alloc (.cells #[.int .i64 P, .slice A n c] 27) = w0 at *
      obtain ⟨c0, c1⟩ := X0.out.two
      go_upto_region 6 with ((with_reducible refine (CE.out _ HB.out).mono ?_); rw [EN.out]; rintro e w1 ⟨C, l, lc, rfl, hi, hb1⟩)
      have X1 := hide2 (X0.out.keep hb1)
      have B1 := hide2 (HB.out.trans (hb1.mono HB.out.size))
      clear c0 c1 hi hb1 HB X0 CE EN
      have G1 := hide2 (G.out.keep B1.out.drew)
      have c0 : w1.drew.cell? ⟨w.heap.size, 0, none⟩ = some (.int .i64 P) := X1.out.cell 0
      have c1 : w1.drew.cell? ⟨w.heap.size, 1, none⟩ = some (.slice A n c) := X1.out.cell 1
      have X2 := hide2 (show Box w1.drew w.heap.size 27 #[.int .i64 P, .slice A n c] from X1.out)
      have B2 := hide2 B1.out.drew
      refine wp_region_scr 7 (.takes [0, 1] (.one 2 (.one 3 (.one 4 (.one 5 (.one 6 (.fin 7 .done))))))) (fun w' => w'.cell? ⟨w.heap.size, 0, none⟩ = some (.int .i64 P) ∧ w'.cell? ⟨w.heap.size, 1, none⟩ = some (.slice A n c)) (by kernel_rfl) (by kernel_rfl) (by kernel_rfl) (fun _ _ _ _ _ h => h) ⟨c0, c1⟩ (fun hHeld => ?_)
      simp only [Scr.takes]
      generalize w1.drew = u0 at *
      clear X1 B1 c0 c1
      iterate 2
        refine tkTake (v := ?_) rfl (by rfl) hHeld (fun w' hSw => ?_) ?_
        rotate_left
        · (go_simp; try with_reducible rfl)
        try simp only [Act.put, List.setIfInBounds_toArray, List.set_cons_zero, List.set_cons_succ]
      refine tkOne rfl (fun Kf hKf => ?_)
      go_simp
      refine (cloneInts_calls G1.out (by omega)).mono ?_
      rintro e w2 ⟨v, rfl, own, hb2⟩
      obtain ⟨Ac, cc, rfl, ic⟩ := own.sl (by omega)
      have X3 := hide2 (X2.out.keep hb2)
      have B3 := hide2 (B2.out.trans (hb2.mono B2.out.size))
      have IC := hide2 ic
      have FAR := hide2 (Far.own (N := w.heap.size) own)
      have SZ2 := hide2 B3.out.size
      clear ic own hb2 X2 B2 G1 hHeld
      obtain ⟨c0, c1⟩ := X3.out.two
      refine hKf.out _ _ ⟨c0, c1⟩ (fun hHeld => ?_)
      clear hKf
      try simp only [Act.put, List.setIfInBounds_toArray, List.set_cons_zero, List.set_cons_succ]
      refine tkOne rfl (fun Kf hKf => ?_)
      go_simp
      refine hKf.out _ _ ⟨c0, c1⟩ (fun hHeld => ?_)
      clear hKf
      try simp only [Act.put, List.setIfInBounds_toArray, List.set_cons_zero, List.set_cons_succ]
      refine tkOne rfl (fun Kf hKf => ?_)
      go_simp
      have TM := hide2 (TreeM.start (N := w.heap.size) (P := P) (A := A) (n := n) (c := c) IC.out FAR.out B3.out.size)
      have X4 := hide2 (X3.out.old (.cells #[.int .i64 (-1), .int .i64 (-1), .slice Ac m cc] 100))
      obtain ⟨d0, d1⟩ := X4.out.two
      refine hKf.out _ _ ⟨d0, d1⟩ (fun hHeld => ?_)
      clear hKf
      try simp only [Act.put, List.setIfInBounds_toArray, List.set_cons_zero, List.set_cons_succ]
      refine tkOne rfl (fun Kf hKf => ?_)
      go_simp
      refine hKf.out _ _ ⟨d0, d1⟩ (fun hHeld => ?_)
      clear hKf
      try simp only [Act.put, List.setIfInBounds_toArray, List.set_cons_zero, List.set_cons_succ]
      refine tkOne rfl (fun Kf hKf => ?_)
      go_simp
      have B5 := hide2 (show Below w.heap.size w ((w2.alloc (.cells #[.int .i64 (-1), .int .i64 (-1), .slice Ac m cc] 100)).alloc (.cells #[.int .i64 P, .slice A n c, .slice (some ⟨w2.heap.size, 0, none⟩) 1 1] 102)) from (B3.out.alloc B3.out.size _).alloc (by have := B3.out.size; simp; omega) _)
      have X5 := hide2 (X4.out.old (.cells #[.int .i64 P, .slice A n c, .slice (some ⟨w2.heap.size, 0, none⟩) 1 1] 102))
      clear X3 X4 c0 c1 d0 d1 IC FAR B3
      generalize (w2.alloc (.cells #[.int .i64 (-1), .int .i64 (-1), .slice Ac m cc] 100)).alloc (.cells #[.int .i64 P, .slice A n c, .slice (some ⟨w2.heap.size, 0, none⟩) 1 1] 102) = w3 at *
      obtain ⟨c0, c1⟩ := X5.out.two
      refine hKf.out _ _ ⟨c0, c1⟩ (fun hHeld => ?_)
      clear hKf
      try simp only [Act.put, List.setIfInBounds_toArray, List.set_cons_zero, List.set_cons_succ]
      refine tkEnd rfl (fun Kf hKf => ?_)
      go_simp
      refine hKf.out _ _ ?_
      clear hKf hHeld c0 c1
      refine tkDone ?_
      generalize w2.heap.size + 1 = bT at *
      generalize w2.heap.size = b2 at *
      have OK0 := hide2 (TreeOk.start (n := m) (most := M) GL.out hM1)
      obtain ⟨N, hN⟩ : ∃ N, w.heap.size = N := ⟨_, rfl⟩
      rw [hN] at TM X5 B5 SZ2 ⊢
      have HN := hide2 hN
      clear hN
      go_wp2
      go_loopw [11] (fun kv wr => ∃ (k g : Nat) (ks : List LKnot) (v : Value), kv = .int .i64 k ∧ k ≤ ks.length ∧ Hid (k + g = M) ∧ Hid (TreeM N bT P A n c ks v wr) ∧ Hid (TreeOk m M ks) ∧ Hid (Below N w wr) ∧ Hid (Box wr N 27 #[.int .i64 P, .slice A n c]) ∧ Hid (goK M ts g k ks = R)) (fun kv _ => M - (intOf kv).toNat)
      case atStart => exact ⟨0, M, firstK xs, _, rfl, Nat.zero_le _, hide2 (by omega), TM, OK0, B5, X5, HR1⟩
      case round =>
        clear TM OK0 B5 X5
        obtain ⟨k, g, ks, v, rfl, hk, KG, TM, TK, BW, XN, GO⟩ := hrel
        have hfew : ks.length ≤ 300 := Nat.le_trans TK.out.few hM3
        obtain ⟨Am, cm, rfl, ta⟩ := TM.out.tree hfew
        have TA := hide2 ta
        have c2 := ta.cell
        clear ta
        obtain ⟨L, hL⟩ : ∃ L, ks.length = L := ⟨_, rfl⟩
        have HL := hide2 hL
        rw [hL] at c2 TA TM hfew hk
        by_cases hlt : k < L
        · obtain ⟨x, hx⟩ : ∃ x, ks[k]? = some x := ⟨_, List.getElem?_eq_getElem (by omega)⟩
          have hki : (k : Int) < (L : Int) := by omega
          have CA := hide2 (again_calls TK.out TA.out hx)
          have HX := hide2 hx
          obtain ⟨g', hg'⟩ : ∃ g', g = g' + 1 := ⟨g - 1, by have := KG.out; have := TK.out.few; rw [HL.out] at this; omega⟩
          subst hg'
          have ST := hide2 (show (if seenK x = true then some ks else foldK M x k ts (some ks)).bind (goK M ts g' (k + 1)) = R by
            have := GO.out
            rw [goK, if_pos (by rw [HL.out]; exact hlt), stepK, HX.out] at this
            exact this)
          clear hx hL GO
          cases hs : seenK x with
          | true =>
            rw [hs] at CA
            have ST2 := hide2 (show goK M ts g' (k + 1) ks = R by have := ST.out; rw [hs] at this; exact this)
            clear hs ST
            go_wp2_with ((with_reducible refine CA.out.mono ?_); rintro e w4 ⟨rfl, hb4⟩)
            go_roundw
            case rel => exact ⟨k + 1, g', ks, _, by simp, by rw [HL.out]; omega, hide2 (by have := KG.out; omega), TM.out.keep hb4, TK, BW.out.trans (hb4.mono (Nat.le_trans (Nat.le_of_eq HN.out.symm) BW.out.size)), XN.out.keep hb4, ST2⟩
            case measure =>
              have := KG.out
              simp [intOf]
              omega
          | false =>
            rw [hs] at CA
            have ST2 := hide2 (show (foldK M x k ts (some ks)).bind (goK M ts g' (k + 1)) = R by have := ST.out; rw [hs] at this; exact this)
            clear hs ST
            go_wp2_with ((with_reducible refine CA.out.mono ?_); rintro e w4 ⟨rfl, hb4⟩; have x1 : w4.cell? ⟨N, 1, none⟩ = some (.slice A n c) := (XN.out.keep hb4).cell 1)
            have TM4 := hide2 (TM.out.keep hb4)
            have BW4 := hide2 (BW.out.trans (hb4.mono (Nat.le_trans (Nat.le_of_eq HN.out.symm) BW.out.size)))
            have XN4 := hide2 (XN.out.keep hb4)
            have FO := hide2 (show foldK M x k (ts.take 0) (some ks) = some ks from rfl)
            obtain ⟨wo, hwo⟩ : ∃ wo : World, wo = wr := ⟨_, rfl⟩
            subst hwo
            clear c2 x1 hb4 CA TM BW XN TA
            go_loopw [51] (fun iv wr => ∃ (i : Nat) (ks1 : List LKnot) (v1 : Value), iv = .int .i64 i ∧ i ≤ n ∧ Hid (TreeM N bT P A n c ks1 v1 wr) ∧ Hid (TreeOk m M ks1) ∧ Hid (Below N w wr) ∧ Hid (Box wr N 27 #[.int .i64 P, .slice A n c]) ∧ Hid (ks <+: ks1) ∧ Hid (foldK M x k (ts.take i) (some ks) = some ks1)) (fun iv _ => n - (intOf iv).toNat)
            case atStart => exact ⟨0, ks, _, rfl, Nat.zero_le _, TM4, TK, BW4, XN4, List.prefix_rfl, FO⟩
            case round =>
              clear TM4 BW4 XN4 FO TK
              obtain ⟨i, ks1, v1, rfl, hi, TM, TK, BW, XN, PF, FO⟩ := hrel
              have BW' : Hid (Below w.heap.size w wr) := hide2 (BW.out.mono (Nat.le_of_eq HN.out))
              by_cases hin : i < n
              · obtain ⟨bt, offt, t, A1, n1, c1, A2, n2, c2, rfl, hbt, ht, q0, q1, q2, i1, i2, _, _⟩ := (H.out.keep BW'.out).get hin
                have hii : (i : Int) < (n : Int) := by omega
                have hlen := TO.out t (List.mem_of_getElem? ht.out)
                obtain rfl : n1 = m := i1.len.symm.trans hlen.1
                obtain rfl : n2 = n1 := i2.len.symm.trans hlen.2
                have NX := hide2 (show foldK M x k (ts.take (i + 1)) (some ks) = pushK M x k i t ks1 by
                  rw [take_snoc ht.out, foldK_snoc, FO.out, List.length_take, Nat.min_eq_left (by rw [TL.out]; omega)]; rfl)
                have HX1 := hide2 (prefixK_at PF.out HX.out)
                have hfew1 : ks1.length ≤ 300 := Nat.le_trans TK.out.few hM3
                obtain ⟨Am1, cm1, rfl, ta⟩ := TM.out.tree hfew1
                have hk1 : k < ks1.length := (List.getElem?_eq_some_iff.1 HX1.out).1
                obtain ⟨bk, offk, y, Bm, km, dm, rfl, hbk, hy, _, _, qm, im⟩ := ta.knots.get hk1
                have hxy : x.1 = y := by have := hy.out; rw [List.getElem?_map, HX1.out] at this; simpa using this
                subst hxy
                obtain rfl : km = n2 := im.out.len.symm.trans (TK.out.lens x (List.mem_of_getElem? HX1.out)).1
                have I1 := hide2 i1
                have I2 := hide2 i2
                have IM := im
                have TA := hide2 ta
                have CT := hide2 ta.cell
                have QM := hide2 qm
                obtain ⟨L1, hL1⟩ : ∃ L1, ks1.length = L1 := ⟨_, rfl⟩
                have HL1 := hide2 hL1
                rw [hL1] at CT TA TM hk1 hfew1
                have hkL : (k : Int) < (L1 : Int) := by omega
                clear ta i1 i2 qm im hL1 hy
                have hb5 := (Below.refl wr.heap.size wr).alloc (Nat.le_refl _) (.cells #[.int .i64 t.label, .slice A1 km c1, .slice A2 km c2] 86)
                have X13 := hide2 (Box.new wr #[.int .i64 t.label, .slice A1 km c1, .slice A2 km c2] 86)
                have TM5 := hide2 (TM.out.keep hb5)
                have BW5 := hide2 (BW.out.trans (hb5.mono (Nat.le_trans (Nat.le_of_eq HN.out.symm) BW.out.size)))
                have XN5 := hide2 (XN.out.keep hb5)
                have J1 := hide2 (I1.out.keep hb5)
                have J2 := hide2 (I2.out.keep hb5)
                have JM := hide2 (IM.out.keep hb5)
                have TA5 := hide2 (TA.out.keep hb5)
                have QM5 := hide2 ((hb5.cell (p := ⟨bk, _, none⟩) hbk).trans QM.out)
                have LT5 := hide2 (Nat.lt_of_lt_of_le hbk hb5.size)
                go_upto_region 14 with fail
                clear hb5 TM BW BW' XN I1 I2 IM TA CT QM q0 q1 q2 hbk hbt
                generalize wr.alloc (.cells #[.int .i64 t.label, .slice A1 km c1, .slice A2 km c2] 86) = w5 at *
                generalize wr.heap.size = b13 at *
                obtain ⟨d0, d1, d2⟩ := X13.out.three
                have ct := TM5.out.box.three.2.2
                have qm := QM5.out
                obtain ⟨r, hr⟩ : ∃ r, belowB t.pre x.1.mark = r := ⟨_, rfl⟩
                have CB := hide2 (fun q => show Calls Try.prog 58 #[.slice A1 km c1, .slice Bm km dm] (w5.drewN q) fun e w' => e = .returned (.bool r) ∧ w5.drewN q = w' from by
                  rw [← hr]; exact below_calls (J1.out.keep (Drew.drewN w5 q).below) (JM.out.keep (Drew.drewN w5 q).below))
                have HRB := hide2 hr
                clear hr
                go_quiet ((go_at_call 58; exact quietCall (CB.out _)))
                clear d0 d1 d2 ct qm CB
                cases r with
                | false =>
                  have NX2 := hide2 (show foldK M x k (ts.take (i + 1)) (some ks) = some ks1 by rw [NX.out, pushK, if_neg (by rw [HRB.out]; decide)])
                  go_wp2
                  go_roundw
                  case rel => exact ⟨i + 1, ks1, _, by simp, hin, TM5.out.keep (Drew.drewN w5 _).below, TK, BW5.out.trans ((Drew.drewN w5 _).below.mono (Nat.le_trans (Nat.le_of_eq HN.out.symm) BW5.out.size)), XN5.out.keep (Drew.drewN w5 _).below, PF, NX2⟩
                  case measure => simp [intOf]; omega
                | true =>
                  obtain ⟨q6, hq6⟩ : ∃ q6, q6 = 1 + 0 := ⟨_, rfl⟩
                  by_cases hfull : L1 = M
                  · have NONE := hide2 (show R = none by
                      rw [← ST2.out, foldK_ended (i + 1) (by rw [NX.out, pushK, if_pos HRB.out, if_pos (by rw [HL1.out]; exact hfull)])]
                      rfl)
                    have ct := TM5.out.box.three.2.2
                    have xe : ((L1 : Int) == (M : Int)) = true := by simp [hfull]
                    have xi : (L1 : Int) = (M : Int) := by omega
                    clear hfull
                    go_wp2
                    go_ret2
                    exact ⟨none, 0, by rw [RN.out NONE.out]; rfl, by rw [RN.out NONE.out]; exact Sl.nil0, by rw [HN.out]; exact BW5.out.trans ((Drew.drewN w5 _).below.mono (Nat.le_trans (Nat.le_of_eq HN.out.symm) BW5.out.size))⟩
                  · have ct := TM5.out.box.three.2.2
                    have xe : ((L1 : Int) == (M : Int)) = false := by simp; omega
                    have xi : ¬ (L1 : Int) = (M : Int) := by omega
                    have HFU := hide2 hfull
                    clear hfull
                    go_upto_region 17 with fail
                    have du := hide2 ((Drew.drewN w5 nq).below.drew)
                    have TMu := hide2 (TM5.out.keep du.out)
                    have BWu := hide2 (BW5.out.trans (du.out.mono (Nat.le_trans (Nat.le_of_eq HN.out.symm) BW5.out.size)))
                    have XNu := hide2 (XN5.out.keep du.out)
                    have XBu := hide2 (X13.out.keep du.out)
                    have J1u := hide2 (J1.out.keep du.out)
                    have J2u := hide2 (J2.out.keep du.out)
                    have JMu := hide2 (JM.out.keep du.out)
                    have TAu := hide2 (TA5.out.keep du.out)
                    have QMu := hide2 ((du.out.cell (p := ⟨bk, _, none⟩) LT5.out).trans QM5.out)
                    have LTu := hide2 (Nat.lt_of_lt_of_le LT5.out du.out.size)
                    clear ct TM5 BW5 XN5 X13 J1 J2 JM TA5 QM5 LT5 du
                    obtain ⟨e0, e1, e2⟩ := XBu.out.three
                    have et := TMu.out.box.three.2.2
                    have em := QMu.out
                    refine wp_region_scrPP 22 0 9 24 (.takes [1, 2, 3, 4, 5, 6, 7, 8, 10, 11, 12, 13, 14, 15, 16, 18] (.one 17 (.one 19 (.one 20 (.one 21 (.fin 22 (.fin 23 (.fin 24 (.fin 25 .done))))))))) (fun w' => w'.cell? ⟨b13, 0, none⟩ = some (.int .i64 t.label) ∧ w'.cell? ⟨b13, 1, none⟩ = some (.slice A1 km c1) ∧ w'.cell? ⟨b13, 2, none⟩ = some (.slice A2 km c2) ∧ w'.cell? ⟨bT, 2, none⟩ = some (.slice (some ⟨bk, offk, none⟩) L1 cm1) ∧ w'.cell? ⟨bk, offk + k * 3 + 2, none⟩ = some (.slice Bm km dm)) (v := ?_) (u := ?_) (by kernel_rfl) (by kernel_rfl) (by kernel_rfl) rfl (by kernel_rfl) (fun _ _ _ _ _ h => h) rfl (by rfl) (fun w' => ?_) rfl (by rfl) (fun w' => ?_) ⟨e0, e1, e2, et, em⟩ (fun hHeld => ?_)
                    rotate_left 2
                    · (go_simp; try with_reducible rfl)
                    · (go_simp; try with_reducible rfl)
                    try simp only [Act.put, List.setIfInBounds_toArray, List.set_cons_zero, List.set_cons_succ]
                    simp only [Scr.takes]
                    generalize (w5.drewN nq).drew = u1 at *
                    iterate 16
                      refine tkTake (v := ?_) rfl (by rfl) hHeld (fun w' hSw => ?_) ?_
                      rotate_left
                      · (go_simp; try with_reducible rfl)
                      try simp only [Act.put, List.setIfInBounds_toArray, List.set_cons_zero, List.set_cons_succ]
                    refine tkOne rfl (fun Kf hKf => ?_)
                    go_simp
                    refine (fireC_calls (lb := t.label) J1u.out J2u.out JMu.out hm16).mono ?_
                    rintro e u2 ⟨vf, rfl, ownf, hb2⟩
                    obtain ⟨Af, cf, rfl, jf⟩ := ownf.sl (by omega)
                    have OF := hide2 ownf
                    have E2 := hide2 hb2
                    clear ownf hb2 jf
                    refine hKf.out _ _ ⟨(E2.out.cell (p := ⟨b13, 0, none⟩) XBu.out.lt).trans e0, (E2.out.cell (p := ⟨b13, 1, none⟩) XBu.out.lt).trans e1, (E2.out.cell (p := ⟨b13, 2, none⟩) XBu.out.lt).trans e2, (E2.out.cell (p := ⟨bT, 2, none⟩) TMu.out.box.lt).trans et, (E2.out.cell (p := ⟨bk, _, none⟩) LTu.out).trans em⟩ (fun hHeld => ?_)
                    clear hKf
                    try simp only [Act.put, List.setIfInBounds_toArray, List.set_cons_zero, List.set_cons_succ]
                    refine tkOne rfl (fun Kf hKf => ?_)
                    go_simp
                    refine (grow_calls TK.out TAu.out E2.out OF.out hm16 rfl HX1.out).mono ?_
                    rintro e u3 ⟨rfl, owng, hb3⟩
                    have OG := hide2 owng
                    have E3 := hide2 (E2.out.trans hb3)
                    clear owng hb3 OF E2
                    have f0 := (E3.out.cell (p := ⟨b13, 0, none⟩) XBu.out.lt).trans e0
                    have f1 := (E3.out.cell (p := ⟨b13, 1, none⟩) XBu.out.lt).trans e1
                    have f2 := (E3.out.cell (p := ⟨b13, 2, none⟩) XBu.out.lt).trans e2
                    have f3 := (E3.out.cell (p := ⟨bT, 2, none⟩) TMu.out.box.lt).trans et
                    have f4 := (E3.out.cell (p := ⟨bk, _, none⟩) LTu.out).trans em
                    refine hKf.out _ _ ⟨f0, f1, f2, f3, f4⟩ (fun hHeld => ?_)
                    clear hKf
                    try simp only [Act.put, List.setIfInBounds_toArray, List.set_cons_zero, List.set_cons_succ]
                    refine tkOne rfl (fun Kf hKf => ?_)
                    go_simp
                    refine hKf.out _ _ ⟨f0, f1, f2, f3, f4⟩ (fun hHeld => ?_)
                    clear hKf
                    try simp only [Act.put, List.setIfInBounds_toArray, List.set_cons_zero, List.set_cons_succ]
                    refine tkOne rfl (fun Kf hKf => ?_)
                    go_simp
                    have TM3 := hide2 (TMu.out.keep E3.out)
                    have BW3 := hide2 (BWu.out.trans (E3.out.mono (Nat.le_trans (Nat.le_of_eq HN.out.symm) BWu.out.size)))
                    have XN3 := hide2 (XNu.out.keep E3.out)
                    have hb4 := (Below.refl u3.heap.size u3).alloc (Nat.le_refl _) (.cells #[.int .i64 (k : Int), .int .i64 (i : Int), .slice Af km cf] 100)
                    have lt3 := Nat.lt_of_lt_of_le LTu.out E3.out.size
                    have XB3 := hide2 (XBu.out.keep E3.out)
                    have k0 := (hb4.cell (p := ⟨b13, 0, none⟩) XB3.out.lt).trans f0
                    have k1 := (hb4.cell (p := ⟨b13, 1, none⟩) XB3.out.lt).trans f1
                    have k2 := (hb4.cell (p := ⟨b13, 2, none⟩) XB3.out.lt).trans f2
                    have k3 := (hb4.cell (p := ⟨bT, 2, none⟩) TM3.out.box.lt).trans f3
                    have k4 := (hb4.cell (p := ⟨bk, _, none⟩) lt3).trans f4
                    refine hKf.out _ _ ⟨k0, k1, k2, k3, k4⟩ (fun hHeld => ?_)
                    clear hKf hb4 f0 f1 f2 f3 f4 e0 e1 e2 et em
                    try simp only [Act.put, List.setIfInBounds_toArray, List.set_cons_zero, List.set_cons_succ]
                    have PUSH := hide2 (show pushK M x k i t ks1 = some (ks1 ++ [nextK x k i t]) by rw [pushK, if_pos HRB.out, if_neg (by rw [HL1.out]; exact HFU.out)])
                    have hf3 : ks1.length ≤ 300 := by rw [HL1.out]; exact hfew1
                    obtain ⟨Ag, cg, hvg, jg⟩ := OG.out.sl (by omega)
                    injection hvg with g1 _ g3
                    subst g1 g3
                    have hread : Reads (MkR N) 3 u3 #[.int .i64 (k : Int), .int .i64 (i : Int), .slice Af km cf].toList [(nextK x k i t).1] := by
                      refine Reads.one (vs := fun j => match j with | 0 => .int .i64 (k : Int) | 1 => .int .i64 (i : Int) | _ => .slice Af km cf) ⟨rfl, rfl, Af, km, cf, rfl, jg, Far.own OG.out⟩ rfl (fun j hj => ?_)
                      match j, hj with
                      | 0, _ => rfl
                      | 1, _ => rfl
                      | 2, _ => rfl
                    have hN3 : N ≤ u3.heap.size := Nat.le_trans (Nat.le_of_eq HN.out.symm) BW3.out.size
                    refine tkEnd rfl (fun Kf hKf => ?_)
                    refine step_appNew tyKnots rfl (.tmp 79) (.tmp 96) rfl [(nextK x k i t).1] #[.int .i64 (k : Int), .int .i64 (i : Int), .slice Af km cf] rfl rfl (by first | rfl | simp) rfl rfl (by omega) (by simp [Value.oneCell']) TM3.out.own hread rfl BW3.out hN3 (by omega) (by omega) TM3.out.keepRow ?_
                    intro g5 cap5 w6 own6 hg6 hb6 hBg hgl
                    have Y6 := TM3.out.boxGrown hg6
                    have X6 := TM3.out.otherGrown hg6 XN3.out (by decide)
                    have c6 := Y6.three.2.2
                    have r6 := Y6.frozen 2
                    have hNT : N ≠ bT := fun e => by
                      subst e
                      unfold Box at X6 Y6
                      rw [X6] at Y6
                      injection Y6 with h3
                      injection h3 with _ h3
                      exact absurd h3 (by decide)
                    have TM7 := hide2 (TM3.out.more own6 hg6)
                    have XN7 := hide2 (X6.other (a := ⟨bT, 2, none⟩) (.slice (some ⟨g5, 0, none⟩) (ks1.length + 1) cap5) hNT)
                    have BW7 := hide2 (hb6.setCell (p := ⟨bT, 2, none⟩) TM3.out.lo (.slice (some ⟨g5, 0, none⟩) (ks1.length + 1) cap5))
                    have TK7 := hide2 (TK.out.push HX1.out PUSH.out)
                    have FO7 := hide2 (NX.out.trans PUSH.out)
                    clear own6 hg6 hb6 hread jg
                    refine hKf.out _ _ ?_
                    clear hKf hHeld k0 k1 k2 k3 k4
                    try simp only [Act.put, List.setIfInBounds_toArray, List.set_cons_zero, List.set_cons_succ]
                    refine tkEnd rfl (fun Kf hKf => ?_)
                    go_simp
                    refine hKf.out _ _ ?_
                    clear hKf
                    try simp only [Act.put, List.setIfInBounds_toArray, List.set_cons_zero, List.set_cons_succ]
                    refine tkEnd rfl (fun Kf hKf => ?_)
                    go_simp
                    refine hKf.out _ _ ?_
                    clear hKf
                    try simp only [Act.put, List.setIfInBounds_toArray, List.set_cons_zero, List.set_cons_succ]
                    refine tkEnd rfl (fun Kf hKf => ?_)
                    go_simp
                    refine hKf.out _ _ ?_
                    clear hKf
                    refine tkDone ?_
                    go_wp2
                    go_roundw
                    case rel => exact ⟨i + 1, ks1 ++ [nextK x k i t], _, by simp, hin, TM7, hide2 TK7.out.1, BW7, XN7, hide2 (PF.out.trans TK7.out.2), FO7⟩
                    case measure => simp [intOf]; omega
              · have hge : ¬ (i : Int) < (n : Int) := by omega
                have RT := hide2 (show goK M ts g' (k + 1) ks1 = R by
                  have h1 := FO.out
                  have h2 := ST2.out
                  rw [List.take_of_length_le (by rw [TL.out]; omega)] at h1
                  rw [h1] at h2
                  exact h2)
                have LE := hide2 (show k + 1 ≤ ks1.length from (List.getElem?_eq_some_iff.1 (prefixK_at PF.out HX.out)).1)
                go_wp2
                go_roundw
                case rel => exact ⟨k + 1, g', ks1, v1, by simp, LE.out, hide2 (by have := KG.out; omega), TM, TK, BW, XN, RT⟩
                case measure =>
                  have := KG.out
                  simp [intOf]
                  omega
        · have hge : ¬ (k : Int) < (L : Int) := by omega
          have DONE := hide2 (show R = some ks by
            rw [← GO.out]
            cases g with
            | zero => rfl
            | succ g => rw [goK, if_neg (by omega)])
          go_wp2
          go_ret2
          refine ⟨Am, cm, ?_, ?_, by rw [HN.out]; exact BW.out⟩
          · rw [RS.out _ DONE.out]
            simp [hL]
          · rw [RS.out _ DONE.out]
            have := TA.out.knots
            simpa [hL] using this
  · have FIN := hide2 (treeL_not (N := ⟨P, ts⟩) (m := xs) (most := most) (fun h => hr ⟨h.1, h.2.1⟩))
    by_cases hm1 : most < 1
    · clear hr
      go_enter Try.func14, Try.ntmps14
      go_wp2
      go_ret2
      exact ⟨none, 0, by rw [FIN.out]; rfl, by rw [FIN.out]; exact Sl.nil0, HB.out⟩
    · have hm2 : 300 < most := by omega
      clear hr
      go_enter Try.func14, Try.ntmps14
      go_wp2
      go_ret2
      exact ⟨none, 0, by rw [FIN.out]; rfl, by rw [FIN.out]; exact Sl.nil0, HB.out⟩
end Go.Proofs.Ytcjjmfppkfmheaa
