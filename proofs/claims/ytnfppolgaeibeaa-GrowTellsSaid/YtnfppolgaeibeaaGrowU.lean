/- The contract of KGrow. Conditions: the block reads as a tree. Printed by wip/gen/growU.py. -/
import Derived.Test.YtnfppolgaeibeaaGrowT
import Derived.Test.YtnfppolgaeibeaaGrowM
import Derived.Test.YtnfppolgaeibeaaHeld
import Derived.Test.YtnfppolgaeibeaaBox
namespace Go.Proofs.Ytnfppolgaeibeaa
open Go.RowKit

theorem gNone {w w' : World} (h : w.grownBy w' none) : Below w.heap.size w w' := ⟨h.os, h.tape, h.output, h.size, fun k hk => h.block k hk (by simp)⟩
theorem boxNe {w : World} {b ty : Nat} {cs : Array Value} {B g cap n : Nat} {xs : List Int} (hb : Box w b ty cs) (h : OwnInts w B (.slice (some ⟨g, 0, none⟩) n cap) n xs) (hty : ty ≠ 3) : b ≠ g := by
  obtain ⟨cells, o1, _⟩ := h
  obtain ⟨_, cur, hc⟩ := ownG_at o1 (g := g) rfl
  rintro rfl
  unfold Box at hb
  rw [hb] at hc
  injection hc with hc
  injection hc with _ hc
  exact hty hc
theorem set_far (j : Nat) : ∀ (l o : List Int), (∀ x ∈ l, x.toNat ≠ j) → (l.foldl (fun o p => o.set p.toNat 1) o)[j]? = o[j]?
  | [], _, _ => rfl
  | x :: l, o, h => by
    rw [List.foldl_cons, set_far j l _ (fun y hy => h y (List.mem_cons_of_mem _ hy)), List.getElem?_set_ne (h x (List.mem_cons_self ..))]
theorem onesTo_zero {n k : Nat} {l : List Int} {p : Nat} (hn : PlOk n l) (h : l[k]? = some (p : Int)) : (onesTo n l k)[p]? = some 0 := by
  unfold onesTo
  have hk := (List.getElem?_eq_some_iff.1 h).1
  rw [set_far p]
  · have := (hn.1 _ (List.mem_of_getElem? h)).2
    rw [List.getElem?_replicate, if_pos (by omega)]
  · intro x hx e
    obtain ⟨j, hj, rfl⟩ := List.mem_iff_getElem.1 hx
    have hj2 : j < k := by rw [List.length_take] at hj; omega
    have hjl : j < l.length := by omega
    rw [List.getElem_take] at e
    have h0 := (hn.1 l[j] (List.getElem_mem _)).1
    have e2 : l[j] = (p : Int) := by omega
    have e3 : l[k] = (p : Int) := (List.getElem?_eq_some_iff.1 h).2
    exact (List.pairwise_iff_getElem.1 hn.2.1) j k hjl hk hj2 (e2.trans e3.symm)

set_option maxRecDepth 100000 in
set_option maxHeartbeats 16000000 in
theorem kgrow_fine {d : Nat} {w : World} {kd lb : Int} {A : Option Addr} {n c : Nat} {ks : List PBlk} (h : Blks d w A n c ks) (hw : wrongB (.mk kd lb ks) = 0) (hf : fitsK (grown0 (.mk kd lb ks))) :
    Calls Try.prog 10 #[.agg #[.int .i64 kd, .int .i64 lb, .slice A n c]] w (AnsGO (growP (.mk kd lb ks)) w) := by
  have GP := hide2 (growP_ok hw hf)
  rw [GP.out]
  have LD := hide2 (Laid2.new w #[.int .i64 kd, .int .i64 lb, .slice A n c])
  have CW := hide2 (jWrong_calls (h.keep LD.out.below) (kd := kd) (lb := lb))
  have HW := hide2 hw
  have H := hide2 h
  have HI := grown0_in (.mk kd lb ks)
  have CG := hide2 (fun (w1 : World) (hB : Below w.heap.size w w1) => kgrown_calls (kd := kd) (lb := lb) H.out hB hw)
  obtain ⟨r, hr⟩ : ∃ r, grown0 (.mk kd lb ks) = r := ⟨_, rfl⟩
  rw [hr] at hf CG HI ⊢
  obtain ⟨P, hP⟩ : ∃ P, r.places = P := ⟨_, rfl⟩
  obtain ⟨L, hL⟩ : ∃ L, r.links = L := ⟨_, rfl⟩
  obtain ⟨K, hK⟩ : ∃ K, L.length = K := ⟨_, rfl⟩
  have P16 : P ≤ 16 := by have := hf.1; omega
  have K24 : K ≤ 24 := by have := hf.2; rw [hL] at this; omega
  have NK := hide2 (show netK r = ⟨P, L.map (tranK P)⟩ by unfold netK; rw [hP, hL])
  have IK := hide2 (show ∀ t ∈ L, PlOk P t.pre ∧ PlOk P t.post by have := HI; unfold InK at this; rw [hP, hL] at this; exact this)
  have HP := hide2 hP
  have HL := hide2 hL
  have HK := hide2 hK
  rw [hw] at CW
  rw [NK.out]
  clear h GP hw hf hr hP hK hL HI
  go_enter Try.func10, Try.ntmps10
  go_upto_region 1 with fail
  generalize (w.alloc (.cells #[.int .i64 kd, .int .i64 lb, .slice A n c] 24)).alloc (.cells #[.int .i64 0, .slice none 0 0] 27) = u at *
  have a0 := LD.out.arg.three
  go_upto_region 4 with (go_at_call 40; (with_reducible refine CW.out.mono ?_); rintro e w1 ⟨rfl, hb⟩; have L1 := hide2 (LD.out.keep hb); clear hb)
  clear a0
  have a1 := L1.out.arg.three
  have CK := hide2 (CG.out w1 L1.out.below)
  go_upto_region 5 with (go_at_call 41; (with_reducible refine CK.out.mono ?_); rintro e w2 ⟨C2, c2, rfl, lm, bl⟩; have L2 := hide2 (L1.out.keep bl); have LM2 := hide2 (show LkM w.heap.size w2 C2 K c2 L by rw [HL.out, HK.out] at lm; exact lm); rw [HP.out, HL.out, HK.out]; clear lm bl)
  have bb := boxBelow w2 (.cells #[.int .i64 P, .slice C2 K c2] 81)
  have X := hide2 (Box.new w2 #[.int .i64 P, .slice C2 K c2] 81)
  have L3 := hide2 (L2.out.keep bb)
  have LM3 := hide2 (LM2.out.keep bb)
  generalize w2.alloc (.cells #[.int .i64 P, .slice C2 K c2] 81) = w3 at *
  generalize w2.heap.size = bx at *
  obtain ⟨x0, x1⟩ := X.out.two
  clear a1 bb L2 LM2
  have h16 : ¬ (16 : Int) < (P : Int) := by omega
  have h24 : ¬ (24 : Int) < (K : Int) := by omega
  go_upto_region 8 with fail
  have bb := boxBelow w3 (.cells #[.int .i64 P, .slice none 0 0] 27)
  have Z2 := hide2 (Box.new w3 #[.int .i64 P, .slice none 0 0] 27)
  have X4 := hide2 (X.out.keep bb)
  have L4 := hide2 (L3.out.keep bb)
  have LM := hide2 (LM3.out.keep bb)
  have hsz : w.heap.size + 1 < w3.heap.size := L3.out.net.lt
  have hbx : bx < w3.heap.size := X.out.lt
  obtain ⟨bn, hbn⟩ : ∃ bn, w3.heap.size = bn := ⟨_, rfl⟩
  rw [hbn] at Z2 hsz hbx
  generalize w3.alloc (.cells #[.int .i64 P, .slice none 0 0] 27) = w4 at *
  clear x0 x1 X L3 LM3 bb
  try rw [hbn]
  clear hbn
  obtain ⟨x0, x1⟩ := X4.out.two
  go_wp2
  clear x0 x1
  go_loopg [39] K (fun gk i wr => ∃ (k : Nat) (A' : Option Addr) (c' : Nat), k + gk = K ∧ i = .int .i64 k ∧ Hid (Box wr bn 27 #[.int .i64 P, .slice A' k c']) ∧ Hid (OwnSl (OwnTranR w4.heap.size) 3 wr w4.heap.size 78 (.slice A' k c') k ((L.take k).map (tranK P))) ∧ Hid (w4.grownBy wr (some bn)))
  case atStart => exact ⟨0, none, 0, by omega, rfl, Z2, hide2 OwnSl.nil, hide2 (gOf (Below.refl _ _))⟩
  case round =>
    obtain ⟨k, A', c', hk, rfl, BX, own, SV⟩ := hrel
    by_cases hlt : k < K
    · have LW := (LM.out.turn Z2.out (by decide) (by decide) (by omega) SV.out).sl
      obtain ⟨bl, off, t, A1, n1, c1', A2, n2, c2', rfl, hbl, ht, q0, q1, q2, i1, i2⟩ := Links.get LW hlt
      have hki : (k : Int) < (K : Int) := by omega
      have bb := boxBelow wr (.cells #[.int .i64 t.label, .slice A1 n1 c1', .slice A2 n2 c2'] 84)
      have bd := bb.drew
      have PK := hide2 (IK.out t (List.mem_of_getElem? ht.out))
      have hst := hide2 (netK_take (P := P) ht.out)
      have hn1 := hide2 i1.len
      have hn2 := hide2 i2.len
      have m1 : n1 ≤ 16 := by have := PK.out.1.2.2; have := hn1.out; omega
      have m2 : n2 ≤ 16 := by have := PK.out.2.2.2; have := hn2.out; omega
      have I1 := hide2 (i1.keep bd)
      have I2 := hide2 (i2.keep bd)
      have X := hide2 (Box.new wr #[.int .i64 t.label, .slice A1 n1 c1', .slice A2 n2 c2'] 84)
      have G := hide2 ((gBox SV.out X4.out (by omega)).keep bb)
      have X5 := hide2 (X.out.keep (Below.refl _ _).drew)
      have G5 := hide2 (G.out.keep (Below.refl _ _).drew)
      have RD := hide2 bd
      obtain ⟨bk, hbk⟩ : ∃ bk, wr.heap.size = bk := ⟨_, rfl⟩
      rw [hbk] at X X5
      clear LW i1 i2 bb bd
      go_upto_region 11 with fail
      clear hbk q0 q1 q2
      have x0 : (wr.alloc (.cells #[.int .i64 t.label, .slice A1 n1 c1', .slice A2 n2 c2'] 84)).cell? ⟨bk, 0, none⟩ = some (.int .i64 t.label) := X.out.cell 0
      have z0 : (wr.alloc (.cells #[.int .i64 t.label, .slice A1 n1 c1', .slice A2 n2 c2'] 84)).cell? ⟨bx, 0, none⟩ = some (.int .i64 P) := G.out.cell 0
      refine wp_region_scr 10 (.takes [0, 1, 2, 3, 5, 6] (.three 4 (.two 7 (.take 8 (.one 9 (.fin 10 .done))) 9 (.one 7 (.take 8 (.fin 10 .done)))) 7 (.two 4 (.take 8 (.one 9 (.fin 10 .done))) 9 (.one 4 (.take 8 (.fin 10 .done)))) 9 (.two 4 (.one 7 (.take 8 (.fin 10 .done))) 7 (.one 4 (.take 8 (.fin 10 .done)))))) (fun w' => w'.cell? ⟨bk, 0, none⟩ = some (.int .i64 t.label) ∧ w'.cell? ⟨bx, 0, none⟩ = some (.int .i64 P)) (by kernel_rfl) (by kernel_rfl) (by kernel_rfl) (fun _ _ _ _ _ h => h) ⟨x0, z0⟩ (fun hHeld => ?_)
      simp only [Scr.takes]
      clear x0 z0 X G
      generalize (wr.alloc (.cells #[.int .i64 t.label, .slice A1 n1 c1', .slice A2 n2 c2'] 84)).drew = u0 at *
      have EB := hide2 (Below.refl u0.heap.size u0)
      iterate 6
        refine tkTake (v := ?_) rfl (by rfl) hHeld (fun w' hSw => ?_) ?_
        rotate_left
        · (go_simp; try with_reducible rfl)
        try simp only [Act.put, List.setIfInBounds_toArray, List.set_cons_zero, List.set_cons_succ]
      refine endK (.fin 10 .done) (fun a0 a' w' => ∃ G4 G7 bt : Nat, a' = ((((a0.put (some 47) (.slice (some ⟨G4, 0, none⟩) P P)).put (some 50) (.slice (some ⟨G7, 0, none⟩) P P)).put (some 51) (.agg #[.int .i64 t.label, .slice (some ⟨G4, 0, none⟩) P P, .slice (some ⟨G7, 0, none⟩) P P])).put (some 9) (.pointer (some ⟨bt, 0, none⟩))) ∧ Hid (OwnInts w' u0.heap.size (.slice (some ⟨G4, 0, none⟩) P P) P (List.replicate P 0)) ∧ Hid (OwnInts w' u0.heap.size (.slice (some ⟨G7, 0, none⟩) P P) P (List.replicate P 0)) ∧ Hid (G4 ≠ G7) ∧ Hid (Box w' bt 78 #[.int .i64 0, .slice none 0 0, .slice none 0 0]) ∧ Hid (u0.heap.size ≤ bt) ∧ Hid (Below u0.heap.size u0 w')) ?_ (fun EN => ?_)
      · rintro a' w6 ⟨G4, G7, bt, rfl, R4, R7, NE, TB, TL, EB⟩ _
        simp only [Act.put, List.setIfInBounds_toArray, List.set_cons_zero, List.set_cons_succ]
        clear hHeld
        obtain ⟨e0, e1, e2⟩ := TB.out.three
        have s0 := TB.out.frozen 0
        have s1 := TB.out.frozen 1
        have s2 := TB.out.frozen 2
        refine tkEnd rfl (fun K hK => ?_)
        go_simp
        refine hK.out _ _ ?_
        clear hK
        try simp only [Act.put, List.setIfInBounds_toArray, List.set_cons_zero, List.set_cons_succ]
        refine tkDone ?_
        obtain ⟨ss, hss⟩ : ∃ ss, ((w6.setCell ⟨bt, 0, none⟩ (.int .i64 t.label)).setCell ⟨bt, 1, none⟩ (.slice (some ⟨G4, 0, none⟩) P P)).setCell ⟨bt, 2, none⟩ (.slice (some ⟨G7, 0, none⟩) P P) = ss := ⟨_, rfl⟩
        have TS := hide2 (show Box ss bt 78 #[.int .i64 t.label, .slice (some ⟨G4, 0, none⟩) P P, .slice (some ⟨G7, 0, none⟩) P P] by rw [← hss]; exact TB.out.set3 _ _ _)
        have ES := hide2 (show Below u0.heap.size u0 ss by rw [← hss]; exact ((EB.out.setCell (p := ⟨bt, 0, none⟩) TL.out _).setCell (p := ⟨bt, 1, none⟩) TL.out _).setCell (p := ⟨bt, 2, none⟩) TL.out _)
        have B4 := hide2 (boxNe TB.out R4.out (by decide))
        have B7 := hide2 (boxNe TB.out R7.out (by decide))
        have S4 := hide2 (show OwnInts ss u0.heap.size (.slice (some ⟨G4, 0, none⟩) P P) P (List.replicate P 0) by rw [← hss]; exact ((R4.out.kept (grownK _ bt 0 _) (.inr (fun e => by simp only [Value.ownBlock, Option.some.injEq] at e; exact B4.out e.symm)) (fun _ _ h => h)).kept (grownK _ bt 1 _) (.inr (fun e => by simp only [Value.ownBlock, Option.some.injEq] at e; exact B4.out e.symm)) (fun _ _ h => h)).kept (grownK _ bt 2 _) (.inr (fun e => by simp only [Value.ownBlock, Option.some.injEq] at e; exact B4.out e.symm)) (fun _ _ h => h))
        have S7 := hide2 (show OwnInts ss u0.heap.size (.slice (some ⟨G7, 0, none⟩) P P) P (List.replicate P 0) by rw [← hss]; exact ((R7.out.kept (grownK _ bt 0 _) (.inr (fun e => by simp only [Value.ownBlock, Option.some.injEq] at e; exact B7.out e.symm)) (fun _ _ h => h)).kept (grownK _ bt 1 _) (.inr (fun e => by simp only [Value.ownBlock, Option.some.injEq] at e; exact B7.out e.symm)) (fun _ _ h => h)).kept (grownK _ bt 2 _) (.inr (fun e => by simp only [Value.ownBlock, Option.some.injEq] at e; exact B7.out e.symm)) (fun _ _ h => h))
        have L4x := hide2 (R4.out.lt G4 rfl).1
        have L7x := hide2 (R7.out.lt G7 rfl).1
        rw [hss]
        clear hss e0 e1 e2 s0 s1 s2 TB R4 R7 EB
        have kx := (X5.out.keep ES.out).three
        go_wp2
        clear kx
        obtain ⟨wo, hwo⟩ : ∃ wo : World, wo = wr := ⟨_, rfl⟩
        subst hwo
        go_loopw [55] (fun jv wx => ∃ j : Nat, j ≤ n1 ∧ jv = .int .i64 j ∧ Hid (OwnInts wx u0.heap.size (.slice (some ⟨G4, 0, none⟩) P P) P (onesTo P t.pre j)) ∧ Hid (OwnInts wx u0.heap.size (.slice (some ⟨G7, 0, none⟩) P P) P (List.replicate P 0)) ∧ Hid (Box wx bt 78 #[.int .i64 t.label, .slice (some ⟨G4, 0, none⟩) P P, .slice (some ⟨G7, 0, none⟩) P P]) ∧ Hid (Below u0.heap.size u0 wx)) (fun jv _ => n1 - (intOf jv).toNat)
        case atStart => exact ⟨0, Nat.zero_le _, rfl, S4, S7, TS, ES⟩
        case round =>
          clear S4 S7 TS ES
          obtain ⟨j, hj, rfl, O4, O7, TB, EB⟩ := hrel
          by_cases hlj : j < n1
          · have hji : (j : Int) < (n1 : Int) := by omega
            obtain ⟨b1, o1, x, hA1, hb1, hx, qx⟩ := (Ints.keep I1.out EB.out).get hlj
            obtain ⟨z0, z1⟩ := PK.out.1.1 x (List.mem_of_getElem? hx.out)
            obtain ⟨p, rfl⟩ : ∃ p : Nat, x = (p : Int) := ⟨x.toNat, by omega⟩
            have NX := hide2 (onesTo_succ (n := P) hx.out)
            rw [Int.toNat_natCast] at NX
            have y0 : wr.cell? ⟨G4, p, none⟩ = some (.int .i64 0) := OwnInts.at O4.out (onesTo_zero PK.out.1 hx.out)
            have f0 : wr.frozen? ⟨G4, p, none⟩ = false := OwnInts.frozen O4.out p
            have V4 := hide2 (OwnInts.put O4.out p 1)
            have V7 := hide2 (O7.out.kept (grownK wr G4 p (.int .i64 1)) (.inr (fun e => by simp only [Value.ownBlock, Option.some.injEq] at e; exact NE.out e.symm)) (fun _ _ h => h))
            have VT := hide2 (TB.out.other (a := ⟨G4, p, none⟩) (.int .i64 1) B4.out)
            have VE := hide2 (EB.out.setCell (p := ⟨G4, p, none⟩) L4x.out (.int .i64 1))
            obtain ⟨t0, t1, t2⟩ := TB.out.three
            subst hA1
            clear hx z0
            go_wp2
            go_roundw
            case rel => exact ⟨j + 1, by omega, by go_num, hide2 (by rw [NX.out]; exact V4.out), V7, VT, VE⟩
            case measure => simp [intOf]; omega
          · obtain rfl : j = n1 := by omega
            have W4 := hide2 (show onesTo P t.pre j = onesL P t.pre by unfold onesL; rw [hn1.out])
            rw [W4.out] at O4
            have kx := (X5.out.keep EB.out).three
            go_wp2
            clear kx
            go_loopw [70] (fun iv wy => ∃ i : Nat, i ≤ n2 ∧ iv = .int .i64 i ∧ Hid (OwnInts wy u0.heap.size (.slice (some ⟨G4, 0, none⟩) P P) P (onesL P t.pre)) ∧ Hid (OwnInts wy u0.heap.size (.slice (some ⟨G7, 0, none⟩) P P) P (onesTo P t.post i)) ∧ Hid (Box wy bt 78 #[.int .i64 t.label, .slice (some ⟨G4, 0, none⟩) P P, .slice (some ⟨G7, 0, none⟩) P P]) ∧ Hid (Below u0.heap.size u0 wy)) (fun iv _ => n2 - (intOf iv).toNat)
            case atStart => exact ⟨0, Nat.zero_le _, rfl, O4, O7, TB, EB⟩
            case round =>
              clear O4 O7 TB EB
              obtain ⟨i, hi, rfl, O4, O7, TB, EB⟩ := hrel
              by_cases hli : i < n2
              · have hji : (i : Int) < (n2 : Int) := by omega
                obtain ⟨b1, o1, x, hA1, hb1, hx, qx⟩ := (Ints.keep I2.out EB.out).get hli
                obtain ⟨z0, z1⟩ := PK.out.2.1 x (List.mem_of_getElem? hx.out)
                obtain ⟨p, rfl⟩ : ∃ p : Nat, x = (p : Int) := ⟨x.toNat, by omega⟩
                have NX := hide2 (onesTo_succ (n := P) hx.out)
                rw [Int.toNat_natCast] at NX
                have y0 : wr.cell? ⟨G7, p, none⟩ = some (.int .i64 0) := OwnInts.at O7.out (onesTo_zero PK.out.2 hx.out)
                have f0 : wr.frozen? ⟨G7, p, none⟩ = false := OwnInts.frozen O7.out p
                have V7 := hide2 (OwnInts.put O7.out p 1)
                have V4 := hide2 (O4.out.kept (grownK wr G7 p (.int .i64 1)) (.inr (fun e => by simp only [Value.ownBlock, Option.some.injEq] at e; exact NE.out e)) (fun _ _ h => h))
                have VT := hide2 (TB.out.other (a := ⟨G7, p, none⟩) (.int .i64 1) B7.out)
                have VE := hide2 (EB.out.setCell (p := ⟨G7, p, none⟩) L7x.out (.int .i64 1))
                obtain ⟨t0, t1, t2⟩ := TB.out.three
                subst hA1
                clear hx z0
                go_wp2
                go_roundw
                case rel => exact ⟨i + 1, by omega, by go_num, V4, hide2 (by rw [NX.out]; exact V7.out), VT, VE⟩
                case measure => simp [intOf]; omega
              · obtain rfl : i = n2 := by omega
                have W7 := hide2 (show onesTo P t.post i = onesL P t.post by unfold onesL; rw [hn2.out])
                rw [W7.out] at O7
                have E0 := RD.out.trans (EB.out.mono RD.out.size)
                have BXw := hide2 (BX.out.keep E0)
                have OWw := hide2 (own.out.keep (OwnTranR.kept _) E0)
                have SVw := hide2 (gThen SV.out (E0.mono SV.out.size))
                have SZw := hide2 (Nat.le_trans SV.out.size RD.out.size)
                have RDw := hide2 (show OwnTranR w4.heap.size wr (fun j => [Value.int .i64 t.label, .slice (some ⟨G4, 0, none⟩) P P, .slice (some ⟨G7, 0, none⟩) P P].getD j undef) (tranK P t) from ⟨rfl, P, P, OwnSl.base O4.out SZw.out, OwnSl.base O7.out SZw.out, by omega, by omega⟩)
                have KPw := hide2 (keepTran OWw.out)
                have SWw := hide2 SVw.out.size
                obtain ⟨t0, t1, t2⟩ := TB.out.three
                obtain ⟨v0, v1⟩ := BXw.out.two
                clear E0 O4 O7 EB
                go_wp2_with (at_builtin; refine wpList_appNew (v := .slice A' k c') tyTrans rfl _ _ rfl [tranK P t] #[.int .i64 t.label, .slice (some ⟨G4, 0, none⟩) P P, .slice (some ⟨G7, 0, none⟩) P P] rfl rfl (by first | rfl | simp) rfl (by simp [Value.oneCell']) OWw.out (Reads.tran RDw.out) rfl (Below.refl w4.heap.size wr) SWw.out (by omega) (by omega) KPw.out ?_; intro vn w8 own8 hg8 hb8; obtain ⟨Cn, cn, hvn, _⟩ := own8.sl (by omega); subst hvn; have B8 := hide2 (BXw.out.grown hg8 (fun e => by have := (OWw.out.lt _ e).1; have := Z2.out.lt; omega)); have O8 := hide2 own8; have S8 := hide2 (gThen SVw.out hb8); clear own8 hg8 hb8; have d1 := B8.out.cell 1; have g1 := B8.out.frozen 1)
                go_roundg (gk - 1)
                case measure => omega
                case rel => exact ⟨k + 1, Cn, cn, by omega, by go_num, hide2 (by simpa using B8.out.set 1 (.slice Cn (k + 1) cn)), hide2 (by rw [hst.out]; exact (turnedEnd O8.out Z2.out.lt).out), hide2 (gTrans S8.out (grownK w8 bn 1 _))⟩
      refine tkThree rfl rfl rfl (fun K hK => ?_) (fun K hK => ?_) (fun K hK => ?_)
      · refine step_mk Try.underlying35 infoInt rfl rfl _ _ rfl P rfl rfl rfl rfl (by omega) (by omega) EB.out EB.out.size ?_
        intro u1 own' hg' hb'
        have hb := gNone hg'
        have RR := (show OwnInts u1 u0.heap.size (.slice (some ⟨u0.heap.size, 0, none⟩) P P) P (List.replicate P 0) from OwnInts.of_row (by rw [List.map_replicate]; exact own'))
        obtain ⟨G4, hG⟩ : ∃ G4, u0.heap.size = G4 := ⟨_, rfl⟩
        have R4 := hide2 (show OwnInts u1 u0.heap.size (.slice (some ⟨G4, 0, none⟩) P P) P (List.replicate P 0) by rw [← hG]; exact RR)
        rw [hG]
        replace EB := hide2 hb'
        clear own' hg' hb' hb hG RR 
        refine hK.out _ _ ⟨(X5.out.keep EB.out).cell 0, (G5.out.keep EB.out).cell 0⟩ (fun hHeld => ?_)
        clear hK
        try simp only [Act.put, List.setIfInBounds_toArray, List.set_cons_zero, List.set_cons_succ]
        refine tkTwo rfl rfl (fun K hK => ?_) (fun K hK => ?_)
        · refine step_mk Try.underlying35 infoInt rfl rfl _ _ rfl P rfl rfl rfl rfl (by omega) (by omega) EB.out EB.out.size ?_
          intro u2 own' hg' hb'
          have hb := gNone hg'
          have RR := (show OwnInts u2 u0.heap.size (.slice (some ⟨u1.heap.size, 0, none⟩) P P) P (List.replicate P 0) from OwnInts.of_row (by rw [List.map_replicate]; exact own'))
          obtain ⟨G7, hG⟩ : ∃ G7, u1.heap.size = G7 := ⟨_, rfl⟩
          have NE := hide2 (show G4 ≠ G7 from fun e => by
            have := (R4.out.lt G4 rfl).2
            omega)
          have R7 := hide2 (show OwnInts u2 u0.heap.size (.slice (some ⟨G7, 0, none⟩) P P) P (List.replicate P 0) by rw [← hG]; exact RR)
          rw [hG]
          have R4' := R4.out.keep IntR.kept hb
          replace R4 := hide2 R4'
          replace EB := hide2 hb'
          clear own' hg' hb' hb hG RR R4'
          refine hK.out _ _ ⟨(X5.out.keep EB.out).cell 0, (G5.out.keep EB.out).cell 0⟩ (fun hHeld => ?_)
          clear hK
          try simp only [Act.put, List.setIfInBounds_toArray, List.set_cons_zero, List.set_cons_succ]
          refine tkTake (v := ?_) rfl (by rfl) hHeld (fun w' hSw => ?_) ?_
          rotate_left
          · (go_simp; try with_reducible rfl)
          try simp only [Act.put, List.setIfInBounds_toArray, List.set_cons_zero, List.set_cons_succ]
          refine tkOne rfl (fun K hK => ?_)
          go_simp
          have hb := boxBelow u2 (.cells #[.int .i64 0, .slice none 0 0, .slice none 0 0] 78)
          have TBn := Box.new u2 #[.int .i64 0, .slice none 0 0, .slice none 0 0] 78
          obtain ⟨bt, hbt⟩ : ∃ bt, u2.heap.size = bt := ⟨_, rfl⟩
          have TL := hide2 (show u0.heap.size ≤ bt by rw [← hbt]; exact EB.out.size)
          have R4' := R4.out.keep IntR.kept hb
          have R7' := R7.out.keep IntR.kept hb
          replace R4 := hide2 R4'
          replace R7 := hide2 R7'
          replace EB := hide2 (EB.out.trans (hb.mono EB.out.size))
          rw [hbt] at TBn ⊢
          generalize hE : u2.alloc (.cells #[.int .i64 0, .slice none 0 0, .slice none 0 0] 78) = u3 at *
          have TB := hide2 TBn
          clear hb hE TBn hbt R4' R7'
          refine hK.out _ _ ⟨(X5.out.keep EB.out).cell 0, (G5.out.keep EB.out).cell 0⟩ (fun hHeld => ?_)
          clear hK
          try simp only [Act.put, List.setIfInBounds_toArray, List.set_cons_zero, List.set_cons_succ]
          exact EN.out _ _ ⟨_, _, _, rfl, R4, R7, NE, TB, TL, EB⟩ ⟨(X5.out.keep EB.out).cell 0, (G5.out.keep EB.out).cell 0⟩
        · go_simp
          have hb := boxBelow u1 (.cells #[.int .i64 0, .slice none 0 0, .slice none 0 0] 78)
          have TBn := Box.new u1 #[.int .i64 0, .slice none 0 0, .slice none 0 0] 78
          obtain ⟨bt, hbt⟩ : ∃ bt, u1.heap.size = bt := ⟨_, rfl⟩
          have TL := hide2 (show u0.heap.size ≤ bt by rw [← hbt]; exact EB.out.size)
          have R4' := R4.out.keep IntR.kept hb
          replace R4 := hide2 R4'
          replace EB := hide2 (EB.out.trans (hb.mono EB.out.size))
          rw [hbt] at TBn ⊢
          generalize hE : u1.alloc (.cells #[.int .i64 0, .slice none 0 0, .slice none 0 0] 78) = u2 at *
          have TB := hide2 TBn
          clear hb hE TBn hbt R4'
          refine hK.out _ _ ⟨(X5.out.keep EB.out).cell 0, (G5.out.keep EB.out).cell 0⟩ (fun hHeld => ?_)
          clear hK
          try simp only [Act.put, List.setIfInBounds_toArray, List.set_cons_zero, List.set_cons_succ]
          refine tkOne rfl (fun K hK => ?_)
          refine step_mk Try.underlying35 infoInt rfl rfl _ _ rfl P rfl rfl rfl rfl (by omega) (by omega) EB.out EB.out.size ?_
          intro u3 own' hg' hb'
          have hb := gNone hg'
          have RR := (show OwnInts u3 u0.heap.size (.slice (some ⟨u2.heap.size, 0, none⟩) P P) P (List.replicate P 0) from OwnInts.of_row (by rw [List.map_replicate]; exact own'))
          obtain ⟨G7, hG⟩ : ∃ G7, u2.heap.size = G7 := ⟨_, rfl⟩
          have NE := hide2 (show G4 ≠ G7 from fun e => by
            have := (R4.out.lt G4 rfl).2
            omega)
          have R7 := hide2 (show OwnInts u3 u0.heap.size (.slice (some ⟨G7, 0, none⟩) P P) P (List.replicate P 0) by rw [← hG]; exact RR)
          rw [hG]
          have R4' := R4.out.keep IntR.kept hb
          have TB' := TB.out.keep hb
          replace R4 := hide2 R4'
          replace TB := hide2 TB'
          replace EB := hide2 hb'
          clear own' hg' hb' hb hG RR R4' TB'
          refine hK.out _ _ ⟨(X5.out.keep EB.out).cell 0, (G5.out.keep EB.out).cell 0⟩ (fun hHeld => ?_)
          clear hK
          try simp only [Act.put, List.setIfInBounds_toArray, List.set_cons_zero, List.set_cons_succ]
          refine tkTake (v := ?_) rfl (by rfl) hHeld (fun w' hSw => ?_) ?_
          rotate_left
          · (go_simp; try with_reducible rfl)
          try simp only [Act.put, List.setIfInBounds_toArray, List.set_cons_zero, List.set_cons_succ]
          exact EN.out _ _ ⟨_, _, _, rfl, R4, R7, NE, TB, TL, EB⟩ ⟨(X5.out.keep EB.out).cell 0, (G5.out.keep EB.out).cell 0⟩
      · refine step_mk Try.underlying35 infoInt rfl rfl _ _ rfl P rfl rfl rfl rfl (by omega) (by omega) EB.out EB.out.size ?_
        intro u1 own' hg' hb'
        have hb := gNone hg'
        have RR := (show OwnInts u1 u0.heap.size (.slice (some ⟨u0.heap.size, 0, none⟩) P P) P (List.replicate P 0) from OwnInts.of_row (by rw [List.map_replicate]; exact own'))
        obtain ⟨G7, hG⟩ : ∃ G7, u0.heap.size = G7 := ⟨_, rfl⟩
        have R7 := hide2 (show OwnInts u1 u0.heap.size (.slice (some ⟨G7, 0, none⟩) P P) P (List.replicate P 0) by rw [← hG]; exact RR)
        rw [hG]
        replace EB := hide2 hb'
        clear own' hg' hb' hb hG RR 
        refine hK.out _ _ ⟨(X5.out.keep EB.out).cell 0, (G5.out.keep EB.out).cell 0⟩ (fun hHeld => ?_)
        clear hK
        try simp only [Act.put, List.setIfInBounds_toArray, List.set_cons_zero, List.set_cons_succ]
        refine tkTwo rfl rfl (fun K hK => ?_) (fun K hK => ?_)
        · refine step_mk Try.underlying35 infoInt rfl rfl _ _ rfl P rfl rfl rfl rfl (by omega) (by omega) EB.out EB.out.size ?_
          intro u2 own' hg' hb'
          have hb := gNone hg'
          have RR := (show OwnInts u2 u0.heap.size (.slice (some ⟨u1.heap.size, 0, none⟩) P P) P (List.replicate P 0) from OwnInts.of_row (by rw [List.map_replicate]; exact own'))
          obtain ⟨G4, hG⟩ : ∃ G4, u1.heap.size = G4 := ⟨_, rfl⟩
          have NE := hide2 (show G4 ≠ G7 from fun e => by
            have := (R7.out.lt G7 rfl).2
            omega)
          have R4 := hide2 (show OwnInts u2 u0.heap.size (.slice (some ⟨G4, 0, none⟩) P P) P (List.replicate P 0) by rw [← hG]; exact RR)
          rw [hG]
          have R7' := R7.out.keep IntR.kept hb
          replace R7 := hide2 R7'
          replace EB := hide2 hb'
          clear own' hg' hb' hb hG RR R7'
          refine hK.out _ _ ⟨(X5.out.keep EB.out).cell 0, (G5.out.keep EB.out).cell 0⟩ (fun hHeld => ?_)
          clear hK
          try simp only [Act.put, List.setIfInBounds_toArray, List.set_cons_zero, List.set_cons_succ]
          refine tkTake (v := ?_) rfl (by rfl) hHeld (fun w' hSw => ?_) ?_
          rotate_left
          · (go_simp; try with_reducible rfl)
          try simp only [Act.put, List.setIfInBounds_toArray, List.set_cons_zero, List.set_cons_succ]
          refine tkOne rfl (fun K hK => ?_)
          go_simp
          have hb := boxBelow u2 (.cells #[.int .i64 0, .slice none 0 0, .slice none 0 0] 78)
          have TBn := Box.new u2 #[.int .i64 0, .slice none 0 0, .slice none 0 0] 78
          obtain ⟨bt, hbt⟩ : ∃ bt, u2.heap.size = bt := ⟨_, rfl⟩
          have TL := hide2 (show u0.heap.size ≤ bt by rw [← hbt]; exact EB.out.size)
          have R7' := R7.out.keep IntR.kept hb
          have R4' := R4.out.keep IntR.kept hb
          replace R7 := hide2 R7'
          replace R4 := hide2 R4'
          replace EB := hide2 (EB.out.trans (hb.mono EB.out.size))
          rw [hbt] at TBn ⊢
          generalize hE : u2.alloc (.cells #[.int .i64 0, .slice none 0 0, .slice none 0 0] 78) = u3 at *
          have TB := hide2 TBn
          clear hb hE TBn hbt R7' R4'
          refine hK.out _ _ ⟨(X5.out.keep EB.out).cell 0, (G5.out.keep EB.out).cell 0⟩ (fun hHeld => ?_)
          clear hK
          try simp only [Act.put, List.setIfInBounds_toArray, List.set_cons_zero, List.set_cons_succ]
          exact EN.out _ _ ⟨_, _, _, rfl, R4, R7, NE, TB, TL, EB⟩ ⟨(X5.out.keep EB.out).cell 0, (G5.out.keep EB.out).cell 0⟩
        · go_simp
          have hb := boxBelow u1 (.cells #[.int .i64 0, .slice none 0 0, .slice none 0 0] 78)
          have TBn := Box.new u1 #[.int .i64 0, .slice none 0 0, .slice none 0 0] 78
          obtain ⟨bt, hbt⟩ : ∃ bt, u1.heap.size = bt := ⟨_, rfl⟩
          have TL := hide2 (show u0.heap.size ≤ bt by rw [← hbt]; exact EB.out.size)
          have R7' := R7.out.keep IntR.kept hb
          replace R7 := hide2 R7'
          replace EB := hide2 (EB.out.trans (hb.mono EB.out.size))
          rw [hbt] at TBn ⊢
          generalize hE : u1.alloc (.cells #[.int .i64 0, .slice none 0 0, .slice none 0 0] 78) = u2 at *
          have TB := hide2 TBn
          clear hb hE TBn hbt R7'
          refine hK.out _ _ ⟨(X5.out.keep EB.out).cell 0, (G5.out.keep EB.out).cell 0⟩ (fun hHeld => ?_)
          clear hK
          try simp only [Act.put, List.setIfInBounds_toArray, List.set_cons_zero, List.set_cons_succ]
          refine tkOne rfl (fun K hK => ?_)
          refine step_mk Try.underlying35 infoInt rfl rfl _ _ rfl P rfl rfl rfl rfl (by omega) (by omega) EB.out EB.out.size ?_
          intro u3 own' hg' hb'
          have hb := gNone hg'
          have RR := (show OwnInts u3 u0.heap.size (.slice (some ⟨u2.heap.size, 0, none⟩) P P) P (List.replicate P 0) from OwnInts.of_row (by rw [List.map_replicate]; exact own'))
          obtain ⟨G4, hG⟩ : ∃ G4, u2.heap.size = G4 := ⟨_, rfl⟩
          have NE := hide2 (show G4 ≠ G7 from fun e => by
            have := (R7.out.lt G7 rfl).2
            omega)
          have R4 := hide2 (show OwnInts u3 u0.heap.size (.slice (some ⟨G4, 0, none⟩) P P) P (List.replicate P 0) by rw [← hG]; exact RR)
          rw [hG]
          have R7' := R7.out.keep IntR.kept hb
          have TB' := TB.out.keep hb
          replace R7 := hide2 R7'
          replace TB := hide2 TB'
          replace EB := hide2 hb'
          clear own' hg' hb' hb hG RR R7' TB'
          refine hK.out _ _ ⟨(X5.out.keep EB.out).cell 0, (G5.out.keep EB.out).cell 0⟩ (fun hHeld => ?_)
          clear hK
          try simp only [Act.put, List.setIfInBounds_toArray, List.set_cons_zero, List.set_cons_succ]
          refine tkTake (v := ?_) rfl (by rfl) hHeld (fun w' hSw => ?_) ?_
          rotate_left
          · (go_simp; try with_reducible rfl)
          try simp only [Act.put, List.setIfInBounds_toArray, List.set_cons_zero, List.set_cons_succ]
          exact EN.out _ _ ⟨_, _, _, rfl, R4, R7, NE, TB, TL, EB⟩ ⟨(X5.out.keep EB.out).cell 0, (G5.out.keep EB.out).cell 0⟩
      · go_simp
        have hb := boxBelow u0 (.cells #[.int .i64 0, .slice none 0 0, .slice none 0 0] 78)
        have TBn := Box.new u0 #[.int .i64 0, .slice none 0 0, .slice none 0 0] 78
        obtain ⟨bt, hbt⟩ : ∃ bt, u0.heap.size = bt := ⟨_, rfl⟩
        have TL := hide2 (show u0.heap.size ≤ bt by rw [← hbt]; exact EB.out.size)
        replace EB := hide2 (EB.out.trans (hb.mono EB.out.size))
        rw [hbt] at TBn ⊢
        generalize hE : u0.alloc (.cells #[.int .i64 0, .slice none 0 0, .slice none 0 0] 78) = u1 at *
        have TB := hide2 TBn
        clear hb hE TBn hbt 
        refine hK.out _ _ ⟨(X5.out.keep EB.out).cell 0, (G5.out.keep EB.out).cell 0⟩ (fun hHeld => ?_)
        clear hK
        try simp only [Act.put, List.setIfInBounds_toArray, List.set_cons_zero, List.set_cons_succ]
        refine tkTwo rfl rfl (fun K hK => ?_) (fun K hK => ?_)
        · refine step_mk Try.underlying35 infoInt rfl rfl _ _ rfl P rfl rfl rfl rfl (by omega) (by omega) EB.out EB.out.size ?_
          intro u2 own' hg' hb'
          have hb := gNone hg'
          have RR := (show OwnInts u2 u0.heap.size (.slice (some ⟨u1.heap.size, 0, none⟩) P P) P (List.replicate P 0) from OwnInts.of_row (by rw [List.map_replicate]; exact own'))
          obtain ⟨G4, hG⟩ : ∃ G4, u1.heap.size = G4 := ⟨_, rfl⟩
          have R4 := hide2 (show OwnInts u2 u0.heap.size (.slice (some ⟨G4, 0, none⟩) P P) P (List.replicate P 0) by rw [← hG]; exact RR)
          rw [hG]
          have TB' := TB.out.keep hb
          replace TB := hide2 TB'
          replace EB := hide2 hb'
          clear own' hg' hb' hb hG RR TB'
          refine hK.out _ _ ⟨(X5.out.keep EB.out).cell 0, (G5.out.keep EB.out).cell 0⟩ (fun hHeld => ?_)
          clear hK
          try simp only [Act.put, List.setIfInBounds_toArray, List.set_cons_zero, List.set_cons_succ]
          refine tkOne rfl (fun K hK => ?_)
          refine step_mk Try.underlying35 infoInt rfl rfl _ _ rfl P rfl rfl rfl rfl (by omega) (by omega) EB.out EB.out.size ?_
          intro u3 own' hg' hb'
          have hb := gNone hg'
          have RR := (show OwnInts u3 u0.heap.size (.slice (some ⟨u2.heap.size, 0, none⟩) P P) P (List.replicate P 0) from OwnInts.of_row (by rw [List.map_replicate]; exact own'))
          obtain ⟨G7, hG⟩ : ∃ G7, u2.heap.size = G7 := ⟨_, rfl⟩
          have NE := hide2 (show G4 ≠ G7 from fun e => by
            have := (R4.out.lt G4 rfl).2
            omega)
          have R7 := hide2 (show OwnInts u3 u0.heap.size (.slice (some ⟨G7, 0, none⟩) P P) P (List.replicate P 0) by rw [← hG]; exact RR)
          rw [hG]
          have TB' := TB.out.keep hb
          have R4' := R4.out.keep IntR.kept hb
          replace TB := hide2 TB'
          replace R4 := hide2 R4'
          replace EB := hide2 hb'
          clear own' hg' hb' hb hG RR TB' R4'
          refine hK.out _ _ ⟨(X5.out.keep EB.out).cell 0, (G5.out.keep EB.out).cell 0⟩ (fun hHeld => ?_)
          clear hK
          try simp only [Act.put, List.setIfInBounds_toArray, List.set_cons_zero, List.set_cons_succ]
          refine tkTake (v := ?_) rfl (by rfl) hHeld (fun w' hSw => ?_) ?_
          rotate_left
          · (go_simp; try with_reducible rfl)
          try simp only [Act.put, List.setIfInBounds_toArray, List.set_cons_zero, List.set_cons_succ]
          exact EN.out _ _ ⟨_, _, _, rfl, R4, R7, NE, TB, TL, EB⟩ ⟨(X5.out.keep EB.out).cell 0, (G5.out.keep EB.out).cell 0⟩
        · refine step_mk Try.underlying35 infoInt rfl rfl _ _ rfl P rfl rfl rfl rfl (by omega) (by omega) EB.out EB.out.size ?_
          intro u2 own' hg' hb'
          have hb := gNone hg'
          have RR := (show OwnInts u2 u0.heap.size (.slice (some ⟨u1.heap.size, 0, none⟩) P P) P (List.replicate P 0) from OwnInts.of_row (by rw [List.map_replicate]; exact own'))
          obtain ⟨G7, hG⟩ : ∃ G7, u1.heap.size = G7 := ⟨_, rfl⟩
          have R7 := hide2 (show OwnInts u2 u0.heap.size (.slice (some ⟨G7, 0, none⟩) P P) P (List.replicate P 0) by rw [← hG]; exact RR)
          rw [hG]
          have TB' := TB.out.keep hb
          replace TB := hide2 TB'
          replace EB := hide2 hb'
          clear own' hg' hb' hb hG RR TB'
          refine hK.out _ _ ⟨(X5.out.keep EB.out).cell 0, (G5.out.keep EB.out).cell 0⟩ (fun hHeld => ?_)
          clear hK
          try simp only [Act.put, List.setIfInBounds_toArray, List.set_cons_zero, List.set_cons_succ]
          refine tkOne rfl (fun K hK => ?_)
          refine step_mk Try.underlying35 infoInt rfl rfl _ _ rfl P rfl rfl rfl rfl (by omega) (by omega) EB.out EB.out.size ?_
          intro u3 own' hg' hb'
          have hb := gNone hg'
          have RR := (show OwnInts u3 u0.heap.size (.slice (some ⟨u2.heap.size, 0, none⟩) P P) P (List.replicate P 0) from OwnInts.of_row (by rw [List.map_replicate]; exact own'))
          obtain ⟨G4, hG⟩ : ∃ G4, u2.heap.size = G4 := ⟨_, rfl⟩
          have NE := hide2 (show G4 ≠ G7 from fun e => by
            have := (R7.out.lt G7 rfl).2
            omega)
          have R4 := hide2 (show OwnInts u3 u0.heap.size (.slice (some ⟨G4, 0, none⟩) P P) P (List.replicate P 0) by rw [← hG]; exact RR)
          rw [hG]
          have TB' := TB.out.keep hb
          have R7' := R7.out.keep IntR.kept hb
          replace TB := hide2 TB'
          replace R7 := hide2 R7'
          replace EB := hide2 hb'
          clear own' hg' hb' hb hG RR TB' R7'
          refine hK.out _ _ ⟨(X5.out.keep EB.out).cell 0, (G5.out.keep EB.out).cell 0⟩ (fun hHeld => ?_)
          clear hK
          try simp only [Act.put, List.setIfInBounds_toArray, List.set_cons_zero, List.set_cons_succ]
          refine tkTake (v := ?_) rfl (by rfl) hHeld (fun w' hSw => ?_) ?_
          rotate_left
          · (go_simp; try with_reducible rfl)
          try simp only [Act.put, List.setIfInBounds_toArray, List.set_cons_zero, List.set_cons_succ]
          exact EN.out _ _ ⟨_, _, _, rfl, R4, R7, NE, TB, TL, EB⟩ ⟨(X5.out.keep EB.out).cell 0, (G5.out.keep EB.out).cell 0⟩
    · obtain rfl : k = K := by omega
      have E3 := hide2 (gBox SV.out L4.out.net (by omega))
      have WB := hide2 (L4.out.below.trans (gBelow SV.out (by omega) L4.out.below.size))
      have hst := hide2 (show (L.take k).map (tranK P) = L.map (tranK P) by rw [List.take_of_length_le (by rw [HK.out]; omega)])
      have OW := hide2 own.out
      have SW := hide2 L4.out.net.lt
      obtain ⟨y0, y1⟩ := BX.out.two
      obtain ⟨u0, u1⟩ := E3.out.two
      have f0 := E3.out.frozen 0
      have f1 := E3.out.frozen 1
      clear own SV
      go_wp2
      obtain ⟨t2, tb⟩ := told2 WB.out E3.out P (.slice A' k c')
      have e0 := t2.cell 0
      have e1 := t2.cell 1
      refine bodyPost_ret (v := .tuple #[.agg #[.int .i64 P, .slice A' k c'], .int .i64 0]) (by simp [results, Try.results10, go_sem, e0, e1]) rfl ⟨A', k, c', rfl, ?_, tb⟩
      have s1 := (turnedEnd (j := 1) (u := .slice A' k c') (turnedEnd (j := 0) (u := .int .i64 P) OW.out SW.out).out SW.out).out
      rw [hst.out] at s1
      have hle : w.heap.size ≤ w4.heap.size := L4.out.below.size
      obtain ⟨cells, q1, q2, q3⟩ := s1.base hle
      exact ⟨cells, q1, ⟨q2.1, fun i x hx => by obtain ⟨vs, a, b⟩ := q2.2 i x hx; exact ⟨vs, a, b.base hle⟩⟩, q3⟩

/-- KGrow's contract; the rows of the net that it grew are new. -/
theorem kgrow_callsN {d : Nat} {w : World} {kd lb : Int} {A : Option Addr} {n c : Nat} {ks : List PBlk} (h : Blks d w A n c ks) :
    Calls Try.prog 10 #[.agg #[.int .i64 kd, .int .i64 lb, .slice A n c]] w (AnsGN (growP (.mk kd lb ks)) w) := by
  by_cases hw : wrongB (.mk kd lb ks) = 0
  · by_cases hf : fitsK (grown0 (.mk kd lb ks))
    · refine (kgrow_fine h hw hf).mono fun e w' hA => hA.net ?_
      rw [growP_ok hw hf]
      simp only [netK, List.length_map]
      exact hf.2
    · refine (kgrow_over h hw hf).mono fun e w' ⟨A, n, c, he, ht, hb⟩ => ⟨A, n, c, he, ht, fun h0 => ?_, hb⟩
      rw [growP_full hw hf] at h0
      cases h0
  · refine (kgrow_wrong h hw).mono fun e w' ⟨A, n, c, he, ht, hb⟩ => ⟨A, n, c, he, ht, fun h0 => ?_, hb⟩
    rw [growP_wrong hw] at h0
    exact absurd h0 hw
theorem kgrow_calls {d : Nat} {w : World} {kd lb : Int} {A : Option Addr} {n c : Nat} {ks : List PBlk} (h : Blks d w A n c ks) :
    Calls Try.prog 10 #[.agg #[.int .i64 kd, .int .i64 lb, .slice A n c]] w (AnsG (growP (.mk kd lb ks)) w) :=
  (kgrow_callsN h).mono fun _ _ ⟨A, n, c, he, ht, _, hb⟩ => ⟨A, n, c, he, ht, hb⟩
end Go.Proofs.Ytnfppolgaeibeaa
