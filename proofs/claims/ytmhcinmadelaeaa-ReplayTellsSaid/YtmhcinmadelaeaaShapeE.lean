/- The contract of shape.Wrong. Conditions: the net reads as a list. -/
import Derived.Test.YtmhcinmadelaeaaShapeD
namespace Go.Proofs.Ytmhcinmadelaeaa
open Go.RowKit Go.Maps

theorem turned_ok {N : PNet} (h : netOk N = true) : netOk (turned N) = true := by
  obtain ⟨h1, h2, h3, h4⟩ := (netOk_iff N).1 h
  refine (netOk_iff _).2 ⟨h1, h2, by simpa [turned] using h3, fun t ht => ?_⟩
  simp only [turned, List.mem_map] at ht
  obtain ⟨u, hu, rfl⟩ := ht
  have := (tranOk_iff _ _).1 (h4 u hu)
  exact (tranOk_iff _ _).2 ⟨this.1, this.2.1, this.2.2.2.1, this.2.2.1, this.2.2.2.2.2, this.2.2.2.2.1⟩

set_option maxRecDepth 100000 in
set_option maxHeartbeats 4000000 in
theorem shapeWrong_calls {w : World} {P : Int} {A : Option Addr} {n c : Nat} {ts : List PTran} (i o : Int) (h : Trans w A n c ts) (hn : n ≤ 2513169434916) :
    Calls Try.prog 25 #[.agg #[.int .i64 P, .slice A n c], .int .i64 i, .int .i64 o] w fun e w' => e = .returned (.int .i64 (shapeL ⟨P, ts⟩ i o)) ∧ Below w.heap.size w w' := by
  generalize hw0 : ((w.alloc (.cells #[.int .i64 P, .slice A n c] 38)).alloc (.cells #[.int .i64 i] 3)).alloc (.cells #[.int .i64 o] 3) = w0
  have D0 := hide2 (show Below w.heap.size w w0 by rw [← hw0]; exact (((Below.refl _ _).alloc (Nat.le_refl _) _).alloc (by simp) _).alloc (by simp; omega) _)
  have X0 := hide2 (show Box w0 w.heap.size 38 #[.int .i64 P, .slice A n c] by rw [← hw0]; exact ((Box.new _ _ _).old _).old _)
  have X1 := hide2 (show Box w0 (w.heap.size + 1) 3 #[.int .i64 i] by rw [← hw0]; exact (Box.newAt (by simp) _ _).old _)
  have X2 := hide2 (show Box w0 (w.heap.size + 1 + 1) 3 #[.int .i64 o] by rw [← hw0]; exact Box.newAt (by simp) _ _)
  have H := hide2 h
  have HL := hide2 h.len
  have hns := h.small
  clear h
  have c0 := X0.out.two.1
  cases hok : netOk ⟨P, ts⟩
  · have W0 := hide2 (wrongNet_not hok)
    have FIN := hide2 (show shapeL ⟨P, ts⟩ i o = 2 by rw [shapeL, hok]; rfl)
    clear hok
    go_enter Try.func25, Try.ntmps25
    go_upto_region 1 with fail
    clear hw0
    obtain ⟨c0, c1⟩ := X0.out.two
    go_wp2_with fail
    refine (netWrong_calls _ P A n c ts (H.out.keep D0.out)).mono ?_
    rw [W0.out]
    rintro e w1 ⟨rfl, hb⟩
    have B1 := hide2 (D0.out.trans (hb.mono D0.out.size))
    clear hb
    go_wp2
    go_ret
    exact ⟨ret_int FIN.out.symm, B1.out⟩
  · have W0 := hide2 (wrongNet_ok hok)
    have HO := hide2 hok
    clear hok
    obtain ⟨p, rfl⟩ : ∃ p : Nat, P = (p : Int) := ⟨P.toNat, by have := ((netOk_iff _).1 HO.out).1; simp only [] at this; omega⟩
    have hp16 : p ≤ 16 := by have := ((netOk_iff _).1 HO.out).2.1; simp only [] at this; omega
    have hn24 : n ≤ 24 := by have := ((netOk_iff _).1 HO.out).2.2.1; rw [HL.out] at this; exact this
    go_enter Try.func25, Try.ntmps25
    go_upto_region 1 with fail
    clear hw0 c0
    obtain ⟨c0, c1⟩ := X0.out.two
    go_wp2_with fail
    refine (netWrong_calls _ (p : Int) A n c ts (H.out.keep D0.out)).mono ?_
    rw [W0.out]
    rintro e w1 ⟨rfl, hb⟩
    have B1 := hide2 (D0.out.trans (hb.mono D0.out.size))
    have Y0 := hide2 (X0.out.keep hb)
    have Y1 := hide2 (X1.out.keep hb)
    have Y2 := hide2 (X2.out.keep hb)
    clear hb c0 c1 X0 X1 X2 D0
    obtain ⟨c0, c1⟩ := Y0.out.two
    have ci := Y1.out.cell 0
    have co := Y2.out.cell 0
    simp only [List.getElem?_toArray, List.getElem?_cons_zero] at ci co
    by_cases hin : inB ⟨p, ts⟩ i o = true
    · simp only [inB, Bool.and_eq_true, decide_eq_true_eq] at hin
      obtain ⟨⟨⟨⟨h0, h1⟩, h2⟩, h3⟩, h4⟩ := hin
      have IN := hide2 (show inB ⟨p, ts⟩ i o = true by simp only [inB, Bool.and_eq_true, decide_eq_true_eq]; exact ⟨⟨⟨⟨h0, h1⟩, h2⟩, h3⟩, h4⟩)
      obtain ⟨i, rfl⟩ : ∃ k : Nat, i = (k : Int) := ⟨i.toNat, by omega⟩
      obtain ⟨o, rfl⟩ : ∃ k : Nat, o = (k : Int) := ⟨o.toNat, by omega⟩
      have hne : ((i : Int) == (o : Int)) = false := by simpa using h4
      have PR := hide2 (back_pred (w := w1) (N := ⟨p, ts⟩) HO.out (i := i) (o := o) h2 h3 Y1.out Y2.out)
      have SH := hide2 (show shapeL ⟨p, ts⟩ (i : Int) (o : Int) = (if ts.any (backT i o) = true then 1 else if allWays ⟨p, ts⟩ i = true ∧ allWays (turned ⟨p, ts⟩) o = true then 0 else 1) by
        rw [shapeL, if_pos HO.out, if_pos IN.out]; rfl)
      clear h4 IN
      go_wp2_with fail
      refine (containsTrans_calls (H.out.keep B1.out) PR.out).mono ?_
      rintro e w2 ⟨rfl, hb⟩
      have B2 := hide2 (B1.out.trans (hb.mono B1.out.size))
      have Z0 := hide2 (Y0.out.keep hb)
      have Z1 := hide2 (Y1.out.keep hb)
      have Z2 := hide2 (Y2.out.keep hb)
      clear hb c0 c1 ci co Y0 Y1 Y2 B1 PR hne
      obtain ⟨bk, hbk⟩ : ∃ b, ts.any (backT i o) = b := ⟨_, rfl⟩
      rw [hbk]
      rw [hbk] at SH
      clear hbk
      cases bk
      · have KEEP := hide2 (show ∀ w', Below w2.heap.size w2 w' → w'.cell? ⟨w.heap.size, 0, none⟩ = some (.int .i64 p) ∧ w'.cell? ⟨w.heap.size, 1, none⟩ = some (.slice A n c) ∧ w'.cell? ⟨w.heap.size + 1, 0, none⟩ = some (.int .i64 i) ∧ w'.cell? ⟨w.heap.size + 1 + 1, 0, none⟩ = some (.int .i64 o) from fun w' hb => by
          obtain ⟨x0, x1⟩ := (Z0.out.keep hb).two
          have x2 := (Z1.out.keep hb).cell 0
          have x3 := (Z2.out.keep hb).cell 0
          simp only [List.getElem?_toArray, List.getElem?_cons_zero] at x2 x3
          exact ⟨x0, x1, x2, x3⟩)
        have I1 := hide2 (show i < (p : Int).toNat by omega)
        have I2 := hide2 (show o < (p : Int).toNat by omega)
        have TO := hide2 (show netOk ⟨(p : Int), ts.map turnT⟩ = true from turned_ok (N := ⟨p, ts⟩) HO.out)
        obtain ⟨L1, hL1⟩ : ∃ L, (walkL ⟨p, ts⟩ i).length = L := ⟨_, rfl⟩
        obtain ⟨L2, hL2⟩ : ∃ L, (walkL ⟨(p : Int), ts.map turnT⟩ o).length = L := ⟨_, rfl⟩
        have W1 := walkL_all (N := ⟨p, ts⟩) HO.out (i := i) I1.out
        have W2 := walkL_all (N := ⟨(p : Int), ts.map turnT⟩) TO.out (i := o) I2.out
        rw [hL1] at W1
        rw [hL2] at W2
        simp only [HL.out, List.length_map, Int.toNat_natCast] at W1 W2
        have HL1 := hide2 hL1
        have HL2 := hide2 hL2
        have DR := hide2 ((Below.refl w.heap.size w2).drew)
        have DR1 := hide2 ((Below.refl w2.heap.size w2).drew)
        clear hL1 hL2 Z0 Z1 Z2
        obtain ⟨x0, x1, x2, x3⟩ := KEEP.out w2 (Below.refl _ _)
        by_cases a1 : allWays ⟨p, ts⟩ i = true
        · have d1 : decide ((L1 : Int) < (p : Int) + (n : Int)) = false := by have := W1.2 a1; simp; omega
          by_cases a2 : allWays ⟨(p : Int), ts.map turnT⟩ o = true
          · have d2 : decide ((L2 : Int) < (p : Int) + (n : Int)) = false := by have := W2.2 a2; simp; omega
            have FIN := hide2 (show shapeL ⟨p, ts⟩ (i : Int) (o : Int) = 0 by rw [SH.out, if_neg (by decide)]; simp [a1, turned, a2])
            clear W1 W2 a1 a2 SH
            go_upto_region 9 with fail
            refine wp_region_scr 14 (.takes [0, 1, 4] (.one 2 (.one 3 (.takes [5, 6, 7, 9, 12] (.one 8 (.one 10 (.one 11 (.take 13 (.fin 14 .done))))))))) (fun w' => w'.cell? ⟨w.heap.size, 0, none⟩ = some (.int .i64 p) ∧ w'.cell? ⟨w.heap.size, 1, none⟩ = some (.slice A n c) ∧ w'.cell? ⟨w.heap.size + 1, 0, none⟩ = some (.int .i64 i) ∧ w'.cell? ⟨w.heap.size + 1 + 1, 0, none⟩ = some (.int .i64 o)) (by kernel_rfl) (by kernel_rfl) (by kernel_rfl) (fun _ _ _ _ _ h => h) ⟨x0, x1, x2, x3⟩ (fun hHeld => ?_)
            simp only [Scr.takes]
            iterate 3
              refine tkTake (v := ?_) rfl (by rfl) hHeld (fun w' hSw => ?_) ?_
              rotate_left
              · (go_simp; try with_reducible rfl)
              simp only [Act.put, List.setIfInBounds_toArray, List.set_cons_zero, List.set_cons_succ]
            refine tkOne rfl (fun K hK => ?_)
            go_simp; go_at_call 79
            (with_reducible refine (walk_calls (P := (p : Int)) (ts := ts) (A := A) (n := n) (c := c) (i := i) (H.out.keep (B2.out.trans DR.out)) HO.out I1.out).mono ?_)
            rintro e w3 ⟨bm, rfl, sm, hb⟩
            have LN := sm.len 3
            rw [HL1.out] at LN
            have F3 := hide2 (DR1.out.trans (hb.mono (Nat.le_refl _)))
            clear sm hb
            clear x0 x1 x2 x3
            obtain ⟨x0, x1, x2, x3⟩ := KEEP.out w3 F3.out
            refine hK.out _ _ ⟨x0, x1, x2, x3⟩ (fun hHeld => ?_)
            clear hK
            try simp only [Act.put, List.setIfInBounds_toArray, List.set_cons_zero, List.set_cons_succ]
            refine tkOne rfl (fun K hK => ?_)
            go_simp
            refine hK.out _ _ ⟨x0, x1, x2, x3⟩ (fun hHeld => ?_)
            clear hK
            try simp only [Act.put, List.setIfInBounds_toArray, List.set_cons_zero, List.set_cons_succ]
            refine tkTake (v := .bool false) rfl (by rfl) hHeld (fun w' hSw => ?_) ?_
            · go_simp
              try rw [d1]
            simp only [Act.put, List.setIfInBounds_toArray, List.set_cons_zero, List.set_cons_succ]
            refine tkTake (v := .bool false) rfl (by rfl) hHeld (fun w' hSw => ?_) ?_
            · go_simp
              try rw [d1]
            simp only [Act.put, List.setIfInBounds_toArray, List.set_cons_zero, List.set_cons_succ]
            iterate 3
              refine tkTake (v := ?_) rfl (by rfl) hHeld (fun w' hSw => ?_) ?_
              rotate_left
              · (go_simp; try with_reducible rfl)
              simp only [Act.put, List.setIfInBounds_toArray, List.set_cons_zero, List.set_cons_succ]
            refine tkOne rfl (fun K hK => ?_)
            go_simp; go_at_call 80
            (with_reducible refine (netTurned_calls (P := (p : Int)) (H.out.keep (B2.out.trans (F3.out.mono B2.out.size))) hn).mono ?_)
            rintro e w4 ⟨A4, n4, c4, rfl, t4, hb⟩
            have T4 := hide2 t4
            have F4 := hide2 (F3.out.trans (hb.mono F3.out.size))
            clear hb t4
            rw [show (turned ⟨(p : Int), ts⟩).places = (p : Int) from rfl]
            clear x0 x1 x2 x3
            obtain ⟨x0, x1, x2, x3⟩ := KEEP.out w4 F4.out
            refine hK.out _ _ ⟨x0, x1, x2, x3⟩ (fun hHeld => ?_)
            clear hK
            try simp only [Act.put, List.setIfInBounds_toArray, List.set_cons_zero, List.set_cons_succ]
            refine tkOne rfl (fun K hK => ?_)
            go_simp; go_at_call 79
            (with_reducible refine (walk_calls (P := (p : Int)) (ts := ts.map turnT) (A := A4) (n := n4) (c := c4) (i := o) T4.out TO.out I2.out).mono ?_)
            rintro e w5 ⟨bm2, rfl, sm, hb⟩
            have LN2 := sm.len 3
            rw [HL2.out] at LN2
            have F5 := hide2 (F4.out.trans (hb.mono F4.out.size))
            clear sm hb
            clear x0 x1 x2 x3
            obtain ⟨x0, x1, x2, x3⟩ := KEEP.out w5 F5.out
            refine hK.out _ _ ⟨x0, x1, x2, x3⟩ (fun hHeld => ?_)
            clear hK
            try simp only [Act.put, List.setIfInBounds_toArray, List.set_cons_zero, List.set_cons_succ]
            refine tkOne rfl (fun K hK => ?_)
            go_simp
            refine hK.out _ _ ⟨x0, x1, x2, x3⟩ (fun hHeld => ?_)
            clear hK
            try simp only [Act.put, List.setIfInBounds_toArray, List.set_cons_zero, List.set_cons_succ]
            refine tkTake (v := .bool false) rfl (by rfl) hHeld (fun w' hSw => ?_) ?_
            · go_simp
              try rw [d2]
            simp only [Act.put, List.setIfInBounds_toArray, List.set_cons_zero, List.set_cons_succ]
            refine tkEnd rfl (fun K hK => ?_)
            go_simp
            refine hK.out _ _ ?_
            clear hK
            try simp only [Act.put, List.setIfInBounds_toArray, List.set_cons_zero, List.set_cons_succ]
            refine tkDone ?_
            go_wp2
            go_ret
            exact ⟨ret_int FIN.out.symm, B2.out.trans (F5.out.mono B2.out.size)⟩
          · have d2 : decide ((L2 : Int) < (p : Int) + (n : Int)) = true := by have : ¬ p + n ≤ L2 := fun e => a2 (W2.1 e); simp; omega
            have FIN := hide2 (show shapeL ⟨p, ts⟩ (i : Int) (o : Int) = 1 by rw [SH.out, if_neg (by decide)]; simp [a1, turned, a2])
            clear W1 W2 a1 a2 SH
            go_upto_region 9 with fail
            refine wp_region_scr 14 (.takes [0, 1, 4] (.one 2 (.one 3 (.takes [5, 6, 7, 9, 12] (.one 8 (.one 10 (.one 11 (.take 13 (.fin 14 .done))))))))) (fun w' => w'.cell? ⟨w.heap.size, 0, none⟩ = some (.int .i64 p) ∧ w'.cell? ⟨w.heap.size, 1, none⟩ = some (.slice A n c) ∧ w'.cell? ⟨w.heap.size + 1, 0, none⟩ = some (.int .i64 i) ∧ w'.cell? ⟨w.heap.size + 1 + 1, 0, none⟩ = some (.int .i64 o)) (by kernel_rfl) (by kernel_rfl) (by kernel_rfl) (fun _ _ _ _ _ h => h) ⟨x0, x1, x2, x3⟩ (fun hHeld => ?_)
            simp only [Scr.takes]
            iterate 3
              refine tkTake (v := ?_) rfl (by rfl) hHeld (fun w' hSw => ?_) ?_
              rotate_left
              · (go_simp; try with_reducible rfl)
              simp only [Act.put, List.setIfInBounds_toArray, List.set_cons_zero, List.set_cons_succ]
            refine tkOne rfl (fun K hK => ?_)
            go_simp; go_at_call 79
            (with_reducible refine (walk_calls (P := (p : Int)) (ts := ts) (A := A) (n := n) (c := c) (i := i) (H.out.keep (B2.out.trans DR.out)) HO.out I1.out).mono ?_)
            rintro e w3 ⟨bm, rfl, sm, hb⟩
            have LN := sm.len 3
            rw [HL1.out] at LN
            have F3 := hide2 (DR1.out.trans (hb.mono (Nat.le_refl _)))
            clear sm hb
            clear x0 x1 x2 x3
            obtain ⟨x0, x1, x2, x3⟩ := KEEP.out w3 F3.out
            refine hK.out _ _ ⟨x0, x1, x2, x3⟩ (fun hHeld => ?_)
            clear hK
            try simp only [Act.put, List.setIfInBounds_toArray, List.set_cons_zero, List.set_cons_succ]
            refine tkOne rfl (fun K hK => ?_)
            go_simp
            refine hK.out _ _ ⟨x0, x1, x2, x3⟩ (fun hHeld => ?_)
            clear hK
            try simp only [Act.put, List.setIfInBounds_toArray, List.set_cons_zero, List.set_cons_succ]
            refine tkTake (v := .bool false) rfl (by rfl) hHeld (fun w' hSw => ?_) ?_
            · go_simp
              try rw [d1]
            simp only [Act.put, List.setIfInBounds_toArray, List.set_cons_zero, List.set_cons_succ]
            refine tkTake (v := .bool false) rfl (by rfl) hHeld (fun w' hSw => ?_) ?_
            · go_simp
              try rw [d1]
            simp only [Act.put, List.setIfInBounds_toArray, List.set_cons_zero, List.set_cons_succ]
            iterate 3
              refine tkTake (v := ?_) rfl (by rfl) hHeld (fun w' hSw => ?_) ?_
              rotate_left
              · (go_simp; try with_reducible rfl)
              simp only [Act.put, List.setIfInBounds_toArray, List.set_cons_zero, List.set_cons_succ]
            refine tkOne rfl (fun K hK => ?_)
            go_simp; go_at_call 80
            (with_reducible refine (netTurned_calls (P := (p : Int)) (H.out.keep (B2.out.trans (F3.out.mono B2.out.size))) hn).mono ?_)
            rintro e w4 ⟨A4, n4, c4, rfl, t4, hb⟩
            have T4 := hide2 t4
            have F4 := hide2 (F3.out.trans (hb.mono F3.out.size))
            clear hb t4
            rw [show (turned ⟨(p : Int), ts⟩).places = (p : Int) from rfl]
            clear x0 x1 x2 x3
            obtain ⟨x0, x1, x2, x3⟩ := KEEP.out w4 F4.out
            refine hK.out _ _ ⟨x0, x1, x2, x3⟩ (fun hHeld => ?_)
            clear hK
            try simp only [Act.put, List.setIfInBounds_toArray, List.set_cons_zero, List.set_cons_succ]
            refine tkOne rfl (fun K hK => ?_)
            go_simp; go_at_call 79
            (with_reducible refine (walk_calls (P := (p : Int)) (ts := ts.map turnT) (A := A4) (n := n4) (c := c4) (i := o) T4.out TO.out I2.out).mono ?_)
            rintro e w5 ⟨bm2, rfl, sm, hb⟩
            have LN2 := sm.len 3
            rw [HL2.out] at LN2
            have F5 := hide2 (F4.out.trans (hb.mono F4.out.size))
            clear sm hb
            clear x0 x1 x2 x3
            obtain ⟨x0, x1, x2, x3⟩ := KEEP.out w5 F5.out
            refine hK.out _ _ ⟨x0, x1, x2, x3⟩ (fun hHeld => ?_)
            clear hK
            try simp only [Act.put, List.setIfInBounds_toArray, List.set_cons_zero, List.set_cons_succ]
            refine tkOne rfl (fun K hK => ?_)
            go_simp
            refine hK.out _ _ ⟨x0, x1, x2, x3⟩ (fun hHeld => ?_)
            clear hK
            try simp only [Act.put, List.setIfInBounds_toArray, List.set_cons_zero, List.set_cons_succ]
            refine tkTake (v := .bool true) rfl (by rfl) hHeld (fun w' hSw => ?_) ?_
            · go_simp
              try rw [d2]
            simp only [Act.put, List.setIfInBounds_toArray, List.set_cons_zero, List.set_cons_succ]
            refine tkEnd rfl (fun K hK => ?_)
            go_simp
            refine hK.out _ _ ?_
            clear hK
            try simp only [Act.put, List.setIfInBounds_toArray, List.set_cons_zero, List.set_cons_succ]
            refine tkDone ?_
            go_wp2
            go_ret
            exact ⟨ret_int FIN.out.symm, B2.out.trans (F5.out.mono B2.out.size)⟩
        · have d1 : decide ((L1 : Int) < (p : Int) + (n : Int)) = true := by have : ¬ p + n ≤ L1 := fun e => a1 (W1.1 e); simp; omega
          have FIN := hide2 (show shapeL ⟨p, ts⟩ (i : Int) (o : Int) = 1 by rw [SH.out, if_neg (by decide)]; simp [a1])
          clear W1 W2 a1 SH
          go_upto_region 9 with fail
          refine wp_region_scr 14 (.takes [0, 1, 4] (.one 2 (.one 3 (.takes [5, 6, 7, 9, 12] (.one 8 (.one 10 (.one 11 (.take 13 (.fin 14 .done))))))))) (fun w' => w'.cell? ⟨w.heap.size, 0, none⟩ = some (.int .i64 p) ∧ w'.cell? ⟨w.heap.size, 1, none⟩ = some (.slice A n c) ∧ w'.cell? ⟨w.heap.size + 1, 0, none⟩ = some (.int .i64 i) ∧ w'.cell? ⟨w.heap.size + 1 + 1, 0, none⟩ = some (.int .i64 o)) (by kernel_rfl) (by kernel_rfl) (by kernel_rfl) (fun _ _ _ _ _ h => h) ⟨x0, x1, x2, x3⟩ (fun hHeld => ?_)
          simp only [Scr.takes]
          iterate 3
            refine tkTake (v := ?_) rfl (by rfl) hHeld (fun w' hSw => ?_) ?_
            rotate_left
            · (go_simp; try with_reducible rfl)
            simp only [Act.put, List.setIfInBounds_toArray, List.set_cons_zero, List.set_cons_succ]
          refine tkOne rfl (fun K hK => ?_)
          go_simp; go_at_call 79
          (with_reducible refine (walk_calls (P := (p : Int)) (ts := ts) (A := A) (n := n) (c := c) (i := i) (H.out.keep (B2.out.trans DR.out)) HO.out I1.out).mono ?_)
          rintro e w3 ⟨bm, rfl, sm, hb⟩
          have LN := sm.len 3
          rw [HL1.out] at LN
          have F3 := hide2 (DR1.out.trans (hb.mono (Nat.le_refl _)))
          clear sm hb
          clear x0 x1 x2 x3
          obtain ⟨x0, x1, x2, x3⟩ := KEEP.out w3 F3.out
          refine hK.out _ _ ⟨x0, x1, x2, x3⟩ (fun hHeld => ?_)
          clear hK
          try simp only [Act.put, List.setIfInBounds_toArray, List.set_cons_zero, List.set_cons_succ]
          refine tkOne rfl (fun K hK => ?_)
          go_simp
          refine hK.out _ _ ⟨x0, x1, x2, x3⟩ (fun hHeld => ?_)
          clear hK
          try simp only [Act.put, List.setIfInBounds_toArray, List.set_cons_zero, List.set_cons_succ]
          refine tkTake (v := .bool true) rfl (by rfl) hHeld (fun w' hSw => ?_) ?_
          · go_simp
            try rw [d1]
          simp only [Act.put, List.setIfInBounds_toArray, List.set_cons_zero, List.set_cons_succ]
          refine tkTake (v := .bool true) rfl (by rfl) hHeld (fun w' hSw => ?_) ?_
          · go_simp
            try rw [d1]
          simp only [Act.put, List.setIfInBounds_toArray, List.set_cons_zero, List.set_cons_succ]
          iterate 3
            refine tkSkip rfl (by rfl) hHeld ?_
            simp only [Act.put, List.setIfInBounds_toArray, List.set_cons_zero, List.set_cons_succ]
          refine tkOne rfl (fun K hK => ?_)
          go_simp
          refine hK.out _ _ ⟨x0, x1, x2, x3⟩ (fun hHeld => ?_)
          clear hK
          try simp only [Act.put, List.setIfInBounds_toArray, List.set_cons_zero, List.set_cons_succ]
          refine tkOne rfl (fun K hK => ?_)
          go_simp
          refine hK.out _ _ ⟨x0, x1, x2, x3⟩ (fun hHeld => ?_)
          clear hK
          try simp only [Act.put, List.setIfInBounds_toArray, List.set_cons_zero, List.set_cons_succ]
          refine tkOne rfl (fun K hK => ?_)
          go_simp
          refine hK.out _ _ ⟨x0, x1, x2, x3⟩ (fun hHeld => ?_)
          clear hK
          try simp only [Act.put, List.setIfInBounds_toArray, List.set_cons_zero, List.set_cons_succ]
          iterate 1
            refine tkSkip rfl (by rfl) hHeld ?_
            simp only [Act.put, List.setIfInBounds_toArray, List.set_cons_zero, List.set_cons_succ]
          refine tkEnd rfl (fun K hK => ?_)
          go_simp
          refine hK.out _ _ ?_
          clear hK
          try simp only [Act.put, List.setIfInBounds_toArray, List.set_cons_zero, List.set_cons_succ]
          refine tkDone ?_
          go_wp2
          go_ret
          exact ⟨ret_int FIN.out.symm, B2.out.trans (F3.out.mono B2.out.size)⟩
      · go_wp2
        go_ret
        exact ⟨ret_int SH.out.symm, B2.out⟩
    · have FIN := hide2 (show shapeL ⟨p, ts⟩ i o = 1 by rw [shapeL, if_pos HO.out, if_neg hin])
      simp only [inB, Bool.and_eq_true, decide_eq_true_eq] at hin
      by_cases h0 : 0 ≤ i
      · by_cases h1 : 0 ≤ o
        · by_cases h2 : i < (p : Int)
          · by_cases h3 : o < (p : Int)
            · have h4 : i = o := Classical.byContradiction fun h4 => hin ⟨⟨⟨⟨h0, h1⟩, h2⟩, h3⟩, h4⟩
              subst h4
              clear hin
              go_wp2
              go_ret
              exact ⟨ret_int FIN.out.symm, B1.out⟩
            · clear hin
              go_wp2
              go_ret
              exact ⟨ret_int FIN.out.symm, B1.out⟩
          · clear hin
            go_wp2
            go_ret
            exact ⟨ret_int FIN.out.symm, B1.out⟩
        · clear hin
          go_wp2
          go_ret
          exact ⟨ret_int FIN.out.symm, B1.out⟩
      · clear hin
        go_wp2
        go_ret
        exact ⟨ret_int FIN.out.symm, B1.out⟩
end Go.Proofs.Ytmhcinmadelaeaa
