/- The contract of cases.Do where something is done (ways [1]). Conditions: the net and the case read as lists. -/
import Derived.Test.YtmnacahoamkokaaCaseF
namespace Go.Proofs.Ytmnacahoamkokaa
open Go.RowKit


set_option maxRecDepth 100000 in
set_option maxHeartbeats 4000000 in
theorem do_1 {w : World} {P : Int} {A B D : Option Addr} {n c m d l k : Nat} {ts : List PTran} {p : PCase} (i : Nat) (T : PTran) (hT : ts[i]? = some T) (hok : caseOk ⟨P, ts⟩ p = true) (hl0 : T.label = 0) (h : Trans w A n c ts) (g : Ints w B m d p.mark) (b : Ints w D l k p.busy) (hl : l ≤ 17592186044416) :
    Calls Try.prog 206 #[.agg #[.int .i64 P, .slice A n c], .agg #[.slice B m d, .slice D l k], .agg #[.int .i64 1, .int .i64 i]] w (AnsCE (doL ⟨P, ts⟩ p 1 i) w) := by
  obtain ⟨B0', X0, X1, X2, X3⟩ := boxes4 w #[.int .i64 P, .slice A n c] #[.slice B m d, .slice D l k] #[.int .i64 1, .int .i64 i] #[.slice none 0 0, .slice none 0 0] 27 75 255 75
  have B0 := hide2 B0'
  have HX0 := hide2 X0
  have HX1 := hide2 X1
  have HX2 := hide2 X2
  have HX3 := hide2 X3
  clear B0' X0 X1 X2 X3
  have hn := h.small
  have hm := g.small
  have H := hide2 h
  have G := hide2 g
  have BB := hide2 b
  have hin : i < n := by rw [← h.len]; exact (List.getElem?_eq_some_iff.1 hT).1
  have hini : (i : Int) < (n : Int) := by omega
  have hi0 : (0 : Int) ≤ (i : Int) := by omega
  have HT := hide2 hT
  have HO := hide2 hok
  have hcase := (caseOk_iff _ _).1 hok
  have hnt := netOk_tran hcase.1 hT
  have hm16 : m ≤ 16 := by have h1 := ((netOk_iff _).1 hcase.1).2.1; have h2 := hcase.2.1; rw [g.len] at h2; simp only [] at h1 h2; omega
  have hil : i < l := by have h1 := hcase.2.2.2.1; rw [b.len] at h1; simp only [] at h1; rw [h.len] at h1; omega
  have HRB := hide2 hcase.2.2.2.2
  obtain ⟨q, hq⟩ : ∃ q, fireL ⟨P, ts⟩ p.mark (i : Int) = q := ⟨_, rfl⟩
  have hfit : fitsB ⟨P, ts⟩ p.mark = true := (fitsB_iff _ _).2 ⟨hcase.1, hcase.2.1, hcase.2.2.1⟩
  have FIN := hide2 (show doL ⟨P, ts⟩ p 1 (i : Int) = thenC q (p.busy, 0) by
    rw [doL_in hok (by omega) hT, if_pos (by simp [hl0]), step1 hcase.2.2.2.2, ← hq, fireL_in hfit hT])
  have HQ := hide2 hq
  clear hfit hq
  clear hT hok hcase hnt h g b
  go_enter Try.func206, Try.ntmps206
  go_wp2_with fail
  refine (caseRight_calls (P := P) (p := p) (H.out.keep B0.out) (G.out.keep B0.out) (BB.out.keep B0.out)).mono ?_
  rw [HO.out]
  rintro e w1 ⟨rfl, hb⟩
  have B1 := hide2 (B0.out.trans (hb.mono B0.out.size))
  have Y0 := hide2 (HX0.out.keep hb)
  have Y1 := hide2 (HX1.out.keep hb)
  have Y2 := hide2 (HX2.out.keep hb)
  have Y3 := hide2 (HX3.out.keep hb)
  clear hb HX0 HX1 HX2 HX3
  obtain ⟨a0, a1⟩ := Y0.out.two
  obtain ⟨b0, b1⟩ := Y1.out.two
  obtain ⟨d0, d1⟩ := Y2.out.two
  obtain ⟨bl, off, T', A1, n1, c1, A2, n2, c2, rfl, hbl, hT', q0', q1', q2', i1, i2, m1, m2⟩ := Trans.get H.out hin
  obtain rfl : T' = T := by have := hT'.out; rw [HT.out] at this; injection this with this; exact this.symm
  rw [hl0] at q0'
  have q0 := (B1.out.cell (p := ⟨bl, off + i * 3, none⟩) hbl).trans q0'
  have q1 := (B1.out.cell (p := ⟨bl, off + i * 3 + 1, none⟩) hbl).trans q1'
  have q2 := (B1.out.cell (p := ⟨bl, off + i * 3 + 2, none⟩) hbl).trans q2'
  have I1 := hide2 i1
  have I2 := hide2 i2
  clear i1 i2 q0' q1' q2' hl0
  go_wp2
  go_quiet (fail)
  have Z0 := hide2 (Y0.out.drewN nq)
  have Z1 := hide2 (Y1.out.drewN nq)
  have Z2 := hide2 (Y2.out.drewN nq)
  have Z3 := hide2 (Y3.out.drewN nq)
  have D2 := hide2 (B1.out.trans ((Drew.drewN w1 nq).below.mono B1.out.size))
  have e0 : (w1.drewN nq).cell? ⟨bl, off + i * 3, none⟩ = some (.int .i64 0) := q0
  have e1 : (w1.drewN nq).cell? ⟨bl, off + i * 3 + 1, none⟩ = some (.slice A1 n1 c1) := q1
  have e2 : (w1.drewN nq).cell? ⟨bl, off + i * 3 + 2, none⟩ = some (.slice A2 n2 c2) := q2
  generalize w1.drewN nq = w2 at *
  clear Y0 Y1 Y2 Y3 a0 a1 b0 b1 d0 d1 q0 q1 q2
  obtain ⟨a0, a1⟩ := Z0.out.two
  obtain ⟨b0, b1⟩ := Z1.out.two
  obtain ⟨d0, d1⟩ := Z2.out.two
  go_wp2
  generalize hw3 : w2.alloc (.cells #[.int .i64 0, .slice A1 n1 c1, .slice A2 n2 c2] 103) = w3
  have V0 := hide2 (show Box w3 _ _ _ by rw [← hw3]; exact Z0.out.old _)
  have V1 := hide2 (show Box w3 _ _ _ by rw [← hw3]; exact Z1.out.old _)
  have V2 := hide2 (show Box w3 _ _ _ by rw [← hw3]; exact Z2.out.old _)
  have V3 := hide2 (show Box w3 _ _ _ by rw [← hw3]; exact Z3.out.old _)
  have V4 := hide2 (show Box w3 w2.heap.size 103 #[.int .i64 0, .slice A1 n1 c1, .slice A2 n2 c2] by rw [← hw3]; exact Box.new _ _ _)
  have D3 := hide2 (show Below w.heap.size w w3 by rw [← hw3]; exact D2.out.alloc D2.out.size _)
  clear hw3 Z0 Z1 Z2 Z3 a0 a1 b0 b1 d0 d1 e0 e1 e2
  obtain ⟨bx, hbx⟩ : ∃ bx, w2.heap.size = bx := ⟨_, rfl⟩
  rw [hbx] at V4
  rw [hbx]
  clear hbx D2 B1
  obtain ⟨b0, b1⟩ := V1.out.two
  refine wp_region_scr 5 (.takes [0, 1, 2, 3] (.one 4 (.fins [5, 6, 7] .done))) (fun w' => w'.cell? ⟨w.heap.size + 1, 0, none⟩ = some (.slice B m d) ∧ w'.cell? ⟨w.heap.size + 1, 1, none⟩ = some (.slice D l k)) (by kernel_rfl) (by kernel_rfl) (by kernel_rfl) (fun _ _ _ _ _ h => h) ⟨b0, b1⟩ (fun hHeld => ?_)
  simp only [Scr.takes, Scr.fins]
  iterate 4
    refine tkTake (v := ?_) rfl (by rfl) hHeld (fun w' hSw => ?_) ?_
    rotate_left
    · (go_simp; try with_reducible rfl)
    simp only [Act.put, List.setIfInBounds_toArray, List.set_cons_zero, List.set_cons_succ]
  refine tkOne rfl (fun K hK => ?_)
  go_simp; go_at_call 55
  (with_reducible refine (cloneInts_calls (BB.out.keep (D3.out.trans (((Below.refl _ _).drew : Below w3.heap.size w3 w3.drew).mono D3.out.size))) hl).mono ?_)
  rintro e w4 ⟨v, rfl, own, hb4⟩
  obtain ⟨C4, k4, rfl, own4⟩ := own.sl (by omega)
  have hb4' : Below w3.heap.size w3 w4 := ((Below.refl _ _).drew : Below w3.heap.size w3 w3.drew).trans hb4
  have U0 := hide2 (V0.out.keep hb4')
  have U1 := hide2 (V1.out.keep hb4')
  have U2 := hide2 (V2.out.keep hb4')
  have U3 := hide2 (V3.out.keep hb4')
  have U4 := hide2 (V4.out.keep hb4')
  have D4 := hide2 (D3.out.trans (hb4'.mono D3.out.size))
  have HF4 := hide2 ((OwnSl.fresh own rfl).mono (show w.heap.size ≤ w3.drew.heap.size from D3.out.size))
  have O4 := hide2 (show Ints w4 C4 l k4 p.busy from own4)
  clear own own4 hb4 hb4' V0 V1 V2 V3 V4 b0 b1
  obtain ⟨a0, a1⟩ := U0.out.two
  obtain ⟨b0, b1⟩ := U1.out.two
  obtain ⟨d0, d1⟩ := U2.out.two
  obtain ⟨t0, t1, t2⟩ := U4.out.three
  refine hK.out _ _ ⟨b0, b1⟩ (fun hHeld => ?_)
  clear hK
  iterate 3
    refine tkEnd rfl (fun K hK => ?_)
    go_simp
    refine hK.out _ _ ?_
    clear hK
    try simp only [Act.put, List.setIfInBounds_toArray, List.set_cons_zero, List.set_cons_succ]
  refine tkDone ?_
  go_wp2_with fail
  refine (fireF_calls (P := P) (H.out.keep D4.out) (G.out.keep D4.out) i).mono ?_
  rw [HQ.out]
  rintro e w5 ⟨C5, l5, k5, rfl, i5, hb, hf5⟩
  have HF5 := hide2 (hf5.mono D4.out.size)
  clear hf5
  have I5 := hide2 i5
  have O5 := hide2 (O4.out.keep hb)
  have D5 := hide2 (D4.out.trans (hb.mono D4.out.size))
  have W0 := hide2 (U0.out.keep hb)
  have W1 := hide2 (U1.out.keep hb)
  have W2 := hide2 (U2.out.keep hb)
  have W3 := hide2 (U3.out.keep hb)
  have W4 := hide2 (U4.out.keep hb)
  clear hb i5 U0 U1 U2 U3 U4
  clear a0 a1 b0 b1 d0 d1 t0 t1 t2
  obtain ⟨a0, a1⟩ := W0.out.two
  obtain ⟨b0, b1⟩ := W1.out.two
  obtain ⟨d0, d1⟩ := W2.out.two
  obtain ⟨t0, t1, t2⟩ := W4.out.three
  by_cases hz : q.2 = 0
  · have FE := hide2 (show doL ⟨P, ts⟩ p 1 (i : Int) = (⟨q.1, p.busy⟩, 0) by rw [FIN.out, thenC, if_pos hz]; simp)
    rw [hz]
    clear hz
    obtain ⟨z0, z1⟩ := W3.out.two
    have zf := W3.out.frozen 0
    have zg := W3.out.frozen 1
    go_wp2
    obtain ⟨r0, r1⟩ := (W3.out.set2 (.slice C5 l5 k5) (.slice C4 l k4)).two
    exact bodyPost_ret (v := .tuple #[.agg #[.slice C5 l5 k5, .slice C4 l k4], .int .i64 0]) (by simp [results, Try.results206, go_sem, r0, r1]) rfl
      ⟨_, _, _, _, _, _, by rw [FE.out], by rw [FE.out]; exact (I5.out).beside W3.out noInt2 (Beside.set2 _ _ _ _ _ _), by rw [FE.out]; exact (O5.out).beside W3.out noInt2 (Beside.set2 _ _ _ _ _ _), (D5.out.setCell (by show w.heap.size ≤ w.heap.size + 1 + 1 + 1; omega) _).setCell (by show w.heap.size ≤ w.heap.size + 1 + 1 + 1; omega) _, HF5.out, HF4.out⟩
  · have FE := hide2 (show doL ⟨P, ts⟩ p 1 (i : Int) = (PCase.nil, q.2) by rw [FIN.out, thenC, if_neg hz])
    have hne2 : (q.2 == 0) = false := by simpa using hz
    have hne3 : (q.2 != 0) = true := by simpa using hz
    clear hz
    go_wp2_with fail
    refine (caseNo_calls _ q.2).mono ?_
    rintro e we ⟨rfl, hbe⟩
    have Ze := hide2 (W3.out.keep hbe)
    obtain ⟨z0, z1⟩ := Ze.out.two
    have zf := Ze.out.frozen 0
    have zg := Ze.out.frozen 1
    have Be := hide2 (D5.out.trans (hbe.mono D5.out.size))
    clear hbe
    go_wp2
    obtain ⟨r0, r1⟩ := (Ze.out.set2 (.slice none 0 0) (.slice none 0 0)).two
    exact bodyPost_ret (v := .tuple #[.agg #[.slice none 0 0, .slice none 0 0], .int .i64 (q.2)]) (by simp [results, Try.results206, go_sem, r0, r1]) rfl (by rw [FE.out]; exact AnsCE.no ((Be.out.setCell (by show w.heap.size ≤ w.heap.size + 1 + 1 + 1; omega) _).setCell (by show w.heap.size ≤ w.heap.size + 1 + 1 + 1; omega) _))
end Go.Proofs.Ytmnacahoamkokaa
