/- Contracts of cases.Begin and PBegin. Conditions: the net reads as a list. -/
import Derived.Test.YtmnacahoamkokaaCaseB
namespace Go.Proofs.Ytmnacahoamkokaa
open Go.RowKit

/-- What a call answers that hands back a case and what is wrong. -/
def AnsCE (p : PCase × Int) (w : World) (e : Ending) (w' : World) : Prop :=
  ∃ A n c B m d, e = .returned (.tuple #[.agg #[.slice A n c, .slice B m d], .int .i64 p.2]) ∧ Ints w' A n c p.1.mark ∧ Ints w' B m d p.1.busy ∧ Below w.heap.size w w' ∧ Fresh w A ∧ Fresh w B
theorem AnsCE.no {e : Int} {w w' : World} (hb : Below w.heap.size w w') : AnsCE (PCase.nil, e) w (.returned (.tuple #[.agg #[.slice none 0 0, .slice none 0 0], .int .i64 e])) w' :=
  ⟨none, 0, 0, none, 0, 0, rfl, Sl.nil0, Sl.nil0, hb, Fresh.none, Fresh.none⟩

theorem start_small (w : World) (P i : Int) (A : Option Addr) (n c : Nat) (hP : P ≤ 16) :
    Calls Try.prog 85 #[.agg #[.int .i64 P, .slice A n c], .int .i64 i] w (AnsIF P.toNat (oneL P.toNat i) w) := by
  have := start_calls w P i A n c
  rwa [show min P 16 = P by omega] at this
theorem refStart_small (w : World) (P i : Int) (A : Option Addr) (n c : Nat) (hP : P ≤ 16) :
    Calls Try.prog 91 #[.agg #[.int .i64 P, .slice A n c], .int .i64 i] w (AnsIF P.toNat (oneL P.toNat i) w) := by
  have := refStart_calls w P i A n c
  rwa [show min P 16 = P by omega] at this
theorem ints_made {w : World} {B n : Nat} {a : Addr} (own : w.ownsRow B 3 1 (.slice (some a) n n) n (List.replicate n (.int .i64 0))) (hn : n ≤ 281474976710656) : Ints w (some a) n n (List.replicate n 0) := by
  rw [show List.replicate n (Value.int .i64 0) = (List.replicate n (0 : Int)).map (Value.int .i64) by rw [List.map_replicate]] at own
  obtain ⟨C, cc, hv, hi⟩ := Ints.of_own own hn
  injection hv with h1 h2 h3
  subst h1 h3
  exact hi
theorem beginL_wrong {N : PNet} {i : Int} (h : netOk N = false) : beginL N i = (PCase.nil, 2) := by rw [beginL, h]; rfl
theorem beginL_none {N : PNet} {i : Int} (h : netOk N = true) (hi : ¬ (0 ≤ i ∧ i < N.places)) : beginL N i = (PCase.nil, 3) := by rw [beginL, if_pos h, if_neg hi]
theorem beginL_yes {N : PNet} {i : Int} (h : netOk N = true) (hi : 0 ≤ i ∧ i < N.places) : beginL N i = (⟨oneL N.places.toNat i, List.replicate N.trans.length 0⟩, 0) := by rw [beginL, if_pos h, if_pos hi]

set_option maxRecDepth 100000 in
set_option maxHeartbeats 1000000 in
theorem begin_calls {w : World} {P : Int} {A : Option Addr} {n c : Nat} {ts : List PTran} (i : Int) (h : Trans w A n c ts) :
    Calls Try.prog 186 #[.agg #[.int .i64 P, .slice A n c], .int .i64 i] w (AnsCE (beginL ⟨P, ts⟩ i) w) := by
  have B0 := hide2 (((Below.refl _ _).alloc (Nat.le_refl _) (.cells #[.int .i64 P, .slice A n c] 27)).alloc (by simp) (.cells #[.slice none 0 0, .slice none 0 0] 75) : Below w.heap.size w _)
  have X0 : Box ((w.alloc (.cells #[.int .i64 P, .slice A n c] 27)).alloc (.cells #[.slice none 0 0, .slice none 0 0] 75)) w.heap.size 27 #[.int .i64 P, .slice A n c] := (Box.new _ _ _).old _
  have X1 : Box ((w.alloc (.cells #[.int .i64 P, .slice A n c] 27)).alloc (.cells #[.slice none 0 0, .slice none 0 0] 75)) (w.heap.size + 1) 75 #[.slice none 0 0, .slice none 0 0] := Box.newAt (by simp) _ _
  have hn := h.small
  have HL := hide2 h.len
  have H := hide2 h
  clear h
  cases hok : netOk ⟨P, ts⟩
  · have W0 := hide2 (wrongNet_not hok)
    rw [beginL_wrong hok]
    clear hok
    go_enter Try.func186, Try.ntmps186
    go_wp2_with fail
    refine (netWrong_calls _ P A n c ts (H.out.keep B0.out)).mono ?_
    rw [W0.out]
    rintro e w1 ⟨rfl, hb⟩
    have B1 := hide2 (B0.out.trans (hb.mono B0.out.size))
    have Y1 := hide2 (X1.keep hb)
    obtain ⟨c2, c3⟩ := Y1.out.two
    have cf := Y1.out.frozen 0
    have cg := Y1.out.frozen 1
    clear hb X0 X1
    go_wp2
    obtain ⟨r0, r1⟩ := (Y1.out.set2 (.slice none 0 0) (.slice none 0 0)).two
    exact bodyPost_ret (v := .tuple #[.agg #[.slice none 0 0, .slice none 0 0], .int .i64 2]) (by simp [results, Try.results186, go_sem, r0, r1]) rfl (AnsCE.no ((B1.out.setCell (by simp) _).setCell (by simp) _))
  · have W0 := hide2 (wrongNet_ok hok)
    have HO := hide2 hok
    clear hok
    go_enter Try.func186, Try.ntmps186
    go_wp2_with fail
    refine (netWrong_calls _ P A n c ts (H.out.keep B0.out)).mono ?_
    rw [W0.out]
    rintro e w1 ⟨rfl, hb⟩
    have B1 := hide2 (B0.out.trans (hb.mono B0.out.size))
    have Y0 := hide2 (X0.keep hb)
    have Y1 := hide2 (X1.keep hb)
    obtain ⟨c0, c1⟩ := Y0.out.two
    obtain ⟨c2, c3⟩ := Y1.out.two
    have cf := Y1.out.frozen 0
    have cg := Y1.out.frozen 1
    clear hb X0 X1
    by_cases hi : 0 ≤ i ∧ i < P
    · obtain ⟨hi0, hi1⟩ := hi
      have hP16 : P ≤ 16 := ((netOk_iff _).1 HO.out).2.1
      have hn24 : n ≤ 24 := by have := ((netOk_iff _).1 HO.out).2.2.1; rw [HL.out] at this; exact this
      have FIN := hide2 (beginL_yes HO.out ⟨hi0, hi1⟩)
      go_wp2_with fail
      refine wp_region_scr 8 (.takes [0, 1, 3, 4, 5] (.two 2 (.one 6 (.take 7 (.fins [8, 9] .done))) 6 (.one 2 (.take 7 (.fins [8, 9] .done))))) (fun w' => w'.cell? ⟨w.heap.size, 0, none⟩ = some (.int .i64 P) ∧ w'.cell? ⟨w.heap.size, 1, none⟩ = some (.slice A n c)) (by kernel_rfl) (by kernel_rfl) (by kernel_rfl) (fun _ _ _ _ _ h => h) ⟨c0, c1⟩ (fun hHeld => ?_)
      simp only [Scr.takes, Scr.fins]
      iterate 5
        refine tkTake (v := ?_) rfl (by rfl) hHeld (fun w' hSw => ?_) ?_
        rotate_left
        · (go_simp; try with_reducible rfl)
        simp only [Act.put, List.setIfInBounds_toArray, List.set_cons_zero, List.set_cons_succ]
      refine tkTwo rfl rfl (fun K hK => ?_) (fun K hK => ?_)
      · go_simp; go_at_call 85
        (with_reducible refine (start_small w1.drew P i A n c hP16).mono ?_)
        rintro e w2 ⟨C, k2, rfl, hi2, hb2, hf2⟩
        have HF := hide2 (hf2.mono (show w.heap.size ≤ _ from B1.out.size))
        have Z2 := hide2 (Y1.out.drew.keep hb2)
        have p0 := (Y0.out.drew.keep hb2).two.1
        have p1 := (Y0.out.drew.keep hb2).two.2
        have V2 := hide2 (Y0.out.drew.keep hb2)
        have B2 := hide2 (B1.out.trans (((Below.refl _ _).drew.trans hb2 : Below w1.heap.size w1 w2).mono B1.out.size))
        have I2 := hide2 hi2
        clear hb2 hi2 hf2
        refine hK.out _ _ ⟨p0, p1⟩ (fun hHeld => ?_)
        clear hK
        refine tkOne rfl (fun K hK => ?_)
        refine step_mk Try.underlying33 infoInt rfl rfl _ _ rfl n rfl rfl rfl rfl (by omega) (by omega) (Below.refl w2.heap.size w2) (Nat.le_refl _) ?_
        intro w3 own3 hg3 hb3
        have q0 := (V2.out.keep hb3).two.1
        have q1 := (V2.out.keep hb3).two.2
        have Z3 := hide2 (Z2.out.keep hb3)
        have HI := hide2 (I2.out.keep hb3)
        have HJ := hide2 (ints_made own3 (by omega))
        have B3 := hide2 (B2.out.trans (hb3.mono B2.out.size))
        obtain ⟨z0, z1⟩ := Z3.out.two
        have zf := Z3.out.frozen 0
        have zg := Z3.out.frozen 1
        clear own3 hg3 hb3
        refine hK.out _ _ ⟨q0, q1⟩ (fun hHeld => ?_)
        clear hK
        simp only [Act.put, List.setIfInBounds_toArray, List.set_cons_zero, List.set_cons_succ]
        refine tkTake (v := ?_) rfl (by rfl) hHeld (fun w' hSw => ?_) ?_
        rotate_left
        · (go_simp; try with_reducible rfl)
        simp only [Act.put, List.setIfInBounds_toArray, List.set_cons_zero, List.set_cons_succ]
        iterate 2
          refine tkEnd rfl (fun K hK => ?_)
          go_simp
          refine hK.out _ _ ?_
          clear hK
        refine tkDone ?_
        go_wp2
        obtain ⟨r0, r1⟩ := (Z3.out.set2 (.slice C P.toNat k2) (.slice (some ⟨w2.heap.size, 0, none⟩) n n)).two
        exact bodyPost_ret (v := .tuple #[.agg #[.slice C P.toNat k2, .slice (some ⟨w2.heap.size, 0, none⟩) n n], .int .i64 0]) (by simp [results, Try.results186, go_sem, r0, r1]) rfl
          ⟨_, _, _, _, _, _, by rw [FIN.out], by rw [FIN.out]; have := (HI.out.beside Z3.out noInt2 (Beside.set2 _ _ 0 1 (.slice C P.toNat k2) (.slice (some ⟨w2.heap.size, 0, none⟩) n n))); exact this, by rw [FIN.out]; simp only []; rw [HL.out]; exact HJ.out.beside Z3.out noInt2 (Beside.set2 _ _ _ _ _ _), (B3.out.setCell (by simp) _).setCell (by simp) _, HF.out, Fresh.at B2.out.size⟩
      · refine step_mk Try.underlying33 infoInt rfl rfl _ _ rfl n rfl rfl rfl rfl (by omega) (by omega) (Below.refl w1.drew.heap.size w1.drew) (Nat.le_refl _) ?_
        intro w2 own2 hg2 hb2
        have Z2 := hide2 (Y1.out.drew.keep hb2)
        have V2 := hide2 (Y0.out.drew.keep hb2)
        have p0 := V2.out.two.1
        have p1 := V2.out.two.2
        have B2 := hide2 (B1.out.trans (((Below.refl _ _).drew.trans hb2 : Below w1.heap.size w1 w2).mono B1.out.size))
        have J2 := hide2 (ints_made own2 (by omega))
        clear hb2 own2 hg2
        refine hK.out _ _ ⟨p0, p1⟩ (fun hHeld => ?_)
        clear hK
        simp only [Act.put, List.setIfInBounds_toArray, List.set_cons_zero, List.set_cons_succ]
        refine tkOne rfl (fun K hK => ?_)
        go_simp; go_at_call 85
        (with_reducible refine (start_small w2 P i A n c hP16).mono ?_)
        rintro e w3 ⟨C, k2, rfl, hi3, hb3, hf3⟩
        have HF := hide2 (hf3.mono B2.out.size)
        have q0 := (V2.out.keep hb3).two.1
        have q1 := (V2.out.keep hb3).two.2
        have Z3 := hide2 (Z2.out.keep hb3)
        have HI := hide2 hi3
        have HJ := hide2 (J2.out.keep hb3)
        have B3 := hide2 (B2.out.trans (hb3.mono B2.out.size))
        obtain ⟨z0, z1⟩ := Z3.out.two
        have zf := Z3.out.frozen 0
        have zg := Z3.out.frozen 1
        clear hi3 hb3 hf3
        refine hK.out _ _ ⟨q0, q1⟩ (fun hHeld => ?_)
        clear hK
        refine tkTake (v := ?_) rfl (by rfl) hHeld (fun w' hSw => ?_) ?_
        rotate_left
        · (go_simp; try with_reducible rfl)
        simp only [Act.put, List.setIfInBounds_toArray, List.set_cons_zero, List.set_cons_succ]
        iterate 2
          refine tkEnd rfl (fun K hK => ?_)
          go_simp
          refine hK.out _ _ ?_
          clear hK
        refine tkDone ?_
        go_wp2
        obtain ⟨r0, r1⟩ := (Z3.out.set2 (.slice C P.toNat k2) (.slice (some ⟨w1.heap.size, 0, none⟩) n n)).two
        exact bodyPost_ret (v := .tuple #[.agg #[.slice C P.toNat k2, .slice (some ⟨w1.heap.size, 0, none⟩) n n], .int .i64 0]) (by simp [results, Try.results186, go_sem, r0, r1]) rfl
          ⟨_, _, _, _, _, _, by rw [FIN.out], by rw [FIN.out]; have := (HI.out.beside Z3.out noInt2 (Beside.set2 _ _ 0 1 (.slice C P.toNat k2) (.slice (some ⟨w1.heap.size, 0, none⟩) n n))); exact this, by rw [FIN.out]; simp only []; rw [HL.out]; exact HJ.out.beside Z3.out noInt2 (Beside.set2 _ _ _ _ _ _), (B3.out.setCell (by simp) _).setCell (by simp) _, HF.out, Fresh.at B1.out.size⟩
    · have FIN := hide2 (beginL_none HO.out hi)
      by_cases hi0 : 0 ≤ i
      · have hi1 : P ≤ i := by omega
        clear hi
        go_wp2
        obtain ⟨r0, r1⟩ := (Y1.out.set2 (.slice none 0 0) (.slice none 0 0)).two
        exact bodyPost_ret (v := .tuple #[.agg #[.slice none 0 0, .slice none 0 0], .int .i64 3]) (by simp [results, Try.results186, go_sem, r0, r1]) rfl (by rw [FIN.out]; exact AnsCE.no ((B1.out.setCell (by simp) _).setCell (by simp) _))
      · clear hi
        go_wp2
        obtain ⟨r0, r1⟩ := (Y1.out.set2 (.slice none 0 0) (.slice none 0 0)).two
        exact bodyPost_ret (v := .tuple #[.agg #[.slice none 0 0, .slice none 0 0], .int .i64 3]) (by simp [results, Try.results186, go_sem, r0, r1]) rfl (by rw [FIN.out]; exact AnsCE.no ((B1.out.setCell (by simp) _).setCell (by simp) _))
end Go.Proofs.Ytmnacahoamkokaa
