/- The contract of HClose. Conditions: the net reads as a list. -/
import Derived.Test.YtnfppolgaeibeaaPlainH
import Derived.Test.YtnfppolgaeibeaaShapeH
import Derived.Test.YtnfppolgaeibeaaCaseC
import Derived.Test.YtnfppolgaeibeaaAppW
namespace Go.Proofs.Ytnfppolgaeibeaa
open Go.RowKit

set_option maxRecDepth 100000 in
set_option maxHeartbeats 8000000 in
theorem refClose_calls {w : World} {P : Int} {A : Option Addr} {n c : Nat} {ts : List PTran} (i o : Int) (h : Trans w A n c ts) (hn : n ≤ 2513169434916) :
    Calls Try.prog 13 #[.agg #[.int .i64 P, .slice A n c], .int .i64 i, .int .i64 o] w (AnsNS (closeL ⟨P, ts⟩ i o) w) := by
  generalize hw0 : (w.alloc (.cells #[.int .i64 P, .slice A n c] 27)).alloc (.cells #[.int .i64 0, .slice none 0 0] 27) = w0
  have D0 := hide2 (show Below w.heap.size w w0 by rw [← hw0]; exact ((Below.refl _ _).alloc (Nat.le_refl _) _).alloc (by simp) _)
  have X0 := hide2 (show Box w0 w.heap.size 27 #[.int .i64 P, .slice A n c] by rw [← hw0]; exact (Box.new _ _ _).old _)
  have X1 := hide2 (show Box w0 (w.heap.size + 1) 27 #[.int .i64 0, .slice none 0 0] by rw [← hw0]; exact Box.newAt (by simp) _ _)
  have H := hide2 h
  have HL := hide2 h.len
  have hns := h.small
  clear h
  obtain ⟨s, hs⟩ : ∃ s, shapeL ⟨P, ts⟩ i o = s := ⟨_, rfl⟩
  have HS := hide2 hs
  have CW := hide2 (refShapeWrong_calls (P := P) i o (H.out.keep D0.out) hn)
  rw [hs] at CW
  clear hs
  go_enter Try.func13, Try.ntmps13
  go_upto_region 1 with fail
  clear hw0
  obtain ⟨c0, c1⟩ := X0.out.two
  go_wp2_with fail
  refine CW.out.mono ?_
  rintro e w1 ⟨rfl, hb⟩
  have B1 := hide2 (D0.out.trans (hb.mono D0.out.size))
  have Y0 := hide2 (X0.out.keep hb)
  have Y1 := hide2 (X1.out.keep hb)
  clear hb c0 c1 X0 X1 D0 CW
  obtain ⟨c0, c1⟩ := Y0.out.two
  obtain ⟨z0, z1⟩ := Y1.out.two
  have zf := Y1.out.frozen 0
  have zg := Y1.out.frozen 1
  by_cases hz : s = 0
  · subst hz
    obtain ⟨hok, hin⟩ := shapeL_zero HS.out
    simp only [inB, Bool.and_eq_true, decide_eq_true_eq] at hin
    obtain ⟨⟨⟨⟨hi0, ho0⟩, hiP⟩, hoP⟩, _⟩ := hin
    have HO := hide2 hok
    obtain ⟨p, rfl⟩ : ∃ p : Nat, P = (p : Int) := ⟨P.toNat, by have := ((netOk_iff _).1 HO.out).1; simp only [] at this; omega⟩
    have hp16 : p ≤ 16 := by have := ((netOk_iff _).1 HO.out).2.1; simp only [] at this; omega
    have hn24 : n ≤ 24 := by have := ((netOk_iff _).1 HO.out).2.2.1; rw [HL.out] at this; exact this
    obtain ⟨i, rfl⟩ : ∃ k : Nat, i = (k : Int) := ⟨i.toNat, by omega⟩
    obtain ⟨o, rfl⟩ : ∃ k : Nat, o = (k : Int) := ⟨o.toNat, by omega⟩
    clear hok hi0 ho0
    by_cases hfull : n = 24
    · have FIN := hide2 (show closeL ⟨(p : Int), ts⟩ i o = (⟨0, []⟩, 4) by rw [closeL, if_pos HS.out, if_pos (by rw [HL.out]; exact hfull)])
      have hni : (24 : Int) ≤ (n : Int) := by omega
      clear hfull
      go_wp2
      obtain ⟨r0, r1⟩ := (Y1.out.set2 (.int .i64 0) (.slice none 0 0)).two
      exact bodyPost_ret (v := .tuple #[.agg #[.int .i64 0, .slice none 0 0], .int .i64 4]) (by simp [results, Try.results13, go_sem, r0, r1]) rfl (by rw [FIN.out]; exact AnsNS.no ((B1.out.setCell (by simp) _).setCell (by simp) _))
    · have FIN := hide2 (show closeL ⟨(p : Int), ts⟩ i o = (⟨(p : Int), ts ++ [⟨0, oneL p o, oneL p i⟩]⟩, 0) by rw [closeL, if_pos HS.out, if_neg (by rw [HL.out]; exact hfull)]; rfl)
      have hni : (n : Int) < 24 := by omega
      have hn23 : n ≤ 23 := by omega
      clear hfull
      go_upto_region 6 with fail
      refine wp_region_scr 16 (.takes [0, 1, 3, 4, 6, 7, 9, 10] (.one 2 (.one 5 (.one 8 (.one 11 (.take 12 (.one 13 (.one 14 (.take 15 (.fins [16, 17] .done))))))))) ) (fun w' => w'.cell? ⟨w.heap.size, 0, none⟩ = some (.int .i64 p) ∧ w'.cell? ⟨w.heap.size, 1, none⟩ = some (.slice A n c)) (by kernel_rfl) (by kernel_rfl) (by kernel_rfl) (fun _ _ _ _ _ h => h) ⟨c0, c1⟩ (fun hHeld => ?_)
      simp only [Scr.takes, Scr.fins]
      have V0 := hide2 Y0.out.drew
      have V1 := hide2 Y1.out.drew
      have D := hide2 B1.out.drew
      generalize w1.drew = u0 at *
      clear Y0 Y1 B1 c0 c1 z0 z1 zf zg
      iterate 8
        refine tkTake (v := ?_) rfl (by rfl) hHeld (fun w' hSw => ?_) ?_
        rotate_left
        · (go_simp; try with_reducible rfl)
        simp only [Act.put, List.setIfInBounds_toArray, List.set_cons_zero, List.set_cons_succ]
      refine tkOne rfl (fun K hK => ?_)
      go_simp
      have hb := boxBelow u0 (.cells #[] 78)
      have EMP := hide2 (OwnSl.empty (R := TranR0 w) (sz := 3) (w := u0) (B := u0.heap.size) (e := 78) (Nat.le_refl _))
      generalize hE : u0.alloc (.cells #[] 78) = u1 at *
      have W0 := hide2 (V0.out.keep hb)
      have W1 := hide2 (V1.out.keep hb)
      have D1 := hide2 (D.out.trans (hb.mono D.out.size))
      have S1 := hb.size
      have hb6u : w.heap.size + 1 < u0.heap.size := V1.out.lt
      clear hb hE V0 V1 D
      obtain ⟨x0, x1⟩ := W0.out.two
      refine hK.out _ _ ⟨x0, x1⟩ (fun hHeld => ?_)
      clear hK
      try simp only [Act.put, List.setIfInBounds_toArray, List.set_cons_zero, List.set_cons_succ]
      refine tkOne rfl (fun K hK => ?_)
      refine step_appAny tyTrans (TranR0.good w) rfl (.tmp 27) (.tmp 29) rfl rfl rfl EMP.out (H.out.to0 D1.out) S1 (by omega) (by omega) (fun _ _ _ _ h => h) (Below.refl u0.heap.size u1) (Nat.le_refl _) ?_
      intro v1 u2 own1 hg1 hb1 hat1
      have O1 := hide2 (show OwnSl (TranR0 w) 3 u2 u0.heap.size 78 v1 n ts by have h1 := own1; rw [Nat.zero_add, List.nil_append] at h1; exact h1)
      have V0 := hide2 (W0.out.keepB hb1 (by omega))
      have V1 := hide2 (W1.out.keepB hb1 (by omega))
      have D2 := hide2 (D1.out.trans (hb1.mono (show w.heap.size ≤ u0.heap.size by omega)))
      have S2 := Nat.le_trans S1 hb1.size
      have RLT := hide2 (show ∀ q, v1.ownBlock = some q → q < u2.heap.size from fun q hq => (O1.out.lt q hq).2)
      clear own1 hg1 hb1 hat1 W0 W1 D1 EMP x0 x1
      obtain ⟨x0, x1⟩ := V0.out.two
      refine hK.out _ _ ⟨x0, x1⟩ (fun hHeld => ?_)
      clear hK
      try simp only [Act.put, List.setIfInBounds_toArray, List.set_cons_zero, List.set_cons_succ]
      refine tkOne rfl (fun K hK => ?_)
      go_simp; go_at_call 16
      (with_reducible refine (refStart_small u2 (p : Int) o A n c (by omega)).mono ?_)
      rw [Int.toNat_natCast]
      rintro e u3 ⟨Co, ko, rfl, io, hb, fo⟩
      have I_ := hide2 io
      have FO := hide2 fo
      have O2 := hide2 (show OwnSl (TranR0 w) 3 u3 u0.heap.size 78 v1 n ts from O1.out.keep (TranR0.kept w) hb)
      have W0 := hide2 (V0.out.keep hb)
      have W1 := hide2 (V1.out.keep hb)
      have D3 := hide2 (D2.out.trans (hb.mono D2.out.size))
      have S3 := Nat.le_trans S2 hb.size
      have S23 := hb.size
      clear io fo hb x0 x1 V0 V1 D2 O1
      obtain ⟨x0, x1⟩ := W0.out.two
      refine hK.out _ _ ⟨x0, x1⟩ (fun hHeld => ?_)
      clear hK
      try simp only [Act.put, List.setIfInBounds_toArray, List.set_cons_zero, List.set_cons_succ]
      refine tkOne rfl (fun K hK => ?_)
      go_simp; go_at_call 16
      (with_reducible refine (refStart_small u3 (p : Int) i A n c (by omega)).mono ?_)
      rw [Int.toNat_natCast]
      rintro e u4 ⟨Ci, ki, rfl, ii, hb, fi⟩
      have IO3 := hide2 (Ints.keep I_.out hb)
      have II3 := hide2 ii
      have FI := hide2 fi
      have O3 := hide2 (show OwnSl (TranR0 w) 3 u4 u0.heap.size 78 v1 n ts from O2.out.keep (TranR0.kept w) hb)
      have V0 := hide2 (W0.out.keep hb)
      have V1 := hide2 (W1.out.keep hb)
      have D4 := hide2 (D3.out.trans (hb.mono D3.out.size))
      have S4 := Nat.le_trans S3 hb.size
      clear ii fi hb x0 x1 W0 W1 D3 I_ O2
      obtain ⟨x0, x1⟩ := V0.out.two
      refine hK.out _ _ ⟨x0, x1⟩ (fun hHeld => ?_)
      clear hK
      try simp only [Act.put, List.setIfInBounds_toArray, List.set_cons_zero, List.set_cons_succ]
      iterate 1
        refine tkTake (v := ?_) rfl (by rfl) hHeld (fun w' hSw => ?_) ?_
        rotate_left
        · (go_simp; try with_reducible rfl)
        simp only [Act.put, List.setIfInBounds_toArray, List.set_cons_zero, List.set_cons_succ]
      refine tkOne rfl (fun K hK => ?_)
      go_simp
      refine hK.out _ _ ⟨(V0.out.old _).two.1, (V0.out.old _).two.2⟩ (fun hHeld => ?_)
      clear hK
      try simp only [Act.put, List.setIfInBounds_toArray, List.set_cons_zero, List.set_cons_succ]
      obtain ⟨Q0, hQ0⟩ : ∃ Q : World → Prop, Q = fun w' => Below w.heap.size w w' ∧ Ints w' Co p ko (oneL p o) ∧ Ints w' Ci p ki (oneL p i) := ⟨_, rfl⟩
      have OL := hide2 (show OwnSl (LateR Q0) 3 u4 u0.heap.size 78 v1 n ts from O3.out.imp (R' := LateR Q0) fun vs t ht w' hw' => by rw [hQ0] at hw'; exact TranV.keep hw'.1 ht)
      have RD := hide2 (show LateR Q0 u4 (fun j => [Value.int .i64 0, .slice Co p ko, .slice Ci p ki].getD j undef) ⟨0, oneL p o, oneL p i⟩ from fun w' hw' => by rw [hQ0] at hw'; exact ⟨rfl, Co, p, ko, Ci, p, ki, rfl, rfl, hw'.2.1, hw'.2.2, by omega, by omega⟩)
      refine tkOne rfl (fun K hK => ?_)
      refine step_appNew tyTrans rfl (.tmp 30) (.tmp 38) rfl [⟨0, oneL p o, oneL p i⟩] #[.int .i64 0, .slice Co p ko, .slice Ci p ki] rfl rfl (by first | rfl | simp) rfl rfl (by omega) (by simp [Value.oneCell']) OL.out (Reads.tran RD.out) rfl (Below.refl u0.heap.size u4) S4 (by omega) (by omega) (fun _ _ _ _ h => h) ?_
      intro g cap wz own4 hg4 hb4 hBg hgl
      replace hg4 : u4.grownBy wz v1.ownBlock := hg4
      have OZ := hide2 own4
      have Z0 := hide2 (V0.out.keepB hb4 (by omega))
      have Z1 := hide2 (V1.out.keepB hb4 (by omega))
      have DZ := hide2 (D4.out.trans (hb4.mono (show w.heap.size ≤ u0.heap.size by omega)))
      have SZ := Nat.le_trans S4 hg4.size
      have IOZ := hide2 (show Ints wz Co p ko (oneL p o) from by
        rcases hv : v1.ownBlock with _ | q
        · rw [hv] at hg4; exact Ints.far (b := w.heap.size) IO3.out (hg4.but _) (fun a ha => by have := FO.out a ha; omega)
        · rw [hv] at hg4; exact Ints.far IO3.out hg4 (fun a ha => by have := FO.out a ha; have := RLT.out q hv; omega))
      have IIZ := hide2 (show Ints wz Ci p ki (oneL p i) from by
        rcases hv : v1.ownBlock with _ | q
        · rw [hv] at hg4; exact Ints.far (b := w.heap.size) II3.out (hg4.but _) (fun a ha => by have := FI.out a ha; omega)
        · rw [hv] at hg4; exact Ints.far II3.out hg4 (fun a ha => by have := FI.out a ha; have := RLT.out q hv; omega))
      have FO6 := hide2 (show ∀ a, Co = some a → a.block ≠ w.heap.size + 1 from fun a ha => by have := FO.out a ha; omega)
      have FI6 := hide2 (show ∀ a, Ci = some a → a.block ≠ w.heap.size + 1 from fun a ha => by have := FI.out a ha; omega)
      have HQ0 := hide2 hQ0
      clear own4 hg4 hb4 V0 V1 D4 S4 S3 S2 S1 O3 OL RD IO3 II3 FO FI RLT x0 x1 hQ0
      obtain ⟨x0, x1⟩ := Z0.out.two
      refine hK.out _ _ ⟨x0, x1⟩ (fun hHeld => ?_)
      clear hK
      simp only [Act.put, List.setIfInBounds_toArray, List.set_cons_zero, List.set_cons_succ]
      iterate 1
        refine tkTake (v := ?_) rfl (by rfl) hHeld (fun w' hSw => ?_) ?_
        rotate_left
        · (go_simp; try with_reducible rfl)
        simp only [Act.put, List.setIfInBounds_toArray, List.set_cons_zero, List.set_cons_succ]
      obtain ⟨z0, z1⟩ := Z1.out.two
      have zf := Z1.out.frozen 0
      have zg := Z1.out.frozen 1
      iterate 2
        refine tkEnd rfl (fun K hK => ?_)
        go_simp
        refine hK.out _ _ ?_
        clear hK
        try simp only [Act.put, List.setIfInBounds_toArray, List.set_cons_zero, List.set_cons_succ]
      refine tkDone ?_
      have GQ := hide2 (grown_cell (j := 1) (u := .slice (some ⟨g, 0, none⟩) (n + 1) cap) (grown_cell (j := 0) (u := .int .i64 p) (World.grownBy.refl wz (some (w.heap.size + 1)))))
      have QF : Q0 ((wz.setCell ⟨w.heap.size + 1, 0, none⟩ (.int .i64 p)).setCell ⟨w.heap.size + 1, 1, none⟩ (.slice (some ⟨g, 0, none⟩) (n + 1) cap)) := by
        rw [HQ0.out]
        exact ⟨DZ.out.grown GQ.out DZ.out.size (fun k hk => by cases hk; omega), IOZ.out.far GQ.out FO6.out, IIZ.out.far GQ.out FI6.out⟩
      obtain ⟨AL, cL, hv, hSL⟩ := (OwnSl.kept OZ.out GQ.out (.inr (fun e => by have := (OZ.out.lt _ e).1; omega)) (fun _ _ h => h)).sl (by omega)
      injection hv with e1 e2 e3
      subst e1 e3
      have TR := hide2 (show Trans _ (some ⟨g, 0, none⟩) (n + 1) cap (ts ++ [⟨0, oneL p o, oneL p i⟩]) from hSL.imp (R' := TranR) fun vs x h => h _ QF)
      have DF := hide2 (show Below w.heap.size w _ from DZ.out.grown GQ.out DZ.out.size (fun k hk => by cases hk; omega))
      clear hSL QF GQ
      go_wp2
      obtain ⟨r0, r1⟩ := (Z1.out.set2 (.int .i64 p) (.slice (some ⟨g, 0, none⟩) (n + 1) cap)).two
      exact bodyPost_ret (v := .tuple #[.agg #[.int .i64 p, .slice (some ⟨g, 0, none⟩) (n + 1) cap], .int .i64 0]) (by simp [results, Try.results13, go_sem, r0, r1]) rfl
        ⟨some ⟨g, 0, none⟩, n + 1, cap, by rw [FIN.out], by rw [FIN.out]; exact TR.out, DF.out⟩
  · have hne : (s == 0) = false := by simpa using hz
    have FIN := hide2 (show closeL ⟨P, ts⟩ i o = (⟨0, []⟩, s) by rw [closeL, HS.out, if_neg hz])
    clear hz
    go_wp2
    obtain ⟨r0, r1⟩ := (Y1.out.set2 (.int .i64 0) (.slice none 0 0)).two
    exact bodyPost_ret (v := .tuple #[.agg #[.int .i64 0, .slice none 0 0], .int .i64 s]) (by simp [results, Try.results13, go_sem, r0, r1]) rfl (by rw [FIN.out]; exact AnsNS.no ((B1.out.setCell (by simp) _).setCell (by simp) _))
end Go.Proofs.Ytnfppolgaeibeaa
