/- The contract of the finder's explore. Conditions: the net reads as a list and fits; the finder's memory is a start of the exploration. -/
import Derived.Test.YtmnacahoamkokaaReachD
import Derived.Test.YtmnacahoamkokaaEnabF
namespace Go.Proofs.Ytmnacahoamkokaa
open Go.RowKit

/-- The list that a call answers is apart from the finder's blocks. -/
theorem FinW.apart {w : World} {B bf bm : Nat} {P : Int} {A : Option Addr} {n c : Nat} {most : Int} {u v z : Value} {mm ms : List (List Int)} {ars : List PArc} {fs : List Int} (h : FinW w B bf bm P A n c most u v z mm ms ars fs) {C : Option Addr} {l : Nat} (hf : Fresh w C) : Apart4 bf u v z C l := by
  intro b off e _
  have hb : w.heap.size ≤ b := hf _ e
  have h0 := h.box.lt
  exact ⟨by omega, fun e2 => (by have := (h.marks.lt b e2).2; omega), fun e2 => (by have := (h.arcs.lt b e2).2; omega), fun e2 => (by have := (h.first.lt b e2).2; omega)⟩
structure ExpOk (N : PNet) (M : Nat) (s : PSp) (fs : List Int) (k : Nat) : Prop where
  sp : SpOk N M s
  fst : FstOk s fs
  arcs : s.arcs.length ≤ k
def AnsExp (w0 : World) (bf bm : Nat) (N : PNet) (A : Option Addr) (n c M : Nat) (r : Option PSp) (e : Ending) (w' : World) : Prop :=
  Below w0.heap.size w0 w' ∧ match r with
  | none => e = .returned (.int .i64 4)
  | some s => e = .returned (.int .i64 0) ∧ ∃ u v z fs, FinW w' w0.heap.size bf bm N.places A n c (M : Int) u v z s.marks s.marks s.arcs fs ∧ ExpOk N M s fs 7200
theorem ans_none {w0 w' : World} {bf bm : Nat} {N : PNet} {A : Option Addr} {n c M : Nat} {r : Option PSp} (hr : r = none) (hb : Below w0.heap.size w0 w') : AnsExp w0 bf bm N A n c M r (.returned (.int .i64 4)) w' := by
  subst hr
  exact ⟨hb, rfl⟩

set_option maxRecDepth 100000 in
set_option maxHeartbeats 4000000 in
theorem explore_calls {w0 w : World} {bf bm : Nat} {P : Int} {A : Option Addr} {n c M : Nat} {u v z : Value} {ts : List PTran} {s : PSp} {fs : List Int} (hT : Trans w0 A n c ts) (hM : M ≤ 300)
    (h : FinW w w0.heap.size bf bm P A n c (M : Int) u v z s.marks s.marks s.arcs fs) (hB : Below w0.heap.size w0 w) (hs : ExpOk ⟨P, ts⟩ M s fs 0) :
    Calls Try.prog 146 #[.pointer (some ⟨bf, 0, none⟩)] w (AnsExp w0 bf bm ⟨P, ts⟩ A n c M (goM ⟨P, ts⟩ M M 0 s)) := by
  obtain ⟨R, hR⟩ : ∃ R, goM ⟨P, ts⟩ M M 0 s = R := ⟨_, rfl⟩
  rw [hR]
  have HR := hide2 hR
  have HT := hide2 hT
  have HF := hide2 h
  have HB := hide2 hB
  have HS := hide2 hs
  have HM := hide2 hM
  clear hR hT h hB hs hM
  go_enter Try.func146, Try.ntmps146
  go_wp2
  go_loopw [3] (fun fv wr => ∃ (f : Nat) (u v z : Value) (s : PSp) (fs : List Int), fv = .int .i64 f ∧ f ≤ s.marks.length ∧ f ≤ M ∧ Hid (FinW wr w0.heap.size bf bm P A n c (M : Int) u v z s.marks s.marks s.arcs fs) ∧ Hid (Below w0.heap.size w0 wr) ∧ Hid (ExpOk ⟨P, ts⟩ M s fs (24 * f)) ∧ Hid (goM ⟨P, ts⟩ M (M - f) f s = R)) (fun fv _ => M - (intOf fv).toNat)
  case atStart => exact ⟨0, u, v, z, s, fs, rfl, Nat.zero_le _, Nat.zero_le _, HF, HB, HS, HR⟩
  case round =>
    clear HF HB HS HR u v z fs s
    obtain ⟨f, u, v, z, s, fs, rfl, hfl, hfM, HF, HB, HS, HR⟩ := hrel
    have hM3 : M ≤ 300 := HM.out
    have hL3 : s.marks.length ≤ 300 := Nat.le_trans HS.out.sp.few HM.out
    obtain ⟨U, cu, hu, su⟩ := HF.out.marks.sl (by omega)
    subst hu
    obtain ⟨L, hL⟩ : ∃ L, s.marks.length = L := ⟨_, rfl⟩
    have HLL := hide2 hL
    by_cases hlt : f < s.marks.length
    · obtain ⟨b, off, m, vs, hU, hbl, hm, hc, A1, n1, c1, e1, i1, hn1, ap1⟩ := Sl.get su hlt
      subst hU
      have hU2 : f < L := by omega
      have c0 : wr.cell? ⟨bf, 0, none⟩ = some (.int .i64 P) := HF.out.box.cell 0
      have c1' : wr.cell? ⟨bf, 1, none⟩ = some (.slice A n c) := HF.out.box.cell 1
      have c4 : wr.cell? ⟨bf, 4, none⟩ = some (.slice (some ⟨b, off, none⟩) s.marks.length cu) := HF.out.box.cell 4
      have cm : wr.cell? ⟨b, off + f, none⟩ = some (.slice A1 n1 c1) := by have := hc 0 (by omega); rw [e1] at this; simpa using this
      rw [hL] at c4
      have hfLi : (f : Int) < (L : Int) := by omega
      have MF := hide2 (HS.out.sp.fits m (List.mem_of_getElem? hm))
      have HM1 := hide2 hm
      have I1 := hide2 i1
      have AP1 := hide2 ap1
      have HT1 := hide2 (HT.out.keep HB.out)
      have FIN := hide2 (show enabledL ⟨P, ts⟩ m = (enIdx ts m, 0) by rw [enabledL, if_pos MF.out])
      have HN := hide2 hn1
      clear hL su hlt hm hc i1 ap1 e1 hn1
      go_wp2_with ((with_reducible refine (enabledF_calls HT1.out I1.out).mono ?_); rw [FIN.out]; rintro e w1 ⟨C, l, lc, rfl, hi, hb1, hfr⟩)
      have F1 := hide2 (HF.out.keep hb1)
      have B1 := hide2 (HB.out.trans (hb1.mono HB.out.size))
      have IM := hide2 (I1.out.keep hb1)
      have IC := hide2 hi
      have AC := hide2 (HF.out.apart (l := l) hfr)
      have hl24 : l ≤ 24 := by
        have h1 := hi.len
        have h2 := enIdx_length ts m
        have h3 : ts.length ≤ 24 := ((netOk_iff _).1 ((fitsB_iff _ _).1 MF.out).1).2.2.1
        omega
      have FD := hide2 (show fromL ⟨P, ts⟩ M f s = foldS ⟨P, ts⟩ M m (f : Int) (enIdx ts m) (some s) by
        have := foldS_enabled (most := M) (f := (f : Int)) MF.out (some s) ts.length (Nat.le_refl _)
        rw [List.take_length] at this
        rw [this, fromL, show s.marks.getD f [] = m by rw [List.getD_eq_getElem?_getD, HM1.out]; rfl])
      obtain ⟨wo, hwo⟩ : ∃ wo : World, wo = wr := ⟨_, rfl⟩
      subst hwo
      clear c0 c1' c4 cm hi hb1 hfr I1 HT1 HF HB
      go_wp2
      go_loopw [45] (fun kv wr => ∃ (k : Nat) (u v z : Value) (s1 : PSp) (fs : List Int), kv = .int .i64 k ∧ k ≤ l ∧ Hid (FinW wr w0.heap.size bf bm P A n c (M : Int) u v z s1.marks s1.marks s1.arcs fs) ∧ Hid (Below w0.heap.size w0 wr) ∧ Hid (ExpOk ⟨P, ts⟩ M s1 fs (24 * f + k)) ∧ Hid (foldS ⟨P, ts⟩ M m (f : Int) ((enIdx ts m).take k) (some s) = some s1) ∧ Hid (Ints wr C l lc (enIdx ts m) ∧ Apart4 bf u v z C l) ∧ Hid (Ints wr A1 n1 c1 m ∧ Apart4 bf u v z A1 n1) ∧ Hid (f < s1.marks.length)) (fun kv _ => l - (intOf kv).toNat)
      case atStart => exact ⟨0, _, _, _, s, fs, rfl, Nat.zero_le _, F1, B1, HS, rfl, ⟨IC.out, AC.out⟩, ⟨IM.out, AP1.out⟩, by rw [HLL.out]; exact hU2⟩
      case round =>
        clear F1 B1 IM IC AC AP1
        obtain ⟨k, u1, v1, z1, s1, fs1, rfl, hk, F1, B1, X1, FO, ⟨ic, ac⟩, ⟨im, am⟩, FL⟩ := hrel
        have hm300 : s1.marks.length ≤ 300 := Nat.le_trans X1.out.sp.few HM.out
        have ha72 : s1.arcs.length ≤ 24 * f + k := X1.out.arcs
        have hf72 : s1.arcs.length ≤ 7224 := by omega
        have hfs : fs1.length ≤ 300 := by rw [X1.out.fst.len]; exact hm300
        have SUCC := hide2 (show R = none ∨ True from .inr trivial)
        by_cases hlt : k < l
        · obtain ⟨bC, offC, t, hC, hbC, ht, hct⟩ := Ints.get ic hlt
          subst hC
          have htm : t ∈ enIdx ts m := List.mem_of_getElem? ht
          obtain ⟨⟨i, hi, hti⟩, hfe⟩ := enIdx_fire MF.out htm
          subst hti
          obtain ⟨V, cv, hv, sv⟩ := F1.out.arcs.sl (by omega)
          subst hv
          have hki : (k : Int) < (l : Int) := by omega
          have hi24 : i ≤ 24 := by
            have h3 : ts.length ≤ 24 := ((netOk_iff _).1 ((fitsB_iff _ _).1 MF.out).1).2.2.1
            have h4 : i < ts.length := hi
            omega
          have STEP := hide2 (show foldS ⟨P, ts⟩ M m (f : Int) ((enIdx ts m).take (k + 1)) (some s) = arcStep ⟨P, ts⟩ M m (f : Int) s1 (i : Int) by
            rw [take_snoc ht, foldS_snoc, FO.out]; rfl)
          have NONE := hide2 (fun (h0 : arcStep ⟨P, ts⟩ M m (f : Int) s1 (i : Int) = none) => show R = none by
            rw [← HR.out]
            obtain ⟨g, hg⟩ : ∃ g, M - f = g + 1 := ⟨M - f - 1, by have := HS.out.sp.few; rw [HLL.out] at this; omega⟩
            rw [hg, goM, if_pos (by rw [HLL.out]; exact hU2), FD.out, foldS_ended (k + 1) (by rw [STEP.out]; exact h0)]
            rfl)
          obtain ⟨p, hp⟩ : ∃ p, fireL ⟨P, ts⟩ m (i : Int) = p := ⟨_, rfl⟩
          obtain ⟨x, fe⟩ := p
          rw [hp] at hfe
          have c0 : wr.cell? ⟨bf, 0, none⟩ = some (.int .i64 P) := F1.out.box.cell 0
          have c1' : wr.cell? ⟨bf, 1, none⟩ = some (.slice A n c) := F1.out.box.cell 1
          have HP := hide2 hp
          have HTr := hide2 (HT.out.keep B1.out)
          have IMR := hide2 im
          have AMR := hide2 am
          have ICR := hide2 ic
          have ACR := hide2 ac
          have FXF := hide2 (fire_fits (t := (i : Int)) MF.out)
          clear hp im am ic ac hi htm sv ht SUCC
          rcases hfe with hfe | hfe
          · simp only at hfe
            subst hfe
            have XF := hide2 (FXF.out (by rw [HP.out]))
            simp only [HP.out] at XF
            have XL := hide2 (show x.length ≤ 16 by
              obtain ⟨h1, h2, _⟩ := (fitsB_iff _ _).1 XF.out.1
              have h3 := ((netOk_iff _).1 h1).2.1
              simp only at h2 h3
              omega)
            have XR := hide2 ((fitsB_iff _ _).1 XF.out.1).2.2
            have AST := hide2 (show arcStep ⟨P, ts⟩ M m (f : Int) s1 (i : Int) = meetL M s1 (f : Int) (i : Int) x by unfold arcStep; rw [HP.out]; rfl)
            have SPS := hide2 (fun (s' : PSp) (h : meetL M s1 (f : Int) (i : Int) x = some s') => X1.out.sp.step FL.out MF.out (AST.out.trans h))
            have MT := X1.out.fst.meet (M := M) (x := x) (f := (f : Int)) (t := (i : Int)) (fun a ha => (X1.out.sp.ends a ha).2.2.2)
            have CF := hide2 (fun (w2 : World) (D : Option Addr) (q qc : Nat) (hi2 : Ints w2 D q qc x) (hb2 : Below wr.heap.size wr w2) (hfr2 : Fresh wr D) => find_calls (s1.arcs.length : Int) (F1.out.keep hb2) (B1.out.trans (hb2.mono B1.out.size)) hi2 (by rw [← hi2.len]; exact XL.out) XR.out (F1.out.apart hfr2) hm300 hfs)
            obtain ⟨pp, hpp⟩ : ∃ pp, findP M s1.marks fs1 x (s1.arcs.length : Int) = pp := ⟨_, rfl⟩
            rw [hpp] at MT
            simp only [hpp] at CF
            obtain ⟨ms', fs', k', ok⟩ := pp
            clear hpp
            have CELL := hide2 (show ∀ w2, Below wr.heap.size wr w2 → w2.cell? ⟨bf, 5, none⟩ = some (.slice V s1.arcs.length cv) from fun w2 hb => (F1.out.box.keep hb).cell 5)
            obtain ⟨na, hna⟩ : ∃ na, s1.arcs.length = na := ⟨_, rfl⟩
            have HNA := hide2 hna
            simp only [hna] at CF CELL ACR AMR
            rcases MT with ⟨hok, hme⟩ | ⟨hok, hme, hfo⟩
            · simp only at hok
              subst hok
              have RN := hide2 (NONE.out (AST.out.trans hme))
              clear hme hna
              go_wp2_with (first
                | ((with_reducible refine (fireF_calls HTr.out IMR.out (i : Int)).mono ?_); rw [HP.out]; rintro e w2 ⟨D, q, qc, rfl, hi2, hb2, hfr2⟩; have CALL := hide2 (CF.out w2 D q qc hi2 hb2 hfr2); have c5 := CELL.out w2 hb2; clear hi2 hb2 hfr2)
                | (go_at_call 145; (with_reducible refine CALL.out.mono ?_); rintro e w3 ⟨u', z', rfl, F3, B3, S3, K3⟩; have B4 := hide2 B3; clear F3 B3 S3 K3))
              go_ret
              exact ans_none RN.out B4.out
            · simp only at hok hme hfo
              subst hok
              have SP := hide2 (SPS.out _ hme)
              have FO2 := hide2 (STEP.out.trans (AST.out.trans hme))
              have HFO := hide2 hfo
              have WI := hide2 (show (Lit.int .i64 (i : Int)).wf = true from WalkArith.wf_i64 (by omega))
              clear hme hfo hna
              go_wp2_with (first
                | ((with_reducible refine (fireF_calls HTr.out IMR.out (i : Int)).mono ?_); rw [HP.out]; rintro e w2 ⟨D, q, qc, rfl, hi2, hb2, hfr2⟩; have CALL := hide2 (CF.out w2 D q qc hi2 hb2 hfr2); have HB2 := hide2 hb2; have c5 := CELL.out w2 hb2; clear hi2 hb2 hfr2)
                | (go_at_call 145; go_loud ((with_reducible refine CALL.out.mono ?_); rintro e w3 ⟨u', z', rfl, F3, B3, S3, K3⟩; have F4 := hide2 F3; have B4 := hide2 B3; have IC4 := hide2 (K3 _ _ _ _ (ICR.out.keep HB2.out) ACR.out); have IM4 := hide2 (K3 _ _ _ _ (IMR.out.keep HB2.out) AMR.out); have NB := hide2 (show (Value.slice V na cv).ownBlock ≠ some bf by obtain ⟨_, o1, _⟩ := id F3.arcs; exact own_neBox o1 F3.box (by decide)); clear c5; have c5 : w3.cell? ⟨bf, 5, none⟩ = some (.slice V na cv) := F3.box.cell 5; clear F3 B3 S3 K3))
                | (at_builtin; go_loud (refine wpList_appLies tyArcs rfl _ _ rfl [(⟨(f : Int), (i : Int), k'⟩ : PArc)] #[.int .i64 (f : Int), .int .i64 (i : Int), .int .i64 k'] rfl rfl (by first | rfl | simp) rfl (by omega) (by simp [Value.oneCell']) F4.out.arcs (Reads.one (vs := fun j => #[Value.int .i64 (f : Int), .int .i64 (i : Int), .int .i64 k'].getD j (.int .i64 0)) ⟨rfl, rfl, rfl, WI.out⟩ rfl (fun j hj => (by match j, hj with | 0, _ => rfl | 1, _ => rfl | 2, _ => rfl))) rfl B4.out B4.out.size (by omega) (by omega) (fun _ _ _ _ h => h) ?_; intro g6 cap6 w6 own6' hg6' hb6' hat6'; have own6 := hide2 own6'; have hg6 := hide2 hg6'; have hb6 := hide2 hb6'; have hat6 := hide2 hat6'; clear own6' hg6' hb6' hat6' c5; have c5 : w6.cell? ⟨bf, 5, none⟩ = some (.slice V na cv) := (F4.out.box.grown hg6.out NB.out).cell 5; have f5 := (F4.out.box.grown hg6.out NB.out).frozen 5)))
              go_roundw
              case rel =>
                have FK := F4.out.arc (by simp) own6.out hg6.out hat6.out
                exact ⟨k + 1, u', _, z', ⟨ms', s1.arcs ++ [⟨(f : Int), (i : Int), k'⟩]⟩, fs', by go_num, by omega, hide2 FK.1, hide2 (hb6.out.grown (grown_setCell _ _ _ _) hb6.out.size (fun k hk => by cases hk; exact F4.out.lo)), hide2 ⟨SP.out.1, HFO.out, by simp; omega⟩, FO2, hide2 (FK.2 _ _ _ _ IC4.out.1 IC4.out.2), hide2 (FK.2 _ _ _ _ IM4.out.1 IM4.out.2), hide2 (Nat.lt_of_lt_of_le FL.out SP.out.2.length_le)⟩
              case measure => simp [intOf]; omega
          · simp only at hfe
            subst hfe
            have RN := hide2 (NONE.out (by unfold arcStep; rw [HP.out]; rfl))
            go_wp2_with ((with_reducible refine (fireF_calls HTr.out IMR.out (i : Int)).mono ?_); rw [HP.out]; rintro e w2 ⟨D, q, qc, rfl, hi2, hb2, hfr2⟩; have B2 := hide2 (B1.out.trans (hb2.mono B1.out.size)); clear hi2 hb2 hfr2)
            go_ret
            exact ans_none RN.out B2.out
        · obtain rfl : k = l := by omega
          have FA := hide2 (show foldS ⟨P, ts⟩ M m (f : Int) (enIdx ts m) (some s) = some s1 by
            have := FO.out
            rwa [List.take_of_length_le (by rw [ic.len]; exact Nat.le_refl _)] at this)
          have NX := hide2 (show goM ⟨P, ts⟩ M (M - (f + 1)) (f + 1) s1 = R by
            rw [← HR.out]
            obtain ⟨g, hg⟩ : ∃ g, M - f = g + 1 := ⟨M - f - 1, by have := HS.out.sp.few; rw [HLL.out] at this; omega⟩
            rw [hg, goM, if_pos (by rw [HLL.out]; exact hU2), FD.out, FA.out, show M - (f + 1) = g by omega]
            rfl)
          have fM : f + 1 ≤ M := by have := HS.out.sp.few; rw [HLL.out] at this; omega
          clear ic im
          go_wp2
          go_roundw
          case rel => exact ⟨f + 1, u1, v1, z1, s1, fs1, by go_num, FL.out, fM, F1, B1, ⟨X1.out.sp, X1.out.fst, by omega⟩, NX⟩
          case measure => simp [intOf]; omega
    · have FE := hide2 (show R = some s by
        rw [← HR.out]
        cases M - f with
        | zero => rfl
        | succ g => rw [goM, if_neg hlt])
      obtain rfl : f = L := by omega
      have c4 : wr.cell? ⟨bf, 4, none⟩ = some (.slice U s.marks.length cu) := HF.out.box.cell 4
      rw [hL] at c4
      clear hL su hlt hfl hL3
      go_wp2
      go_ret
      rw [FE.out]
      exact ⟨HB.out, rfl, _, _, _, fs, HF.out, ⟨HS.out.sp, HS.out.fst, Nat.le_trans HS.out.arcs (by omega)⟩⟩
end Go.Proofs.Ytmnacahoamkokaa
