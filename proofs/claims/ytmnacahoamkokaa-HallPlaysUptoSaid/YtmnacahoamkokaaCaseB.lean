/- Contracts of SameInts, SameCase, of the library's Equal on error numbers, of cases.Right, PRight, cases.Begin and PBegin. Conditions: the net and the case read as lists. -/
import Derived.Test.YtmnacahoamkokaaCaseA
import Derived.Test.YtmnacahoamkokaaHeldB
namespace Go.Proofs.Ytmnacahoamkokaa
open Go.RowKit

theorem sameInts_calls {w : World} {A B : Option Addr} {n c m d : Nat} {xs ys : List Int} (h : Ints w A n c xs) (g : Ints w B m d ys) :
    Calls Try.prog 166 #[.slice A n c, .slice B m d] w fun e w' => e = .returned (.bool (xs == ys)) ∧ Drew w w' := by
  obtain ⟨q, hq⟩ : ∃ q, (xs == ys) = q := ⟨_, rfl⟩
  rw [hq]
  have HQ := hide2 hq
  clear hq
  go_enter Try.func166, Try.ntmps166
  go_wp2_with fail
  refine (equalInts_calls h g).mono ?_
  rw [HQ.out]
  rintro e w' ⟨rfl, hd⟩
  go_wp2
  go_ret
  exact ⟨rfl, hd⟩

/-- Two cases that read alike are the same. -/
theorem sameCase_calls {w : World} {A B C D : Option Addr} {n c m d l k r s : Nat} {p : PCase} (h1 : Ints w A n c p.mark) (h2 : Ints w B m d p.busy) (g1 : Ints w C l k p.mark) (g2 : Ints w D r s p.busy) :
    Calls Try.prog 107 #[.agg #[.slice A n c, .slice B m d], .agg #[.slice C l k, .slice D r s]] w fun e w' => e = .returned (.bool true) ∧ Below w.heap.size w w' := by
  have B0 := hide2 (((Below.refl _ _).alloc (Nat.le_refl _) (.cells #[.slice A n c, .slice B m d] 75)).alloc (by simp) (.cells #[.slice C l k, .slice D r s] 75) : Below w.heap.size w _)
  have H1 := hide2 (h1.keep B0.out)
  have H2 := hide2 (h2.keep B0.out)
  have G1 := hide2 (g1.keep B0.out)
  have G2 := hide2 (g2.keep B0.out)
  clear h1 h2 g1 g2
  go_enter Try.func107, Try.ntmps107
  go_wp2_with fail
  refine (sameInts_calls H1.out G1.out).mono ?_
  rintro e w1 ⟨rfl, n1, rfl⟩
  rw [beq_self_eq_true]
  go_wp2_with fail
  refine (sameInts_calls (H2.out.keep (Drew.drewN _ _).below) (G2.out.keep (Drew.drewN _ _).below)).mono ?_
  rintro e w2 ⟨rfl, n2, rfl⟩
  rw [beq_self_eq_true]
  go_wp2
  go_ret
  exact ⟨rfl, B0.out.trans ((Drew.drewN _ _).below.mono B0.out.size)⟩
set_option maxRecDepth 100000 in
theorem caseRight_calls {w : World} {P : Int} {A B D : Option Addr} {n c m d l k : Nat} {ts : List PTran} {p : PCase} (h : Trans w A n c ts) (g : Ints w B m d p.mark) (b : Ints w D l k p.busy) :
    Calls Try.prog 221 #[.agg #[.int .i64 P, .slice A n c], .agg #[.slice B m d, .slice D l k]] w fun e w' => e = .returned (.bool (caseOk ⟨P, ts⟩ p)) ∧ Below w.heap.size w w' := by
  have B0 := hide2 (((Below.refl _ _).alloc (Nat.le_refl _) (.cells #[.int .i64 P, .slice A n c] 27)).alloc (by simp) (.cells #[.slice B m d, .slice D l k] 75) : Below w.heap.size w _)
  have X0 : Box ((w.alloc (.cells #[.int .i64 P, .slice A n c] 27)).alloc (.cells #[.slice B m d, .slice D l k] 75)) w.heap.size 27 #[.int .i64 P, .slice A n c] := (Box.new _ _ _).old _
  have X1 : Box ((w.alloc (.cells #[.int .i64 P, .slice A n c] 27)).alloc (.cells #[.slice B m d, .slice D l k] 75)) (w.heap.size + 1) 75 #[.slice B m d, .slice D l k] := Box.newAt (by simp) _ _
  have hm := g.small
  have hn := h.small
  have hl := b.small
  have GL := hide2 g.len
  have BL := hide2 b.len
  have HL := hide2 h.len
  have H := hide2 h
  have G := hide2 g
  have BB := hide2 b
  clear h g b
  by_cases hok : netOk ⟨P, ts⟩ = true
  · have W0 := hide2 (wrongNet_ok hok)
    have HO := hide2 hok
    clear hok
    go_enter Try.func221, Try.ntmps221
    go_wp2_with fail
    refine (netWrong_calls _ P A n c ts (H.out.keep B0.out)).mono ?_
    rw [W0.out]
    rintro e w1 ⟨rfl, hb⟩
    have B1 := hide2 (B0.out.trans (hb.mono B0.out.size))
    obtain ⟨c0, c1⟩ := (X0.keep hb).two
    obtain ⟨c2, c3⟩ := (X1.keep hb).two
    clear hb X0 X1
    by_cases hmp : (m : Int) = P
    · by_cases hln : l = n
      · subst hmp
        subst hln
        have F0 := hide2 (show caseOk ⟨(m : Int), ts⟩ p = (rightB p.mark && rightB p.busy) by
          rw [Bool.eq_iff_iff, caseOk_iff, Bool.and_eq_true]
          exact ⟨fun h => ⟨h.2.2.1, h.2.2.2.2⟩, fun h => ⟨HO.out, by rw [GL.out], h.1, by rw [BL.out, HL.out], h.2⟩⟩)
        go_wp2_with fail
        refine (right_calls (G.out.keep B1.out)).mono ?_; rintro e w' ⟨rfl, rfl⟩
        cases hr : rightB p.mark
        · have FIN := hide2 (show caseOk ⟨(m : Int), ts⟩ p = false by rw [F0.out, hr]; rfl)
          clear hr
          go_wp2
          go_ret
          exact ⟨ret_bool FIN.out.symm, B1.out⟩
        · have FIN := hide2 (show caseOk ⟨(m : Int), ts⟩ p = rightB p.busy by rw [F0.out, hr]; rfl)
          clear hr
          go_wp2_with fail
          refine (right_calls (BB.out.keep B1.out)).mono ?_; rintro e w' ⟨rfl, rfl⟩
          go_wp2
          go_ret
          exact ⟨ret_bool FIN.out.symm, B1.out⟩
      · have FIN := hide2 (show caseOk ⟨P, ts⟩ p = false by
          cases hc : caseOk ⟨P, ts⟩ p
          · rfl
          · have := ((caseOk_iff _ _).1 hc).2.2.2.1; rw [BL.out] at this; simp only [] at this; rw [HL.out] at this; exact absurd this hln)
        have hne : ((l : Int) == (n : Int)) = false := by simp; omega
        clear hln
        go_wp2
        go_ret
        exact ⟨ret_bool FIN.out.symm, B1.out⟩
    · have FIN := hide2 (show caseOk ⟨P, ts⟩ p = false by
        cases hc : caseOk ⟨P, ts⟩ p
        · rfl
        · have := ((caseOk_iff _ _).1 hc).2.1; rw [GL.out] at this; exact absurd this hmp)
      have hne : ((m : Int) == P) = false := by simpa using hmp
      clear hmp
      go_wp2
      go_ret
      exact ⟨ret_bool FIN.out.symm, B1.out⟩
  · have W0 := hide2 (wrongNet_not (by simpa using hok))
    have FIN := hide2 (show caseOk ⟨P, ts⟩ p = false by
      cases hc : caseOk ⟨P, ts⟩ p
      · rfl
      · exact absurd ((caseOk_iff _ _).1 hc).1 hok)
    clear hok
    go_enter Try.func221, Try.ntmps221
    go_wp2_with fail
    refine (netWrong_calls _ P A n c ts (H.out.keep B0.out)).mono ?_
    rw [W0.out]
    rintro e w1 ⟨rfl, hb⟩
    have B1 := hide2 (B0.out.trans (hb.mono B0.out.size))
    clear hb
    go_wp2
    go_ret
    exact ⟨ret_bool FIN.out.symm, B1.out⟩

set_option maxRecDepth 100000 in
theorem refCaseRight_calls {w : World} {P : Int} {A B D : Option Addr} {n c m d l k : Nat} {ts : List PTran} {p : PCase} (h : Trans w A n c ts) (g : Ints w B m d p.mark) (b : Ints w D l k p.busy) :
    Calls Try.prog 191 #[.agg #[.int .i64 P, .slice A n c], .agg #[.slice B m d, .slice D l k]] w fun e w' => e = .returned (.bool (caseOk ⟨P, ts⟩ p)) ∧ Below w.heap.size w w' := by
  have B0 := hide2 (((Below.refl _ _).alloc (Nat.le_refl _) (.cells #[.int .i64 P, .slice A n c] 27)).alloc (by simp) (.cells #[.slice B m d, .slice D l k] 75) : Below w.heap.size w _)
  have X0 : Box ((w.alloc (.cells #[.int .i64 P, .slice A n c] 27)).alloc (.cells #[.slice B m d, .slice D l k] 75)) w.heap.size 27 #[.int .i64 P, .slice A n c] := (Box.new _ _ _).old _
  have X1 : Box ((w.alloc (.cells #[.int .i64 P, .slice A n c] 27)).alloc (.cells #[.slice B m d, .slice D l k] 75)) (w.heap.size + 1) 75 #[.slice B m d, .slice D l k] := Box.newAt (by simp) _ _
  have hm := g.small
  have hn := h.small
  have hl := b.small
  have BL := hide2 b.len
  have HL := hide2 h.len
  have H := hide2 h
  have G := hide2 g
  have BB := hide2 b
  clear h g b
  have F0 := hide2 (show caseOk ⟨P, ts⟩ p = (fitsB ⟨P, ts⟩ p.mark && decide (l = n) && rightB p.busy) by rw [caseOk, BL.out]; simp only []; rw [HL.out])
  go_enter Try.func191, Try.ntmps191
  go_wp2_with fail
  refine (refFits_calls (P := P) (H.out.keep B0.out) (G.out.keep B0.out)).mono ?_
  cases hf : fitsB ⟨P, ts⟩ p.mark
  · have FIN := hide2 (show caseOk ⟨P, ts⟩ p = false by rw [F0.out, hf]; rfl)
    rintro e w1 ⟨rfl, hb⟩
    have B1 := hide2 (B0.out.trans (hb.mono B0.out.size))
    clear hb hf
    go_wp2
    go_ret
    exact ⟨ret_bool FIN.out.symm, B1.out⟩
  · have F1 := hide2 (show caseOk ⟨P, ts⟩ p = (decide (l = n) && rightB p.busy) by rw [F0.out, hf]; rfl)
    rintro e w1 ⟨rfl, hb⟩
    have B1 := hide2 (B0.out.trans (hb.mono B0.out.size))
    obtain ⟨c0, c1⟩ := (X0.keep hb).two
    obtain ⟨c2, c3⟩ := (X1.keep hb).two
    clear hb hf X0 X1
    by_cases hln : l = n
    · have FIN := hide2 (show caseOk ⟨P, ts⟩ p = rightB p.busy by rw [F1.out, hln]; simp)
      subst hln
      go_wp2_with fail
      refine (refRight_calls (BB.out.keep B1.out)).mono ?_; rintro e w' ⟨rfl, rfl⟩
      go_wp2
      go_ret
      exact ⟨ret_bool FIN.out.symm, B1.out⟩
    · have FIN := hide2 (show caseOk ⟨P, ts⟩ p = false by rw [F1.out, decide_eq_false hln]; rfl)
      have hne : ((l : Int) == (n : Int)) = false := by simp; omega
      clear hln
      go_wp2
      go_ret
      exact ⟨ret_bool FIN.out.symm, B1.out⟩
end Go.Proofs.Ytmnacahoamkokaa
