/- Contracts of net.fits, BFits, net.Enabled and BEnabled. Conditions: the net and the mark read as lists. -/
import Derived.Test.YtnidicfanbkgjaaNetC
import Derived.Test.YtnidicfanbkgjaaMarkF
namespace Go.Proofs.Ytnidicfanbkgjaa
open Go.RowKit

theorem boxBelow (w : World) (o : Obj) : Below w.heap.size w (w.alloc o) := (Below.refl _ _).alloc (Nat.le_refl _) _

theorem fits_wrong {P : Int} {ts : List PTran} {xs : List Int} (h : ¬ netOk ⟨P, ts⟩ = true) : fitsB ⟨P, ts⟩ xs = false := by
  cases hc : fitsB ⟨P, ts⟩ xs
  · rfl
  · exact absurd ((fitsB_iff _ _).1 hc).1 h

set_option maxRecDepth 100000 in
theorem netFits_calls {w : World} {P : Int} {A B : Option Addr} {n c m d : Nat} {ts : List PTran} {xs : List Int} (h : Trans w A n c ts) (g : Ints w B m d xs) :
    Calls Try.prog 42 #[.agg #[.int .i64 P, .slice A n c], .slice B m d] w fun e w' => e = .returned (.int .i64 (fitsE ⟨P, ts⟩ xs)) ∧ Below w.heap.size w w' := by
  have HB := hide2 (boxBelow w)
  have gm := g.small
  have GL := hide2 g.len
  have G := hide2 g
  have H := hide2 h
  clear g h
  by_cases hok : netOk ⟨P, ts⟩ = true
  · have W0 := hide2 (wrongNet_ok hok)
    have HO := hide2 hok
    clear hok
    go_enter Try.func42, Try.ntmps42
    go_wp2_with fail
    refine (netWrong_calls _ P A n c ts (H.out.keep (HB.out _))).mono ?_
    rw [W0.out]
    rintro e w1 ⟨rfl, hb⟩
    have B1 := hide2 ((HB.out (.cells #[.int .i64 P, .slice A n c] 24)).trans (hb.mono (by simp)))
    have hc0 : w1.cell? ⟨w.heap.size, 0, none⟩ = some (.int .i64 P) := (hb.cell (by simp)).trans (by simp)
    clear hb
    by_cases hl : (m : Int) = P
    · cases hr : rightB xs
      · have HR := hide2 hr
        have FIN := hide2 (show fitsE ⟨P, ts⟩ xs = 2 from fitsE_not (by
          cases hc : fitsB ⟨P, ts⟩ xs
          · rfl
          · have := ((fitsB_iff _ _).1 hc).2.2; rw [hr] at this; cases this))
        clear hr
        go_wp2_with fail
        refine (right_calls (G.out.keep B1.out)).mono ?_; rintro e w' ⟨rfl, rfl⟩; rw [HR.out]
        go_wp2
        go_ret
        exact ⟨ret_int FIN.out.symm, B1.out⟩
      · have HR := hide2 hr
        have FIN := hide2 (show fitsE ⟨P, ts⟩ xs = 0 from fitsE_ok ((fitsB_iff _ _).2 ⟨HO.out, by rw [GL.out]; exact hl, hr⟩))
        clear hr
        go_wp2_with fail
        refine (right_calls (G.out.keep B1.out)).mono ?_; rintro e w' ⟨rfl, rfl⟩; rw [HR.out]
        go_wp2
        go_ret
        exact ⟨ret_int FIN.out.symm, B1.out⟩
    · have FIN := hide2 (show fitsE ⟨P, ts⟩ xs = 2 from fitsE_not (by
        cases hc : fitsB ⟨P, ts⟩ xs
        · rfl
        · have := ((fitsB_iff _ _).1 hc).2.1; rw [GL.out] at this; exact absurd this hl))
      go_wp2
      go_ret
      exact ⟨ret_int FIN.out.symm, B1.out⟩
  · have W0 := hide2 (wrongNet_not (by simpa using hok))
    have FIN := hide2 (fitsE_not (fits_wrong (xs := xs) hok))
    clear hok
    go_enter Try.func42, Try.ntmps42
    go_wp2_with fail
    refine (netWrong_calls _ P A n c ts (H.out.keep (HB.out _))).mono ?_
    rw [W0.out]
    rintro e w1 ⟨rfl, hb⟩
    have B1 := hide2 ((HB.out (.cells #[.int .i64 P, .slice A n c] 24)).trans (hb.mono (by simp)))
    clear hb
    go_wp2
    go_ret
    exact ⟨ret_int FIN.out.symm, B1.out⟩

set_option maxRecDepth 100000 in
theorem refFits_calls {w : World} {P : Int} {A B : Option Addr} {n c m d : Nat} {ts : List PTran} {xs : List Int} (h : Trans w A n c ts) (g : Ints w B m d xs) :
    Calls Try.prog 39 #[.agg #[.int .i64 P, .slice A n c], .slice B m d] w fun e w' => e = .returned (.bool (fitsB ⟨P, ts⟩ xs)) ∧ Below w.heap.size w w' := by
  have HB := hide2 (boxBelow w)
  have gm := g.small
  have GL := hide2 g.len
  have G := hide2 g
  have H := hide2 h
  clear g h
  by_cases hok : netOk ⟨P, ts⟩ = true
  · have W0 := hide2 (wrongNet_ok hok)
    have HO := hide2 hok
    clear hok
    go_enter Try.func39, Try.ntmps39
    go_wp2_with fail
    refine (refWrong_calls _ P A n c ts (H.out.keep (HB.out _))).mono ?_
    rw [W0.out]
    rintro e w1 ⟨rfl, hb⟩
    have B1 := hide2 ((HB.out (.cells #[.int .i64 P, .slice A n c] 24)).trans (hb.mono (by simp)))
    have hc0 : w1.cell? ⟨w.heap.size, 0, none⟩ = some (.int .i64 P) := (hb.cell (by simp)).trans (by simp)
    clear hb
    by_cases hl : (m : Int) = P
    · have FIN := hide2 (show rightB xs = fitsB ⟨P, ts⟩ xs from by
        rw [Bool.eq_iff_iff, fitsB_iff]
        exact ⟨fun h => ⟨HO.out, by rw [GL.out]; exact hl, h⟩, fun h => h.2.2⟩)
      go_wp2_with fail
      refine (refRight_calls (G.out.keep B1.out)).mono ?_; rintro e w' ⟨rfl, rfl⟩
      go_wp2
      go_ret
      exact ⟨ret_bool FIN.out, B1.out⟩
    · have FIN := hide2 (show fitsB ⟨P, ts⟩ xs = false from by
        cases hc : fitsB ⟨P, ts⟩ xs
        · rfl
        · have := ((fitsB_iff _ _).1 hc).2.1; rw [GL.out] at this; exact absurd this hl)
      go_wp2
      go_ret
      exact ⟨ret_bool FIN.out.symm, B1.out⟩
  · have W0 := hide2 (wrongNet_not (by simpa using hok))
    have FIN := hide2 (fits_wrong (xs := xs) hok)
    clear hok
    go_enter Try.func39, Try.ntmps39
    go_wp2_with fail
    refine (refWrong_calls _ P A n c ts (H.out.keep (HB.out _))).mono ?_
    rw [W0.out]
    rintro e w1 ⟨rfl, hb⟩
    have B1 := hide2 ((HB.out (.cells #[.int .i64 P, .slice A n c] 24)).trans (hb.mono (by simp)))
    clear hb
    go_wp2
    go_ret
    exact ⟨ret_bool FIN.out.symm, B1.out⟩
end Go.Proofs.Ytnidicfanbkgjaa
