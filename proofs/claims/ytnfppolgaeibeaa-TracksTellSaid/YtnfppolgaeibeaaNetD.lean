/- Contracts of net.fits, BFits, net.Enabled and BEnabled. Conditions: the net and the mark read as lists. | Contracts of net.Enabled and BEnabled. Conditions: the net and the mark read as lists. -/
import Derived.Test.YtnfppolgaeibeaaNetC
import Derived.Test.YtnfppolgaeibeaaMarkE
namespace Go.Proofs.Ytnfppolgaeibeaa
open Go.RowKit

theorem boxBelow (w : World) (o : Obj) : Below w.heap.size w (w.alloc o) := (Below.refl _ _).alloc (Nat.le_refl _) _

theorem fits_wrong {P : Int} {ts : List PTran} {xs : List Int} (h : ¬ netOk ⟨P, ts⟩ = true) : fitsB ⟨P, ts⟩ xs = false := by
  cases hc : fitsB ⟨P, ts⟩ xs
  · rfl
  · exact absurd ((fitsB_iff _ _).1 hc).1 h

set_option maxRecDepth 100000 in
theorem netFits_calls {w : World} {P : Int} {A B : Option Addr} {n c m d : Nat} {ts : List PTran} {xs : List Int} (h : Trans w A n c ts) (g : Ints w B m d xs) :
    Calls Try.prog 132 #[.agg #[.int .i64 P, .slice A n c], .slice B m d] w fun e w' => e = .returned (.int .i64 (fitsE ⟨P, ts⟩ xs)) ∧ Below w.heap.size w w' := by
  have HB := hide2 (boxBelow w)
  have gm := g.small
  have GL := hide2 g.len
  have G := hide2 g
  have H := hide2 h
  clear g h
  by_cases hok : netOk ⟨P, ts⟩ = true
  · have W0 := hide2 (wrongNet_ok hok)
    have HO := hide2 hok
    clear hok
    go_enter Try.func132, Try.ntmps132
    go_wp2_with fail
    refine (netWrong_calls _ P A n c ts (H.out.keep (HB.out _))).mono ?_
    rw [W0.out]
    rintro e w1 ⟨rfl, hb⟩
    have B1 := hide2 ((HB.out (.cells #[.int .i64 P, .slice A n c] 27)).trans (hb.mono (by simp)))
    have hc0 : w1.cell? ⟨w.heap.size, 0, none⟩ = some (.int .i64 P) := (hb.cell (by simp)).trans (by simp)
    clear hb
    by_cases hl : (m : Int) = P
    · cases hr : rightB xs
      · have HR := hide2 hr
        have FIN := hide2 (show fitsE ⟨P, ts⟩ xs = 2 from fitsE_not (by
          cases hc : fitsB ⟨P, ts⟩ xs
          · rfl
          · have := ((fitsB_iff _ _).1 hc).2.2; rw [hr] at this; cases this))
        clear hr
        go_wp2_with fail
        refine (right_calls (G.out.keep B1.out)).mono ?_; rintro e w' ⟨rfl, rfl⟩; rw [HR.out]
        go_wp2
        go_ret
        exact ⟨ret_int FIN.out.symm, B1.out⟩
      · have HR := hide2 hr
        have FIN := hide2 (show fitsE ⟨P, ts⟩ xs = 0 from fitsE_ok ((fitsB_iff _ _).2 ⟨HO.out, by rw [GL.out]; exact hl, hr⟩))
        clear hr
        go_wp2_with fail
        refine (right_calls (G.out.keep B1.out)).mono ?_; rintro e w' ⟨rfl, rfl⟩; rw [HR.out]
        go_wp2
        go_ret
        exact ⟨ret_int FIN.out.symm, B1.out⟩
    · have FIN := hide2 (show fitsE ⟨P, ts⟩ xs = 2 from fitsE_not (by
        cases hc : fitsB ⟨P, ts⟩ xs
        · rfl
        · have := ((fitsB_iff _ _).1 hc).2.1; rw [GL.out] at this; exact absurd this hl))
      go_wp2
      go_ret
      exact ⟨ret_int FIN.out.symm, B1.out⟩
  · have W0 := hide2 (wrongNet_not (by simpa using hok))
    have FIN := hide2 (fitsE_not (fits_wrong (xs := xs) hok))
    clear hok
    go_enter Try.func132, Try.ntmps132
    go_wp2_with fail
    refine (netWrong_calls _ P A n c ts (H.out.keep (HB.out _))).mono ?_
    rw [W0.out]
    rintro e w1 ⟨rfl, hb⟩
    have B1 := hide2 ((HB.out (.cells #[.int .i64 P, .slice A n c] 27)).trans (hb.mono (by simp)))
    clear hb
    go_wp2
    go_ret
    exact ⟨ret_int FIN.out.symm, B1.out⟩

set_option maxRecDepth 100000 in
theorem refFits_calls {w : World} {P : Int} {A B : Option Addr} {n c m d : Nat} {ts : List PTran} {xs : List Int} (h : Trans w A n c ts) (g : Ints w B m d xs) :
    Calls Try.prog 112 #[.agg #[.int .i64 P, .slice A n c], .slice B m d] w fun e w' => e = .returned (.bool (fitsB ⟨P, ts⟩ xs)) ∧ Below w.heap.size w w' := by
  have HB := hide2 (boxBelow w)
  have gm := g.small
  have GL := hide2 g.len
  have G := hide2 g
  have H := hide2 h
  clear g h
  by_cases hok : netOk ⟨P, ts⟩ = true
  · have W0 := hide2 (wrongNet_ok hok)
    have HO := hide2 hok
    clear hok
    go_enter Try.func112, Try.ntmps112
    go_wp2_with fail
    refine (refWrong_calls _ P A n c ts (H.out.keep (HB.out _))).mono ?_
    rw [W0.out]
    rintro e w1 ⟨rfl, hb⟩
    have B1 := hide2 ((HB.out (.cells #[.int .i64 P, .slice A n c] 27)).trans (hb.mono (by simp)))
    have hc0 : w1.cell? ⟨w.heap.size, 0, none⟩ = some (.int .i64 P) := (hb.cell (by simp)).trans (by simp)
    clear hb
    by_cases hl : (m : Int) = P
    · have FIN := hide2 (show rightB xs = fitsB ⟨P, ts⟩ xs from by
        rw [Bool.eq_iff_iff, fitsB_iff]
        exact ⟨fun h => ⟨HO.out, by rw [GL.out]; exact hl, h⟩, fun h => h.2.2⟩)
      go_wp2_with fail
      refine (refRight_calls (G.out.keep B1.out)).mono ?_; rintro e w' ⟨rfl, rfl⟩
      go_wp2
      go_ret
      exact ⟨ret_bool FIN.out, B1.out⟩
    · have FIN := hide2 (show fitsB ⟨P, ts⟩ xs = false from by
        cases hc : fitsB ⟨P, ts⟩ xs
        · rfl
        · have := ((fitsB_iff _ _).1 hc).2.1; rw [GL.out] at this; exact absurd this hl)
      go_wp2
      go_ret
      exact ⟨ret_bool FIN.out.symm, B1.out⟩
  · have W0 := hide2 (wrongNet_not (by simpa using hok))
    have FIN := hide2 (fits_wrong (xs := xs) hok)
    clear hok
    go_enter Try.func112, Try.ntmps112
    go_wp2_with fail
    refine (refWrong_calls _ P A n c ts (H.out.keep (HB.out _))).mono ?_
    rw [W0.out]
    rintro e w1 ⟨rfl, hb⟩
    have B1 := hide2 ((HB.out (.cells #[.int .i64 P, .slice A n c] 27)).trans (hb.mono (by simp)))
    clear hb
    go_wp2
    go_ret
    exact ⟨ret_bool FIN.out.symm, B1.out⟩
end Go.Proofs.Ytnfppolgaeibeaa
namespace Go.Proofs.Ytnfppolgaeibeaa
open Go.RowKit

set_option maxRecDepth 100000 in
set_option maxHeartbeats 1000000 in
theorem enabled_calls {w : World} {P : Int} {A B : Option Addr} {n c m d : Nat} {ts : List PTran} {xs : List Int} (h : Trans w A n c ts) (g : Ints w B m d xs) :
    Calls Try.prog 123 #[.agg #[.int .i64 P, .slice A n c], .slice B m d] w (AnsIE (enabledL ⟨P, ts⟩ xs) w) := by
  have HB := hide2 (boxBelow w)
  have G := hide2 g
  have H := hide2 h
  have HL := hide2 h.len
  clear g h
  cases hok : fitsB ⟨P, ts⟩ xs
  · have W0 := hide2 (fitsE_not hok)
    have FIN := hide2 (show enabledL ⟨P, ts⟩ xs = ([], 2) from by rw [enabledL, hok]; rfl)
    clear hok
    go_enter Try.func123, Try.ntmps123
    go_wp2_with fail
    refine (netFits_calls (P := P) (H.out.keep (HB.out _)) (G.out.keep (HB.out _))).mono ?_
    rw [W0.out]
    rintro e w1 ⟨rfl, hb⟩
    have B1 := hide2 ((HB.out (.cells #[.int .i64 P, .slice A n c] 27)).trans (hb.mono (by simp)))
    clear hb
    go_wp2
    go_ret2
    exact ⟨none, 0, 0, by rw [FIN.out]; rfl, by rw [FIN.out]; exact Sl.nil0, B1.out⟩
  · have W0 := hide2 (fitsE_ok hok)
    have FIN := hide2 (show enabledL ⟨P, ts⟩ xs = (enIdx ts xs, 0) from by rw [enabledL, hok]; rfl)
    have hn24 : n ≤ 24 := by have := ((netOk_iff _).1 ((fitsB_iff _ _).1 hok).1).2.2.1; simp only [] at this; rw [H.out.len] at this; exact this
    clear hok
    go_enter Try.func123, Try.ntmps123
    go_wp2_with fail
    refine (netFits_calls (P := P) (H.out.keep (HB.out _)) (G.out.keep (HB.out _))).mono ?_
    rw [W0.out]
    rintro e w1 ⟨rfl, hb⟩
    have B1 := hide2 ((HB.out (.cells #[.int .i64 P, .slice A n c] 27)).trans (hb.mono (by simp)))
    have hc1 : w1.cell? ⟨w.heap.size, 1, none⟩ = some (.slice A n c) := (hb.cell (by simp)).trans (by simp)
    have H1 := hide2 (H.out.keep B1.out)
    have G1 := hide2 (G.out.keep B1.out)
    clear hb
    go_wp2
    go_loopw [7, 19] (fun v i wr => ∃ k q : Nat, k ≤ n ∧ q ≤ k ∧ i = .int .i64 k ∧ OwnInts wr w1.heap.size v q (enIdx (ts.take k) xs) ∧ Below w1.heap.size w1 wr) (fun _ i _ => n - (intOf i).toNat)
    case atStart => exact ⟨0, 0, Nat.zero_le _, Nat.zero_le _, rfl, OwnSl.nil, Below.refl _ _⟩
    case round =>
      obtain ⟨k, q, hk, hq, rfl, own, hb⟩ := hrel
      by_cases hlt : k < n
      · obtain ⟨bl, off, t, A1, n1, c1, A2, n2, c2, rfl, hbl, ht, q0, q1, q2, i1, i2, m1, m2⟩ := Trans.get (H1.out.keep hb) hlt
        have G2 := hide2 ((G1.out.keep hb).keep (boxBelow wr (.cells #[.int .i64 t.label, .slice A1 n1 c1, .slice A2 n2 c2] 78)))
        have I1 := hide2 (i1.keep (boxBelow wr (.cells #[.int .i64 t.label, .slice A1 n1 c1, .slice A2 n2 c2] 78)))
        have OW := hide2 (own.keep IntR.kept (boxBelow wr (.cells #[.int .i64 t.label, .slice A1 n1 c1, .slice A2 n2 c2] 78)))
        have HB1 := hide2 (hb.alloc hb.size (.cells #[.int .i64 t.label, .slice A1 n1 c1, .slice A2 n2 c2] 78))
        have hst := hide2 (show enIdx (ts.take (k + 1)) xs = enIdx (ts.take k) xs ++ (if coversB xs t.pre = true then [(k : Int)] else []) from by
          rw [take_snoc ht.out, enIdx_snoc, List.length_take, Nat.min_eq_left (by rw [HL.out]; omega)])
        clear i1 i2 own hb
        cases hc : coversB xs t.pre
        · have HC := hide2 hc
          clear hc
          go_wp2_with ((with_reducible refine (covers_calls G2.out I1.out).mono ?_); rintro e w' ⟨rfl, rfl⟩; rw [HC.out])
          go_roundw
          case rel => exact ⟨k + 1, q, by omega, by omega, by go_num, by rw [hst.out, HC.out]; simpa using OW.out, HB1.out⟩
          case measure => simp [intOf]; omega
        · have HC := hide2 hc
          clear hc
          go_wp2_with (first
            | ((with_reducible refine (covers_calls G2.out I1.out).mono ?_); rintro e w' ⟨rfl, rfl⟩; rw [HC.out])
            | (at_builtin; refine wpList_appInt rfl _ _ rfl rfl rfl (by simp) OW.out HB1.out HB1.out.size (by omega) ?_; intro v2 w2 own2 hg2 hb2))
          go_roundw
          case rel => exact ⟨k + 1, q + 1, by omega, by omega, by go_num, by rw [hst.out, HC.out]; exact own2, hb2⟩
          case measure => simp [intOf]; omega
      · have OW := hide2 own
        have HB2 := hide2 (B1.out.trans (hb.mono B1.out.size))
        have hst := hide2 (show enIdx (ts.take k) xs = enIdx ts xs from by rw [List.take_of_length_le (by rw [HL.out]; omega)])
        clear own hb
        go_wp2
        go_ret2
        obtain ⟨C, cc, hv, hi⟩ := OW.out.sl (by omega)
        rw [hst.out] at hi
        exact ⟨C, q, cc, by rw [FIN.out, ← hv]; rfl, by rw [FIN.out]; exact hi, HB2.out⟩

end Go.Proofs.Ytnfppolgaeibeaa
