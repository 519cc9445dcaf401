/- Contracts of flow.change and of the reference's CEffect. Conditions: the net and the counts read as lists. -/
import Derived.Test.YtmdlbbfponepoaaFlowA
import Derived.Test.YtmdlbbfponepoaaFlowB
import Derived.Test.YtmdlbbfponepoaaNetG
namespace Go.Proofs.Ytmdlbbfponepoaa
open Go.RowKit

theorem wrap_mul (c d : Int) : wrap64 (c * wrap64 d) = wrap64 (c * d) := by
  obtain ⟨q, hq⟩ : ∃ q, wrap64 d = d + 18446744073709551616 * q := ⟨(wrap64 d - d) / 18446744073709551616, by unfold wrap64; omega⟩
  rw [hq, Int.mul_add, show c * (18446744073709551616 * q) = 18446744073709551616 * (c * q) by rw [← Int.mul_assoc, Int.mul_comm c, Int.mul_assoc]]
  generalize c * q = m
  generalize c * d = x
  unfold wrap64; omega
theorem wrap_eff1 (z c y x : Int) : wrap64 (wrap64 z + wrap64 (c * wrap64 (y - x))) = wrap64 (z + c * (y - x)) := by
  rw [wrap_add2, ← wrap_add', wrap_mul, wrap_add']
theorem wrap_eff2 (z c y x : Int) : wrap64 (wrap64 z + wrap64 (wrap64 (c * y) - wrap64 (c * x))) = wrap64 (z + c * (y - x)) := by
  rw [wrap_add2, Int.mul_sub]
  generalize c * y = a
  generalize c * x = b
  unfold wrap64; omega

set_option maxRecDepth 100000 in
theorem change_calls {w : World} {A1 A2 : Option Addr} {n1 c1 n2 c2 : Nat} {xs ys : List Int} (l : Int) (p : Nat) (h1 : Ints w A1 n1 c1 xs) (h2 : Ints w A2 n2 c2 ys) (p1 : p < n1) (p2 : p < n2) :
    Calls Try.prog 63 #[.agg #[.int .i64 l, .slice A1 n1 c1, .slice A2 n2 c2], .int .i64 p] w fun e w' => e = .returned (.int .i64 (wrap64 (atL ys p - atL xs p))) ∧ Below w.heap.size w w' := by
  have HB := hide2 (boxBelow w)
  obtain ⟨b, off, x, rfl, hb, hx, hc⟩ := (h1.keep (boxBelow w (.cells #[.int .i64 l, .slice A1 n1 c1, .slice A2 n2 c2] 86))).get p1
  obtain ⟨b', off', y, rfl, hb', hy, hc'⟩ := (h2.keep (boxBelow w (.cells #[.int .i64 l, .slice (some ⟨b, off, none⟩) n1 c1, .slice A2 n2 c2] 86))).get p2
  have HX := hide2 (atL_some hx.out)
  have HY := hide2 (atL_some hy.out)
  have i1 : (p : Int) < (n1 : Int) := by omega
  have i2 : (p : Int) < (n2 : Int) := by omega
  clear h1 h2
  go_enter Try.func63, Try.ntmps63
  go_wp2
  go_quiet (fail)
  go_wp2
  go_ret
  exact ⟨ret_int (by rw [HX.out, HY.out]; try rw [wrapI]), (HB.out _).trans ((Drew.drewN _ _).below.mono (by simp))⟩

theorem effectL_not {N : PNet} {cs : List Int} (h : ¬ (netOk N = true ∧ boundB cs N.trans.length 0 = true)) : effectL N cs = ([], 2) := by rw [effectL, if_neg h]

set_option maxRecDepth 100000 in
set_option maxHeartbeats 1000000 in
theorem refEffect_calls {w : World} {P : Int} {A B : Option Addr} {n c m d : Nat} {ts : List PTran} {cs : List Int} (h : Trans w A n c ts) (g : Ints w B m d cs) :
    Calls Try.prog 12 #[.agg #[.int .i64 P, .slice A n c], .slice B m d] w (AnsIE (effectL ⟨P, ts⟩ cs) w) := by
  have HB := hide2 (boxBelow w)
  have H := hide2 h
  have G := hide2 g
  have HL := hide2 h.len
  have GL := hide2 g.len
  have hn := h.small
  clear h g
  by_cases hok : netOk ⟨P, ts⟩ = true
  · have W0 := hide2 (wrongNet_ok hok)
    have HO := hide2 hok
    clear hok
    go_enter Try.func12, Try.ntmps12
    go_wp2_with fail
    refine (refWrong_calls _ P A n c ts (H.out.keep (HB.out _))).mono ?_
    rw [W0.out]
    rintro e w1 ⟨rfl, hb⟩
    have B1 := hide2 ((HB.out (.cells #[.int .i64 P, .slice A n c] 24)).trans (hb.mono (by simp)))
    have hc0 : w1.cell? ⟨w.heap.size, 0, none⟩ = some (.int .i64 P) := (hb.cell (by simp)).trans (by simp)
    have hc1 : w1.cell? ⟨w.heap.size, 1, none⟩ = some (.slice A n c) := (hb.cell (by simp)).trans (by simp)
    have z1 : w.heap.size < w1.heap.size := by have := hb.size; simp at this; omega
    clear hb
    cases hq : boundB cs (n : Int) 0
    · have HQ := hide2 hq
      have FIN := hide2 (show effectL ⟨P, ts⟩ cs = ([], 2) from effectL_not (by
        rintro ⟨_, h2⟩
        simp only [] at h2
        rw [HL.out, hq] at h2; cases h2))
      clear hq
      go_wp2_with fail
      refine (within_calls _ _ (G.out.keep B1.out)).mono ?_; rintro e w' ⟨rfl, rfl⟩; rw [HQ.out]
      go_wp2
      go_ret2
      exact ⟨none, 0, 0, by rw [FIN.out]; rfl, by rw [FIN.out]; exact Sl.nil0, B1.out⟩
    · have HQ := hide2 hq
      obtain ⟨p, rfl⟩ : ∃ p : Nat, P = (p : Int) := ⟨P.toNat, by have := ((netOk_iff _).1 HO.out).1; simp only [] at this; omega⟩
      have hp16 : p ≤ 16 := by have := ((netOk_iff _).1 HO.out).2.1; simp only [] at this; omega
      have hn24 : n ≤ 24 := by have := ((netOk_iff _).1 HO.out).2.2.1; rw [HL.out] at this; exact this
      have hmn : m = n := by
        have := hq
        unfold boundB at this
        rw [GL.out] at this
        simp only [Bool.and_eq_true, decide_eq_true_eq] at this
        omega
      have FIN := hide2 (show effectL ⟨(p : Int), ts⟩ cs = ((List.range p).map fun q => wrap64 (effAt ts cs q), 0) from by
        rw [effectL, if_pos ⟨HO.out, by simp only []; rw [HL.out]; exact HQ.out⟩]; rfl)
      subst hmn
      clear hq
      go_wp2_with fail
      refine (within_calls _ _ (G.out.keep B1.out)).mono ?_; rintro e w' ⟨rfl, rfl⟩; rw [HQ.out]
      go_wp2
      go_loopw [6, 24] (fun v i wr => ∃ k : Nat, k ≤ p ∧ i = .int .i64 k ∧ Hid (OwnInts wr w1.heap.size v k ((List.range k).map fun q => wrap64 (effAt ts cs q))) ∧ Hid (Below w1.heap.size w1 wr)) (fun _ i _ => p - (intOf i).toNat)
      case atStart => exact ⟨0, Nat.zero_le _, rfl, OwnSl.nil, Below.refl _ _⟩
      case round =>
        obtain ⟨k, hk, rfl, own, hb1⟩ := hrel
        have hb := hide2 (B1.out.trans (hb1.out.mono B1.out.size))
        have u1 := (hb1.out.cell (p := ⟨w.heap.size, 1, none⟩) z1).trans hc1
        by_cases hlt : k < p
        · have hkp : (k : Int) < (p : Int) := by omega
          go_wp2
          obtain ⟨wo, hwo⟩ : ∃ wo : World, wo = wr := ⟨_, rfl⟩
          subst hwo
          go_loopw [8, 30] (fun v i wr => ∃ j : Nat, j ≤ m ∧ i = .int .i64 j ∧ (∃ z : Int, v = .int .i64 z ∧ Hid (z = wrap64 (effAt (ts.take j) (cs.take j) k))) ∧ Hid (Below wo.heap.size wo wr)) (fun _ i _ => m - (intOf i).toNat)
          case atStart => exact ⟨0, Nat.zero_le _, rfl, ⟨0, rfl, by show _ = _; simp [effAt, wrap64]⟩, Below.refl _ _⟩
          case round =>
            obtain ⟨j, hj, rfl, ⟨z, rfl, hz⟩, hbi⟩ := hrel
            by_cases hjm : j < m
            · have hbw := hb.out.trans (hbi.out.mono hb.out.size)
              obtain ⟨bl, off, t, A1, n1, c1, A2, n2, c2, rfl, hbl, ht, q0, q1, q2, i1, i2, m1, m2⟩ := Trans.get (H.out.keep hbw) hjm
              have hT := netOk_tran HO.out ht.out
              have e1 : n1 = p := by have := hT.2.2.1; rw [i1.len] at this; simp only [] at this; omega
              have e2 : n2 = p := by have := hT.2.2.2.1; rw [i2.len] at this; simp only [] at this; omega
              subst e1
              subst e2
              have bx := boxBelow wr (.cells #[.int .i64 t.label, .slice A1 n2 c1, .slice A2 n2 c2] 86)
              obtain ⟨b1, o1, x, rfl, hb1, hx, hcx⟩ := (i1.keep bx).get hlt
              have bx := boxBelow wr (.cells #[.int .i64 t.label, .slice (some ⟨b1, o1, none⟩) n2 c1, .slice A2 n2 c2] 86)
              obtain ⟨b2, o2, y, rfl, hb2, hy, hcy⟩ := (i2.keep bx).get hlt
              have bx := boxBelow wr (.cells #[.int .i64 t.label, .slice (some ⟨b1, o1, none⟩) n2 c1, .slice (some ⟨b2, o2, none⟩) n2 c2] 86)
              obtain ⟨b3, o3, cc, rfl, hb3, hcc, hcd⟩ := ((G.out.keep hbw).keep bx).get hjm
              have hjmi : (j : Int) < (m : Int) := by omega
              have F := hide2 (show wrap64 (z + wrap64 (wrap64 (cc * y) - wrap64 (cc * x))) = wrap64 (effAt (ts.take (j + 1)) (cs.take (j + 1)) k) by
                rw [hz.out, wrap_eff2, effAt_take ht.out hcc.out, atL_some hx.out, atL_some hy.out])
              have BX := hide2 bx
              clear hb1 hb2 hb3 bx hT i1 i2 hz hbw
              go_wp2
              go_quiet (fail)
              go_wp2
              go_roundw
              case rel => exact ⟨j + 1, by omega, by go_num, ⟨_, rfl, F.out⟩, (hbi.out.trans (BX.out.mono hbi.out.size)).trans ((Drew.drewN _ _).below.mono (by have := hbi.out.size; simp; omega))⟩
              case measure => simp [intOf]; omega
            · obtain rfl : j = m := by omega
              have F := hide2 (show (List.range (k + 1)).map (fun q => wrap64 (effAt ts cs q)) = ((List.range k).map fun q => wrap64 (effAt ts cs q)) ++ [z] by
                rw [hz.out, List.take_of_length_le (by rw [HL.out]; exact Nat.le_refl _), List.take_of_length_le (by rw [GL.out]; exact Nat.le_refl _), List.range_succ, List.map_append]; rfl)
              have hbw := hide2 (hb.out.trans (hbi.out.mono hb.out.size))
              have OW := hide2 (own.out.keep IntR.kept hbi.out)
              have hbo := hide2 (hb1.out.trans (hbi.out.mono hb1.out.size))
              clear own hz
              go_wp2_with (at_builtin; refine wpList_appInt rfl _ _ rfl rfl rfl (by first | rfl | simp) OW.out hbo.out hbo.out.size (by omega) ?_; intro v2 w2 own2 hg2 hb2)
              go_roundw
              case rel => exact ⟨k + 1, by omega, by go_num, by rw [F.out]; exact own2, hb2⟩
              case measure => simp [intOf]; omega
        · obtain rfl : k = p := by omega
          go_wp2
          go_ret2
          obtain ⟨C, cc, hv, hi⟩ := own.out.sl (by omega)
          exact ⟨C, k, cc, by rw [FIN.out, ← hv]; rfl, by rw [FIN.out]; exact hi, hb.out⟩
  · have W0 := hide2 (wrongNet_not (by simpa using hok))
    have FIN := hide2 (show effectL ⟨P, ts⟩ cs = ([], 2) from effectL_not (fun h => hok h.1))
    clear hok
    go_enter Try.func12, Try.ntmps12
    go_wp2_with fail
    refine (refWrong_calls _ P A n c ts (H.out.keep (HB.out _))).mono ?_
    rw [W0.out]
    rintro e w1 ⟨rfl, hb⟩
    have B1 := hide2 ((HB.out (.cells #[.int .i64 P, .slice A n c] 24)).trans (hb.mono (by simp)))
    clear hb
    go_wp2
    go_ret2
    exact ⟨none, 0, 0, by rw [FIN.out]; rfl, by rw [FIN.out]; exact Sl.nil0, B1.out⟩
end Go.Proofs.Ytmdlbbfponepoaa
