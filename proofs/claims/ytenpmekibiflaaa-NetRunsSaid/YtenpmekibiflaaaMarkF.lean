/- The contract of ACovers, and the law MarkTells as a call: it returns true. Conditions: the slices read as lists of integers. -/
import Derived.Test.YtenpmekibiflaaaMarkE
namespace Go.Proofs.Ytenpmekibiflaaa
open Go.RowKit

set_option maxRecDepth 100000 in
set_option maxHeartbeats 400000 in
theorem refCovers_calls {w : World} {A B : Option Addr} {n c m d : Nat} {xs ys : List Int} (h : Ints w A n c xs) (g : Ints w B m d ys) :
    Calls Try.prog 39 #[.slice A n c, .slice B m d] w fun e w' => e = .returned (.bool (coversB xs ys)) ∧ Drew w w' := by
  have hn := h.small
  have hm := g.small
  have HL := hide2 h.len
  have GL := hide2 g.len
  go_enter Try.func39, Try.ntmps39
  go_wp2
  go_loopw [9] (fun i wr => ∃ k : Nat, k ≤ n ∧ i = .int .i64 k ∧ Hid (∀ j, j < k → atL ys j ≤ atL xs j) ∧ Drew w wr) (fun i _ => n - (intOf i).toNat)
  case atStart => exact ⟨0, Nat.zero_le _, rfl, fun j hj => absurd hj (by omega), Drew.refl _⟩
  case round =>
    obtain ⟨k, hk, rfl, hlow, hdr⟩ := hrel
    have h' := h.keep hdr.below
    have hg := hide2 (g.keep hdr.below)
    by_cases hlt : k < n
    · obtain ⟨b, off, x, hA, hb, hx, hc⟩ := h'.get hlt
      subst hA
      have hi : (k : Int) < (n : Int) := by omega
      have hX := hide2 (atL_some hx.out)
      clear h' g h
      by_cases hxy : x < atL ys k
      · go_wp2_with fail
        go_quiet ((go_at_call 155; exact quietCall (refAt_calls (hg.out.keep (Drew.drewN _ _).below) k)))
        go_wp2
        go_ret
        refine ⟨ret_bool (coversB_false (p := k) ?_).symm, hdr.more _⟩
        rw [hX.out]; exact hxy
      · go_wp2_with fail
        go_quiet ((go_at_call 155; exact quietCall (refAt_calls (hg.out.keep (Drew.drewN _ _).below) k)))
        go_wp2
        go_roundw
        case rel =>
          refine ⟨k + 1, by omega, by go_num, fun j hj => ?_, hdr.more _⟩
          by_cases hjk : j = k
          · subst hjk; rw [hX.out]; omega
          · exact hlow.out j (by omega)
        case measure => simp [intOf]; omega
    · clear h' hg
      go_wp2
      obtain rfl : k = n := by omega
      obtain ⟨wo, hwo⟩ : ∃ wo : World, wo = wr := ⟨_, rfl⟩
      subst hwo
      go_loopw [23] (fun i wr => ∃ k : Nat, k ≤ m ∧ i = .int .i64 k ∧ Hid (∀ j, j < k → atL ys j ≤ atL xs j) ∧ Drew w wr) (fun i _ => m - (intOf i).toNat)
      case atStart => exact ⟨0, Nat.zero_le _, rfl, fun j hj => absurd hj (by omega), hdr⟩
      case round =>
        obtain ⟨i, hi', rfl, hlow2, hdr2⟩ := hrel
        have g' := g.keep hdr2.below
        have hh := hide2 (h.keep hdr2.below)
        by_cases hlt : i < m
        · obtain ⟨b, off, x, hA, hb, hx, hc⟩ := g'.get hlt
          subst hA
          have hi : (i : Int) < (m : Int) := by omega
          have hX := hide2 (atL_some hx.out)
          clear g' g h
          by_cases hxy : atL xs i < x
          · go_wp2_with fail
            go_quiet ((go_at_call 155; exact quietCall (refAt_calls (hh.out.keep (Drew.drewN _ _).below) i)))
            go_wp2
            go_ret
            refine ⟨ret_bool (coversB_false (p := i) ?_).symm, hdr2.more _⟩
            rw [hX.out]; exact hxy
          · go_wp2_with fail
            go_quiet ((go_at_call 155; exact quietCall (refAt_calls (hh.out.keep (Drew.drewN _ _).below) i)))
            go_wp2
            go_roundw
            case rel =>
              refine ⟨i + 1, by omega, by go_num, fun j hj => ?_, hdr2.more _⟩
              by_cases hjk : j = i
              · subst hjk; rw [hX.out]; omega
              · exact hlow2.out j (by omega)
            case measure => simp [intOf]; omega
        · clear g' hh h g
          go_wp2
          go_ret
          refine ⟨ret_bool ?_, hdr2⟩
          symm
          rw [coversB_iff]
          intro p hp
          have := HL.out
          have := GL.out
          by_cases hpn : p < k
          · exact hlow.out p hpn
          · exact hlow2.out p (by omega)

set_option maxRecDepth 100000 in
set_option maxHeartbeats 1000000 in
theorem markTells_calls {w : World} {A B : Option Addr} {n c m d : Nat} {xs ys : List Int} (h : Ints w A n c xs) (g : Ints w B m d ys) (hM8 : max n m * 8 ≤ 140737488355328) :
    Calls Try.prog 4 #[.slice A n c, .slice B m d] w fun e w' => e = .returned (.bool true) ∧ Below w.heap.size w w' := by
  have HM := hide2 hM8
  clear hM8
  have hh := hide2 h
  have gg := hide2 g
  obtain ⟨p, hp⟩ : ∃ p, plusL xs ys = p := ⟨_, rfl⟩
  obtain ⟨q, hq⟩ : ∃ q, minusL xs ys = q := ⟨_, rfl⟩
  have HP := hide2 hp
  have HQ := hide2 hq
  clear hp hq h g
  go_enter Try.func4, Try.ntmps4
  go_wp2_with fail
  refine (plus_calls hh.out gg.out HM.out).mono ?_
  rw [HP.out]
  rintro e w1 ⟨C1, l1, k1, rfl, i1, b1⟩
  go_wp2_with fail
  refine (refPlus_calls (hh.out.keep b1) (gg.out.keep b1) HM.out).mono ?_
  rw [HP.out]
  rintro e w2 ⟨C2, l2, k2, rfl, i2, b2⟩
  have c2 := b1.trans (b2.mono b1.size)
  go_wp2_with fail
  refine (minus_calls (hh.out.keep c2) (gg.out.keep c2) HM.out).mono ?_
  rw [HQ.out]
  rintro e w3 ⟨C3, l3, k3, rfl, i3, b3⟩
  have c3 := c2.trans (b3.mono c2.size)
  go_wp2_with fail
  refine (refMinus_calls (hh.out.keep c3) (gg.out.keep c3) HM.out).mono ?_
  rw [HQ.out]
  rintro e w4 ⟨C4, l4, k4, rfl, i4, b4⟩
  have c4 := c3.trans (b4.mono c3.size)
  have h4 := hide2 (hh.out.keep c4)
  have g4 := hide2 (gg.out.keep c4)
  have I1 := hide2 (((i1.keep b2).keep b3).keep b4)
  have I2 := hide2 ((i2.keep b3).keep b4)
  have I3 := hide2 (i3.keep b4)
  clear i1 i2 i3 b1 b2 b3 b4 c2 c3
  go_wp2_with fail
  refine (right_calls h4.out).mono ?_; rintro e w5 ⟨rfl, rfl⟩
  go_wp2_with fail
  refine (refRight_calls h4.out).mono ?_; rintro e w5 ⟨rfl, rfl⟩
  go_wp2_with fail
  refine (covers_calls h4.out g4.out).mono ?_; rintro e w5 ⟨rfl, rfl⟩
  go_wp2_with fail
  refine (refCovers_calls h4.out g4.out).mono ?_; rintro e w5 ⟨rfl, d5⟩
  have e5 := c4.trans (d5.below.mono c4.size)
  go_wp2_with fail
  refine (same_calls (h4.out.keep d5.below) (g4.out.keep d5.below)).mono ?_; rintro e w6 ⟨rfl, rfl⟩
  go_wp2_with fail
  refine (refCovers_calls (h4.out.keep d5.below) (g4.out.keep d5.below)).mono ?_; rintro e w6 ⟨rfl, d6⟩
  have e6 := e5.trans (d6.below.mono e5.size)
  have f6 := d5.below.trans (d6.below.mono d5.below.size)
  go_wp2_with fail
  · refine (refCovers_calls (g4.out.keep f6) (h4.out.keep f6)).mono ?_; rintro e w7 ⟨rfl, d7⟩
    have D := f6.trans (d7.below.mono f6.size)
    clear e5 e6
    go_wp2_with fail
    refine (equalInts_calls (I1.out.keep D) (I2.out.keep D)).mono ?_; rintro e w8 ⟨rfl, d8⟩
    have D8 := D.trans (d8.below.mono D.size)
    rw [beq_self_eq_true]
    go_wp2_with fail
    refine (equalInts_calls (I3.out.keep D8) (i4.keep D8)).mono ?_; rintro e w9 ⟨rfl, d9⟩
    rw [beq_self_eq_true]
    go_wp2
    go_ret
    exact ⟨rfl, (c4.trans (D8.mono c4.size)).trans (d9.below.mono ((c4.trans (D8.mono c4.size)).size))⟩
  · have D := f6
    refine (equalInts_calls (I1.out.keep D) (I2.out.keep D)).mono ?_; rintro e w8 ⟨rfl, d8⟩
    have D8 := D.trans (d8.below.mono D.size)
    rw [beq_self_eq_true]
    go_wp2_with fail
    refine (equalInts_calls (I3.out.keep D8) (i4.keep D8)).mono ?_; rintro e w9 ⟨rfl, d9⟩
    rw [beq_self_eq_true]
    go_wp2
    go_ret
    exact ⟨rfl, (c4.trans (D8.mono c4.size)).trans (d9.below.mono ((c4.trans (D8.mono c4.size)).size))⟩
theorem markTells_walk {w : World} {A B : Option Addr} {n c m d : Nat} {xs ys : List Int} (h : Ints w A n c xs) (hn : n ≤ 17592186044416) (g : Ints w B m d ys) (hm : m ≤ 17592186044416) :
    Calls Try.prog 4 #[.slice A n c, .slice B m d] w fun e w' => e = .returned (.bool true) ∧ Below w.heap.size w w' :=
  markTells_calls h g (by omega)
end Go.Proofs.Ytenpmekibiflaaa
