/- The contract of ACovers, and the law MarkTells as a call: it returns true. Conditions: the slices read as lists of integers. -/
import Derived.Test.YtnidicfanbkgjaaMarkE
namespace Go.Proofs.Ytnidicfanbkgjaa
open Go.RowKit

set_option maxRecDepth 100000 in
set_option maxHeartbeats 400000 in
theorem refCovers_calls {w : World} {A B : Option Addr} {n c m d : Nat} {xs ys : List Int} (h : Ints w A n c xs) (g : Ints w B m d ys) :
    Calls Try.prog 48 #[.slice A n c, .slice B m d] w fun e w' => e = .returned (.bool (coversB xs ys)) ∧ Drew w w' := by
  have hn := h.small
  have hm := g.small
  have HL := hide2 h.len
  have GL := hide2 g.len
  go_enter Try.func48, Try.ntmps48
  go_wp2
  go_loopw [9] (fun i wr => ∃ k : Nat, k ≤ n ∧ i = .int .i64 k ∧ Hid (∀ j, j < k → atL ys j ≤ atL xs j) ∧ Drew w wr) (fun i _ => n - (intOf i).toNat)
  case atStart => exact ⟨0, Nat.zero_le _, rfl, fun j hj => absurd hj (by omega), Drew.refl _⟩
  case round =>
    obtain ⟨k, hk, rfl, hlow, hdr⟩ := hrel
    have h' := h.keep hdr.below
    have hg := hide2 (g.keep hdr.below)
    by_cases hlt : k < n
    · obtain ⟨b, off, x, hA, hb, hx, hc⟩ := h'.get hlt
      subst hA
      have hi : (k : Int) < (n : Int) := by omega
      have hX := hide2 (atL_some hx.out)
      clear h' g h
      by_cases hxy : x < atL ys k
      · go_wp2_with fail
        go_quiet ((go_at_call 55; exact quietCall (refAt_calls (hg.out.keep (Drew.drewN _ _).below) k)))
        go_wp2
        go_ret
        refine ⟨ret_bool (coversB_false (p := k) ?_).symm, hdr.more _⟩
        rw [hX.out]; exact hxy
      · go_wp2_with fail
        go_quiet ((go_at_call 55; exact quietCall (refAt_calls (hg.out.keep (Drew.drewN _ _).below) k)))
        go_wp2
        go_roundw
        case rel =>
          refine ⟨k + 1, by omega, by go_num, fun j hj => ?_, hdr.more _⟩
          by_cases hjk : j = k
          · subst hjk; rw [hX.out]; omega
          · exact hlow.out j (by omega)
        case measure => simp [intOf]; omega
    · clear h' hg
      go_wp2
      obtain rfl : k = n := by omega
      obtain ⟨wo, hwo⟩ : ∃ wo : World, wo = wr := ⟨_, rfl⟩
      subst hwo
      go_loopw [23] (fun i wr => ∃ k : Nat, k ≤ m ∧ i = .int .i64 k ∧ Hid (∀ j, j < k → atL ys j ≤ atL xs j) ∧ Drew w wr) (fun i _ => m - (intOf i).toNat)
      case atStart => exact ⟨0, Nat.zero_le _, rfl, fun j hj => absurd hj (by omega), hdr⟩
      case round =>
        obtain ⟨i, hi', rfl, hlow2, hdr2⟩ := hrel
        have g' := g.keep hdr2.below
        have hh := hide2 (h.keep hdr2.below)
        by_cases hlt : i < m
        · obtain ⟨b, off, x, hA, hb, hx, hc⟩ := g'.get hlt
          subst hA
          have hi : (i : Int) < (m : Int) := by omega
          have hX := hide2 (atL_some hx.out)
          clear g' g h
          by_cases hxy : atL xs i < x
          · go_wp2_with fail
            go_quiet ((go_at_call 55; exact quietCall (refAt_calls (hh.out.keep (Drew.drewN _ _).below) i)))
            go_wp2
            go_ret
            refine ⟨ret_bool (coversB_false (p := i) ?_).symm, hdr2.more _⟩
            rw [hX.out]; exact hxy
          · go_wp2_with fail
            go_quiet ((go_at_call 55; exact quietCall (refAt_calls (hh.out.keep (Drew.drewN _ _).below) i)))
            go_wp2
            go_roundw
            case rel =>
              refine ⟨i + 1, by omega, by go_num, fun j hj => ?_, hdr2.more _⟩
              by_cases hjk : j = i
              · subst hjk; rw [hX.out]; omega
              · exact hlow2.out j (by omega)
            case measure => simp [intOf]; omega
        · clear g' hh h g
          go_wp2
          go_ret
          refine ⟨ret_bool ?_, hdr2⟩
          symm
          rw [coversB_iff]
          intro p hp
          have := HL.out
          have := GL.out
          by_cases hpn : p < k
          · exact hlow.out p hpn
          · exact hlow2.out p (by omega)

end Go.Proofs.Ytnidicfanbkgjaa
