/- Contracts of APlus, AMinus, ACovers and slices.Equal on integers. Conditions: the slices read as lists of integers. | The contract of ACovers, and the law MarkTells as a call: it returns true. Conditions: the slices read as lists of integers. -/
import Derived.Test.YtnfppolgaeibeaaMarkD
namespace Go.Proofs.Ytnfppolgaeibeaa
open Go.RowKit

/-- The world w after some draws. -/
def Drew (w w' : World) : Prop := ∃ k, w' = w.drewN k
theorem Drew.below {w w' : World} (h : Drew w w') : Below w.heap.size w w' := by
  obtain ⟨k, rfl⟩ := h
  exact ⟨rfl, rfl, rfl, Nat.le_refl _, fun _ _ => rfl⟩
theorem Drew.refl (w : World) : Drew w w := ⟨0, rfl⟩
theorem Drew.more {w w' : World} (h : Drew w w') (k : Nat) : Drew w (w'.drewN k) := by
  obtain ⟨q, rfl⟩ := h
  exact ⟨q + k, World.drewN_drewN _ _ _⟩
theorem Drew.drewN (w : World) (k : Nat) : Drew w (w.drewN k) := ⟨k, rfl⟩
/-- A contract that leaves the world alone, at a call inside a region that draws its order. -/
theorem quietCall {P : Program} {f : FuncId} {args : Array Value} {w : World} {n : Nat} {v : Value} (h : Calls P f args (w.drewN n) fun e w' => e = .returned v ∧ w.drewN n = w') :
    Calls P f args (w.drewN n) fun e w'' => e = .returned v ∧ ∃ m, w'' = w.drewN m :=
  h.mono fun _ _ hh => ⟨hh.1, n, hh.2.symm⟩
theorem quietCallD {P : Program} {f : FuncId} {args : Array Value} {w : World} {n : Nat} {v : Value} (h : Calls P f args (w.drewN n) fun e w' => e = .returned v ∧ Drew (w.drewN n) w') :
    Calls P f args (w.drewN n) fun e w'' => e = .returned v ∧ ∃ m, w'' = w.drewN m :=
  h.mono fun _ _ hh => ⟨hh.1, by obtain ⟨k, hk⟩ := hh.2; exact ⟨n + k, by rw [hk, World.drewN_drewN]⟩⟩

set_option maxRecDepth 100000 in
theorem equalInts_calls {w : World} {A B : Option Addr} {n c m d : Nat} {xs ys : List Int} (h : Ints w A n c xs) (g : Ints w B m d ys) :
    Calls Try.prog 14 #[.slice A n c, .slice B m d] w fun e w' => e = .returned (.bool (xs == ys)) ∧ Drew w w' := by
  have hn := h.small
  have hm := g.small
  have HL := hide2 h.len
  have GL := hide2 g.len
  by_cases hnm : n = m
  · subst hnm
    go_enter Try.func14, Try.ntmps14
    go_wp2
    go_loopw [13] (fun i wr => ∃ k : Nat, k ≤ n ∧ i = .int .i64 k ∧ Hid (∀ j, j < k → xs[j]? = ys[j]?) ∧ ∃ q, wr = w.drewN q) (fun i _ => n - (intOf i).toNat)
    case atStart => exact ⟨0, Nat.zero_le _, rfl, fun j hj => absurd hj (by omega), 0, rfl⟩
    case round =>
      obtain ⟨k, hk, rfl, hlow, q, rfl⟩ := hrel
      by_cases hlt : k < n
      · obtain ⟨b, off, x, rfl, hb, hx, hc⟩ := h.get hlt
        obtain ⟨b', off', y, rfl, hb', hy, hc'⟩ := g.get hlt
        clear h g
        have hi : (k : Int) < (n : Int) := by omega
        by_cases hxy : x = y
        · subst hxy
          go_wp2
          go_quiet (fail)
          go_wp2
          go_roundw
          case rel =>
            refine ⟨k + 1, by omega, by go_num, fun j hj => ?_, _, rfl⟩
            by_cases hjk : j = k
            · subst hjk; rw [hx.out, hy.out]
            · exact hlow.out j (by omega)
          case measure => simp [intOf]; omega
        · have hne : (x != y) = true := by simpa using hxy
          have HN := hide2 hxy
          clear hxy
          go_wp2
          go_quiet (fail)
          go_wp2
          go_ret
          refine ⟨ret_bool ?_, _, World.drewN_drewN _ _ _⟩
          symm
          rw [beq_eq_false_iff_ne]
          intro e
          have h1 := hx.out
          rw [e, hy.out] at h1
          injection h1 with h1
          exact HN.out h1.symm
      · clear h g
        go_wp2
        go_ret
        refine ⟨ret_bool ?_, _, rfl⟩
        symm
        rw [beq_iff_eq]
        apply List.ext_getElem?
        intro j
        by_cases hj : j < k
        · exact hlow.out j hj
        · rw [List.getElem?_eq_none (by have := HL.out; omega), List.getElem?_eq_none (by have := GL.out; omega)]
  · clear h g
    have hne : ((n : Int) != (m : Int)) = true := by simp; omega
    have HN := hide2 hnm
    clear hnm
    go_enter Try.func14, Try.ntmps14
    go_wp2
    go_ret
    refine ⟨ret_bool ?_, 0, rfl⟩
    symm
    rw [beq_eq_false_iff_ne]
    intro e
    have := HL.out
    have := GL.out
    exact HN.out (by rw [e] at *; omega)
end Go.Proofs.Ytnfppolgaeibeaa
namespace Go.Proofs.Ytnfppolgaeibeaa
open Go.RowKit

set_option maxRecDepth 100000 in
set_option maxHeartbeats 400000 in
theorem refCovers_calls {w : World} {A B : Option Addr} {n c m d : Nat} {xs ys : List Int} (h : Ints w A n c xs) (g : Ints w B m d ys) :
    Calls Try.prog 67 #[.slice A n c, .slice B m d] w fun e w' => e = .returned (.bool (coversB xs ys)) ∧ Drew w w' := by
  have hn := h.small
  have hm := g.small
  have HL := hide2 h.len
  have GL := hide2 g.len
  go_enter Try.func67, Try.ntmps67
  go_wp2
  go_loopw [9] (fun i wr => ∃ k : Nat, k ≤ n ∧ i = .int .i64 k ∧ Hid (∀ j, j < k → atL ys j ≤ atL xs j) ∧ Drew w wr) (fun i _ => n - (intOf i).toNat)
  case atStart => exact ⟨0, Nat.zero_le _, rfl, fun j hj => absurd hj (by omega), Drew.refl _⟩
  case round =>
    obtain ⟨k, hk, rfl, hlow, hdr⟩ := hrel
    have h' := h.keep hdr.below
    have hg := hide2 (g.keep hdr.below)
    by_cases hlt : k < n
    · obtain ⟨b, off, x, hA, hb, hx, hc⟩ := h'.get hlt
      subst hA
      have hi : (k : Int) < (n : Int) := by omega
      have hX := hide2 (atL_some hx.out)
      clear h' g h
      by_cases hxy : x < atL ys k
      · go_wp2_with fail
        go_quiet ((go_at_call 114; exact quietCall (refAt_calls (hg.out.keep (Drew.drewN _ _).below) k)))
        go_wp2
        go_ret
        refine ⟨ret_bool (coversB_false (p := k) ?_).symm, hdr.more _⟩
        rw [hX.out]; exact hxy
      · go_wp2_with fail
        go_quiet ((go_at_call 114; exact quietCall (refAt_calls (hg.out.keep (Drew.drewN _ _).below) k)))
        go_wp2
        go_roundw
        case rel =>
          refine ⟨k + 1, by omega, by go_num, fun j hj => ?_, hdr.more _⟩
          by_cases hjk : j = k
          · subst hjk; rw [hX.out]; omega
          · exact hlow.out j (by omega)
        case measure => simp [intOf]; omega
    · clear h' hg
      go_wp2
      obtain rfl : k = n := by omega
      obtain ⟨wo, hwo⟩ : ∃ wo : World, wo = wr := ⟨_, rfl⟩
      subst hwo
      go_loopw [23] (fun i wr => ∃ k : Nat, k ≤ m ∧ i = .int .i64 k ∧ Hid (∀ j, j < k → atL ys j ≤ atL xs j) ∧ Drew w wr) (fun i _ => m - (intOf i).toNat)
      case atStart => exact ⟨0, Nat.zero_le _, rfl, fun j hj => absurd hj (by omega), hdr⟩
      case round =>
        obtain ⟨i, hi', rfl, hlow2, hdr2⟩ := hrel
        have g' := g.keep hdr2.below
        have hh := hide2 (h.keep hdr2.below)
        by_cases hlt : i < m
        · obtain ⟨b, off, x, hA, hb, hx, hc⟩ := g'.get hlt
          subst hA
          have hi : (i : Int) < (m : Int) := by omega
          have hX := hide2 (atL_some hx.out)
          clear g' g h
          by_cases hxy : atL xs i < x
          · go_wp2_with fail
            go_quiet ((go_at_call 114; exact quietCall (refAt_calls (hh.out.keep (Drew.drewN _ _).below) i)))
            go_wp2
            go_ret
            refine ⟨ret_bool (coversB_false (p := i) ?_).symm, hdr2.more _⟩
            rw [hX.out]; exact hxy
          · go_wp2_with fail
            go_quiet ((go_at_call 114; exact quietCall (refAt_calls (hh.out.keep (Drew.drewN _ _).below) i)))
            go_wp2
            go_roundw
            case rel =>
              refine ⟨i + 1, by omega, by go_num, fun j hj => ?_, hdr2.more _⟩
              by_cases hjk : j = i
              · subst hjk; rw [hX.out]; omega
              · exact hlow2.out j (by omega)
            case measure => simp [intOf]; omega
        · clear g' hh h g
          go_wp2
          go_ret
          refine ⟨ret_bool ?_, hdr2⟩
          symm
          rw [coversB_iff]
          intro p hp
          have := HL.out
          have := GL.out
          by_cases hpn : p < k
          · exact hlow.out p hpn
          · exact hlow2.out p (by omega)

end Go.Proofs.Ytnfppolgaeibeaa
