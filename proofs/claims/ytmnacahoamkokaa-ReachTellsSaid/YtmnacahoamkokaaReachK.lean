/- The contract of SameSpace on spaces that read as the same. Conditions: the slices read as lists. -/
import Derived.Test.YtmnacahoamkokaaReachG
import Derived.Test.YtmnacahoamkokaaMarkE
namespace Go.Proofs.Ytmnacahoamkokaa
open Go.RowKit

set_option maxRecDepth 100000 in
theorem equalArcs_same {w : World} {A B : Option Addr} {n c m d : Nat} {xs : List PArc} (h : Arcs w A n c xs) (g : Arcs w B m d xs) :
    Calls Try.prog 79 #[.slice A n c, .slice B m d] w fun e w' => e = .returned (.bool true) ∧ Below w.heap.size w w' := by
  have hn := h.small
  obtain rfl : n = m := by rw [← h.len, ← g.len]
  go_enter Try.func79, Try.ntmps79
  go_wp2
  go_loopw [13] (fun i wr => ∃ k : Nat, k ≤ n ∧ i = .int .i64 k ∧ ∃ q, wr = w.drewN q) (fun i _ => n - (intOf i).toNat)
  case atStart => exact ⟨0, Nat.zero_le _, rfl, 0, rfl⟩
  case round =>
    obtain ⟨k, hk, rfl, q, rfl⟩ := hrel
    by_cases hlt : k < n
    · obtain ⟨b, off, x, rfl, hb, hx, x0, x1, x2, _⟩ := Arcs.get h hlt
      obtain ⟨b', off', y, rfl, hb', hy, y0, y1, y2, _⟩ := Arcs.get g hlt
      obtain rfl : x = y := by have h1 := hx.out; rw [hy.out] at h1; injection h1 with h1; exact h1.symm
      clear h g hx hy
      have hi : (k : Int) < (n : Int) := by omega
      go_wp2
      go_quiet (fail)
      go_wp2
      go_roundw
      case rel => exact ⟨k + 1, by omega, by go_num, _, rfl⟩
      case measure => simp [intOf]; omega
    · clear h g
      go_wp2
      go_ret
      exact ⟨rfl, belowN _ _⟩
set_option maxRecDepth 100000 in
theorem sameOne_calls {w : World} {A B : Option Addr} {n c m d : Nat} {xs : List Int} (h : Ints w A n c xs) (g : Ints w B m d xs) :
    Calls Try.prog 84 #[.slice A n c, .slice B m d] w fun e w' => e = .returned (.bool true) ∧ Below w.heap.size w w' := by
  have H := hide2 h
  have G := hide2 g
  clear h g
  go_enter Try.func84, Try.ntmps84
  go_wp2_with ((with_reducible refine (equalInts_calls H.out G.out).mono ?_); rintro e w4 ⟨rfl, dr⟩; have BD := hide2 dr.below; clear dr)
  go_ret
  exact ⟨by simp, BD.out⟩
theorem sameOne_enters : ∀ args w, (callFunc 84 args).run Try.prog w = .ok (.enter 84 args) w := fun args w => by kernel_rfl
set_option maxRecDepth 100000 in
theorem equalLists_same {w : World} {A B : Option Addr} {n c m d : Nat} {xs : List (List Int)} (h : Lists w A n c xs) (g : Lists w B m d xs) :
    Calls Try.prog 83 #[.slice A n c, .slice B m d, .func (.func 84) #[] #[]] w fun e w' => e = .returned (.bool true) ∧ Below w.heap.size w w' := by
  have hn := h.small
  have henter := sameOne_enters
  obtain rfl : n = m := by rw [← h.len, ← g.len]
  have H := hide2 h
  have G := hide2 g
  clear h g
  go_enter Try.func83, Try.ntmps83
  go_wp2
  go_loopw [17] (fun i wr => ∃ k : Nat, k ≤ n ∧ i = .int .i64 k ∧ Hid (Below w.heap.size w wr)) (fun i _ => n - (intOf i).toNat)
  case atStart => exact ⟨0, Nat.zero_le _, rfl, hide2 (Below.refl _ _)⟩
  case round =>
    obtain ⟨k, hk, rfl, D⟩ := hrel
    by_cases hlt : k < n
    · have hki : (k : Int) < (n : Int) := by omega
      obtain ⟨b, off, x, A1, n1, c1, rfl, hb, hx, q0, i1, _⟩ := Lists.get (Sl.keep ListR.kept H.out D.out) hlt
      obtain ⟨b', off', y, A2, n2, c2, rfl, hb', hy, q1, i2, _⟩ := Lists.get (Sl.keep ListR.kept G.out D.out) hlt
      obtain rfl : x = y := by have h1 := hx.out; rw [hy.out] at h1; injection h1 with h1; exact h1.symm
      have I1 := hide2 i1
      have I2 := hide2 i2
      clear hx hy i1 i2
      go_wp2_with ((with_reducible refine (sameOne_calls I1.out I2.out).mono ?_); rintro e w4 ⟨rfl, hb4⟩; have BD := hide2 hb4; clear hb4)
      go_roundw
      case rel => exact ⟨k + 1, by omega, by go_num, hide2 (D.out.trans (BD.out.mono D.out.size))⟩
      case measure => simp [intOf]; omega
    · go_wp2
      go_ret
      exact ⟨rfl, D.out⟩
set_option maxRecDepth 100000 in
theorem sameLists_same {w : World} {A B : Option Addr} {n c m d : Nat} {xs : List (List Int)} (h : Lists w A n c xs) (g : Lists w B m d xs) :
    Calls Try.prog 32 #[.slice A n c, .slice B m d] w fun e w' => e = .returned (.bool true) ∧ Below w.heap.size w w' := by
  have H := hide2 h
  have G := hide2 g
  clear h g
  go_enter Try.func32, Try.ntmps32
  go_wp2_with ((with_reducible refine (equalLists_same H.out G.out).mono ?_); rintro e w4 ⟨rfl, hb4⟩; have BD := hide2 hb4; clear hb4)
  go_ret
  exact ⟨rfl, BD.out⟩
set_option maxRecDepth 100000 in
theorem sameSpace_same {w : World} {A B D E : Option Addr} {n c m d q r l k : Nat} {ms : List (List Int)} {ars : List PArc} (h1 : Lists w A n c ms) (h2 : Lists w B m d ms) (h3 : Arcs w D q r ars) (h4 : Arcs w E l k ars) :
    Calls Try.prog 26 #[.agg #[.slice A n c, .slice D q r], .agg #[.slice B m d, .slice E l k]] w fun e w' => e = .returned (.bool true) ∧ Below w.heap.size w w' := by
  generalize hw : ((w.alloc (.cells #[.slice A n c, .slice D q r] 48)).alloc (.cells #[.slice B m d, .slice E l k] 48)) = w0
  have HB := hide2 (show Below w.heap.size w w0 by rw [← hw]; exact ((Below.refl _ _).alloc (Nat.le_refl _) _).alloc (by simp) _)
  have X0 := hide2 (show Box w0 w.heap.size 48 #[.slice A n c, .slice D q r] by rw [← hw]; exact (Box.new _ _ _).old _)
  have X1 := hide2 (show Box w0 (w.heap.size + 1) 48 #[.slice B m d, .slice E l k] by rw [← hw]; exact Box.newAt (by simp) _ _)
  have C1 := hide2 (sameLists_same (Sl.keep ListR.kept h1 HB.out) (Sl.keep ListR.kept h2 HB.out))
  have C2 := hide2 (fun (w' : World) (hb : Below w0.heap.size w0 w') => equalArcs_same (Sl.keep ArcR.kept (Sl.keep ArcR.kept h3 HB.out) hb) (Sl.keep ArcR.kept (Sl.keep ArcR.kept h4 HB.out) hb))
  clear h1 h2 h3 h4
  go_enter Try.func26, Try.ntmps26
  go_upto_region 1 with fail
  clear hw
  obtain ⟨a0, a1⟩ := X0.out.two
  obtain ⟨z0, z1⟩ := X1.out.two
  go_wp2_with (first
    | (go_at_call 32; (with_reducible refine C1.out.mono ?_); rintro e w1 ⟨rfl, hb⟩; have F1 := hide2 hb; clear hb a0 a1 z0 z1; obtain ⟨a0, a1⟩ := (X0.out.keep F1.out).two; obtain ⟨z0, z1⟩ := (X1.out.keep F1.out).two)
    | (go_at_call 79; (with_reducible refine (C2.out _ F1.out).mono ?_); rintro e w2 ⟨rfl, hb⟩; have F2 := hide2 hb; clear hb))
  go_ret
  exact ⟨rfl, (HB.out.trans (F1.out.mono HB.out.size)).trans (F2.out.mono (HB.out.trans (F1.out.mono HB.out.size)).size)⟩
end Go.Proofs.Ytmnacahoamkokaa
