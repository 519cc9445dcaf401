/- The contract of SameKnots on equal trees, and the law CoverTells as a call: it returns true. Conditions: the net and the mark read as lists. -/
import Derived.Test.YtcjjmfppkfmheaaCoverP
namespace Go.Proofs.Ytcjjmfppkfmheaa
open Go.RowKit

set_option maxRecDepth 100000 in
set_option maxHeartbeats 2000000 in
theorem sameKnot_same {w : World} {u t : Int} {A B : Option Addr} {n c m d : Nat} {xs : List Int} (h : Ints w A n c xs) (g : Ints w B m d xs) :
    Calls Try.prog 65 #[.agg #[.int .i64 u, .int .i64 t, .slice A n c], .agg #[.int .i64 u, .int .i64 t, .slice B m d]] w fun e w' => e = .returned (.bool true) ∧ Below w.heap.size w w' := by
  have hb : Below w.heap.size w ((w.alloc (.cells #[.int .i64 u, .int .i64 t, .slice A n c] 100)).alloc (.cells #[.int .i64 u, .int .i64 t, .slice B m d] 100)) := ((Below.refl _ _).alloc (Nat.le_refl _) _).alloc (by simp) _
  have HB := hide2 hb
  have CQ := hide2 (equalInts_calls (Ints.keep h hb) (Ints.keep g hb))
  rw [beq_self_eq_true] at CQ
  clear h g hb
  go_enter Try.func65, Try.ntmps65
  go_wp2_with (go_at_call 43; (with_reducible refine CQ.out.mono ?_); rintro e w1 ⟨rfl, dr⟩; have BD := hide2 dr.below; clear dr)
  go_ret
  exact ⟨by first | rfl | simp, HB.out.trans (BD.out.mono HB.out.size)⟩

set_option maxRecDepth 100000 in
set_option maxHeartbeats 4000000 in
theorem equalKnots_same {w : World} {A B : Option Addr} {n c d : Nat} {ks : List PKnot} (h : Knots w A n c ks) (g : Knots w B n d ks) :
    Calls Try.prog 64 #[.slice A n c, .slice B n d, .func (.func 65) #[] #[]] w fun e w' => e = .returned (.bool true) ∧ Below w.heap.size w w' := by
  have hn := h.small
  have H := hide2 h
  have G := hide2 g
  clear h g
  have hent : ∀ (args : Array Value) (w : World), Sem.run Try.prog (callFunc 65 args) w = .ok (.enter 65 args) w := fun args w => by kernel_rfl
  go_enter Try.func64, Try.ntmps64
  go_wp2
  go_loopw [17] (fun i wr => ∃ k : Nat, k ≤ n ∧ i = .int .i64 k ∧ Hid (Below w.heap.size w wr)) (fun i _ => n - (intOf i).toNat)
  case atStart => exact ⟨0, Nat.zero_le _, rfl, Below.refl _ _⟩
  case round =>
    obtain ⟨k, hk, rfl, hb⟩ := hrel
    by_cases hlt : k < n
    · obtain ⟨b1, o1, x, B1, m1, d1, rfl, hbl, hx, q0, q1, q2, i1⟩ := Knots.get (Sl.keep KnotR.kept H.out hb.out) hlt
      obtain ⟨b2, o2, y, B2, m2, d2, rfl, hbl2, hy, r0, r1, r2, j1⟩ := Knots.get (Sl.keep KnotR.kept G.out hb.out) hlt
      obtain rfl : x = y := by have h1 := hx.out; rw [hy.out] at h1; injection h1 with h1; exact h1.symm
      have hB2 := hide2 (show Below wr.heap.size wr ((wr.alloc (.cells #[.int .i64 x.up, .int .i64 x.tran, .slice B1 m1 d1] 100)).alloc (.cells #[.int .i64 x.up, .int .i64 x.tran, .slice B2 m2 d2] 100)) from ((Below.refl _ _).alloc (Nat.le_refl _) _).alloc (by simp) _)
      have CS := hide2 (sameKnot_same (u := x.up) (t := x.tran) (Ints.keep i1.out hB2.out) (Ints.keep j1.out hB2.out))
      have hB3 := hide2 (hb.out.trans (hB2.out.mono hb.out.size))
      clear i1 j1 hx hy
      go_wp2_with fail
      refine CS.out.mono ?_
      rintro e w1 ⟨rfl, hbb⟩
      have BQ := hide2 (hB3.out.trans (hbb.mono hB3.out.size))
      clear hbb
      go_wp2
      go_roundw
      case rel => exact ⟨k + 1, by omega, by go_num, BQ⟩
      case measure => simp [intOf]; omega
    · go_wp2
      go_ret
      exact ⟨by first | rfl | simp, hb.out⟩

set_option maxRecDepth 100000 in
theorem sameKnots_same {w : World} {A B : Option Addr} {n c d : Nat} {ks : List PKnot} (h : Knots w A n c ks) (g : Knots w B n d ks) :
    Calls Try.prog 18 #[.slice A n c, .slice B n d] w fun e w' => e = .returned (.bool true) ∧ Below w.heap.size w w' := by
  have C := hide2 (equalKnots_same h g)
  clear h g
  go_enter Try.func18, Try.ntmps18
  go_wp2_with (go_at_call 64; (with_reducible refine C.out.mono ?_); rintro e w1 ⟨rfl, hb⟩; have BB := hide2 hb; clear hb)
  go_ret
  exact ⟨by first | rfl | simp, BB.out⟩

set_option maxRecDepth 100000 in
set_option maxHeartbeats 4000000 in
theorem coverTells_walk {w : World} (P : Int) {A B : Option Addr} {n c m d : Nat} {ts : List PTran} {xs : List Int} (h : Trans w A n c ts) (_ : n ≤ 2513169434916) (g : Ints w B m d xs) (_ : m ≤ 17592186044416) (p : Int) (_ : (Lit.int .i64 p).wf = true) (most : Int) (_ : (Lit.int .i64 most).wf = true) :
    Calls Try.prog 4 #[.agg #[.int .i64 P, .slice A n c], .slice B m d, .int .i64 p, .int .i64 most] w fun e w' => e = .returned (.bool true) ∧ Below w.heap.size w w' := by
  have HB := hide2 (boxBelow w (.cells #[.int .i64 P, .slice A n c] 27))
  have X0 := hide2 (Box.new w #[.int .i64 P, .slice A n c] 27)
  have C1 := hide2 (fun (w' : World) (hb : Below w.heap.size w w') => tree_calls (P := P) most (h.keep hb) (Ints.keep g hb))
  have C2 := hide2 (fun (w' : World) (hb : Below w.heap.size w w') => etree_calls (P := P) most (h.keep hb) (Ints.keep g hb))
  have C3 := hide2 (fun (w' : World) (hb : Below w.heap.size w w') => limit_calls (P := P) p most (h.keep hb) (Ints.keep g hb))
  have C4 := hide2 (fun (w' : World) (hb : Below w.heap.size w w') => elimit_calls (P := P) p most (h.keep hb) (Ints.keep g hb))
  clear h g
  obtain ⟨r, hr⟩ : ∃ r, treeL ⟨P, ts⟩ xs most = r := ⟨_, rfl⟩
  obtain ⟨s, hs⟩ : ∃ s, limitL ⟨P, ts⟩ xs p most = s := ⟨_, rfl⟩
  simp only [hr, hs] at C1 C2 C3 C4
  clear hr hs
  obtain ⟨ks, e1⟩ := r
  obtain ⟨l1, e2⟩ := s
  go_enter Try.func4, Try.ntmps4
  go_upto_region 1 with fail
  generalize w.alloc (.cells #[.int .i64 P, .slice A n c] 27) = w0 at *
  obtain ⟨c0, c1⟩ := X0.out.two
  go_upto_region 2 with (go_at_call 14; go_loud ((with_reducible refine (C1.out _ HB.out).mono ?_); rintro e w1 ⟨U, cu, rfl, hK, hb1⟩; have K1 := hide2 hK; have B1 := hide2 hb1; clear hK hb1))
  have D1 := hide2 (HB.out.trans (B1.out.mono HB.out.size))
  have Y1 := hide2 (X0.out.keep B1.out)
  clear c0 c1 X0 HB
  obtain ⟨c0, c1⟩ := Y1.out.two
  go_upto_region 3 with (go_at_call 15; go_loud ((with_reducible refine (C2.out _ D1.out).mono ?_); rintro e w2 ⟨V, cv, rfl, hK, hb2⟩; have K2 := hide2 hK; have B2 := hide2 hb2; clear hK hb2))
  have D2 := hide2 (D1.out.trans (B2.out.mono D1.out.size))
  have Y2 := hide2 (Y1.out.keep B2.out)
  have L1 := hide2 (Sl.keep KnotR.kept K1.out B2.out)
  clear c0 c1 Y1 D1 K1
  obtain ⟨c0, c1⟩ := Y2.out.two
  go_upto_region 4 with (go_at_call 16; go_loud ((with_reducible refine (C3.out _ D2.out).mono ?_); rintro e w3 ⟨rfl, hb3⟩; have B3 := hide2 hb3; clear hb3))
  have D3 := hide2 (D2.out.trans (B3.out.mono D2.out.size))
  have Y3 := hide2 (Y2.out.keep B3.out)
  clear c0 c1 Y2
  obtain ⟨c0, c1⟩ := Y3.out.two
  go_upto_region 5 with (go_at_call 17; go_loud ((with_reducible refine (C4.out _ D3.out).mono ?_); rintro e w4 ⟨rfl, hb4⟩; have B4 := hide2 hb4; clear hb4))
  have D4 := hide2 (D3.out.trans (B4.out.mono D3.out.size))
  have BD := hide2 (B3.out.trans (B4.out.mono B3.out.size))
  have CS := hide2 (sameKnots_same (Sl.keep KnotR.kept L1.out BD.out) (Sl.keep KnotR.kept K2.out BD.out))
  clear C1 C2 C3 C4 c0 c1
  go_wp2_with (go_at_call 18; (with_reducible refine CS.out.mono ?_); rintro e w5 ⟨rfl, hb5⟩; have B5 := hide2 hb5; clear hb5)
  go_ret
  exact ⟨by first | rfl | simp, D4.out.trans (B5.out.mono D4.out.size)⟩
end Go.Proofs.Ytcjjmfppkfmheaa
