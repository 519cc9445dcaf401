/- The law CasesPlay as a call: it returns true. Conditions: the net and the list of things to do read as lists. -/
import Derived.Test.YtmdlbbfponepoaaCaseM
import Derived.Test.YtmdlbbfponepoaaCaseN
import Derived.Test.YtmdlbbfponepoaaCaseB
namespace Go.Proofs.Ytmdlbbfponepoaa
open Go.RowKit

set_option maxRecDepth 100000 in
set_option maxHeartbeats 4000000 in
theorem casesPlay_walk {w : World} (P : Int) {A O : Option Addr} {n c r s : Nat} {ts : List PTran} {os : List (Int × Int)} (h : Trans w A n c ts) (_ : n ≤ 2513169434916) (i : Int) (_ : (Lit.int .i64 i).wf = true) (g : COps w O r s os) (hr : r ≤ 8796093022208) :
    Calls Try.prog 9 #[.agg #[.int .i64 P, .slice A n c], .int .i64 i, .slice O r s] w fun e w' => e = .returned (.bool true) ∧ Below w.heap.size w w' := by
  have HB := hide2 (boxBelow w (.cells #[.int .i64 P, .slice A n c] 24))
  have X0 := hide2 (Box.new w #[.int .i64 P, .slice A n c] 24)
  have H := hide2 h
  have G := hide2 g
  obtain ⟨p, hp⟩ : ∃ p, playL ⟨P, ts⟩ i os = p := ⟨_, rfl⟩
  have HP := hide2 hp
  clear h g hp
  go_enter Try.func9, Try.ntmps9
  go_wp2_with fail
  refine (play_calls (P := P) i (H.out.keep HB.out) (Sl.keep COpR.kept G.out HB.out) hr).mono ?_
  rw [HP.out]
  rintro e w1 ⟨A1, n1, c1, A2, n2, c2, A3, n3, c3, rfl, i1, i2, i3, hb⟩
  have B1 := hide2 (HB.out.trans (hb.mono HB.out.size))
  have Y0 := hide2 (X0.out.keep hb)
  have I1 := hide2 (show Ints w1 A1 n1 c1 p.1.mark from i1)
  have I2 := hide2 (show Ints w1 A2 n2 c2 p.1.busy from i2)
  have I3 := hide2 (show Ints w1 A3 n3 c3 p.2.1 from i3)
  clear hb i1 i2 i3 X0
  go_upto_region 2 with fail
  generalize hw2 : w1.alloc (.cells #[.slice A1 n1 c1, .slice A2 n2 c2] 68) = w2
  have hb2 : Below w1.heap.size w1 w2 := by rw [← hw2]; exact boxBelow _ _
  have Z0 := hide2 (Y0.out.keep hb2)
  have Z1 := hide2 (show Box w2 w1.heap.size 68 #[.slice A1 n1 c1, .slice A2 n2 c2] by rw [← hw2]; exact Box.new _ _ _)
  have J1 := hide2 (Ints.keep I1.out hb2)
  have J2 := hide2 (Ints.keep I2.out hb2)
  have J3 := hide2 (Ints.keep I3.out hb2)
  have B2 := hide2 (B1.out.trans (hb2.mono B1.out.size))
  clear hw2 hb2 Y0 I1 I2 I3 B1
  generalize w1.heap.size = ba at *
  obtain ⟨a0, a1⟩ := Z0.out.two
  go_wp2_with fail
  refine (refPlay_calls (P := P) i (H.out.keep B2.out) (Sl.keep COpR.kept G.out B2.out) hr).mono ?_
  rw [HP.out]
  rintro e w3 ⟨A4, n4, c4, A5, n5, c5, A6, n6, c6, rfl, i4, i5, i6, hb⟩
  have B3 := hide2 (B2.out.trans (hb.mono B2.out.size))
  have V1 := hide2 (Z1.out.keep hb)
  have K1 := hide2 (Ints.keep J1.out hb)
  have K2 := hide2 (Ints.keep J2.out hb)
  have K3 := hide2 (Ints.keep J3.out hb)
  have K4 := hide2 (show Ints w3 A4 n4 c4 p.1.mark from i4)
  have K5 := hide2 (show Ints w3 A5 n5 c5 p.1.busy from i5)
  have K6 := hide2 (show Ints w3 A6 n6 c6 p.2.1 from i6)
  clear hb i4 i5 i6 Z0 Z1 J1 J2 J3 B2 a0 a1
  go_upto_region 3 with fail
  generalize hw4 : w3.alloc (.cells #[.slice A4 n4 c4, .slice A5 n5 c5] 68) = w4
  have hb4 : Below w3.heap.size w3 w4 := by rw [← hw4]; exact boxBelow _ _
  have U1 := hide2 (V1.out.keep hb4)
  have U2 := hide2 (show Box w4 w3.heap.size 68 #[.slice A4 n4 c4, .slice A5 n5 c5] by rw [← hw4]; exact Box.new _ _ _)
  have L1 := hide2 (Ints.keep K1.out hb4)
  have L2 := hide2 (Ints.keep K2.out hb4)
  have L3 := hide2 (Ints.keep K3.out hb4)
  have L4 := hide2 (Ints.keep K4.out hb4)
  have L5 := hide2 (Ints.keep K5.out hb4)
  have L6 := hide2 (Ints.keep K6.out hb4)
  have B4 := hide2 (B3.out.trans (hb4.mono B3.out.size))
  clear hw4 hb4 V1 K1 K2 K3 K4 K5 K6 B3
  generalize w3.heap.size = bb at *
  obtain ⟨x0, x1⟩ := U1.out.two
  obtain ⟨y0, y1⟩ := U2.out.two
  go_wp2_with fail
  refine (sameCase_calls (p := p.1) L1.out L2.out L4.out L5.out).mono ?_
  rintro e w5 ⟨rfl, hb5⟩
  have M3 := hide2 (Ints.keep L3.out hb5)
  have M6 := hide2 (Ints.keep L6.out hb5)
  have B5 := hide2 (B4.out.trans (hb5.mono B4.out.size))
  clear hb5
  go_wp2_with fail
  refine (equalErrs_calls M3.out M6.out).mono ?_
  rintro e w6 ⟨rfl, hd⟩
  rw [beq_self_eq_true]
  go_wp2
  go_ret
  exact ⟨rfl, B5.out.trans (hd.below.mono B5.out.size)⟩
end Go.Proofs.Ytmdlbbfponepoaa
