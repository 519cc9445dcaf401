/- The law GrowTells as a call: it returns true. Conditions: the block reads as a tree. -/
import Derived.Test.YtnfppolgaeibeaaBlkT
import Derived.Test.YtnfppolgaeibeaaGrowU
import Derived.Test.YtnfppolgaeibeaaNetL
namespace Go.Proofs.Ytnfppolgaeibeaa
open Go.RowKit

set_option maxRecDepth 100000 in
set_option maxHeartbeats 4000000 in
theorem growTells_walk {d : Nat} {w : World} {kd lb : Int} {A : Option Addr} {n c : Nat} {ks : List PBlk} (h : Blks d w A n c ks) :
    Calls Try.prog 3 #[.agg #[.int .i64 kd, .int .i64 lb, .slice A n c]] w fun e w' => e = .returned (.bool true) ∧ Below w.heap.size w w' := by
  have bb := boxBelow w (.cells #[.int .i64 kd, .int .i64 lb, .slice A n c] 24)
  have BB := hide2 (Box.new w #[.int .i64 kd, .int .i64 lb, .slice A n c] 24)
  have HB := hide2 bb
  have H := hide2 (h.keep bb)
  obtain ⟨g, hg⟩ : ∃ g, growP (.mk kd lb ks) = g := ⟨_, rfl⟩
  have CG := hide2 (grow_calls (kd := kd) (lb := lb) (h.keep bb))
  have CK := hide2 (fun (u : World) (hu : Below (w.alloc (.cells #[.int .i64 kd, .int .i64 lb, .slice A n c] 24)).heap.size (w.alloc (.cells #[.int .i64 kd, .int .i64 lb, .slice A n c] 24)) u) => kgrow_calls (kd := kd) (lb := lb) (H.out.keep hu))
  rw [hg] at CG CK
  obtain ⟨N, r⟩ := g
  clear h bb hg
  go_enter Try.func3, Try.ntmps3
  go_upto_region 1 with fail
  generalize w.alloc (.cells #[.int .i64 kd, .int .i64 lb, .slice A n c] 24) = u at *
  generalize hbx : w.heap.size = bx at *
  obtain ⟨b0, b1, b2⟩ := BB.out.three
  go_upto_region 2 with (go_at_call 9; (with_reducible refine CG.out.mono ?_); rintro e w1 ⟨A1, n1, c1, rfl, t1, bl1⟩; have T1 := hide2 t1; have E1 := hide2 bl1; clear t1 bl1)
  clear b0 b1 b2
  have bb1 := boxBelow w1 (.cells #[.int .i64 N.places, .slice A1 n1 c1] 27)
  have X1 := hide2 (Box.new w1 #[.int .i64 N.places, .slice A1 n1 c1] 27)
  have E2 := hide2 (E1.out.trans (bb1.mono E1.out.size))
  have T2 := hide2 (T1.out.keep bb1)
  generalize w1.alloc (.cells #[.int .i64 N.places, .slice A1 n1 c1] 27) = w2 at *
  generalize w1.heap.size = b3 at *
  have BB2 := hide2 (BB.out.keep E2.out)
  obtain ⟨b0, b1, b2⟩ := BB2.out.three
  have CK2 := hide2 (CK.out w2 E2.out)
  clear bb1 T1 E1
  go_upto_region 3 with (go_at_call 10; (with_reducible refine CK2.out.mono ?_); rintro e w3 ⟨A2, n2, c2, rfl, t3, bl3⟩; have T3 := hide2 t3; have T2' := hide2 (T2.out.keep bl3); have X3 := hide2 (X1.out.keep bl3); have E3 := hide2 (E2.out.trans (bl3.mono E2.out.size)); clear t3 bl3)
  clear b0 b1 b2
  have bb1 := boxBelow w3 (.cells #[.int .i64 N.places, .slice A2 n2 c2] 27)
  have X4 := hide2 (Box.new w3 #[.int .i64 N.places, .slice A2 n2 c2] 27)
  have X5 := hide2 (X3.out.keep bb1)
  have E4 := hide2 (E3.out.trans (bb1.mono E3.out.size))
  have T4 := hide2 (T3.out.keep bb1)
  have T5 := hide2 (T2'.out.keep bb1)
  generalize w3.alloc (.cells #[.int .i64 N.places, .slice A2 n2 c2] 27) = w4 at *
  generalize w3.heap.size = b5 at *
  have CS := hide2 (sameNet_calls (P := N.places) (Q := N.places) T5.out T4.out)
  obtain ⟨x0, x1⟩ := X5.out.two
  obtain ⟨y0, y1⟩ := X4.out.two
  clear bb1 T3 T2' X3 E3 BB2 CK2 T2 X1 E2
  go_wp2_with (go_at_call 11; (with_reducible refine CS.out.mono ?_); rintro e w5 ⟨rfl, bl⟩; rw [beq_self_eq_true, beq_self_eq_true, Bool.and_self]; have E5 := hide2 (E4.out.trans (bl.mono E4.out.size)); clear bl)
  go_ret
  subst hbx
  exact ⟨rfl, HB.out.trans (E5.out.mono HB.out.size)⟩
end Go.Proofs.Ytnfppolgaeibeaa
