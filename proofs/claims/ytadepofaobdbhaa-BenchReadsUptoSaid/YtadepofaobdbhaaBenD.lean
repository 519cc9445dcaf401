/- The contracts of bench.Print and XPrint. Conditions: the block reads as a tree. -/
import Derived.Test.YtadepofaobdbhaaBenC
namespace Go.Proofs.Ytadepofaobdbhaa
open Go.RowKit

/-- What both print: the text, or what is wrong. -/
def prtB (b : PBlk) : List UInt8 × Int := if wrongB b = 0 then (txtB 41 b, 0) else ([], wrongB b)

set_option maxRecDepth 100000 in
theorem print_calls {d : Nat} {w : World} {kd lb : Int} {A : Option Addr} {n c : Nat} {ks : List PBlk} (h : Blks d w A n c ks) :
    Calls Try.prog 12 #[.agg #[.int .i64 kd, .int .i64 lb, .slice A n c]] w (fun e w' => e = .returned (.tuple #[.string ⟨(prtB (.mk kd lb ks)).1.toArray⟩, .int .i64 (prtB (.mk kd lb ks)).2]) ∧ Below w.heap.size w w') := by
  have bb := boxBelow w (.cells #[.int .i64 kd, .int .i64 lb, .slice A n c] 33)
  have BB := hide2 (Box.new w #[.int .i64 kd, .int .i64 lb, .slice A n c] 33)
  have CW := hide2 (blkWrong_calls (kd := kd) (lb := lb) (h.keep bb))
  have K := hide2 (h.keep bb)
  have BX := hide2 bb
  clear h bb
  generalize hw1 : w.alloc (.cells #[.int .i64 kd, .int .i64 lb, .slice A n c] 33) = w1 at *
  obtain ⟨c0, c1, c2⟩ := BB.out.three
  have PZ := hide2 (show wrongB (.mk kd lb ks) = 0 → prtB (.mk kd lb ks) = (txtB 41 (.mk kd lb ks), 0) from fun h => by unfold prtB; rw [if_pos h])
  have PN := hide2 (show wrongB (.mk kd lb ks) ≠ 0 → prtB (.mk kd lb ks) = ([], wrongB (.mk kd lb ks)) from fun h => by unfold prtB; rw [if_neg h])
  have WB := hide2 (show wrongB (.mk kd lb ks) = (chkB 41 (.mk kd lb ks) 0).2 from rfl)
  generalize wrongB (.mk kd lb ks) = e0 at *
  go_enter Try.func12, Try.ntmps12
  go_upto_region 1 with fail
  go_upto_region 2 with (go_at_call 49; (with_reducible refine CW.out.mono ?_); rintro e w2 ⟨rfl, hb⟩)
  have B2 := hide2 hb
  have X2 := hide2 (BX.out.trans (hb.mono BX.out.size))
  have Y2 := hide2 (BB.out.keep hb)
  clear hb c0 c1 c2
  by_cases hz : e0 = 0
  · subst hz
    obtain ⟨c0, c1, c2⟩ := Y2.out.three
    have WR := hide2 (write_calls 41 d kd lb A n c ks w2 0 (K.out.keep B2.out) WB.out.symm)
    go_wp2_with (go_at_call 50; (with_reducible refine WR.out.mono ?_); rintro e w3 ⟨rfl, hb3⟩; have X3 := hide2 (X2.out.trans (hb3.mono X2.out.size)); clear hb3)
    go_ret2
    exact ⟨by rw [PZ.out trivial]; rfl, X3.out⟩
  · go_wp2
    go_ret2
    exact ⟨by rw [PN.out hz]; rfl, X2.out⟩

set_option maxRecDepth 100000 in
theorem xprint_calls {d : Nat} {w : World} {kd lb : Int} {A : Option Addr} {n c : Nat} {ks : List PBlk} (h : Blks d w A n c ks) :
    Calls Try.prog 13 #[.agg #[.int .i64 kd, .int .i64 lb, .slice A n c]] w (fun e w' => e = .returned (.tuple #[.string ⟨(prtB (.mk kd lb ks)).1.toArray⟩, .int .i64 (prtB (.mk kd lb ks)).2]) ∧ Below w.heap.size w w') := by
  have bb := boxBelow w (.cells #[.int .i64 kd, .int .i64 lb, .slice A n c] 33)
  have BB := hide2 (Box.new w #[.int .i64 kd, .int .i64 lb, .slice A n c] 33)
  have CW := hide2 (jWrong_calls (kd := kd) (lb := lb) (h.keep bb))
  have K := hide2 (h.keep bb)
  have BX := hide2 bb
  clear h bb
  generalize hw1 : w.alloc (.cells #[.int .i64 kd, .int .i64 lb, .slice A n c] 33) = w1 at *
  obtain ⟨c0, c1, c2⟩ := BB.out.three
  have PZ := hide2 (show wrongB (.mk kd lb ks) = 0 → prtB (.mk kd lb ks) = (txtB 41 (.mk kd lb ks), 0) from fun h => by unfold prtB; rw [if_pos h])
  have PN := hide2 (show wrongB (.mk kd lb ks) ≠ 0 → prtB (.mk kd lb ks) = ([], wrongB (.mk kd lb ks)) from fun h => by unfold prtB; rw [if_neg h])
  have WB := hide2 (show wrongB (.mk kd lb ks) = (chkB 41 (.mk kd lb ks) 0).2 from rfl)
  generalize wrongB (.mk kd lb ks) = e0 at *
  go_enter Try.func13, Try.ntmps13
  go_upto_region 1 with fail
  go_upto_region 2 with (go_at_call 51; (with_reducible refine CW.out.mono ?_); rintro e w2 ⟨rfl, hb⟩)
  have B2 := hide2 hb
  have X2 := hide2 (BX.out.trans (hb.mono BX.out.size))
  have Y2 := hide2 (BB.out.keep hb)
  clear hb c0 c1 c2
  by_cases hz : e0 = 0
  · subst hz
    obtain ⟨c0, c1, c2⟩ := Y2.out.three
    have WR := hide2 (xtext_calls 41 d kd lb A n c ks w2 0 (K.out.keep B2.out) WB.out.symm)
    go_wp2_with (go_at_call 52; (with_reducible refine WR.out.mono ?_); rintro e w3 ⟨rfl, hb3⟩; have X3 := hide2 (X2.out.trans (hb3.mono X2.out.size)); clear hb3)
    go_ret2
    exact ⟨by rw [PZ.out trivial]; rfl, X3.out⟩
  · go_wp2
    go_ret2
    exact ⟨by rw [PN.out hz]; rfl, X2.out⟩
end Go.Proofs.Ytadepofaobdbhaa
