/- The law AlignCosts as a call: it returns true. Conditions: the net and the trace read as lists. -/
import Derived.Test.YtnidicfanbkgjaaAlnL
import Derived.Test.YtnidicfanbkgjaaAlnC
namespace Go.Proofs.Ytnidicfanbkgjaa
open Go.RowKit

set_option maxRecDepth 100000 in
set_option maxHeartbeats 4000000 in
theorem alignCosts_walk {w : World} (P : Int) {A Q : Option Addr} {n c l q : Nat} {ts : List PTran} {tr : List Int} (h : Trans w A n c ts) (hn : n ≤ 2513169434916) (i : Int) (_ : (Lit.int .i64 i).wf = true) (o : Int) (_ : (Lit.int .i64 o).wf = true) (g : Ints w Q l q tr) (_ : l ≤ 17592186044416) :
    Calls Try.prog 3 #[.agg #[.int .i64 P, .slice A n c], .int .i64 i, .int .i64 o, .slice Q l q] w fun e w' => e = .returned (.bool true) ∧ Below w.heap.size w w' := by
  have HB := hide2 (boxBelow w (.cells #[.int .i64 P, .slice A n c] 24))
  have X0 := hide2 (Box.new w #[.int .i64 P, .slice A n c] 24)
  have C1 := hide2 (fun (w' : World) (hb : Below w.heap.size w w') => align_calls (P := P) i o (h.keep hb) hn (Ints.keep g hb))
  have C2 := hide2 (fun (w' : World) (hb : Below w.heap.size w w') => ucost_calls (P := P) i o (h.keep hb) hn (Ints.keep g hb))
  clear h g
  go_enter Try.func3, Try.ntmps3
  go_upto_region 1 with fail
  generalize w.alloc (.cells #[.int .i64 P, .slice A n c] 24) = w0 at *
  obtain ⟨x0, x1⟩ := X0.out.two
  go_wp2_with fail
  refine (C1.out w0 HB.out).mono ?_
  rintro e w1 ⟨B, m, d, cst, k, rfl, cp, hk, hb⟩
  have X1 := hide2 (X0.out.keep hb)
  have B1 := hide2 (HB.out.trans (hb.mono HB.out.size))
  have CP := hide2 cp
  have HK := hide2 hk
  clear hb cp hk x0 x1
  obtain ⟨x0, x1⟩ := X1.out.two
  go_wp2_with fail
  refine (C2.out w1 B1.out).mono ?_
  rintro e w2 ⟨cst2, k2, cp, rfl, hb⟩
  obtain ⟨rfl, rfl⟩ := CP.out.uniq cp
  have B2 := hide2 (B1.out.trans (hb.mono B1.out.size))
  clear hb cp x0 x1
  by_cases hk0 : k = 0
  · subst hk0
    go_wp2
    go_ret
    exact ⟨rfl, B2.out⟩
  · have hkb : (k == 0) = false := by simpa using hk0
    obtain rfl := HK.out hk0
    go_wp2
    go_ret
    exact ⟨rfl, B2.out⟩
end Go.Proofs.Ytnidicfanbkgjaa
