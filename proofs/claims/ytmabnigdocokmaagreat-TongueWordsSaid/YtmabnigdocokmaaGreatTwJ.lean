/- The law TongueWords as a call: it returns true. Conditions: the net reads as a list of transitions. -/
import Derived.Test.YtmabnigdocokmaaGreatTwI
import Derived.Test.YtmabnigdocokmaaGreatSameL
namespace Go.Proofs.YtmabnigdocokmaaGreat
open Go.RowKit

set_option maxRecDepth 100000 in
set_option maxHeartbeats 4000000 in
theorem tongueWords_walk {w : World} (P : Int) {A : Option Addr} {n c : Nat} {ts : List PTran} (h : Trans w A n c ts) (hn : n ≤ 2513169434916) (i : Int) (_ : (Lit.int .i64 i).wf = true) (o : Int) (_ : (Lit.int .i64 o).wf = true) (most : Int) (_ : (Lit.int .i64 most).wf = true) :
    Calls Tryz.prog 3 #[.agg #[.int .i64 P, .slice A n c], .int .i64 i, .int .i64 o, .int .i64 most] w fun e w' => e = .returned (.bool true) ∧ Below w.heap.size w w' := by
  have HB := hide2 (boxBelow w (.cells #[.int .i64 P, .slice A n c] 24))
  have X0 := hide2 (Box.new w #[.int .i64 P, .slice A n c] 24)
  have C1 := hide2 (fun (w' : World) (hb : Below w.heap.size w w') => words_calls (P := P) i o most (h.keep hb) hn)
  have C2 := hide2 (fun (w' : World) (hb : Below w.heap.size w w') => lwords_calls (P := P) i o most (letL_spec ⟨P, ts⟩).1 (fun x hx => ((letL_spec ⟨P, ts⟩).2 x).2 hx) (h.keep hb) hn)
  clear h
  obtain ⟨r, hr⟩ : ∃ r, wordsB ⟨P, ts⟩ i o most (letL ⟨P, ts⟩) = r := ⟨_, rfl⟩
  simp only [hr] at C1 C2
  clear hr
  obtain ⟨L, k⟩ := r
  go_enter Tryz.func3, Tryz.ntmps3
  go_upto_region 1 with fail
  generalize w.alloc (.cells #[.int .i64 P, .slice A n c] 24) = w0 at *
  obtain ⟨x0, x1⟩ := X0.out.two
  go_wp2_with fail
  refine (C1.out w0 HB.out).mono ?_
  rintro e w1 ⟨A1, n1, c1, rfl, hl, hb⟩
  have X1 := hide2 (X0.out.keep hb)
  have B1 := hide2 (HB.out.trans (hb.mono HB.out.size))
  have L1 := hide2 hl
  clear hb hl x0 x1
  obtain ⟨x0, x1⟩ := X1.out.two
  go_wp2_with fail
  refine (C2.out w1 B1.out).mono ?_
  rintro e w2 ⟨A2, n2, c2, rfl, hl, hb⟩
  have B2 := hide2 (B1.out.trans (hb.mono B1.out.size))
  have L2 := hide2 hl
  have L1' := hide2 (Sl.keep ListR.kept L1.out hb)
  clear hb hl x0 x1
  go_wp2_with fail
  refine (sameLists_same L1'.out L2.out).mono ?_
  rintro e w3 ⟨rfl, hb⟩
  have B3 := hide2 (B2.out.trans (hb.mono B2.out.size))
  clear hb
  go_wp2
  go_ret
  exact ⟨rfl, B3.out⟩
end Go.Proofs.YtmabnigdocokmaaGreat
