/- The law ReplayTells as a call: it returns true. Conditions: the net and the trace read as lists. -/
import Derived.Test.YtnfppolgaeibeaaReplayE
namespace Go.Proofs.Ytnfppolgaeibeaa
open Go.RowKit

set_option maxRecDepth 100000 in
set_option maxHeartbeats 4000000 in
theorem replayTells_walk {w : World} (P : Int) {A D : Option Addr} {n c m d : Nat} {ts : List PTran} {tr : List Int} (h : Trans w A n c ts) (hn : n ≤ 2513169434916) (i : Int) (_ : (Lit.int .i64 i).wf = true) (o : Int) (_ : (Lit.int .i64 o).wf = true) (g : Ints w D m d tr) (_ : m ≤ 17592186044416) :
    Calls Try.prog 5 #[.agg #[.int .i64 P, .slice A n c], .int .i64 i, .int .i64 o, .slice D m d] w fun e w' => e = .returned (.bool true) ∧ Below w.heap.size w w' := by
  have HB := hide2 (boxBelow w (.cells #[.int .i64 P, .slice A n c] 27))
  have X0 := hide2 (Box.new w #[.int .i64 P, .slice A n c] 27)
  obtain ⟨q, hq⟩ : ∃ q, replayL ⟨P, ts⟩ i o tr = q := ⟨_, rfl⟩
  have C1 := hide2 (fun (w' : World) (hb : Below w.heap.size w w') => replay_calls (P := P) i o (h.keep hb) hn (Ints.keep g hb))
  have C2 := hide2 (fun (w' : World) (hb : Below w.heap.size w w') => refReplay_calls (P := P) i o (h.keep hb) hn (Ints.keep g hb))
  simp only [hq] at C1 C2
  clear h g hq
  go_enter Try.func5, Try.ntmps5
  go_wp2_with fail
  refine (C1.out _ HB.out).mono ?_
  rintro e w1 ⟨rfl, hb⟩
  go_upto_region 2 with fail
  generalize hw : w1.alloc (.cells #[.int .i64 q.1.put, .int .i64 q.1.taken, .int .i64 q.1.lacked, .int .i64 q.1.left] 40) = v1
  have hc : Below w1.heap.size w1 v1 := by rw [← hw]; exact boxBelow _ _
  have ht := hb.trans (hc.mono hb.size)
  have BE := hide2 (HB.out.trans (ht.mono HB.out.size))
  have YN := hide2 (X0.out.keep ht)
  have Y1 := hide2 (show Box v1 w1.heap.size 40 #[.int .i64 q.1.put, .int .i64 q.1.taken, .int .i64 q.1.lacked, .int .i64 q.1.left] by rw [← hw]; exact Box.new _ _ _)
  clear hw hc hb ht X0 HB
  generalize w1.heap.size = b1 at *
  obtain ⟨cn0, cn1⟩ := YN.out.two
  go_wp2_with fail
  refine (C2.out _ BE.out).mono ?_
  rintro e w2 ⟨rfl, hb⟩
  clear cn0 cn1
  go_upto_region 3 with fail
  generalize hw : w2.alloc (.cells #[.int .i64 q.1.put, .int .i64 q.1.taken, .int .i64 q.1.lacked, .int .i64 q.1.left] 40) = v2
  have hc : Below w2.heap.size w2 v2 := by rw [← hw]; exact boxBelow _ _
  have ht := hb.trans (hc.mono hb.size)
  replace BE := hide2 (BE.out.trans (ht.mono BE.out.size))
  replace Y1 := hide2 (Y1.out.keep ht)
  have Y2 := hide2 (show Box v2 w2.heap.size 40 #[.int .i64 q.1.put, .int .i64 q.1.taken, .int .i64 q.1.lacked, .int .i64 q.1.left] by rw [← hw]; exact Box.new _ _ _)
  clear hw hc hb ht YN
  generalize w2.heap.size = b2 at *
  obtain ⟨x0, x1, x2, x3⟩ := Y1.out.four
  obtain ⟨y0, y1, y2, y3⟩ := Y2.out.four
  obtain ⟨a0, h0⟩ : ∃ a, q.1.put = a := ⟨_, rfl⟩
  obtain ⟨a1, h1⟩ : ∃ a, q.1.taken = a := ⟨_, rfl⟩
  obtain ⟨a2, h2⟩ : ∃ a, q.1.lacked = a := ⟨_, rfl⟩
  obtain ⟨a3, h3⟩ : ∃ a, q.1.left = a := ⟨_, rfl⟩
  obtain ⟨a4, h4⟩ : ∃ a, q.2 = a := ⟨_, rfl⟩
  rw [h0] at x0 y0
  rw [h1] at x1 y1
  rw [h2] at x2 y2
  rw [h3] at x3 y3
  simp only [h0, h1, h2, h3, h4]
  clear h0 h1 h2 h3 h4
  go_wp2
  all_goals
    go_ret
    exact ⟨by first | rfl | simp, BE.out⟩
end Go.Proofs.Ytnfppolgaeibeaa
