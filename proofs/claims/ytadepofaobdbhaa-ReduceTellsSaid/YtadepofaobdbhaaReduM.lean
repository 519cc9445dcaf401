/- The law ReduceTells as a call: it returns true. Conditions: the net reads as a list. -/
import Derived.Test.YtadepofaobdbhaaMrefI
import Derived.Test.YtadepofaobdbhaaNetL
import Derived.ChangeKeysEq
namespace Go.Proofs.Ytadepofaobdbhaa
open Go.RowKit

set_option maxRecDepth 100000 in
theorem eqThree (w : World) (a b d : Int) : (Op.equalIn 10000 25 (.agg #[.int .i64 a, .int .i64 b, .int .i64 d]) (.agg #[.int .i64 a, .int .i64 b, .int .i64 d])).run Try.prog w = .ok true w := by
  obtain ⟨i, z, hi, h2, h3, h4, h5⟩ := tyInts.info
  have hc : Try.prog.cellsOf 3 = 1 := by simp [Program.cellsOf, hi, h3]
  have hp : ∀ (xs : Array Value) (k : Nat) (x : Int), xs[k]? = some (.int .i64 x) → (part 3 xs k).run Try.prog w = .ok (.int .i64 x) w := fun xs k x hx => run_part_plain w (show Try.prog.plainKey 3 = true by kernel_rfl) hx
  have he : ∀ x : Int, (Op.equalIn 9999 3 (.int .i64 x) (.int .i64 x)).run Try.prog w = .ok true w := fun x => by
    rw [show (9999 : Nat) = 9998 + 1 from rfl]
    generalize (9998 : Nat) = q
    simp [Op.equalIn, run_underlying Try.underlying3]
  rw [run_equalIn_array w 9999 _ _ (show Try.prog.underlying 25 = some (.array 3 3) by kernel_rfl) hi, hc]
  simp only [List.range_succ, List.range_zero, List.nil_append, List.cons_append, Op.eqItems, Nat.mul_one]
  simp [hp, he]

set_option maxRecDepth 100000 in
set_option maxHeartbeats 4000000 in
theorem reduceTells_walk {w : World} (P : Int) {A : Option Addr} {n c : Nat} {ts : List PTran} (h : Trans w A n c ts) (hn : n ≤ 2513169434916) (i : Int) (_ : (Lit.int .i64 i).wf = true) (o : Int) (_ : (Lit.int .i64 o).wf = true) :
    Calls Try.prog 3 #[.agg #[.int .i64 P, .slice A n c], .int .i64 i, .int .i64 o] w fun e w' => e = .returned (.bool true) ∧ Below w.heap.size w w' := by
  have HB := hide2 (boxBelow w (.cells #[.int .i64 P, .slice A n c] 24))
  have X0 := hide2 (Box.new w #[.int .i64 P, .slice A n c] 24)
  obtain ⟨p, hp⟩ : ∃ p, redL ⟨P, ts⟩ i o = p := ⟨_, rfl⟩
  have C1 := hide2 (fun (w' : World) (hb : Below w.heap.size w w') => reduce_calls (P := P) i o (Trans.keep h hb) hn)
  have C2 := hide2 (fun (w' : World) (hb : Below w.heap.size w w') => mreduce_calls (P := P) i o (Trans.keep h hb) hn)
  simp only [hp] at C1 C2
  obtain ⟨N, ⟨a, b, d⟩, e0⟩ := p
  clear h hp
  go_enter Try.func3, Try.ntmps3
  go_wp2_with fail
  refine (C1.out _ HB.out).mono ?_
  rintro e w1 ⟨A1, n1, c1, rfl, i1, hb⟩
  go_upto_region 2 with fail
  generalize hw : (w1.alloc (.cells #[.int .i64 N.places, .slice A1 n1 c1] 24)).alloc (.cells #[.int .i64 a, .int .i64 b, .int .i64 d] 25) = v1
  have hc : Below w1.heap.size w1 v1 := by rw [← hw]; exact ((Below.refl _ _).alloc (Nat.le_refl _) _).alloc (by simp) _
  have ht := hb.trans (hc.mono hb.size)
  have BE := hide2 (HB.out.trans (ht.mono HB.out.size))
  have YN := hide2 (X0.out.keep ht)
  have Y1 := hide2 (show Box v1 w1.heap.size 24 #[.int .i64 N.places, .slice A1 n1 c1] by rw [← hw]; exact (Box.new _ _ _).old _)
  have Z1 := hide2 (show Box v1 (w1.heap.size + 1) 25 #[.int .i64 a, .int .i64 b, .int .i64 d] by rw [← hw]; exact Box.newAt (by simp) _ _)
  have T1 := hide2 (show Trans v1 A1 n1 c1 N.trans from Trans.keep i1 hc)
  clear hw hc hb ht i1 X0 HB
  generalize w1.heap.size = b1 at *
  obtain ⟨cn0, cn1⟩ := YN.out.two
  go_wp2_with fail
  refine (C2.out _ BE.out).mono ?_
  rintro e w2 ⟨A2, n2, c2, rfl, i2, hb⟩
  clear cn0 cn1
  go_upto_region 3 with fail
  generalize hw : (w2.alloc (.cells #[.int .i64 N.places, .slice A2 n2 c2] 24)).alloc (.cells #[.int .i64 a, .int .i64 b, .int .i64 d] 25) = v2
  have hc : Below w2.heap.size w2 v2 := by rw [← hw]; exact ((Below.refl _ _).alloc (Nat.le_refl _) _).alloc (by simp) _
  have ht := hb.trans (hc.mono hb.size)
  replace BE := hide2 (BE.out.trans (ht.mono BE.out.size))
  replace Y1 := hide2 (Y1.out.keep ht)
  replace Z1 := hide2 (Z1.out.keep ht)
  have Y2 := hide2 (show Box v2 w2.heap.size 24 #[.int .i64 N.places, .slice A2 n2 c2] by rw [← hw]; exact (Box.new _ _ _).old _)
  have Z2 := hide2 (show Box v2 (w2.heap.size + 1) 25 #[.int .i64 a, .int .i64 b, .int .i64 d] by rw [← hw]; exact Box.newAt (by simp) _ _)
  replace T1 := hide2 (T1.out.keep ht)
  have T2 := hide2 (show Trans v2 A2 n2 c2 N.trans from Trans.keep i2 hc)
  clear hw hc hb ht i2
  generalize w2.heap.size = b2 at *
  obtain ⟨x0, x1⟩ := Y1.out.two
  obtain ⟨x2, x3⟩ := Y2.out.two
  obtain ⟨y0, y1, y2⟩ := Z1.out.three
  obtain ⟨z0, z1, z2⟩ := Z2.out.three
  have SN := hide2 (sameNet_calls (P := N.places) (Q := N.places) T1.out T2.out)
  have EQ := eqThree v2 a b d
  go_wp2_with fail
  (with_reducible refine SN.out.mono ?_)
  rintro e w5 ⟨rfl, hb⟩
  rw [beq_self_eq_true, beq_self_eq_true, Bool.and_self]
  have F6 := hide2 (BE.out.trans (hb.mono BE.out.size))
  clear hb
  go_wp2
  go_ret
  exact ⟨by first | rfl | simp, F6.out⟩
end Go.Proofs.Ytadepofaobdbhaa
