/- The law ShapeTells as a call: it returns true. Conditions: the net reads as a list. -/
import Derived.Test.YtnfppolgaeibeaaShapeI
import Derived.Test.YtnfppolgaeibeaaNetL
namespace Go.Proofs.Ytnfppolgaeibeaa
open Go.RowKit

set_option maxRecDepth 100000 in
set_option maxHeartbeats 4000000 in
theorem shapeTells_walk {w : World} (P : Int) {A : Option Addr} {n c : Nat} {ts : List PTran} (h : Trans w A n c ts) (hn : n ≤ 2513169434916) (i : Int) (_ : (Lit.int .i64 i).wf = true) (o : Int) (_ : (Lit.int .i64 o).wf = true) :
    Calls Try.prog 4 #[.agg #[.int .i64 P, .slice A n c], .int .i64 i, .int .i64 o] w fun e w' => e = .returned (.bool true) ∧ Below w.heap.size w w' := by
  have H := hide2 h
  have HB := hide2 (boxBelow w (.cells #[.int .i64 P, .slice A n c] 27))
  have X0 := hide2 (Box.new w #[.int .i64 P, .slice A n c] 27)
  obtain ⟨p, hp⟩ : ∃ p, closeL ⟨P, ts⟩ i o = p := ⟨_, rfl⟩
  obtain ⟨s, hs⟩ : ∃ s, shapeL ⟨P, ts⟩ i o = s := ⟨_, rfl⟩
  obtain ⟨m, hm⟩ : ∃ m, (min P 16).toNat = m := ⟨_, rfl⟩
  have C1 := hide2 (fun (w' : World) (hb : Below w.heap.size w w') => close_calls (P := P) i o (h.keep hb) hn)
  have C2 := hide2 (fun (w' : World) (hb : Below w.heap.size w w') => refClose_calls (P := P) i o (h.keep hb) hn)
  have C3 := hide2 (fun (w' : World) => start_calls w' P i A n c)
  have C4 := hide2 (fun (w' : World) => refStart_calls w' P i A n c)
  have C5 := hide2 (fun (w' : World) (hb : Below w.heap.size w w') => shapeWrong_calls (P := P) i o (h.keep hb) hn)
  have C6 := hide2 (fun (w' : World) (hb : Below w.heap.size w w') => refShapeWrong_calls (P := P) i o (h.keep hb) hn)
  simp only [hp, hs, hm] at C1 C2 C3 C4 C5 C6
  clear h hp hs hm
  go_enter Try.func4, Try.ntmps4
  go_wp2_with fail
  refine (C1.out _ HB.out).mono ?_
  rintro e w1 ⟨A1, n1, c1, rfl, i1, hb⟩
  go_upto_region 2 with fail
  generalize hw : w1.alloc (.cells #[.int .i64 p.1.places, .slice A1 n1 c1] 27) = v1
  have hc : Below w1.heap.size w1 v1 := by rw [← hw]; exact boxBelow _ _
  have ht := hb.trans (hc.mono hb.size)
  have BE := hide2 (HB.out.trans (ht.mono HB.out.size))
  have YN := hide2 (X0.out.keep ht)
  have Y1 := hide2 (show Box v1 w1.heap.size 27 #[.int .i64 p.1.places, .slice A1 n1 c1] by rw [← hw]; exact Box.new _ _ _)
  have T1 := hide2 (show Trans v1 A1 n1 c1 p.1.trans from Trans.keep i1 hc)
  clear hw hc hb ht i1 X0 HB
  generalize w1.heap.size = b1 at *
  obtain ⟨cn0, cn1⟩ := YN.out.two
  go_wp2_with fail
  refine (C2.out _ BE.out).mono ?_
  rintro e w2 ⟨A2, n2, c2, rfl, i2, hb⟩
  clear cn0 cn1
  go_upto_region 3 with fail
  generalize hw : w2.alloc (.cells #[.int .i64 p.1.places, .slice A2 n2 c2] 27) = v2
  have hc : Below w2.heap.size w2 v2 := by rw [← hw]; exact boxBelow _ _
  have ht := hb.trans (hc.mono hb.size)
  replace BE := hide2 (BE.out.trans (ht.mono BE.out.size))
  replace YN := hide2 (YN.out.keep ht)
  replace Y1 := hide2 (Y1.out.keep ht)
  have Y2 := hide2 (show Box v2 w2.heap.size 27 #[.int .i64 p.1.places, .slice A2 n2 c2] by rw [← hw]; exact Box.new _ _ _)
  replace T1 := hide2 (T1.out.keep ht)
  have T2 := hide2 (show Trans v2 A2 n2 c2 p.1.trans from Trans.keep i2 hc)
  clear hw hc hb ht i2
  generalize w2.heap.size = b2 at *
  have KEEP := hide2 (show ∀ w', Below v2.heap.size v2 w' → w'.cell? ⟨w.heap.size, 0, none⟩ = some (.int .i64 P) ∧ w'.cell? ⟨w.heap.size, 1, none⟩ = some (.slice A n c) ∧ w'.cell? ⟨b1, 0, none⟩ = some (.int .i64 p.1.places) ∧ w'.cell? ⟨b1, 1, none⟩ = some (.slice A1 n1 c1) ∧ w'.cell? ⟨b2, 0, none⟩ = some (.int .i64 p.1.places) ∧ w'.cell? ⟨b2, 1, none⟩ = some (.slice A2 n2 c2) from fun w' hb => by
    obtain ⟨x0, x1⟩ := (YN.out.keep hb).two
    obtain ⟨x2, x3⟩ := (Y1.out.keep hb).two
    obtain ⟨x4, x5⟩ := (Y2.out.keep hb).two
    exact ⟨x0, x1, x2, x3, x4, x5⟩)
  clear YN Y1 Y2
  obtain ⟨x0, x1, x2, x3, x4, x5⟩ := KEEP.out v2 (Below.refl _ _)
  have DR := hide2 ((Below.refl v2.heap.size v2).drew)
  go_region_held3 (fun w' => w'.cell? ⟨w.heap.size, 0, none⟩ = some (.int .i64 P) ∧ w'.cell? ⟨w.heap.size, 1, none⟩ = some (.slice A n c) ∧ w'.cell? ⟨b1, 0, none⟩ = some (.int .i64 p.1.places) ∧ w'.cell? ⟨b1, 1, none⟩ = some (.slice A1 n1 c1) ∧ w'.cell? ⟨b2, 0, none⟩ = some (.int .i64 p.1.places) ∧ w'.cell? ⟨b2, 1, none⟩ = some (.slice A2 n2 c2))
    (first | go_keep)
    (first
      | (go_at_call 15; (with_reducible refine (C3.out _).mono ?_); rintro e u1 ⟨Ca, ka, rfl, ia, hb, _⟩; have IA := hide2 ia; have F1 := hide2 (DR.out.trans (hb.mono (Nat.le_refl _))); clear hb ia x0 x1 x2 x3 x4 x5; obtain ⟨x0, x1, x2, x3, x4, x5⟩ := KEEP.out u1 F1.out)
      | (go_at_call 16; (with_reducible refine (C4.out _).mono ?_); rintro e u2 ⟨Cb, kb, rfl, ib, hb, _⟩; have IB := hide2 ib; have IA2 := hide2 (Ints.keep IA.out hb); have F2 := hide2 (F1.out.trans (hb.mono F1.out.size)); clear hb ib x0 x1 x2 x3 x4 x5; obtain ⟨x0, x1, x2, x3, x4, x5⟩ := KEEP.out u2 F2.out)
      | (go_at_call 14; (with_reducible refine (equalInts_calls IA2.out IB.out).mono ?_); rintro e u3 ⟨rfl, hd⟩; rw [beq_self_eq_true]; have F3 := hide2 (F2.out.trans (hd.below.mono F2.out.size)); clear hd x0 x1 x2 x3 x4 x5; obtain ⟨x0, x1, x2, x3, x4, x5⟩ := KEEP.out u3 F3.out)
      | (go_at_call 17; (with_reducible refine (C5.out _ (BE.out.trans (F3.out.mono BE.out.size))).mono ?_); rintro e u4 ⟨rfl, hb⟩; have F4 := hide2 (F3.out.trans (hb.mono F3.out.size)); clear hb x0 x1 x2 x3 x4 x5; obtain ⟨x0, x1, x2, x3, x4, x5⟩ := KEEP.out u4 F4.out)
      | (go_at_call 18; (with_reducible refine (C6.out _ (BE.out.trans (F4.out.mono BE.out.size))).mono ?_); rintro e u5 ⟨rfl, hb⟩; have F5 := hide2 (F4.out.trans (hb.mono F4.out.size)); clear hb x0 x1 x2 x3 x4 x5; obtain ⟨x0, x1, x2, x3, x4, x5⟩ := KEEP.out u5 F5.out)
      | (go_at_call 11; (with_reducible refine (sameNet_calls (T1.out.keep F5.out) (T2.out.keep F5.out)).mono ?_); rintro e u6 ⟨rfl, hb⟩; rw [beq_self_eq_true, beq_self_eq_true, Bool.and_self]; have F6 := hide2 (F5.out.trans (hb.mono F5.out.size)); clear hb x0 x1 x2 x3 x4 x5; obtain ⟨x0, x1, x2, x3, x4, x5⟩ := KEEP.out u6 F6.out))
  all_goals
    go_wp2
    go_ret
    exact ⟨by first | rfl | simp, BE.out.trans (F6.out.mono BE.out.size)⟩
end Go.Proofs.Ytnfppolgaeibeaa
