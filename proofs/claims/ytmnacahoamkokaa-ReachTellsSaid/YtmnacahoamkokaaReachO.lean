/- The law ReachTells as a call: it returns true. Conditions: the net, the mark and the goal read as lists. -/
import Derived.Test.YtmnacahoamkokaaReachK
import Derived.Test.YtmnacahoamkokaaReachJ
import Derived.Test.YtmnacahoamkokaaReachN
namespace Go.Proofs.Ytmnacahoamkokaa
open Go.RowKit

set_option maxRecDepth 100000 in
set_option maxHeartbeats 4000000 in
theorem reachTells_walk {w : World} (P : Int) {A B D : Option Addr} {n c m d l q : Nat} {ts : List PTran} {xs ys : List Int} (h : Trans w A n c ts) (_ : n ≤ 2513169434916) (g : Ints w B m d xs) (_ : m ≤ 17592186044416) (k : Ints w D l q ys) (_ : l ≤ 17592186044416) (most : Int) (_ : (Lit.int .i64 most).wf = true) :
    Calls Try.prog 6 #[.agg #[.int .i64 P, .slice A n c], .slice B m d, .slice D l q, .int .i64 most] w fun e w' => e = .returned (.bool true) ∧ Below w.heap.size w w' := by
  have HB := hide2 (boxBelow w (.cells #[.int .i64 P, .slice A n c] 27))
  have X0 := hide2 (Box.new w #[.int .i64 P, .slice A n c] 27)
  have C1 := hide2 (fun (w' : World) (hb : Below w.heap.size w w') => graph_calls (P := P) most (h.keep hb) (g.keep hb))
  have C2 := hide2 (fun (w' : World) (hb : Below w.heap.size w w') => refGraph_calls (P := P) most (h.keep hb) (g.keep hb))
  have C3 := hide2 (fun (w' : World) (hb : Below w.heap.size w w') => path_calls (P := P) most (h.keep hb) (g.keep hb) (k.keep hb))
  have C4 := hide2 (fun (w' : World) (hb : Below w.heap.size w w') => refPath_calls (P := P) most (h.keep hb) (g.keep hb) (k.keep hb))
  clear h g k
  obtain ⟨r, hr⟩ : ∃ r, graphL ⟨P, ts⟩ xs most = r := ⟨_, rfl⟩
  obtain ⟨s, hs⟩ : ∃ s, pathL ⟨P, ts⟩ xs ys most = s := ⟨_, rfl⟩
  simp only [hr, hs] at C1 C2 C3 C4
  clear hr hs
  obtain ⟨⟨ms, ars⟩, e1⟩ := r
  obtain ⟨l1, e2⟩ := s
  go_enter Try.func6, Try.ntmps6
  go_upto_region 1 with fail
  generalize w.alloc (.cells #[.int .i64 P, .slice A n c] 27) = w0 at *
  obtain ⟨c0, c1⟩ := X0.out.two
  go_upto_region 2 with (go_at_call 22; go_loud ((with_reducible refine (C1.out _ HB.out).mono ?_); rintro e w1 ⟨U, cu, V, cv, rfl, hL, hA, B1⟩; have LL := hide2 hL; have LA := hide2 hA; have BB := hide2 B1; clear hL hA B1))
  generalize hw2 : w1.alloc (.cells #[.slice U ms.length cu, .slice V ars.length cv] 48) = w2
  have hb2 : Below w1.heap.size w1 w2 := by rw [← hw2]; exact (Below.refl _ _).alloc (Nat.le_refl _) _
  have X1 := hide2 (show Box w2 w1.heap.size 48 #[.slice U ms.length cu, .slice V ars.length cv] by rw [← hw2]; exact Box.new _ _ _)
  have D2 := hide2 (BB.out.trans (hb2.mono BB.out.size))
  have L2 := hide2 (Sl.keep ListR.kept LL.out hb2)
  have A2 := hide2 (Sl.keep ArcR.kept LA.out hb2)
  have Y0 := hide2 (X0.out.keep D2.out)
  have B2 := hide2 (HB.out.trans (D2.out.mono HB.out.size))
  clear hw2 hb2 LL LA BB c0 c1 X0 HB D2
  generalize w1.heap.size = b1 at *
  obtain ⟨c0, c1⟩ := Y0.out.two
  go_upto_region 3 with (go_at_call 23; go_loud ((with_reducible refine (C2.out _ B2.out).mono ?_); rintro e w3 ⟨U', cu', V', cv', rfl, hL, hA, B1⟩; have LL := hide2 hL; have LA := hide2 hA; have BB := hide2 B1; clear hL hA B1))
  generalize hw4 : w3.alloc (.cells #[.slice U' ms.length cu', .slice V' ars.length cv'] 48) = w4
  have hb4 : Below w3.heap.size w3 w4 := by rw [← hw4]; exact (Below.refl _ _).alloc (Nat.le_refl _) _
  have X3 := hide2 (show Box w4 w3.heap.size 48 #[.slice U' ms.length cu', .slice V' ars.length cv'] by rw [← hw4]; exact Box.new _ _ _)
  have D4 := hide2 (BB.out.trans (hb4.mono BB.out.size))
  have L4 := hide2 (Sl.keep ListR.kept LL.out hb4)
  have A4 := hide2 (Sl.keep ArcR.kept LA.out hb4)
  have L3 := hide2 (Sl.keep ListR.kept L2.out D4.out)
  have A3 := hide2 (Sl.keep ArcR.kept A2.out D4.out)
  have Y1 := hide2 (X1.out.keep D4.out)
  have Z0 := hide2 (Y0.out.keep D4.out)
  have B4 := hide2 (B2.out.trans (D4.out.mono B2.out.size))
  clear hw4 hb4 LL LA BB c0 c1 Y0 B2 D4 L2 A2 X1
  generalize w3.heap.size = b3 at *
  obtain ⟨c0, c1⟩ := Z0.out.two
  go_upto_region 4 with (go_at_call 24; go_loud ((with_reducible refine (C3.out _ B4.out).mono ?_); rintro e w5 ⟨R1, n1, k1, rfl, hI, hb5⟩; have I1 := hide2 hI; have BB := hide2 hb5; clear hI hb5))
  clear c0 c1
  have B5 := hide2 (B4.out.trans (BB.out.mono B4.out.size))
  obtain ⟨c0, c1⟩ := (Z0.out.keep BB.out).two
  go_upto_region 5 with (go_at_call 25; go_loud ((with_reducible refine (C4.out _ B5.out).mono ?_); rintro e w6 ⟨R2, n2, k2, rfl, hI, hb6⟩; have I2 := hide2 hI; have BC := hide2 hb6; clear hI hb6))
  clear c0 c1
  have B6 := hide2 (B5.out.trans (BC.out.mono B5.out.size))
  have BD := hide2 (BB.out.trans (BC.out.mono BB.out.size))
  have J1 := hide2 (Sl.keep IntR.kept I1.out BC.out)
  obtain ⟨c0, c1⟩ := (Y1.out.keep BD.out).two
  obtain ⟨d0, d1⟩ := (X3.out.keep BD.out).two
  have CS := hide2 (sameSpace_same (Sl.keep ListR.kept L3.out BD.out) (Sl.keep ListR.kept L4.out BD.out) (Sl.keep ArcR.kept A3.out BD.out) (Sl.keep ArcR.kept A4.out BD.out))
  clear C1 C2 C3 C4
  go_wp2_with (first
    | (go_at_call 26; (with_reducible refine CS.out.mono ?_); rintro e w7 ⟨rfl, hb7⟩; have B7 := hide2 hb7; clear hb7)
    | (go_at_call 27; (with_reducible refine (equalInts_calls (Sl.keep IntR.kept J1.out B7.out) (Sl.keep IntR.kept I2.out B7.out)).mono ?_); rintro e w8 ⟨rfl, dr⟩; rw [beq_self_eq_true]; have B8 := hide2 dr.below; clear dr))
  go_ret
  exact ⟨by first | rfl | simp, (B6.out.trans (B7.out.mono B6.out.size)).trans (B8.out.mono (B6.out.trans (B7.out.mono B6.out.size)).size)⟩
end Go.Proofs.Ytmnacahoamkokaa
