/- The law NetRuns as a call: it returns true. Conditions: the net, the mark and the sequence read as lists. -/
import Derived.Test.YtenpmekibiflaaaNetK
import Derived.Test.YtenpmekibiflaaaNetL
import Derived.Test.YtenpmekibiflaaaNetM
import Derived.Test.YtenpmekibiflaaaNetN
namespace Go.Proofs.Ytenpmekibiflaaa
open Go.RowKit

set_option maxRecDepth 100000 in
set_option maxHeartbeats 1000000 in
theorem netRuns_walk {w : World} (P : Int) {A B S : Option Addr} {n c m d l e0 : Nat} {ts : List PTran} {xs seq : List Int} (h : Trans w A n c ts) (hn : n ≤ 2513169434916) (g : Ints w B m d xs) (hm : m ≤ 17592186044416) (s : Ints w S l e0 seq) (_ : l ≤ 17592186044416) :
    Calls Try.prog 10 #[.agg #[.int .i64 P, .slice A n c], .slice B m d, .slice S l e0] w fun e w' => e = .returned (.bool true) ∧ Below w.heap.size w w' := by
  have H := hide2 h
  have G := hide2 g
  have SS := hide2 s
  have HB := hide2 (boxBelow w)
  obtain ⟨p, hp⟩ : ∃ p, runL ⟨P, ts⟩ xs seq = p := ⟨_, rfl⟩
  have HP := hide2 hp
  clear hp h g s
  go_enter Try.func10, Try.ntmps10
  go_wp2_with fail
  refine (netRun_calls (P := P) (H.out.keep (HB.out _)) (G.out.keep (HB.out _)) hm (SS.out.keep (HB.out _))).mono ?_
  rw [HP.out]
  rintro e w1 ⟨C1, l1, k1, rfl, i1, b1⟩
  have I1 := hide2 i1
  have B1 := hide2 ((HB.out (.cells #[.int .i64 P, .slice A n c] 40)).trans (b1.mono (by simp)))
  have c10 : w1.cell? ⟨w.heap.size, 0, none⟩ = some (.int .i64 P) := (b1.cell (by simp)).trans (by simp)
  have c11 : w1.cell? ⟨w.heap.size, 1, none⟩ = some (.slice A n c) := (b1.cell (by simp)).trans (by simp)
  have z1 : w.heap.size < w1.heap.size := by have := b1.size; simp at this; omega
  clear i1 b1
  go_wp2_with fail
  refine (refRun_calls l w1 B S m d l e0 xs seq (Nat.le_refl _) (H.out.keep B1.out) (G.out.keep B1.out) (SS.out.keep B1.out)).mono ?_
  rw [HP.out]
  rintro e w2 ⟨C2, l2, k2, rfl, i2, b2⟩
  have b2d := b2.trans ((Below.refl _ _).drew : Below w1.heap.size w2 w2.drew)
  have I2 := hide2 (i2.keep ((Below.refl _ _).drew : Below w2.heap.size w2 w2.drew))
  have I1' := hide2 (I1.out.keep b2d)
  have B2 := hide2 (B1.out.trans (b2d.mono B1.out.size))
  have c20 := (b2.cell (p := ⟨w.heap.size, 0, none⟩) z1).trans c10
  have c21 := (b2.cell (p := ⟨w.heap.size, 1, none⟩) z1).trans c11
  have z2 : w.heap.size < w2.drew.heap.size := Nat.lt_of_lt_of_le z1 b2d.size
  clear i2 b2 b2d c10 c11 I1
  go_upto_region 3 with fail
  have D20 := hide2 (show w2.drew.cell? ⟨w.heap.size, 0, none⟩ = some (.int .i64 P) from c20)
  have D21 := hide2 (show w2.drew.cell? ⟨w.heap.size, 1, none⟩ = some (.slice A n c) from c21)
  go_region_held3 (fun w' => w'.cell? ⟨w.heap.size, 0, none⟩ = some (.int .i64 P) ∧ w'.cell? ⟨w.heap.size, 1, none⟩ = some (.slice A n c)) (first | go_keep) (first
    | (go_at_call 41; (with_reducible refine (equalInts_calls I1'.out I2.out).mono ?_); rintro e w3 ⟨rfl, hd⟩; rw [beq_self_eq_true]; have F3 := hide2 hd.below; have x0 := (F3.out.cell (p := ⟨w.heap.size, 0, none⟩) z2).trans D20.out; have x1 := (F3.out.cell (p := ⟨w.heap.size, 1, none⟩) z2).trans D21.out; clear hd)
    | (go_at_call 80; (with_reducible refine (netTurned_calls (P := P) (H.out.keep (B2.out.trans (F3.out.mono B2.out.size))) hn).mono ?_); rintro e w4 ⟨A4, n4, c4, rfl, t4, hb⟩; have T4 := hide2 t4; have F4 := hide2 (F3.out.trans (hb.mono F3.out.size)); have y0 := (F4.out.cell (p := ⟨w.heap.size, 0, none⟩) z2).trans D20.out; have y1 := (F4.out.cell (p := ⟨w.heap.size, 1, none⟩) z2).trans D21.out; clear hb t4)
    | (go_at_call 81; (with_reducible refine (refTurned_calls (P := P) (H.out.keep (B2.out.trans (F4.out.mono B2.out.size))) hn).mono ?_); rintro e w5 ⟨A5, n5, c5, rfl, t5, hb⟩; have T5 := hide2 t5; have U4 := hide2 (T4.out.keep hb); have F5 := hide2 (F4.out.trans (hb.mono F4.out.size)); have u0 := (F5.out.cell (p := ⟨w.heap.size, 0, none⟩) z2).trans D20.out; have u1 := (F5.out.cell (p := ⟨w.heap.size, 1, none⟩) z2).trans D21.out; clear hb t5)
    | (go_at_call 53; (with_reducible refine (sameNet_calls U4.out T5.out).mono ?_); rintro e w6 ⟨rfl, hb⟩; rw [beq_self_eq_true, beq_self_eq_true, Bool.and_self]; have F6 := hide2 (F5.out.trans (hb.mono F5.out.size)); have v0 := (F6.out.cell (p := ⟨w.heap.size, 0, none⟩) z2).trans D20.out; have v1 := (F6.out.cell (p := ⟨w.heap.size, 1, none⟩) z2).trans D21.out; clear hb))
  all_goals
    go_wp2
    go_ret
    exact ⟨by first | rfl | simp, B2.out.trans (F6.out.mono B2.out.size)⟩
end Go.Proofs.Ytenpmekibiflaaa
