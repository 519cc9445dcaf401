/- The law NetFires as a call: it returns true. Conditions: the net and the mark read as lists. -/
import Derived.Test.YtenpmekibiflaaaNetG
namespace Go.Proofs.Ytenpmekibiflaaa
open Go.RowKit

set_option maxRecDepth 100000 in
set_option maxHeartbeats 1000000 in
theorem netFires_walk {w : World} (P : Int) {A B : Option Addr} {n c m d : Nat} {ts : List PTran} {xs : List Int} (h : Trans w A n c ts) (_ : n ≤ 2513169434916) (g : Ints w B m d xs) (_ : m ≤ 17592186044416) (t : Int) (_ : (Lit.int .i64 t).wf = true) :
    Calls Try.prog 7 #[.agg #[.int .i64 P, .slice A n c], .slice B m d, .int .i64 t] w fun e w' => e = .returned (.bool true) ∧ Below w.heap.size w w' := by
  have H := hide2 h
  have G := hide2 g
  have HB := hide2 (boxBelow w)
  obtain ⟨p, hp⟩ : ∃ p, enabledL ⟨P, ts⟩ xs = p := ⟨_, rfl⟩
  obtain ⟨q, hq⟩ : ∃ q, fireL ⟨P, ts⟩ xs t = q := ⟨_, rfl⟩
  have HP := hide2 hp
  have HQ := hide2 hq
  clear hp hq h g
  go_enter Try.func7, Try.ntmps7
  go_wp2_with fail
  refine (enabled_calls (P := P) (H.out.keep (HB.out _)) (G.out.keep (HB.out _))).mono ?_
  rw [HP.out]
  rintro e w1 ⟨C1, l1, k1, rfl, i1, b1⟩
  have I1 := hide2 i1
  have B1 := hide2 ((HB.out (.cells #[.int .i64 P, .slice A n c] 40)).trans (b1.mono (by simp)))
  have c10 : w1.cell? ⟨w.heap.size, 0, none⟩ = some (.int .i64 P) := (b1.cell (by simp)).trans (by simp)
  have c11 : w1.cell? ⟨w.heap.size, 1, none⟩ = some (.slice A n c) := (b1.cell (by simp)).trans (by simp)
  have z1 : w.heap.size < w1.heap.size := by have := b1.size; simp at this; omega
  clear i1 b1
  go_wp2_with fail
  refine (refEnabled_calls (P := P) (H.out.keep B1.out) (G.out.keep B1.out)).mono ?_
  rw [HP.out]
  rintro e w2 ⟨C2, l2, k2, rfl, i2, b2⟩
  have I2 := hide2 i2
  have I1' := hide2 (I1.out.keep b2)
  have B2 := hide2 (B1.out.trans (b2.mono B1.out.size))
  have c20 := (b2.cell (p := ⟨w.heap.size, 0, none⟩) z1).trans c10
  have c21 := (b2.cell (p := ⟨w.heap.size, 1, none⟩) z1).trans c11
  have z2 : w.heap.size < w2.heap.size := Nat.lt_of_lt_of_le z1 b2.size
  clear i2 b2 c10 c11 I1
  go_wp2_with fail
  refine (fire_calls (P := P) (H.out.keep B2.out) (G.out.keep B2.out) t).mono ?_
  rw [HQ.out]
  rintro e w3 ⟨C3, l3, k3, rfl, i3, b3⟩
  have I3 := hide2 i3
  have I1 := hide2 (I1'.out.keep b3)
  have I2' := hide2 (I2.out.keep b3)
  have B3 := hide2 (B2.out.trans (b3.mono B2.out.size))
  have c30 := (b3.cell (p := ⟨w.heap.size, 0, none⟩) z2).trans c20
  have c31 := (b3.cell (p := ⟨w.heap.size, 1, none⟩) z2).trans c21
  have z3 : w.heap.size < w3.heap.size := Nat.lt_of_lt_of_le z2 b3.size
  clear i3 b3 c20 c21 I1' I2
  go_wp2_with fail
  refine (refFire_calls (P := P) (H.out.keep B3.out) (G.out.keep B3.out) t).mono ?_
  rw [HQ.out]
  rintro e w4 ⟨C4, l4, k4, rfl, i4, b4⟩
  have hb4 := b4.trans ((Below.refl _ _).drew : Below w3.heap.size w4 w4.drew)
  have I4 := hide2 (i4.keep ((Below.refl _ _).drew : Below w4.heap.size w4 w4.drew))
  have J1 := hide2 (I1.out.keep hb4)
  have J2 := hide2 (I2'.out.keep hb4)
  have J3 := hide2 (I3.out.keep hb4)
  have B4 := hide2 (B3.out.trans (hb4.mono B3.out.size))
  have c40 := (b4.cell (p := ⟨w.heap.size, 0, none⟩) z3).trans c30
  have c41 := (b4.cell (p := ⟨w.heap.size, 1, none⟩) z3).trans c31
  have z4 : w.heap.size < w4.drew.heap.size := Nat.lt_of_lt_of_le z3 hb4.size
  have d40 : w4.drew.cell? ⟨w.heap.size, 0, none⟩ = some (.int .i64 P) := c40
  have d41 : w4.drew.cell? ⟨w.heap.size, 1, none⟩ = some (.slice A n c) := c41
  have D40 := hide2 d40
  have D41 := hide2 d41
  clear i4 b4 hb4 c30 c31 I1 I2' I3 d40 d41
  go_upto_region 5 with fail
  go_cut [6] (fun s wx => s = .bool true ∧ Hid (Below w.heap.size w wx))
  case first =>
    go_region_held3 (fun w' => w'.cell? ⟨w.heap.size, 0, none⟩ = some (.int .i64 P) ∧ w'.cell? ⟨w.heap.size, 1, none⟩ = some (.slice A n c))
      (first | go_keep)
      (first
        | (go_at_call 58; (with_reducible refine (netWrong_calls _ P A n c ts (H.out.keep B4.out)).mono ?_); rintro e w5 ⟨rfl, hb⟩; have x0 := (hb.cell (p := ⟨w.heap.size, 0, none⟩) z4).trans D40.out; have x1 := (hb.cell (p := ⟨w.heap.size, 1, none⟩) z4).trans D41.out; have F5 := hide2 hb; clear hb)
        | (go_at_call 59; (with_reducible refine (refWrong_calls _ P A n c ts (H.out.keep (B4.out.trans (F5.out.mono B4.out.size)))).mono ?_); rintro e w6 ⟨rfl, hb⟩; have F6 := hide2 (F5.out.trans (hb.mono F5.out.size)); have y0 := (F6.out.cell (p := ⟨w.heap.size, 0, none⟩) z4).trans D40.out; have y1 := (F6.out.cell (p := ⟨w.heap.size, 1, none⟩) z4).trans D41.out; clear hb)
        | (go_at_call 41; (with_reducible refine (equalInts_calls (J1.out.keep F6.out) (J2.out.keep F6.out)).mono ?_); rintro e w7 ⟨rfl, hd⟩; rw [beq_self_eq_true]; have F7 := hide2 (F6.out.trans (hd.below.mono F6.out.size)); have u0 := (F7.out.cell (p := ⟨w.heap.size, 0, none⟩) z4).trans D40.out; have u1 := (F7.out.cell (p := ⟨w.heap.size, 1, none⟩) z4).trans D41.out; clear hd)
        | (go_at_call 41; (with_reducible refine (equalInts_calls (J3.out.keep F7.out) (I4.out.keep F7.out)).mono ?_); rintro e w8 ⟨rfl, hd⟩; rw [beq_self_eq_true]; have F8 := hide2 (F7.out.trans (hd.below.mono F7.out.size)); have v0 := (F8.out.cell (p := ⟨w.heap.size, 0, none⟩) z4).trans D40.out; have v1 := (F8.out.cell (p := ⟨w.heap.size, 1, none⟩) z4).trans D41.out; clear hd))
    all_goals
      go_wp2_with fail
      go_meet
      exact ⟨by first | rfl | simp, B4.out.trans (F8.out.mono B4.out.size)⟩
  case rest =>
    obtain ⟨rfl, hb⟩ := hcut
    go_wp2
    go_ret
    exact ⟨rfl, hb.out⟩
end Go.Proofs.Ytenpmekibiflaaa
