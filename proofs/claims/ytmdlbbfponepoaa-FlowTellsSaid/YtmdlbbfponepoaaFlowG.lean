/- Contracts of flow.Kept, flow.Round and of the reference's CKept. Conditions: the net and the numbers read as lists. -/
import Derived.Test.YtmdlbbfponepoaaFlowF
namespace Go.Proofs.Ytmdlbbfponepoaa
open Go.RowKit

theorem weigh_z {w : World} {A B : Option Addr} {n c m d : Nat} {ys ms : List Int} {z : Int} (h : Ints w A n c ys) (g : Ints w B m d ms) (hz : wrap64 (dotL ys ms) = z) :
    Calls Try.prog 16 #[.slice A n c, .slice B m d] w fun e w' => e = .returned (.int .i64 z) ∧ Drew w w' := by
  rw [← hz]; exact weigh_calls h g
theorem refWeigh_z {w : World} {A B : Option Addr} {n c m d : Nat} {ys ms : List Int} {z : Int} (h : Ints w A n c ys) (g : Ints w B m d ms) (hz : wrap64 (dotL ys ms) = z) :
    Calls Try.prog 17 #[.slice A n c, .slice B m d] w fun e w' => e = .returned (.int .i64 z) ∧ Drew w w' := by
  rw [← hz]; exact refWeigh_calls n _ _ _ _ _ _ _ _ _ (Nat.le_refl _) h g

def sameW (y : List Int) (t : PTran) : Bool := wrap64 (dotL y t.post) == wrap64 (dotL y t.pre)
theorem keptL_eq (N : PNet) (y : List Int) : keptL N y = (netOk N && boundB y N.places (-1000000) && N.trans.all (sameW y)) := rfl
theorem all_take {α : Type} {f : α → Bool} {ts : List α} {k : Nat} {t : α} (h : ts[k]? = some t) : (ts.take (k + 1)).all f = ((ts.take k).all f && f t) := by
  rw [take_snoc h, List.all_append]; simp
theorem all_not {α : Type} {f : α → Bool} {ts : List α} {k : Nat} {t : α} (h : ts[k]? = some t) (hf : f t = false) : ts.all f = false := by
  rw [List.all_eq_false]
  exact ⟨t, List.mem_iff_getElem?.2 ⟨k, h⟩, by simp [hf]⟩

set_option maxRecDepth 100000 in
set_option maxHeartbeats 1000000 in
theorem kept_calls {w : World} {P : Int} {A B : Option Addr} {n c m d : Nat} {ts : List PTran} {ys : List Int} (h : Trans w A n c ts) (g : Ints w B m d ys) :
    Calls Try.prog 18 #[.agg #[.int .i64 P, .slice A n c], .slice B m d] w fun e w' => e = .returned (.bool (keptL ⟨P, ts⟩ ys)) ∧ Below w.heap.size w w' := by
  have HB := hide2 (boxBelow w)
  have H := hide2 h
  have G := hide2 g
  have HL := hide2 h.len
  have hn := h.small
  clear h g
  by_cases hok : netOk ⟨P, ts⟩ = true
  · have W0 := hide2 (wrongNet_ok hok)
    have HO := hide2 hok
    clear hok
    go_enter Try.func18, Try.ntmps18
    go_wp2_with fail
    refine (netWrong_calls _ P A n c ts (H.out.keep (HB.out _))).mono ?_
    rw [W0.out]
    rintro e w1 ⟨rfl, hb⟩
    have B1 := hide2 ((HB.out (.cells #[.int .i64 P, .slice A n c] 24)).trans (hb.mono (by simp)))
    have hc0 : w1.cell? ⟨w.heap.size, 0, none⟩ = some (.int .i64 P) := (hb.cell (by simp)).trans (by simp)
    have hc1 : w1.cell? ⟨w.heap.size, 1, none⟩ = some (.slice A n c) := (hb.cell (by simp)).trans (by simp)
    have z1 : w.heap.size < w1.heap.size := by have := hb.size; simp at this; omega
    clear hb
    go_wp2_with fail
    refine (bounded_calls _ _ (G.out.keep B1.out)).mono ?_; rintro e w2 ⟨rfl, hb2⟩
    have B2 := hide2 (B1.out.trans (hb2.mono B1.out.size))
    have hd1 := (hb2.cell (p := ⟨w.heap.size, 1, none⟩) z1).trans hc1
    clear hb2 hc0 hc1
    cases hq : boundB ys P (-1000000)
    · have FIN := hide2 (show keptL ⟨P, ts⟩ ys = false from by rw [keptL_eq, hq]; simp)
      clear hq
      go_wp2
      go_ret
      exact ⟨ret_bool FIN.out.symm, B2.out⟩
    · have FIN := hide2 (show keptL ⟨P, ts⟩ ys = ts.all (sameW ys) from by rw [keptL_eq, hq, HO.out]; rfl)
      clear hq
      go_wp2
      go_loopw [20] (fun i wr => ∃ k : Nat, k ≤ n ∧ i = .int .i64 k ∧ Hid (Below w.heap.size w wr) ∧ Hid ((ts.take k).all (sameW ys) = true)) (fun i _ => n - (intOf i).toNat)
      case atStart => exact ⟨0, Nat.zero_le _, rfl, B2, by show _ = _; simp⟩
      case round =>
        obtain ⟨k, hk, rfl, hb, hall⟩ := hrel
        by_cases hlt : k < n
        · have hki : (k : Int) < (n : Int) := by omega
          obtain ⟨bl, off, t, A1, n1, c1, A2, n2, c2, rfl, hbl, ht, q0, q1, q2, i1, i2, m1, m2⟩ := Trans.get (H.out.keep hb.out) hlt
          have BX := hide2 (boxBelow wr (.cells #[.int .i64 t.label, .slice A1 n1 c1, .slice A2 n2 c2] 86))
          have GX := hide2 ((G.out.keep hb.out).keep BX.out)
          have I1 := hide2 (i1.keep BX.out)
          have I2 := hide2 (i2.keep BX.out)
          have BW := hide2 (hb.out.trans (BX.out.mono hb.out.size))
          clear i1 i2 BX
          obtain ⟨z1, hz1⟩ : ∃ z, wrap64 (dotL ys t.pre) = z := ⟨_, rfl⟩
          obtain ⟨z2, hz2⟩ : ∃ z, wrap64 (dotL ys t.post) = z := ⟨_, rfl⟩
          have Z1 := hide2 hz1
          have Z2 := hide2 hz2
          by_cases hzz : z1 = z2
          · subst hzz
            have F := hide2 (show (ts.take (k + 1)).all (sameW ys) = true by rw [all_take ht.out, hall.out, sameW, hz1, hz2]; simp)
            clear hz1 hz2
            go_wp2
            go_quiet (first
              | (go_at_call 16; exact quietCallD (weigh_z (GX.out.keep (Drew.drewN _ _).below) (I1.out.keep (Drew.drewN _ _).below) Z1.out))
              | (go_at_call 16; exact quietCallD (weigh_z (GX.out.keep (Drew.drewN _ _).below) (I2.out.keep (Drew.drewN _ _).below) Z2.out)))
            go_wp2
            go_roundw
            case rel => exact ⟨k + 1, by omega, by go_num, BW.out.trans ((Drew.drewN _ _).below.mono BW.out.size), F⟩
            case measure => simp [intOf]; omega
          · have hn1 : (z1 == z2) = false := by simpa using hzz
            have hn2 : (z1 != z2) = true := by simpa using hzz
            have FN := hide2 (show keptL ⟨P, ts⟩ ys = false by rw [FIN.out]; exact all_not ht.out (by rw [sameW, hz1, hz2]; simpa using fun e => hzz e.symm))
            clear hz1 hz2 hzz
            go_wp2
            go_quiet (first
              | (go_at_call 16; exact quietCallD (weigh_z (GX.out.keep (Drew.drewN _ _).below) (I1.out.keep (Drew.drewN _ _).below) Z1.out))
              | (go_at_call 16; exact quietCallD (weigh_z (GX.out.keep (Drew.drewN _ _).below) (I2.out.keep (Drew.drewN _ _).below) Z2.out)))
            go_wp2
            go_ret
            exact ⟨ret_bool FN.out.symm, BW.out.trans ((Drew.drewN _ _).below.mono BW.out.size)⟩
        · obtain rfl : k = n := by omega
          have FN := hide2 (show keptL ⟨P, ts⟩ ys = true by rw [FIN.out]; have := hall.out; rwa [List.take_of_length_le (by rw [HL.out]; exact Nat.le_refl _)] at this)
          go_wp2
          go_ret
          exact ⟨ret_bool FN.out.symm, hb.out⟩
  · have W0 := hide2 (wrongNet_not (by simpa using hok))
    have FIN := hide2 (show keptL ⟨P, ts⟩ ys = false from by rw [keptL_eq, show netOk ⟨P, ts⟩ = false by simpa using hok]; rfl)
    clear hok
    go_enter Try.func18, Try.ntmps18
    go_wp2_with fail
    refine (netWrong_calls _ P A n c ts (H.out.keep (HB.out _))).mono ?_
    rw [W0.out]
    rintro e w1 ⟨rfl, hb⟩
    have B1 := hide2 ((HB.out (.cells #[.int .i64 P, .slice A n c] 24)).trans (hb.mono (by simp)))
    clear hb
    go_wp2
    go_ret
    exact ⟨ret_bool FIN.out.symm, B1.out⟩

theorem nonzero_pred (w : World) : IsPred 68 #[] w (fun x => x != 0) where
  enters := fun args w => by kernel_rfl
  calls := fun x => by
    go_enter Try.func68, Try.ntmps68
    go_wp2
    go_ret
    exact ⟨ret_bool (by simp [bne, Bool.beq_eq_decide_eq]), rfl⟩
theorem any_ne (l : List Int) : (!l.any fun x => x != 0) = l.all (· == 0) := by
  induction l with
  | nil => rfl
  | cons x l ih => simp only [List.any_cons, List.all_cons, Bool.not_or, ih]; simp [bne]

set_option maxRecDepth 100000 in
theorem round_calls {w : World} {P : Int} {A B : Option Addr} {n c m d : Nat} {ts : List PTran} {cs : List Int} (h : Trans w A n c ts) (g : Ints w B m d cs) :
    Calls Try.prog 20 #[.agg #[.int .i64 P, .slice A n c], .slice B m d] w fun e w' => e = .returned (.bool (roundL ⟨P, ts⟩ cs)) ∧ Below w.heap.size w w' := by
  have HB := hide2 (boxBelow w)
  obtain ⟨p, hp⟩ : ∃ p, effectL ⟨P, ts⟩ cs = p := ⟨_, rfl⟩
  have FIN := hide2 (show roundL ⟨P, ts⟩ cs = (p.2 == 0 && p.1.all (· == 0)) by rw [roundL, hp])
  have H := hide2 h
  have G := hide2 g
  have HP := hide2 hp
  clear h g hp
  go_enter Try.func20, Try.ntmps20
  go_wp2_with fail
  refine (effect_calls (P := P) (H.out.keep (HB.out _)) (G.out.keep (HB.out _))).mono ?_
  rw [HP.out]
  rintro e w1 ⟨C1, l1, k1, rfl, i1, b1⟩
  have I1 := hide2 i1
  have B1 := hide2 ((HB.out (.cells #[.int .i64 P, .slice A n c] 24)).trans (b1.mono (by simp)))
  clear i1 b1
  by_cases hz : p.2 = 0
  · have F2 := hide2 (show roundL ⟨P, ts⟩ cs = !(p.1.any fun x => x != 0) by rw [FIN.out, hz, any_ne]; rfl)
    rw [hz]
    clear hz
    go_wp2_with fail
    refine (containsFuncInts I1.out (nonzero_pred _)).mono ?_; rintro e w' ⟨rfl, rfl⟩
    go_wp2
    go_ret
    exact ⟨ret_bool F2.out.symm, B1.out⟩
  · have F2 := hide2 (show roundL ⟨P, ts⟩ cs = false by rw [FIN.out, show (p.2 == 0) = false by simpa using hz]; rfl)
    have hne : (p.2 == 0) = false := by simpa using hz
    clear hz
    go_wp2
    go_ret
    exact ⟨ret_bool F2.out.symm, B1.out⟩
end Go.Proofs.Ytmdlbbfponepoaa
