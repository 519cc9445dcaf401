/- The contract of the reference's CKept, and the law FlowTells as a call: it returns true. Conditions: the net and the numbers read as lists. -/
import Derived.Test.YtmdlbbfponepoaaFlowG
import Derived.Test.YtmdlbbfponepoaaFlowD
namespace Go.Proofs.Ytmdlbbfponepoaa
open Go.RowKit

theorem mixL_nil (t : Int) : mixL [] [] t = [] := rfl
theorem mixL_cons (x y : Int) (a b : List Int) (t : Int) : mixL (x :: a) (y :: b) t = (x + t * y) :: mixL a b t := by
  unfold mixL
  have e : max (x :: a).length (y :: b).length = max a.length b.length + 1 := by simp only [List.length_cons]; omega
  rw [e, List.range_succ_eq_map]
  simp only [List.map_cons, List.map_map]
  congr 1
theorem dotL_mix {y a b : List Int} (h : a.length = b.length) : dotL y (mixL a b (-1)) = dotL y a - dotL y b := by
  induction y generalizing a b with
  | nil => simp [dotL]
  | cons y ys ih =>
    cases a with
    | nil =>
      have : b = [] := List.eq_nil_of_length_eq_zero h.symm
      subst this
      simp [mixL_nil, dotL]
    | cons x a =>
      cases b with
      | nil => simp at h
      | cons z b =>
        rw [mixL_cons]
        simp only [dotL]
        rw [ih (by simpa using h), Int.mul_add, Int.neg_mul, Int.one_mul, Int.mul_neg]
        omega
theorem sameW_mix {y : List Int} {t : PTran} (h : t.pre.length = t.post.length) : sameW y t = (wrap64 (dotL y (mixL t.post t.pre (-1))) == 0) := by
  rw [dotL_mix h.symm, sameW, Bool.eq_iff_iff]
  simp only [beq_iff_eq]
  exact (wrap_sub_zero _ _).symm

set_option maxRecDepth 100000 in
set_option maxHeartbeats 1000000 in
theorem refKept_calls {w : World} {P : Int} {A B : Option Addr} {n c m d : Nat} {ts : List PTran} {ys : List Int} (h : Trans w A n c ts) (g : Ints w B m d ys) :
    Calls Try.prog 19 #[.agg #[.int .i64 P, .slice A n c], .slice B m d] w fun e w' => e = .returned (.bool (keptL ⟨P, ts⟩ ys)) ∧ Below w.heap.size w w' := by
  have HB := hide2 (boxBelow w)
  have H := hide2 h
  have G := hide2 g
  have HL := hide2 h.len
  have hn := h.small
  clear h g
  by_cases hok : netOk ⟨P, ts⟩ = true
  · have W0 := hide2 (wrongNet_ok hok)
    have HO := hide2 hok
    clear hok
    have hp16 : P ≤ 16 := by have := ((netOk_iff _).1 HO.out).2.1; simp only [] at this; omega
    have hp0 : 0 ≤ P := by have := ((netOk_iff _).1 HO.out).1; simp only [] at this; omega
    go_enter Try.func19, Try.ntmps19
    go_wp2_with fail
    refine (refWrong_calls _ P A n c ts (H.out.keep (HB.out _))).mono ?_
    rw [W0.out]
    rintro e w1 ⟨rfl, hb⟩
    have B1 := hide2 ((HB.out (.cells #[.int .i64 P, .slice A n c] 24)).trans (hb.mono (by simp)))
    have hc0 : w1.cell? ⟨w.heap.size, 0, none⟩ = some (.int .i64 P) := (hb.cell (by simp)).trans (by simp)
    have hc1 : w1.cell? ⟨w.heap.size, 1, none⟩ = some (.slice A n c) := (hb.cell (by simp)).trans (by simp)
    clear hb
    go_wp2_with fail
    refine (within_calls _ _ (G.out.keep B1.out)).mono ?_; rintro e w' ⟨rfl, rfl⟩
    obtain ⟨q, hq⟩ : ∃ q, boundB ys P (-1000000) = q := ⟨_, rfl⟩
    have FIN := hide2 (show keptL ⟨P, ts⟩ ys = (q && ts.all (sameW ys)) from by rw [keptL_eq, hq, HO.out]; rfl)
    rw [hq]
    clear hq
    go_wp2
    go_loopw [5, 20] (fun v i wr => ∃ k : Nat, k ≤ n ∧ i = .int .i64 k ∧ (∃ b : Bool, v = .bool b ∧ Hid (b = (q && (ts.take k).all (sameW ys)))) ∧ Hid (Below w.heap.size w wr)) (fun _ i _ => n - (intOf i).toNat)
    case atStart => exact ⟨0, Nat.zero_le _, rfl, ⟨q, rfl, by show _ = _; simp⟩, B1⟩
    case round =>
      obtain ⟨k, hk, rfl, ⟨b, rfl, hv⟩, hb⟩ := hrel
      by_cases hlt : k < n
      · have hki : (k : Int) < (n : Int) := by omega
        obtain ⟨bl, off, t, A1, n1, c1, A2, n2, c2, rfl, hbl, ht, q0, q1, q2, i1, i2, m1, m2⟩ := Trans.get (H.out.keep hb.out) hlt
        have hT := hide2 (netOk_tran HO.out ht.out)
        have BX := hide2 (boxBelow wr (.cells #[.int .i64 t.label, .slice A1 n1 c1, .slice A2 n2 c2] 86))
        have BW := hide2 (hb.out.trans (BX.out.mono hb.out.size))
        have F := hide2 (show ∀ b' : Bool, b' = (b && sameW ys t) → b' = (q && (ts.take (k + 1)).all (sameW ys)) from fun b' e => by
          rw [e, all_take ht.out, hv.out, Bool.and_assoc])
        cases b
        · clear i1 i2
          go_wp2
          go_roundw
          case rel => exact ⟨k + 1, by omega, by go_num, ⟨false, rfl, F.out _ rfl⟩, BW⟩
          case measure => simp [intOf]; omega
        · have e1 : (n1 : Int) = P := by have := hT.out.2.2.1; rw [i1.len] at this; exact this
          have e2 : (n2 : Int) = P := by have := hT.out.2.2.2.1; rw [i2.len] at this; exact this
          have hM : max n2 n1 * 8 ≤ 140737488355328 := by omega
          have GX := hide2 ((G.out.keep hb.out).keep BX.out)
          have I1 := hide2 (i1.keep BX.out)
          have I2 := hide2 (i2.keep BX.out)
          have SW := hide2 (sameW_mix (y := ys) (t := t) (by rw [i1.len, i2.len]; omega))
          have S1 := hide2 (SmallL.of_right (any_badW_right hT.out.2.2.2.2.1))
          have S2 := hide2 (SmallL.of_right (any_badW_right hT.out.2.2.2.2.2))
          clear i1 i2 e1 e2
          go_wp2_with fail
          refine (mix_calls I2.out I1.out (-1) (.inr rfl) S2.out S1.out hM).mono ?_
          rintro e w2 ⟨C, kk, rfl, hi, hb2⟩
          have B2 := hide2 (BW.out.trans (hb2.mono BW.out.size))
          have GY := hide2 (GX.out.keep hb2)
          have HI := hide2 hi
          clear hi hb2
          obtain ⟨z, hz⟩ : ∃ z, wrap64 (dotL ys (mixL t.post t.pre (-1))) = z := ⟨_, rfl⟩
          have Z := hide2 hz
          go_wp2_with fail
          refine (refWeigh_z GY.out HI.out Z.out).mono ?_
          rintro e w3 ⟨rfl, hd⟩
          have B3 := hide2 (B2.out.trans (hd.below.mono B2.out.size))
          rw [hz] at SW
          clear hd hz
          go_wp2
          go_roundw
          case rel => exact ⟨k + 1, by omega, by go_num, ⟨_, rfl, F.out _ (by rw [SW.out]; simp [Bool.beq_eq_decide_eq])⟩, B3⟩
          case measure => simp [intOf]; omega
      · obtain rfl : k = n := by omega
        have FN := hide2 (show b = keptL ⟨P, ts⟩ ys by rw [FIN.out, hv.out, List.take_of_length_le (by rw [HL.out]; exact Nat.le_refl _)])
        go_wp2
        go_ret
        exact ⟨ret_bool FN.out, hb.out⟩
  · have W0 := hide2 (wrongNet_not (by simpa using hok))
    have FIN := hide2 (show keptL ⟨P, ts⟩ ys = false from by rw [keptL_eq, show netOk ⟨P, ts⟩ = false by simpa using hok]; rfl)
    clear hok
    go_enter Try.func19, Try.ntmps19
    go_wp2_with fail
    refine (refWrong_calls _ P A n c ts (H.out.keep (HB.out _))).mono ?_
    rw [W0.out]
    rintro e w1 ⟨rfl, hb⟩
    have B1 := hide2 ((HB.out (.cells #[.int .i64 P, .slice A n c] 24)).trans (hb.mono (by simp)))
    have hc1 : w1.cell? ⟨w.heap.size, 1, none⟩ = some (.slice A n c) := (hb.cell (by simp)).trans (by simp)
    clear hb
    go_wp2
    go_loopw [5, 20] (fun v i wr => ∃ k : Nat, k ≤ n ∧ i = .int .i64 k ∧ v = .bool false ∧ Hid (Below w.heap.size w wr)) (fun _ i _ => n - (intOf i).toNat)
    case atStart => exact ⟨0, Nat.zero_le _, rfl, rfl, B1⟩
    case round =>
      obtain ⟨k, hk, rfl, rfl, hb⟩ := hrel
      by_cases hlt : k < n
      · have hki : (k : Int) < (n : Int) := by omega
        obtain ⟨bl, off, t, A1, n1, c1, A2, n2, c2, rfl, hbl, ht, q0, q1, q2, i1, i2, m1, m2⟩ := Trans.get (H.out.keep hb.out) hlt
        have BX := hide2 (boxBelow wr (.cells #[.int .i64 t.label, .slice A1 n1 c1, .slice A2 n2 c2] 86))
        have BW := hide2 (hb.out.trans (BX.out.mono hb.out.size))
        clear i1 i2
        go_wp2
        go_roundw
        case rel => exact ⟨k + 1, by omega, by go_num, rfl, BW⟩
        case measure => simp [intOf]; omega
      · go_wp2
        go_ret
        exact ⟨ret_bool FIN.out.symm, hb.out⟩

set_option maxRecDepth 100000 in
set_option maxHeartbeats 4000000 in
theorem flowTells_walk {w : World} (P : Int) {A B C D : Option Addr} {n c m d l e0 r s : Nat} {ts : List PTran} {sq cs ys : List Int} (h : Trans w A n c ts) (hn : n ≤ 2513169434916) (g1 : Ints w B m d sq) (_ : m ≤ 17592186044416) (g2 : Ints w C l e0 cs) (_ : l ≤ 17592186044416) (g3 : Ints w D r s ys) (_ : r ≤ 17592186044416) :
    Calls Try.prog 3 #[.agg #[.int .i64 P, .slice A n c], .slice B m d, .slice C l e0, .slice D r s] w fun e w' => e = .returned (.bool true) ∧ Below w.heap.size w w' := by
  have H := hide2 h
  have G1 := hide2 g1
  have G2 := hide2 g2
  have G3 := hide2 g3
  have HB := hide2 (boxBelow w)
  obtain ⟨p, hp⟩ : ∃ p, effectL ⟨P, ts⟩ cs = p := ⟨_, rfl⟩
  obtain ⟨kb, hkb⟩ : ∃ b, keptL ⟨P, ts⟩ ys = b := ⟨_, rfl⟩
  obtain ⟨rb, hrb⟩ : ∃ b, roundL ⟨P, ts⟩ cs = b := ⟨_, rfl⟩
  obtain ⟨z, hz⟩ : ∃ z, wrap64 (dotL ys sq) = z := ⟨_, rfl⟩
  have RB := hide2 (show rb = (p.2 == 0 && p.1.all (· == 0)) by rw [← hrb, roundL, hp])
  have HP := hide2 hp
  have KB := hide2 hkb
  have HR := hide2 hrb
  have HZ := hide2 hz
  clear hp hkb hrb hz h g1 g2 g3
  go_enter Try.func3, Try.ntmps3
  go_wp2_with fail
  refine (effect_calls (P := P) (H.out.keep (HB.out _)) (G2.out.keep (HB.out _))).mono ?_
  rw [HP.out]
  rintro e w1 ⟨C1, l1, k1, rfl, i1, b1⟩
  have I1 := hide2 i1
  have B1 := hide2 ((HB.out (.cells #[.int .i64 P, .slice A n c] 24)).trans (b1.mono (by simp)))
  have c10 : w1.cell? ⟨w.heap.size, 0, none⟩ = some (.int .i64 P) := (b1.cell (by simp)).trans (by simp)
  have c11 : w1.cell? ⟨w.heap.size, 1, none⟩ = some (.slice A n c) := (b1.cell (by simp)).trans (by simp)
  have z1 : w.heap.size < w1.heap.size := by have := b1.size; simp at this; omega
  clear i1 b1
  go_wp2_with fail
  refine (refEffect_calls (P := P) (H.out.keep B1.out) (G2.out.keep B1.out)).mono ?_
  rw [HP.out]
  rintro e w2 ⟨C2, l2, k2, rfl, i2, b2⟩
  have I2 := hide2 i2
  have I1' := hide2 (I1.out.keep b2)
  have B2 := hide2 (B1.out.trans (b2.mono B1.out.size))
  have c20 := (b2.cell (p := ⟨w.heap.size, 0, none⟩) z1).trans c10
  have c21 := (b2.cell (p := ⟨w.heap.size, 1, none⟩) z1).trans c11
  have z2 : w.heap.size < w2.heap.size := Nat.lt_of_lt_of_le z1 b2.size
  clear i2 b2 c10 c11 I1
  have hl2 := I2.out.small
  go_wp2
  go_loop [13, 32] (fun v i => ∃ k : Nat, k ≤ l2 ∧ i = .int .i64 k ∧ ∃ b : Bool, v = .bool b ∧ Hid (b = (p.2 == 0 && (p.1.take k).all (· == 0)))) (fun _ i => l2 - (intOf i).toNat)
  case atStart => exact ⟨0, Nat.zero_le _, rfl, _, rfl, by show _ = _; simp [Bool.beq_eq_decide_eq]⟩
  case round =>
    obtain ⟨k, hk, rfl, b, rfl, hv⟩ := hrel
    by_cases hlt : k < l2
    · have hki : (k : Int) < (l2 : Int) := by omega
      obtain ⟨bl, off, x, rfl, hbl, hx, hc⟩ := I2.out.get hlt
      have F := hide2 (show ∀ b' : Bool, b' = (b && x == 0) → b' = (p.2 == 0 && (p.1.take (k + 1)).all (· == 0)) from fun b' e => by
        rw [e, all_take hx.out, hv.out, Bool.and_assoc])
      clear hv
      cases b
      · go_wp2
        go_round
        case rel => exact ⟨k + 1, by omega, by go_num, false, rfl, F.out _ rfl⟩
        case measure => simp [intOf]; omega
      · go_wp2
        go_round
        case rel => exact ⟨k + 1, by omega, by go_num, _, rfl, F.out _ (by simp [Bool.beq_eq_decide_eq])⟩
        case measure => simp [intOf]; omega
    · obtain rfl : k = l2 := by omega
      obtain rfl : b = rb := by rw [RB.out, hv.out, List.take_of_length_le (by rw [I2.out.len]; exact Nat.le_refl _)]
      clear hv RB
      have d0 : w2.drew.cell? ⟨w.heap.size, 0, none⟩ = some (.int .i64 P) := c20
      have d1 : w2.drew.cell? ⟨w.heap.size, 1, none⟩ = some (.slice A n c) := c21
      have D2 := hide2 (B2.out.trans ((Below.refl _ _).drew : Below w.heap.size w2 w2.drew))
      have D0 := hide2 ((Below.refl _ _).drew : Below w2.heap.size w2 w2.drew)
      have J1 := hide2 (I1'.out.keep D0.out)
      have J2 := hide2 (I2.out.keep D0.out)
      have C20 := hide2 d0
      have C21 := hide2 d1
      have z2' : w.heap.size < w2.drew.heap.size := z2
      clear d0 d1 I1' I2
      go_wp2_with fail
      go_region_held3 (fun w' => w'.cell? ⟨w.heap.size, 0, none⟩ = some (.int .i64 P) ∧ w'.cell? ⟨w.heap.size, 1, none⟩ = some (.slice A n c))
        (first | go_keep)
        (first
          | (go_at_call 14; (with_reducible refine (count_calls (P := P) (A := A) (c := c) hn (G1.out.keep D2.out)).mono ?_); rintro e w3 ⟨C3, k3, rfl, i3, hb⟩; have I3 := hide2 i3; have F3 := hide2 hb; have x0 := (F3.out.cell (p := ⟨w.heap.size, 0, none⟩) z2').trans C20.out; have x1 := (F3.out.cell (p := ⟨w.heap.size, 1, none⟩) z2').trans C21.out; clear hb i3)
          | (go_at_call 15; (with_reducible refine (refCount_calls (P := P) (A := A) (c := c) hn (G1.out.keep (D2.out.trans (F3.out.mono D2.out.size)))).mono ?_); rintro e w4 ⟨C4, k4, rfl, i4, hb⟩; have I4 := hide2 i4; have I3' := hide2 (I3.out.keep hb); have F4 := hide2 (F3.out.trans (hb.mono F3.out.size)); have y0 := (F4.out.cell (p := ⟨w.heap.size, 0, none⟩) z2').trans C20.out; have y1 := (F4.out.cell (p := ⟨w.heap.size, 1, none⟩) z2').trans C21.out; clear hb i4)
          | (go_at_call 13; (with_reducible refine (equalInts_calls I3'.out I4.out).mono ?_); rintro e w5 ⟨rfl, hd⟩; rw [beq_self_eq_true]; have F5 := hide2 (F4.out.trans (hd.below.mono F4.out.size)); have u0 := (F5.out.cell (p := ⟨w.heap.size, 0, none⟩) z2').trans C20.out; have u1 := (F5.out.cell (p := ⟨w.heap.size, 1, none⟩) z2').trans C21.out; clear hd)
          | (go_at_call 13; (with_reducible refine (equalInts_calls (J1.out.keep F5.out) (J2.out.keep F5.out)).mono ?_); rintro e w6 ⟨rfl, hd⟩; rw [beq_self_eq_true]; have F6 := hide2 (F5.out.trans (hd.below.mono F5.out.size)); have v0 := (F6.out.cell (p := ⟨w.heap.size, 0, none⟩) z2').trans C20.out; have v1 := (F6.out.cell (p := ⟨w.heap.size, 1, none⟩) z2').trans C21.out; clear hd)
          | (go_at_call 16; (with_reducible refine (weigh_z (G3.out.keep (D2.out.trans (F6.out.mono D2.out.size))) (G1.out.keep (D2.out.trans (F6.out.mono D2.out.size))) HZ.out).mono ?_); rintro e w7 ⟨rfl, hd⟩; have F7 := hide2 (F6.out.trans (hd.below.mono F6.out.size)); have a0 := (F7.out.cell (p := ⟨w.heap.size, 0, none⟩) z2').trans C20.out; have a1 := (F7.out.cell (p := ⟨w.heap.size, 1, none⟩) z2').trans C21.out; clear hd)
          | (go_at_call 17; (with_reducible refine (refWeigh_z (G3.out.keep (D2.out.trans (F7.out.mono D2.out.size))) (G1.out.keep (D2.out.trans (F7.out.mono D2.out.size))) HZ.out).mono ?_); rintro e w8 ⟨rfl, hd⟩; have F8 := hide2 (F7.out.trans (hd.below.mono F7.out.size)); have b0 := (F8.out.cell (p := ⟨w.heap.size, 0, none⟩) z2').trans C20.out; have b1 := (F8.out.cell (p := ⟨w.heap.size, 1, none⟩) z2').trans C21.out; clear hd)
          | (go_at_call 18; (with_reducible refine (kept_calls (P := P) (H.out.keep (D2.out.trans (F8.out.mono D2.out.size))) (G3.out.keep (D2.out.trans (F8.out.mono D2.out.size)))).mono ?_); rw [KB.out]; rintro e w9 ⟨rfl, hb⟩; have F9 := hide2 (F8.out.trans (hb.mono F8.out.size)); have e0 := (F9.out.cell (p := ⟨w.heap.size, 0, none⟩) z2').trans C20.out; have e1 := (F9.out.cell (p := ⟨w.heap.size, 1, none⟩) z2').trans C21.out; clear hb)
          | (go_at_call 19; (with_reducible refine (refKept_calls (P := P) (H.out.keep (D2.out.trans (F9.out.mono D2.out.size))) (G3.out.keep (D2.out.trans (F9.out.mono D2.out.size)))).mono ?_); rw [KB.out]; rintro e w10 ⟨rfl, hb⟩; have F10 := hide2 (F9.out.trans (hb.mono F9.out.size)); have f0 := (F10.out.cell (p := ⟨w.heap.size, 0, none⟩) z2').trans C20.out; have f1 := (F10.out.cell (p := ⟨w.heap.size, 1, none⟩) z2').trans C21.out; clear hb)
          | (go_at_call 20; (with_reducible refine (round_calls (P := P) (H.out.keep (D2.out.trans (F10.out.mono D2.out.size))) (G2.out.keep (D2.out.trans (F10.out.mono D2.out.size)))).mono ?_); rw [HR.out]; rintro e w11 ⟨rfl, hb⟩; have F11 := hide2 (F10.out.trans (hb.mono F10.out.size)); have g0 := (F11.out.cell (p := ⟨w.heap.size, 0, none⟩) z2').trans C20.out; have g1 := (F11.out.cell (p := ⟨w.heap.size, 1, none⟩) z2').trans C21.out; clear hb))
      all_goals
        go_wp2_with fail
        go_ret
        exact ⟨by first | rfl | simp, D2.out.trans (F11.out.mono D2.out.size)⟩
end Go.Proofs.Ytmdlbbfponepoaa
