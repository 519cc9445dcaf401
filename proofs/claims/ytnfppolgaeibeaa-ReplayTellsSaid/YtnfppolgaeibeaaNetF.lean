/- Contracts of net.Fire and BFire. Conditions: the net and the mark read as lists. | The contract of BFire. Conditions: the net and the mark read as lists. -/
import Derived.Test.YtnfppolgaeibeaaNetD
import Derived.Deep.RegionHeld3
namespace Go.Proofs.Ytnfppolgaeibeaa
open Go.RowKit

theorem max_small {n m : Nat} (h1 : n ≤ 16) (h2 : m ≤ 16) : max n m * 8 ≤ 140737488355328 := by omega

set_option maxRecDepth 100000 in
set_option maxHeartbeats 1000000 in
theorem fireF_calls {w : World} {P : Int} {A B : Option Addr} {n c m d : Nat} {ts : List PTran} {xs : List Int} (h : Trans w A n c ts) (g : Ints w B m d xs) (t : Int) :
    Calls Try.prog 134 #[.agg #[.int .i64 P, .slice A n c], .slice B m d, .int .i64 t] w (AnsIEF (fireL ⟨P, ts⟩ xs t) w) := by
  have HB := hide2 (boxBelow w)
  have hns := h.small
  have G := hide2 g
  have H := hide2 h
  have HL := hide2 h.len
  clear g h
  cases hok : fitsB ⟨P, ts⟩ xs
  · have W0 := hide2 (fitsE_not hok)
    have FIN := hide2 (show fireL ⟨P, ts⟩ xs t = ([], 2) from by rw [fireL, hok]; rfl)
    clear hok
    go_enter Try.func134, Try.ntmps134
    go_wp2_with fail
    refine (netFits_calls (P := P) (H.out.keep (HB.out _)) (G.out.keep (HB.out _))).mono ?_
    rw [W0.out]
    rintro e w1 ⟨rfl, hb⟩
    have B1 := hide2 ((HB.out (.cells #[.int .i64 P, .slice A n c] 27)).trans (hb.mono (by simp)))
    clear hb
    go_wp2
    go_ret2
    exact ⟨none, 0, 0, by rw [FIN.out]; rfl, by rw [FIN.out]; exact Sl.nil0, B1.out, Fresh.none⟩
  · have W0 := hide2 (fitsE_ok hok)
    have FIN := hide2 (show fireL ⟨P, ts⟩ xs t = if 0 ≤ t ∧ t < (ts.length : Int) then fireT xs (ts.getD t.toNat default) else ([], 3) from by rw [fireL, if_pos hok])
    have FB := hide2 ((fitsB_iff _ _).1 hok)
    clear hok
    go_enter Try.func134, Try.ntmps134
    go_wp2_with fail
    refine (netFits_calls (P := P) (H.out.keep (HB.out _)) (G.out.keep (HB.out _))).mono ?_
    rw [W0.out]
    rintro e w1 ⟨rfl, hb⟩
    have B1 := hide2 ((HB.out (.cells #[.int .i64 P, .slice A n c] 27)).trans (hb.mono (by simp)))
    have hc1 : w1.cell? ⟨w.heap.size, 1, none⟩ = some (.slice A n c) := (hb.cell (by simp)).trans (by simp)
    have hsz : w.heap.size < w1.heap.size := by have := hb.size; simp at this; omega
    have H1 := hide2 (H.out.keep B1.out)
    have G1 := hide2 (G.out.keep B1.out)
    clear hb
    by_cases ht : 0 ≤ t ∧ t < (n : Int)
    · obtain ⟨k, rfl⟩ := Int.eq_ofNat_of_zero_le ht.1
      have hlt : k < n := by omega
      clear ht
      obtain ⟨bl, off, tr, A1, n1, c1, A2, n2, c2, rfl, hbl, ht, q0, q1, q2, i1, i2, m1, m2⟩ := Trans.get H1.out hlt
      have hok := netOk_tran FB.out.1 (k := k) (t := tr) ht.out
      have hr1 := any_badW_right hok.2.2.2.2.1
      have hr2 := any_badW_right hok.2.2.2.2.2
      have hP := ((netOk_iff _).1 FB.out.1).2.1
      have hn1 : n1 ≤ 16 := by have := hok.2.2.1; rw [i1.len] at this; simp only [] at this hP; omega
      have hn2 : n2 ≤ 16 := by have := hok.2.2.2.1; rw [i2.len] at this; simp only [] at this hP; omega
      have hm : m ≤ 16 := by have := FB.out.2.1; rw [G.out.len] at this; simp only [] at this hP; omega
      have FIN2 := hide2 (show fireL ⟨P, ts⟩ xs (k : Int) = fireT xs tr from by
        rw [FIN.out, if_pos (by rw [HL.out]; omega)]
        have : ts.getD (k : Int).toNat default = tr := by
          have := ht.out
          simp [this]
        rw [this])
      have I2 := hide2 i2
      have hk0 : (0 : Int) ≤ (k : Int) := by omega
      have hkn : (k : Int) < (n : Int) := by omega
      have MC := hide2 (minusL_covers FB.out.2.2 hr1)
      have PF := hide2 (plus_minus_fire (t := tr) FB.out.2.2 hr1 hr2)
      have R1 := hide2 i1
      clear hok hr1 hr2 i2 i1 hP
      go_wp2_with fail
      refine (minus_calls G1.out R1.out (max_small hm hn1)).mono ?_
      rw [MC.out]
      rintro e w2 ⟨C, l, kk, rfl, hi, hb⟩
      cases hc : coversB xs tr.pre
      · have FIN3 := hide2 (show fireL ⟨P, ts⟩ xs (k : Int) = ([], 3) from by rw [FIN2.out, fireT, hc]; rfl)
        have B2 := hide2 (B1.out.trans (hb.mono B1.out.size))
        clear hc hi hb
        simp only [Bool.false_eq_true, if_false]
        go_wp2
        go_ret2
        exact ⟨none, 0, 0, by rw [FIN3.out]; rfl, by rw [FIN3.out]; exact Sl.nil0, B2.out, Fresh.none⟩
      · rw [hc] at hi
        simp only [if_true] at hi ⊢
        have hl : l ≤ 16 := by have := hi.len; rw [mixL_length, G.out.len, R1.out.len] at this; omega
        have PF2 := hide2 (PF.out hc)
        have hc1' := (hb.cell (p := ⟨w.heap.size, 1, none⟩) hsz).trans hc1
        have q2' := (hb.cell (p := ⟨bl, off + k * 3 + 2, none⟩) hbl).trans q2
        have I2' := hide2 (I2.out.keep hb)
        have HI := hide2 hi
        have HB2 := hide2 (B1.out.trans (hb.mono B1.out.size))
        clear hc hi hb
        go_wp2_with fail
        refine (plusF_calls HI.out I2'.out (max_small hl hn2)).mono ?_
        rw [PF2.out]
        rintro e w3 ⟨C3, l3, k3, rfl, hi3, hb3, hf3⟩
        have B3 := hide2 (HB2.out.trans (hb3.mono HB2.out.size))
        have HI3 := hide2 hi3
        have HF3 := hide2 (hf3.mono HB2.out.size)
        clear hi3 hb3 hf3
        go_wp2
        go_ret2
        exact ⟨C3, l3, k3, by rw [FIN2.out]; rfl, by rw [FIN2.out]; exact HI3.out, B3.out, HF3.out⟩
    · have FIN2 := hide2 (show fireL ⟨P, ts⟩ xs t = ([], 3) from by rw [FIN.out, if_neg (by rw [HL.out]; exact ht)])
      by_cases h0 : t < 0
      · go_wp2
        go_ret2
        exact ⟨none, 0, 0, by rw [FIN2.out]; rfl, by rw [FIN2.out]; exact Sl.nil0, B1.out, Fresh.none⟩
      · have h1 : (n : Int) ≤ t := by omega
        clear ht
        go_wp2
        go_ret2
        exact ⟨none, 0, 0, by rw [FIN2.out]; rfl, by rw [FIN2.out]; exact Sl.nil0, B1.out, Fresh.none⟩
theorem fire_calls {w : World} {P : Int} {A B : Option Addr} {n c m d : Nat} {ts : List PTran} {xs : List Int} (h : Trans w A n c ts) (g : Ints w B m d xs) (t : Int) :
    Calls Try.prog 134 #[.agg #[.int .i64 P, .slice A n c], .slice B m d, .int .i64 t] w (AnsIE (fireL ⟨P, ts⟩ xs t) w) := (fireF_calls h g t).mono fun _ _ => AnsIEF.ie
end Go.Proofs.Ytnfppolgaeibeaa
namespace Go.Proofs.Ytnfppolgaeibeaa
open Go.RowKit

theorem SmallL.mix {xs ys : List Int} (h1 : rightB xs = true) (h2 : rightB ys = true) : SmallL (mixL xs ys (-1)) := fun p => by
  by_cases hp : p < max xs.length ys.length
  · rw [atL_some (mixL_get hp)]
    have := atL_right h1 p
    have := atL_right h2 p
    omega
  · rw [atL_none (by rw [mixL_length]; omega)]; omega

set_option maxRecDepth 100000 in
set_option maxHeartbeats 1000000 in
theorem refFire_calls {w : World} {P : Int} {A B : Option Addr} {n c m d : Nat} {ts : List PTran} {xs : List Int} (h : Trans w A n c ts) (g : Ints w B m d xs) (t : Int) :
    Calls Try.prog 113 #[.agg #[.int .i64 P, .slice A n c], .slice B m d, .int .i64 t] w (AnsIE (fireL ⟨P, ts⟩ xs t) w) := by
  have HB := hide2 (boxBelow w)
  have hns := h.small
  have G := hide2 g
  have H := hide2 h
  have HL := hide2 h.len
  clear g h
  cases hok : fitsB ⟨P, ts⟩ xs
  · have W0 := hide2 hok
    have FIN := hide2 (show fireL ⟨P, ts⟩ xs t = ([], 2) from by rw [fireL, hok]; rfl)
    clear hok
    go_enter Try.func113, Try.ntmps113
    go_wp2_with fail
    refine (refFits_calls (P := P) (H.out.keep (HB.out _)) (G.out.keep (HB.out _))).mono ?_
    rw [W0.out]
    rintro e w1 ⟨rfl, hb⟩
    have B1 := hide2 ((HB.out (.cells #[.int .i64 P, .slice A n c] 27)).trans (hb.mono (by simp)))
    clear hb
    go_wp2
    go_ret2
    exact ⟨none, 0, 0, by rw [FIN.out]; rfl, by rw [FIN.out]; exact Sl.nil0, B1.out⟩
  · have W0 := hide2 hok
    have FIN := hide2 (show fireL ⟨P, ts⟩ xs t = if 0 ≤ t ∧ t < (ts.length : Int) then fireT xs (ts.getD t.toNat default) else ([], 3) from by rw [fireL, if_pos hok])
    have FB := hide2 ((fitsB_iff _ _).1 hok)
    clear hok
    go_enter Try.func113, Try.ntmps113
    go_wp2_with fail
    refine (refFits_calls (P := P) (H.out.keep (HB.out _)) (G.out.keep (HB.out _))).mono ?_
    rw [W0.out]
    rintro e w1 ⟨rfl, hb⟩
    have B1 := hide2 ((HB.out (.cells #[.int .i64 P, .slice A n c] 27)).trans (hb.mono (by simp)))
    have hc1 : w1.cell? ⟨w.heap.size, 1, none⟩ = some (.slice A n c) := (hb.cell (by simp)).trans (by simp)
    have hsz : w.heap.size < w1.heap.size := by have := hb.size; simp at this; omega
    have H1 := hide2 (H.out.keep B1.out)
    have G1 := hide2 (G.out.keep B1.out)
    clear hb
    by_cases ht : 0 ≤ t ∧ t < (n : Int)
    · obtain ⟨k, rfl⟩ := Int.eq_ofNat_of_zero_le ht.1
      have hlt : k < n := by omega
      clear ht
      obtain ⟨bl, off, tr, A1, n1, c1, A2, n2, c2, rfl, hbl, ht, q0, q1, q2, i1, i2, m1, m2⟩ := Trans.get H1.out hlt
      have hok := netOk_tran FB.out.1 (k := k) (t := tr) ht.out
      have hr1 := any_badW_right hok.2.2.2.2.1
      have hr2 := any_badW_right hok.2.2.2.2.2
      have hP := ((netOk_iff _).1 FB.out.1).2.1
      have hn1 : n1 ≤ 16 := by have := hok.2.2.1; rw [i1.len] at this; simp only [] at this hP; omega
      have hn2 : n2 ≤ 16 := by have := hok.2.2.2.1; rw [i2.len] at this; simp only [] at this hP; omega
      have hm : m ≤ 16 := by have := FB.out.2.1; rw [G.out.len] at this; simp only [] at this hP; omega
      have FIN2 := hide2 (show fireL ⟨P, ts⟩ xs (k : Int) = fireT xs tr from by
        rw [FIN.out, if_pos (by rw [HL.out]; omega)]
        have : ts.getD (k : Int).toNat default = tr := by
          have := ht.out
          simp [this]
        rw [this])
      have hk0 : (0 : Int) ≤ (k : Int) := by omega
      have hkn : (k : Int) < (n : Int) := by omega
      have HR1 := hide2 hr1
      have HR2 := hide2 hr2
      have I1 := hide2 i1
      have I2 := hide2 i2
      clear hok hr1 hr2 i2 i1 hP
      go_wp2_with fail
      refine (refCovers_calls G1.out I1.out).mono ?_
      rintro e wd ⟨rfl, dr⟩
      have hc1' := (dr.below.cell (p := ⟨w.heap.size, 1, none⟩) hsz).trans hc1
      have q1' := (dr.below.cell (p := ⟨bl, off + k * 3 + 1, none⟩) hbl).trans q1
      have q2' := (dr.below.cell (p := ⟨bl, off + k * 3 + 2, none⟩) hbl).trans q2
      have hszd : w.heap.size < wd.heap.size := Nat.lt_of_lt_of_le hsz dr.below.size
      have hbld : bl < wd.heap.size := Nat.lt_of_lt_of_le hbl dr.below.size
      have G2 := hide2 (G1.out.keep dr.below)
      have J1 := hide2 (I1.out.keep dr.below)
      have J2 := hide2 (I2.out.keep dr.below)
      have B2 := hide2 (B1.out.trans (dr.below.mono B1.out.size))
      clear dr hc1 q1 q2 q0
      cases hc : coversB xs tr.pre
      · have FIN3 := hide2 (show fireL ⟨P, ts⟩ xs (k : Int) = ([], 3) from by rw [FIN2.out, fireT, hc]; rfl)
        clear hc
        go_wp2
        go_ret2
        exact ⟨none, 0, 0, by rw [FIN3.out]; rfl, by rw [FIN3.out]; exact Sl.nil0, B2.out⟩
      · have HC := hide2 hc
        have FT := hide2 (show fireT xs tr = if rightB (mixL (mixL xs tr.pre (-1)) tr.post 1) = true then (mixL (mixL xs tr.pre (-1)) tr.post 1, 0) else ([], 4) from by rw [fireT, if_pos hc])
        clear hc
        have D1 := hide2 (show Below wd.heap.size wd wd.drew from (Below.refl _ _).drew)
        have S0 := hide2 (SmallL.of_right FB.out.2.2)
        have S1 := hide2 (SmallL.of_right HR1.out)
        have S2 := hide2 (SmallL.of_right HR2.out)
        have SM := hide2 (SmallL.mix FB.out.2.2 HR1.out)
        have M1 := hide2 (max_small hm hn1)
        have M2 := hide2 (show max (max m n1) n2 * 8 ≤ 140737488355328 by omega)
        go_upto_region 5 with fail
        go_cut [8] (fun s wx => ∃ C l k, s = .slice C l k ∧ Hid (Ints wx C l k (mixL (mixL xs tr.pre (-1)) tr.post 1)) ∧ Hid (Below wd.heap.size wd wx))
        case first =>
          go_region_held3 (fun w' => w'.cell? ⟨w.heap.size, 1, none⟩ = some (.slice (some ⟨bl, off, none⟩) n c) ∧ w'.cell? ⟨bl, off + k * 3 + 1, none⟩ = some (.slice A1 n1 c1) ∧ w'.cell? ⟨bl, off + k * 3 + 2, none⟩ = some (.slice A2 n2 c2))
            (first | go_keep)
            (first
              | (go_at_call 127; (with_reducible refine (mix_calls (G2.out.keep D1.out) (J1.out.keep D1.out) (-1) (.inr rfl) S0.out S1.out M1.out).mono ?_); rintro e w2 ⟨C, kk, rfl, hi, hb⟩; have z1 := (hb.cell (p := ⟨w.heap.size, 1, none⟩) hszd).trans hc1'; have z2 := (hb.cell (p := ⟨bl, off + k * 3 + 1, none⟩) hbld).trans q1'; have z3 := (hb.cell (p := ⟨bl, off + k * 3 + 2, none⟩) hbld).trans q2'; have HI := hide2 hi; have J3 := hide2 (J2.out.keep (D1.out.trans (hb.mono D1.out.size))); have HBB := hide2 (D1.out.trans (hb.mono D1.out.size)); clear hi hb)
              | (go_at_call 127; (with_reducible refine (mix_calls HI.out J3.out 1 (.inl rfl) SM.out S2.out M2.out).mono ?_); rintro e w3 ⟨C3, kk3, rfl, hi, hb⟩; have HI3 := hide2 hi; have hb3 := HBB.out.trans (hb.mono HBB.out.size); have y1 := (hb3.cell (p := ⟨w.heap.size, 1, none⟩) hszd).trans hc1'; have y2 := (hb3.cell (p := ⟨bl, off + k * 3 + 1, none⟩) hbld).trans q1'; have y3 := (hb3.cell (p := ⟨bl, off + k * 3 + 2, none⟩) hbld).trans q2'; have HB3 := hide2 hb3; clear hi hb hb3))
          all_goals
            go_wp2_with fail
            go_meet
            exact ⟨_, _, _, rfl, by rw [Nat.max_assoc] at HI3; exact HI3, HB3⟩
        case rest =>
          obtain ⟨C, l, kk, rfl, hi, hb⟩ := hcut
          have B3 := hide2 (B2.out.trans (hb.out.mono B2.out.size))
          go_wp2_with fail
          refine (refRight_calls hi.out).mono ?_
          rintro e w' ⟨rfl, rfl⟩
          cases hz : rightB (mixL (mixL xs tr.pre (-1)) tr.post 1)
          · have FIN3 := hide2 (show fireL ⟨P, ts⟩ xs (k : Int) = ([], 4) from by rw [FIN2.out, FT.out, hz]; rfl)
            clear hz
            go_wp2
            go_ret2
            exact ⟨none, 0, 0, by rw [FIN3.out]; rfl, by rw [FIN3.out]; exact Sl.nil0, B3.out⟩
          · have FIN3 := hide2 (show fireL ⟨P, ts⟩ xs (k : Int) = (mixL (mixL xs tr.pre (-1)) tr.post 1, 0) from by rw [FIN2.out, FT.out, hz]; rfl)
            clear hz
            go_wp2
            go_ret2
            exact ⟨_, _, _, by rw [FIN3.out]; rfl, by rw [FIN3.out]; exact hi.out, B3.out⟩
    · have FIN2 := hide2 (show fireL ⟨P, ts⟩ xs t = ([], 3) from by rw [FIN.out, if_neg (by rw [HL.out]; exact ht)])
      by_cases h0 : t < 0
      · go_wp2
        go_ret2
        exact ⟨none, 0, 0, by rw [FIN2.out]; rfl, by rw [FIN2.out]; exact Sl.nil0, B1.out⟩
      · have h1 : (n : Int) ≤ t := by omega
        clear ht
        go_wp2
        go_ret2
        exact ⟨none, 0, 0, by rw [FIN2.out]; rfl, by rw [FIN2.out]; exact Sl.nil0, B1.out⟩
end Go.Proofs.Ytnfppolgaeibeaa
