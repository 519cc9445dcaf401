/- What Enabled, AMix and BFire answer is new. Conditions: the net and the mark read as lists. (Printed by gen/enabF.py.) -/
import Derived.Test.YtnfppolgaeibeaaNetD
import Derived.Test.YtnfppolgaeibeaaNetF
namespace Go.Proofs.Ytnfppolgaeibeaa
open Go.RowKit

set_option maxRecDepth 100000 in
set_option maxHeartbeats 1000000 in
theorem enabledF_calls {w : World} {P : Int} {A B : Option Addr} {n c m d : Nat} {ts : List PTran} {xs : List Int} (h : Trans w A n c ts) (g : Ints w B m d xs) :
    Calls Try.prog 123 #[.agg #[.int .i64 P, .slice A n c], .slice B m d] w (AnsIEF (enabledL ⟨P, ts⟩ xs) w) := by
  have HB := hide2 (boxBelow w)
  have G := hide2 g
  have H := hide2 h
  have HL := hide2 h.len
  clear g h
  cases hok : fitsB ⟨P, ts⟩ xs
  · have W0 := hide2 (fitsE_not hok)
    have FIN := hide2 (show enabledL ⟨P, ts⟩ xs = ([], 2) from by rw [enabledL, hok]; rfl)
    clear hok
    go_enter Try.func123, Try.ntmps123
    go_wp2_with fail
    refine (netFits_calls (P := P) (H.out.keep (HB.out _)) (G.out.keep (HB.out _))).mono ?_
    rw [W0.out]
    rintro e w1 ⟨rfl, hb⟩
    have B1 := hide2 ((HB.out (.cells #[.int .i64 P, .slice A n c] 27)).trans (hb.mono (by simp)))
    clear hb
    go_wp2
    go_ret2
    exact ⟨none, 0, 0, by rw [FIN.out]; rfl, by rw [FIN.out]; exact Sl.nil0, B1.out, Fresh.none⟩
  · have W0 := hide2 (fitsE_ok hok)
    have FIN := hide2 (show enabledL ⟨P, ts⟩ xs = (enIdx ts xs, 0) from by rw [enabledL, hok]; rfl)
    have hn24 : n ≤ 24 := by have := ((netOk_iff _).1 ((fitsB_iff _ _).1 hok).1).2.2.1; simp only [] at this; rw [H.out.len] at this; exact this
    clear hok
    go_enter Try.func123, Try.ntmps123
    go_wp2_with fail
    refine (netFits_calls (P := P) (H.out.keep (HB.out _)) (G.out.keep (HB.out _))).mono ?_
    rw [W0.out]
    rintro e w1 ⟨rfl, hb⟩
    have B1 := hide2 ((HB.out (.cells #[.int .i64 P, .slice A n c] 27)).trans (hb.mono (by simp)))
    have hc1 : w1.cell? ⟨w.heap.size, 1, none⟩ = some (.slice A n c) := (hb.cell (by simp)).trans (by simp)
    have H1 := hide2 (H.out.keep B1.out)
    have G1 := hide2 (G.out.keep B1.out)
    clear hb
    go_wp2
    go_loopw [7, 19] (fun v i wr => ∃ k q : Nat, k ≤ n ∧ q ≤ k ∧ i = .int .i64 k ∧ OwnInts wr w1.heap.size v q (enIdx (ts.take k) xs) ∧ Below w1.heap.size w1 wr) (fun _ i _ => n - (intOf i).toNat)
    case atStart => exact ⟨0, 0, Nat.zero_le _, Nat.zero_le _, rfl, OwnSl.nil, Below.refl _ _⟩
    case round =>
      obtain ⟨k, q, hk, hq, rfl, own, hb⟩ := hrel
      by_cases hlt : k < n
      · obtain ⟨bl, off, t, A1, n1, c1, A2, n2, c2, rfl, hbl, ht, q0, q1, q2, i1, i2, m1, m2⟩ := Trans.get (H1.out.keep hb) hlt
        have G2 := hide2 ((G1.out.keep hb).keep (boxBelow wr (.cells #[.int .i64 t.label, .slice A1 n1 c1, .slice A2 n2 c2] 78)))
        have I1 := hide2 (i1.keep (boxBelow wr (.cells #[.int .i64 t.label, .slice A1 n1 c1, .slice A2 n2 c2] 78)))
        have OW := hide2 (own.keep IntR.kept (boxBelow wr (.cells #[.int .i64 t.label, .slice A1 n1 c1, .slice A2 n2 c2] 78)))
        have HB1 := hide2 (hb.alloc hb.size (.cells #[.int .i64 t.label, .slice A1 n1 c1, .slice A2 n2 c2] 78))
        have hst := hide2 (show enIdx (ts.take (k + 1)) xs = enIdx (ts.take k) xs ++ (if coversB xs t.pre = true then [(k : Int)] else []) from by
          rw [take_snoc ht.out, enIdx_snoc, List.length_take, Nat.min_eq_left (by rw [HL.out]; omega)])
        clear i1 i2 own hb
        cases hc : coversB xs t.pre
        · have HC := hide2 hc
          clear hc
          go_wp2_with ((with_reducible refine (covers_calls G2.out I1.out).mono ?_); rintro e w' ⟨rfl, rfl⟩; rw [HC.out])
          go_roundw
          case rel => exact ⟨k + 1, q, by omega, by omega, by go_num, by rw [hst.out, HC.out]; simpa using OW.out, HB1.out⟩
          case measure => simp [intOf]; omega
        · have HC := hide2 hc
          clear hc
          go_wp2_with (first
            | ((with_reducible refine (covers_calls G2.out I1.out).mono ?_); rintro e w' ⟨rfl, rfl⟩; rw [HC.out])
            | (at_builtin; refine wpList_appInt rfl _ _ rfl rfl rfl (by simp) OW.out HB1.out HB1.out.size (by omega) ?_; intro v2 w2 own2 hg2 hb2))
          go_roundw
          case rel => exact ⟨k + 1, q + 1, by omega, by omega, by go_num, by rw [hst.out, HC.out]; exact own2, hb2⟩
          case measure => simp [intOf]; omega
      · have OW := hide2 own
        have HB2 := hide2 (B1.out.trans (hb.mono B1.out.size))
        have hst := hide2 (show enIdx (ts.take k) xs = enIdx ts xs from by rw [List.take_of_length_le (by rw [HL.out]; omega)])
        clear own hb
        go_wp2
        go_ret2
        obtain ⟨C, cc, hv, hi⟩ := OW.out.sl (by omega)
        rw [hst.out] at hi
        exact ⟨C, q, cc, by rw [FIN.out, ← hv]; rfl, by rw [FIN.out]; exact hi, HB2.out, fun ad had => by
          have h1 := (OW.out.lt ad.block (by rw [hv, had]; rfl)).1
          exact Nat.le_trans B1.out.size h1⟩


set_option maxRecDepth 100000 in
theorem mixF_calls {w : World} {A B : Option Addr} {n c m d : Nat} {xs ys : List Int} (h : Ints w A n c xs) (g : Ints w B m d ys) (t : Int) (ht : t = 1 ∨ t = -1) (sx : SmallL xs) (sy : SmallL ys) (hM8 : max n m * 8 ≤ 140737488355328) :
    Calls Try.prog 127 #[.slice A n c, .slice B m d, .int .i64 t] w fun e w' => ∃ C k, e = .returned (.slice C (max n m) k) ∧ Ints w' C (max n m) k (mixL xs ys t) ∧ Below w.heap.size w w' ∧ Fresh w C := by
  have hn := h.small
  have hm := g.small
  obtain ⟨M, hM⟩ : ∃ M : Nat, max n m = M := ⟨_, rfl⟩
  have hMb : M ≤ 281474976710656 := by omega
  have hM8' : M * 8 ≤ 140737488355328 := by omega
  have hmx : max (n : Int) (m : Int) = (M : Int) := by omega
  have hlen : max xs.length ys.length = M := by rw [h.len, g.len, hM]
  rw [hM]
  have HL := hide2 hlen
  clear hM hM8 hlen
  go_enter Try.func127, Try.ntmps127
  go_wp2
  clear hmx
  go_loopw [7, 14] (fun v i wr => ∃ k : Nat, k ≤ M ∧ i = .int .i64 k ∧ wr.ownsRow w.heap.size 3 1 v k (((mixL xs ys t).take k).map (Value.int .i64)) ∧ Below w.heap.size w wr) (fun _ i _ => M - (intOf i).toNat)
  case atStart => exact ⟨0, Nat.zero_le _, rfl, World.ownsRow_nil _ _ _ _, Below.refl _ _⟩
  case round =>
    obtain ⟨k, hk, rfl, own, hb⟩ := hrel
    by_cases hlt : k < M
    · have h1 := sx k
      have h2 := sy k
      have hstep := hide2 (mixL_take_succ (xs := xs) (ys := ys) (t := t) (k := k) (by rw [HL.out]; exact hlt))
      have h' := h.keep hb
      have g' := g.keep hb
      have hsz := hb.size
      obtain ⟨a, ha⟩ : ∃ a, atL xs k = a := ⟨_, rfl⟩
      obtain ⟨b, hbb⟩ : ∃ b, atL ys k = b := ⟨_, rfl⟩
      rw [ha] at h1
      rw [hbb] at h2
      have HA := hide2 ha
      have HB := hide2 hbb
      obtain ⟨h3, h4⟩ := h1
      obtain ⟨h5, h6⟩ := h2
      clear ha hbb h g sx sy
      have Ht := hide2 ht
      rcases ht with rfl | rfl
      all_goals
        go_wp2_with (first
          | ((with_reducible refine (refAt_calls h' k).mono ?_); rintro e w' ⟨rfl, rfl⟩; rw [HA.out])
          | ((with_reducible refine (refAt_calls g' k).mono ?_); rintro e w' ⟨rfl, rfl⟩; rw [HB.out])
          | (at_builtin; refine wpList_app tyInts rfl _ _ rfl _ rfl rfl (by simp) rfl (by simp [Value.oneCell']) own hb hsz (by omega) (by omega) ?_; intro v1 w1 own1 hg1 hb1))
        go_roundw
        case rel =>
          refine ⟨k + 1, by omega, by go_num, ?_, hb1⟩
          rw [hstep.out, HA.out, HB.out]
          simpa using own1
        case measure => simp [intOf]; omega
    · obtain rfl : k = M := by omega
      have hfull := hide2 (show (mixL xs ys t).take k = mixL xs ys t from List.take_of_length_le (by rw [mixL_length, HL.out]; exact Nat.le_refl _))
      have hbH := hide2 hb
      have ownH := hide2 own
      go_wp2
      go_ret
      have own2 := ownH.out
      rw [hfull.out] at own2
      obtain ⟨C, cc, hv, hi⟩ := Ints.of_own own2 hMb
      exact ⟨C, cc, by rw [← hv]; rfl, hi, hbH.out, fun ad had => (World.ownsRow.lt own2 ad.block (by rw [hv, had]; rfl)).1⟩

set_option maxRecDepth 100000 in
set_option maxHeartbeats 1000000 in
theorem refFireF_calls {w : World} {P : Int} {A B : Option Addr} {n c m d : Nat} {ts : List PTran} {xs : List Int} (h : Trans w A n c ts) (g : Ints w B m d xs) (t : Int) :
    Calls Try.prog 113 #[.agg #[.int .i64 P, .slice A n c], .slice B m d, .int .i64 t] w (AnsIEF (fireL ⟨P, ts⟩ xs t) w) := by
  have HB := hide2 (boxBelow w)
  have hns := h.small
  have G := hide2 g
  have H := hide2 h
  have HL := hide2 h.len
  clear g h
  cases hok : fitsB ⟨P, ts⟩ xs
  · have W0 := hide2 hok
    have FIN := hide2 (show fireL ⟨P, ts⟩ xs t = ([], 2) from by rw [fireL, hok]; rfl)
    clear hok
    go_enter Try.func113, Try.ntmps113
    go_wp2_with fail
    refine (refFits_calls (P := P) (H.out.keep (HB.out _)) (G.out.keep (HB.out _))).mono ?_
    rw [W0.out]
    rintro e w1 ⟨rfl, hb⟩
    have B1 := hide2 ((HB.out (.cells #[.int .i64 P, .slice A n c] 27)).trans (hb.mono (by simp)))
    clear hb
    go_wp2
    go_ret2
    exact ⟨none, 0, 0, by rw [FIN.out]; rfl, by rw [FIN.out]; exact Sl.nil0, B1.out, Fresh.none⟩
  · have W0 := hide2 hok
    have FIN := hide2 (show fireL ⟨P, ts⟩ xs t = if 0 ≤ t ∧ t < (ts.length : Int) then fireT xs (ts.getD t.toNat default) else ([], 3) from by rw [fireL, if_pos hok])
    have FB := hide2 ((fitsB_iff _ _).1 hok)
    clear hok
    go_enter Try.func113, Try.ntmps113
    go_wp2_with fail
    refine (refFits_calls (P := P) (H.out.keep (HB.out _)) (G.out.keep (HB.out _))).mono ?_
    rw [W0.out]
    rintro e w1 ⟨rfl, hb⟩
    have B1 := hide2 ((HB.out (.cells #[.int .i64 P, .slice A n c] 27)).trans (hb.mono (by simp)))
    have hc1 : w1.cell? ⟨w.heap.size, 1, none⟩ = some (.slice A n c) := (hb.cell (by simp)).trans (by simp)
    have hsz : w.heap.size < w1.heap.size := by have := hb.size; simp at this; omega
    have H1 := hide2 (H.out.keep B1.out)
    have G1 := hide2 (G.out.keep B1.out)
    clear hb
    by_cases ht : 0 ≤ t ∧ t < (n : Int)
    · obtain ⟨k, rfl⟩ := Int.eq_ofNat_of_zero_le ht.1
      have hlt : k < n := by omega
      clear ht
      obtain ⟨bl, off, tr, A1, n1, c1, A2, n2, c2, rfl, hbl, ht, q0, q1, q2, i1, i2, m1, m2⟩ := Trans.get H1.out hlt
      have hok := netOk_tran FB.out.1 (k := k) (t := tr) ht.out
      have hr1 := any_badW_right hok.2.2.2.2.1
      have hr2 := any_badW_right hok.2.2.2.2.2
      have hP := ((netOk_iff _).1 FB.out.1).2.1
      have hn1 : n1 ≤ 16 := by have := hok.2.2.1; rw [i1.len] at this; simp only [] at this hP; omega
      have hn2 : n2 ≤ 16 := by have := hok.2.2.2.1; rw [i2.len] at this; simp only [] at this hP; omega
      have hm : m ≤ 16 := by have := FB.out.2.1; rw [G.out.len] at this; simp only [] at this hP; omega
      have FIN2 := hide2 (show fireL ⟨P, ts⟩ xs (k : Int) = fireT xs tr from by
        rw [FIN.out, if_pos (by rw [HL.out]; omega)]
        have : ts.getD (k : Int).toNat default = tr := by
          have := ht.out
          simp [this]
        rw [this])
      have hk0 : (0 : Int) ≤ (k : Int) := by omega
      have hkn : (k : Int) < (n : Int) := by omega
      have HR1 := hide2 hr1
      have HR2 := hide2 hr2
      have I1 := hide2 i1
      have I2 := hide2 i2
      clear hok hr1 hr2 i2 i1 hP
      go_wp2_with fail
      refine (refCovers_calls G1.out I1.out).mono ?_
      rintro e wd ⟨rfl, dr⟩
      have hc1' := (dr.below.cell (p := ⟨w.heap.size, 1, none⟩) hsz).trans hc1
      have q1' := (dr.below.cell (p := ⟨bl, off + k * 3 + 1, none⟩) hbl).trans q1
      have q2' := (dr.below.cell (p := ⟨bl, off + k * 3 + 2, none⟩) hbl).trans q2
      have hszd : w.heap.size < wd.heap.size := Nat.lt_of_lt_of_le hsz dr.below.size
      have hbld : bl < wd.heap.size := Nat.lt_of_lt_of_le hbl dr.below.size
      have G2 := hide2 (G1.out.keep dr.below)
      have J1 := hide2 (I1.out.keep dr.below)
      have J2 := hide2 (I2.out.keep dr.below)
      have B2 := hide2 (B1.out.trans (dr.below.mono B1.out.size))
      clear dr hc1 q1 q2 q0
      cases hc : coversB xs tr.pre
      · have FIN3 := hide2 (show fireL ⟨P, ts⟩ xs (k : Int) = ([], 3) from by rw [FIN2.out, fireT, hc]; rfl)
        clear hc
        go_wp2
        go_ret2
        exact ⟨none, 0, 0, by rw [FIN3.out]; rfl, by rw [FIN3.out]; exact Sl.nil0, B2.out, Fresh.none⟩
      · have HC := hide2 hc
        have FT := hide2 (show fireT xs tr = if rightB (mixL (mixL xs tr.pre (-1)) tr.post 1) = true then (mixL (mixL xs tr.pre (-1)) tr.post 1, 0) else ([], 4) from by rw [fireT, if_pos hc])
        clear hc
        have D1 := hide2 (show Below wd.heap.size wd wd.drew from (Below.refl _ _).drew)
        have S0 := hide2 (SmallL.of_right FB.out.2.2)
        have S1 := hide2 (SmallL.of_right HR1.out)
        have S2 := hide2 (SmallL.of_right HR2.out)
        have SM := hide2 (SmallL.mix FB.out.2.2 HR1.out)
        have M1 := hide2 (max_small hm hn1)
        have M2 := hide2 (show max (max m n1) n2 * 8 ≤ 140737488355328 by omega)
        go_upto_region 5 with fail
        go_cut [8] (fun s wx => ∃ C l k, s = .slice C l k ∧ Hid (Ints wx C l k (mixL (mixL xs tr.pre (-1)) tr.post 1)) ∧ Hid (Below wd.heap.size wd wx) ∧ Hid (Fresh wd C))
        case first =>
          go_region_held3 (fun w' => w'.cell? ⟨w.heap.size, 1, none⟩ = some (.slice (some ⟨bl, off, none⟩) n c) ∧ w'.cell? ⟨bl, off + k * 3 + 1, none⟩ = some (.slice A1 n1 c1) ∧ w'.cell? ⟨bl, off + k * 3 + 2, none⟩ = some (.slice A2 n2 c2))
            (first | go_keep)
            (first
              | (go_at_call 127; (with_reducible refine (mixF_calls (G2.out.keep D1.out) (J1.out.keep D1.out) (-1) (.inr rfl) S0.out S1.out M1.out).mono ?_); rintro e w2 ⟨C, kk, rfl, hi, hb, hfr1⟩; have z1 := (hb.cell (p := ⟨w.heap.size, 1, none⟩) hszd).trans hc1'; have z2 := (hb.cell (p := ⟨bl, off + k * 3 + 1, none⟩) hbld).trans q1'; have z3 := (hb.cell (p := ⟨bl, off + k * 3 + 2, none⟩) hbld).trans q2'; have HI := hide2 hi; have J3 := hide2 (J2.out.keep (D1.out.trans (hb.mono D1.out.size))); have HBB := hide2 (D1.out.trans (hb.mono D1.out.size)); clear hi hb hfr1)
              | (go_at_call 127; (with_reducible refine (mixF_calls HI.out J3.out 1 (.inl rfl) SM.out S2.out M2.out).mono ?_); rintro e w3 ⟨C3, kk3, rfl, hi, hb, hfr3⟩; have HI3 := hide2 hi; have hb3 := HBB.out.trans (hb.mono HBB.out.size); have y1 := (hb3.cell (p := ⟨w.heap.size, 1, none⟩) hszd).trans hc1'; have y2 := (hb3.cell (p := ⟨bl, off + k * 3 + 1, none⟩) hbld).trans q1'; have y3 := (hb3.cell (p := ⟨bl, off + k * 3 + 2, none⟩) hbld).trans q2'; have HB3 := hide2 hb3; have HF3 := hide2 (hfr3.mono HBB.out.size); clear hi hb hb3 hfr3))
          all_goals
            go_wp2_with fail
            go_meet
            exact ⟨_, _, _, rfl, by rw [Nat.max_assoc] at HI3; exact HI3, HB3, HF3⟩
        case rest =>
          obtain ⟨C, l, kk, rfl, hi, hb, hfc⟩ := hcut
          have B3 := hide2 (B2.out.trans (hb.out.mono B2.out.size))
          go_wp2_with fail
          refine (refRight_calls hi.out).mono ?_
          rintro e w' ⟨rfl, rfl⟩
          cases hz : rightB (mixL (mixL xs tr.pre (-1)) tr.post 1)
          · have FIN3 := hide2 (show fireL ⟨P, ts⟩ xs (k : Int) = ([], 4) from by rw [FIN2.out, FT.out, hz]; rfl)
            clear hz
            go_wp2
            go_ret2
            exact ⟨none, 0, 0, by rw [FIN3.out]; rfl, by rw [FIN3.out]; exact Sl.nil0, B3.out, Fresh.none⟩
          · have FIN3 := hide2 (show fireL ⟨P, ts⟩ xs (k : Int) = (mixL (mixL xs tr.pre (-1)) tr.post 1, 0) from by rw [FIN2.out, FT.out, hz]; rfl)
            clear hz
            go_wp2
            go_ret2
            exact ⟨_, _, _, by rw [FIN3.out]; rfl, by rw [FIN3.out]; exact hi.out, B3.out, hfc.out.mono B2.out.size⟩
    · have FIN2 := hide2 (show fireL ⟨P, ts⟩ xs t = ([], 3) from by rw [FIN.out, if_neg (by rw [HL.out]; exact ht)])
      by_cases h0 : t < 0
      · go_wp2
        go_ret2
        exact ⟨none, 0, 0, by rw [FIN2.out]; rfl, by rw [FIN2.out]; exact Sl.nil0, B1.out, Fresh.none⟩
      · have h1 : (n : Int) ≤ t := by omega
        clear ht
        go_wp2
        go_ret2
        exact ⟨none, 0, 0, by rw [FIN2.out]; rfl, by rw [FIN2.out]; exact Sl.nil0, B1.out, Fresh.none⟩
end Go.Proofs.Ytnfppolgaeibeaa
