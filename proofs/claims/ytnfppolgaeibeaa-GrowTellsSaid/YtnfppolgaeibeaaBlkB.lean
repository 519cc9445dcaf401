/- The contracts of blocks.Wrong and JWrong. Conditions: the block reads as a tree. -/
import Derived.Test.YtnfppolgaeibeaaBlkA
import Derived.Laws.EntriesVeiled
namespace Go.Proofs.Ytnfppolgaeibeaa
open Go.RowKit

set_option maxRecDepth 100000 in
set_option maxHeartbeats 16000000 in
theorem jwrong_calls :
    ∀ (f d : Nat) (kd lb : Int) (A : Option Addr) (n c had : Nat) (ks : List PBlk) (w : World), 41 ≤ had + f → had ≤ 40 → Blks d w A n c ks →
      Calls Try.prog 103 #[.agg #[.int .i64 kd, .int .i64 lb, .slice A n c], .int .i64 had] w (fun e w' => e = .returned (.tuple #[.int .i64 (chkB f (.mk kd lb ks) had).1, .int .i64 (chkB f (.mk kd lb ks) had).2]) ∧ Below w.heap.size w w') := by
  intro f
  induction f with
  | zero =>
    intro d kd lb A n c had ks w hf h41 hK
    exact absurd hf (by omega)
  | succ f ih =>
    intro d kd lb A n c had ks w hf h41 hK
    obtain ⟨h1, hh1⟩ : ∃ h1 : Nat, had + 1 = h1 := ⟨_, rfl⟩
    have hh1i : (had : Int) + 1 = (h1 : Int) := by omega
    have HL := hide2 (show ks.length = n from hK.len)
    have FULL := hide2 (show 40 < had + 1 → chkB (f + 1) (.mk kd lb ks) had = (had + 1, 4) from fun h => by rw [chkB, if_pos h])
    have BAD := hide2 (show ¬ 40 < had + 1 → headB kd lb n ≠ 0 → chkB (f + 1) (.mk kd lb ks) had = (had + 1, headB kd lb n) from fun h g => by rw [chkB, if_neg h]; simp only [PBlk.kind, PBlk.label, PBlk.kids, HL.out]; rw [if_pos g])
    have GOOD := hide2 (show ¬ 40 < had + 1 → headB kd lb n = 0 → chkB (f + 1) (.mk kd lb ks) had = ks.foldl (stepC (chkB f)) (had + 1, 0) from fun h g => by rw [chkB, if_neg h]; simp only [PBlk.kind, PBlk.label, PBlk.kids, HL.out]; rw [if_neg (by rw [g]; simp)])
    have bb := boxBelow w (.cells #[.int .i64 kd, .int .i64 lb, .slice A n c] 24)
    have BB := hide2 (Box.new w #[.int .i64 kd, .int .i64 lb, .slice A n c] 24)
    have BX := hide2 bb
    have hns := hK.small
    have K := hide2 (hK.keep bb)
    clear hK bb
    have IH := hide2 ih
    clear ih
    go_enter Try.func103, Try.ntmps103
    go_upto_region 1 with fail
    generalize w.alloc (.cells #[.int .i64 kd, .int .i64 lb, .slice A n c] 24) = u2 at *
    obtain ⟨b0, b1, b2⟩ := BB.out.three
    by_cases hov : 40 < had + 1
    · have FIN := hide2 (FULL.out hov)
      have hovi : (40 : Int) < (h1 : Int) := by omega
      go_wp2
      go_ret2
      rw [FIN.out]
      exact ⟨by rw [hh1]; first | rfl | simp, BX.out⟩
    · have hovi : ¬ (40 : Int) < (h1 : Int) := by omega
      by_cases hk1 : kd < 1
      · have HD := hide2 (show headB kd lb n = 5 by rw [headB, if_pos (.inl hk1)])
        have FIN := hide2 (BAD.out (by omega) (by rw [HD.out]; decide))
        rw [HD.out] at FIN

        go_wp2
        go_ret2
        rw [FIN.out]
        exact ⟨by rw [hh1]; first | rfl | simp, BX.out⟩
      · by_cases hk6 : 6 < kd
        · have HD := hide2 (show headB kd lb n = 5 by rw [headB, if_pos (.inr hk6)])
          have FIN := hide2 (BAD.out (by omega) (by rw [HD.out]; decide))
          rw [HD.out] at FIN

          go_wp2
          go_ret2
          rw [FIN.out]
          exact ⟨by rw [hh1]; first | rfl | simp, BX.out⟩
        · have hk : kd = 1 ∨ kd = 2 ∨ kd = 3 ∨ kd = 4 ∨ kd = 5 ∨ kd = 6 := by omega
          clear hk1 hk6
          rcases hk with rfl | rfl | rfl | rfl | rfl | rfl
          · by_cases hn0 : n = 0
            · skip
              have HD := hide2 (show headB 1 lb n = 0 by unfold headB; simp <;> omega)
              subst hn0
              have FIN := hide2 (GOOD.out (by omega) HD.out)
              rw [hh1] at FIN
              clear FULL BAD GOOD HD
              go_upto_region 13 with fail
              obtain ⟨wo, hwo⟩ : ∃ wo : World, wo = u2 := ⟨_, rfl⟩
              subst hwo
              go_wp2
              clear b0 b1 b2
              go_loopw [1, 70] (fun hv v wr => ∃ (i hd : Nat), i ≤ 0 ∧ v = .int .i64 i ∧ hv = .int .i64 hd ∧ had + 1 ≤ hd ∧ hd ≤ 40 ∧ Hid ((ks.take i).foldl (stepC (chkB f)) (h1, 0) = (hd, 0)) ∧ Hid (Below wo.heap.size wo wr)) (fun _ v _ => 0 - (intOf v).toNat)
              case atStart => exact ⟨0, h1, Nat.zero_le _, rfl, rfl, by omega, by omega, rfl, Below.refl _ _⟩
              case round =>
                obtain ⟨i, hd, hi, rfl, rfl, hd1, hd2, FO, X2⟩ := hrel
                by_cases hlt : i < 0
                · exact absurd hlt (by omega)
                · obtain rfl : i = 0 := by omega
                  have FE := hide2 (show ks.foldl (stepC (chkB f)) (h1, 0) = (hd, 0) by have := FO.out; rwa [List.take_of_length_le (by rw [HL.out]; exact Nat.le_refl _)] at this)
                  go_wp2
                  go_ret2
                  rw [FIN.out, FE.out]
                  exact ⟨by first | rfl | simp, BX.out.trans (X2.out.mono BX.out.size)⟩
            · have hnb : ((n : Int) != 0) = true := by simp; omega
              have HD := hide2 (show headB 1 lb n = 1 by unfold headB; simp <;> omega)
              have FIN := hide2 (BAD.out (by omega) (by rw [HD.out]; decide))
              rw [HD.out] at FIN

              go_wp2
              go_ret2
              rw [FIN.out]
              exact ⟨by rw [hh1]; first | rfl | simp, BX.out⟩
          · by_cases hl1 : lb < 1
            · skip
              have HD := hide2 (show headB 2 lb n = 2 by unfold headB; simp <;> omega)
              have FIN := hide2 (BAD.out (by omega) (by rw [HD.out]; decide))
              rw [HD.out] at FIN

              go_wp2
              go_ret2
              rw [FIN.out]
              exact ⟨by rw [hh1]; first | rfl | simp, BX.out⟩
            · by_cases hl2 : 26 < lb
              · skip
                have HD := hide2 (show headB 2 lb n = 2 by unfold headB; simp <;> omega)
                have FIN := hide2 (BAD.out (by omega) (by rw [HD.out]; decide))
                rw [HD.out] at FIN

                go_wp2
                go_ret2
                rw [FIN.out]
                exact ⟨by rw [hh1]; first | rfl | simp, BX.out⟩
              · by_cases hn0 : n = 0
                · skip
                  have HD := hide2 (show headB 2 lb n = 0 by unfold headB; simp <;> omega)
                  subst hn0
                  have FIN := hide2 (GOOD.out (by omega) HD.out)
                  rw [hh1] at FIN
                  clear FULL BAD GOOD HD
                  go_upto_region 13 with fail
                  obtain ⟨wo, hwo⟩ : ∃ wo : World, wo = u2 := ⟨_, rfl⟩
                  subst hwo
                  go_wp2
                  clear b0 b1 b2
                  go_loopw [1, 70] (fun hv v wr => ∃ (i hd : Nat), i ≤ 0 ∧ v = .int .i64 i ∧ hv = .int .i64 hd ∧ had + 1 ≤ hd ∧ hd ≤ 40 ∧ Hid ((ks.take i).foldl (stepC (chkB f)) (h1, 0) = (hd, 0)) ∧ Hid (Below wo.heap.size wo wr)) (fun _ v _ => 0 - (intOf v).toNat)
                  case atStart => exact ⟨0, h1, Nat.zero_le _, rfl, rfl, by omega, by omega, rfl, Below.refl _ _⟩
                  case round =>
                    obtain ⟨i, hd, hi, rfl, rfl, hd1, hd2, FO, X2⟩ := hrel
                    by_cases hlt : i < 0
                    · exact absurd hlt (by omega)
                    · obtain rfl : i = 0 := by omega
                      have FE := hide2 (show ks.foldl (stepC (chkB f)) (h1, 0) = (hd, 0) by have := FO.out; rwa [List.take_of_length_le (by rw [HL.out]; exact Nat.le_refl _)] at this)
                      go_wp2
                      go_ret2
                      rw [FIN.out, FE.out]
                      exact ⟨by first | rfl | simp, BX.out.trans (X2.out.mono BX.out.size)⟩
                · have hnb : ((n : Int) != 0) = true := by simp; omega
                  have HD := hide2 (show headB 2 lb n = 1 by unfold headB; simp <;> omega)
                  have FIN := hide2 (BAD.out (by omega) (by rw [HD.out]; decide))
                  rw [HD.out] at FIN

                  go_wp2
                  go_ret2
                  rw [FIN.out]
                  exact ⟨by rw [hh1]; first | rfl | simp, BX.out⟩
          · by_cases hn0 : n = 0
            · subst hn0
              have HD := hide2 (show headB 3 lb 0 = 1 by unfold headB; simp)
              have FIN := hide2 (BAD.out (by omega) (by rw [HD.out]; decide))
              rw [HD.out] at FIN

              go_wp2
              go_ret2
              rw [FIN.out]
              exact ⟨by rw [hh1]; first | rfl | simp, BX.out⟩
            · have hn0i : ¬ (n : Int) = 0 := by omega
              have HD := hide2 (show headB 3 lb n = 0 by unfold headB; simp <;> omega)
              have FIN := hide2 (GOOD.out (by omega) HD.out)
              rw [hh1] at FIN
              clear FULL BAD GOOD HD
              go_upto_region 13 with fail
              obtain ⟨wo, hwo⟩ : ∃ wo : World, wo = u2 := ⟨_, rfl⟩
              subst hwo
              go_wp2
              clear b0 b1 b2
              go_loopw [1, 70] (fun hv v wr => ∃ (i hd : Nat), i ≤ n ∧ v = .int .i64 i ∧ hv = .int .i64 hd ∧ had + 1 ≤ hd ∧ hd ≤ 40 ∧ Hid ((ks.take i).foldl (stepC (chkB f)) (h1, 0) = (hd, 0)) ∧ Hid (Below wo.heap.size wo wr)) (fun _ v _ => n - (intOf v).toNat)
              case atStart => exact ⟨0, h1, Nat.zero_le _, rfl, rfl, by omega, by omega, rfl, Below.refl _ _⟩
              case round =>
                obtain ⟨i, hd, hi, rfl, rfl, hd1, hd2, FO, X2⟩ := hrel
                by_cases hlt : i < n
                · have hki : (i : Int) < (n : Int) := by omega
                  obtain ⟨bl, off, kd', lb', ks', B', m', e', d', rfl, rfl, hbl, hx, q0, q1, q2, K'⟩ := (K.out.keep X2.out).get hlt
                  have TK := hide2 (foldC_take (g := chkB f) (s := (h1, 0)) hx.out)
                  rw [FO.out] at TK
                  have TB := hide2 (fun h => foldC_bad (g := chkB f) (s := (h1, 0)) (l := ks) (i := i + 1) h)
                  obtain ⟨r, hr⟩ : ∃ r, chkB f (.mk kd' lb' ks') hd = r := ⟨_, rfl⟩
                  have hst : stepC (chkB f) (hd, 0) (.mk kd' lb' ks') = r := by rw [stepC, if_pos rfl]; exact hr
                  rw [hst] at TK
                  rw [TK.out] at TB
                  have GR := hide2 (chkB_ok f (.mk kd' lb' ks') hd)
                  rw [hr] at GR
                  have bb2 := boxBelow wr (.cells #[.int .i64 kd', .int .i64 lb', .slice B' m' e'] 24)
                  have X3 := hide2 (X2.out.trans (bb2.mono X2.out.size))
                  have CI := hide2 (IH.out d' kd' lb' B' m' e' hd ks' (wr.alloc (.cells #[.int .i64 kd', .int .i64 lb', .slice B' m' e'] 24)) (by omega) hd2 (K'.out.keep bb2))
                  rw [hr] at CI
                  clear hr hst bb2 hx
                  obtain ⟨rh, re⟩ := r
                  by_cases hre : re = 0
                  · subst hre
                    obtain ⟨gr1, gr2⟩ := GR.out rfl
                    simp only at gr1 gr2
                    go_wp2_with (go_at_call 103; (with_reducible refine CI.out.mono ?_); rintro e w4 ⟨rfl, hb4⟩; have X4 := hide2 (X3.out.trans (hb4.mono X3.out.size)); clear hb4)
                    go_roundw
                    case rel => exact ⟨i + 1, rh, by omega, by go_num, rfl, by omega, gr2, TK, X4⟩
                    case measure => simp [intOf]; omega
                  · have FE := hide2 (TB.out hre)
                    go_wp2_with (go_at_call 103; (with_reducible refine CI.out.mono ?_); rintro e w4 ⟨rfl, hb4⟩; have X4 := hide2 (X3.out.trans (hb4.mono X3.out.size)); clear hb4)
                    go_ret2
                    rw [FIN.out, FE.out]
                    exact ⟨by first | rfl | simp, BX.out.trans (X4.out.mono BX.out.size)⟩
                · obtain rfl : i = n := by omega
                  have FE := hide2 (show ks.foldl (stepC (chkB f)) (h1, 0) = (hd, 0) by have := FO.out; rwa [List.take_of_length_le (by rw [HL.out]; exact Nat.le_refl _)] at this)
                  go_wp2
                  go_ret2
                  rw [FIN.out, FE.out]
                  exact ⟨by first | rfl | simp, BX.out.trans (X2.out.mono BX.out.size)⟩
          · by_cases hn0 : n = 0
            · subst hn0
              have HD := hide2 (show headB 4 lb 0 = 1 by unfold headB; simp)
              have FIN := hide2 (BAD.out (by omega) (by rw [HD.out]; decide))
              rw [HD.out] at FIN

              go_wp2
              go_ret2
              rw [FIN.out]
              exact ⟨by rw [hh1]; first | rfl | simp, BX.out⟩
            · have hn0i : ¬ (n : Int) = 0 := by omega
              have HD := hide2 (show headB 4 lb n = 0 by unfold headB; simp <;> omega)
              have FIN := hide2 (GOOD.out (by omega) HD.out)
              rw [hh1] at FIN
              clear FULL BAD GOOD HD
              go_upto_region 13 with fail
              obtain ⟨wo, hwo⟩ : ∃ wo : World, wo = u2 := ⟨_, rfl⟩
              subst hwo
              go_wp2
              clear b0 b1 b2
              go_loopw [1, 70] (fun hv v wr => ∃ (i hd : Nat), i ≤ n ∧ v = .int .i64 i ∧ hv = .int .i64 hd ∧ had + 1 ≤ hd ∧ hd ≤ 40 ∧ Hid ((ks.take i).foldl (stepC (chkB f)) (h1, 0) = (hd, 0)) ∧ Hid (Below wo.heap.size wo wr)) (fun _ v _ => n - (intOf v).toNat)
              case atStart => exact ⟨0, h1, Nat.zero_le _, rfl, rfl, by omega, by omega, rfl, Below.refl _ _⟩
              case round =>
                obtain ⟨i, hd, hi, rfl, rfl, hd1, hd2, FO, X2⟩ := hrel
                by_cases hlt : i < n
                · have hki : (i : Int) < (n : Int) := by omega
                  obtain ⟨bl, off, kd', lb', ks', B', m', e', d', rfl, rfl, hbl, hx, q0, q1, q2, K'⟩ := (K.out.keep X2.out).get hlt
                  have TK := hide2 (foldC_take (g := chkB f) (s := (h1, 0)) hx.out)
                  rw [FO.out] at TK
                  have TB := hide2 (fun h => foldC_bad (g := chkB f) (s := (h1, 0)) (l := ks) (i := i + 1) h)
                  obtain ⟨r, hr⟩ : ∃ r, chkB f (.mk kd' lb' ks') hd = r := ⟨_, rfl⟩
                  have hst : stepC (chkB f) (hd, 0) (.mk kd' lb' ks') = r := by rw [stepC, if_pos rfl]; exact hr
                  rw [hst] at TK
                  rw [TK.out] at TB
                  have GR := hide2 (chkB_ok f (.mk kd' lb' ks') hd)
                  rw [hr] at GR
                  have bb2 := boxBelow wr (.cells #[.int .i64 kd', .int .i64 lb', .slice B' m' e'] 24)
                  have X3 := hide2 (X2.out.trans (bb2.mono X2.out.size))
                  have CI := hide2 (IH.out d' kd' lb' B' m' e' hd ks' (wr.alloc (.cells #[.int .i64 kd', .int .i64 lb', .slice B' m' e'] 24)) (by omega) hd2 (K'.out.keep bb2))
                  rw [hr] at CI
                  clear hr hst bb2 hx
                  obtain ⟨rh, re⟩ := r
                  by_cases hre : re = 0
                  · subst hre
                    obtain ⟨gr1, gr2⟩ := GR.out rfl
                    simp only at gr1 gr2
                    go_wp2_with (go_at_call 103; (with_reducible refine CI.out.mono ?_); rintro e w4 ⟨rfl, hb4⟩; have X4 := hide2 (X3.out.trans (hb4.mono X3.out.size)); clear hb4)
                    go_roundw
                    case rel => exact ⟨i + 1, rh, by omega, by go_num, rfl, by omega, gr2, TK, X4⟩
                    case measure => simp [intOf]; omega
                  · have FE := hide2 (TB.out hre)
                    go_wp2_with (go_at_call 103; (with_reducible refine CI.out.mono ?_); rintro e w4 ⟨rfl, hb4⟩; have X4 := hide2 (X3.out.trans (hb4.mono X3.out.size)); clear hb4)
                    go_ret2
                    rw [FIN.out, FE.out]
                    exact ⟨by first | rfl | simp, BX.out.trans (X4.out.mono BX.out.size)⟩
                · obtain rfl : i = n := by omega
                  have FE := hide2 (show ks.foldl (stepC (chkB f)) (h1, 0) = (hd, 0) by have := FO.out; rwa [List.take_of_length_le (by rw [HL.out]; exact Nat.le_refl _)] at this)
                  go_wp2
                  go_ret2
                  rw [FIN.out, FE.out]
                  exact ⟨by first | rfl | simp, BX.out.trans (X2.out.mono BX.out.size)⟩
          · by_cases hn0 : n = 0
            · subst hn0
              have HD := hide2 (show headB 5 lb 0 = 1 by unfold headB; simp)
              have FIN := hide2 (BAD.out (by omega) (by rw [HD.out]; decide))
              rw [HD.out] at FIN

              go_wp2
              go_ret2
              rw [FIN.out]
              exact ⟨by rw [hh1]; first | rfl | simp, BX.out⟩
            · have hn0i : ¬ (n : Int) = 0 := by omega
              have HD := hide2 (show headB 5 lb n = 0 by unfold headB; simp <;> omega)
              have FIN := hide2 (GOOD.out (by omega) HD.out)
              rw [hh1] at FIN
              clear FULL BAD GOOD HD
              go_upto_region 13 with fail
              obtain ⟨wo, hwo⟩ : ∃ wo : World, wo = u2 := ⟨_, rfl⟩
              subst hwo
              go_wp2
              clear b0 b1 b2
              go_loopw [1, 70] (fun hv v wr => ∃ (i hd : Nat), i ≤ n ∧ v = .int .i64 i ∧ hv = .int .i64 hd ∧ had + 1 ≤ hd ∧ hd ≤ 40 ∧ Hid ((ks.take i).foldl (stepC (chkB f)) (h1, 0) = (hd, 0)) ∧ Hid (Below wo.heap.size wo wr)) (fun _ v _ => n - (intOf v).toNat)
              case atStart => exact ⟨0, h1, Nat.zero_le _, rfl, rfl, by omega, by omega, rfl, Below.refl _ _⟩
              case round =>
                obtain ⟨i, hd, hi, rfl, rfl, hd1, hd2, FO, X2⟩ := hrel
                by_cases hlt : i < n
                · have hki : (i : Int) < (n : Int) := by omega
                  obtain ⟨bl, off, kd', lb', ks', B', m', e', d', rfl, rfl, hbl, hx, q0, q1, q2, K'⟩ := (K.out.keep X2.out).get hlt
                  have TK := hide2 (foldC_take (g := chkB f) (s := (h1, 0)) hx.out)
                  rw [FO.out] at TK
                  have TB := hide2 (fun h => foldC_bad (g := chkB f) (s := (h1, 0)) (l := ks) (i := i + 1) h)
                  obtain ⟨r, hr⟩ : ∃ r, chkB f (.mk kd' lb' ks') hd = r := ⟨_, rfl⟩
                  have hst : stepC (chkB f) (hd, 0) (.mk kd' lb' ks') = r := by rw [stepC, if_pos rfl]; exact hr
                  rw [hst] at TK
                  rw [TK.out] at TB
                  have GR := hide2 (chkB_ok f (.mk kd' lb' ks') hd)
                  rw [hr] at GR
                  have bb2 := boxBelow wr (.cells #[.int .i64 kd', .int .i64 lb', .slice B' m' e'] 24)
                  have X3 := hide2 (X2.out.trans (bb2.mono X2.out.size))
                  have CI := hide2 (IH.out d' kd' lb' B' m' e' hd ks' (wr.alloc (.cells #[.int .i64 kd', .int .i64 lb', .slice B' m' e'] 24)) (by omega) hd2 (K'.out.keep bb2))
                  rw [hr] at CI
                  clear hr hst bb2 hx
                  obtain ⟨rh, re⟩ := r
                  by_cases hre : re = 0
                  · subst hre
                    obtain ⟨gr1, gr2⟩ := GR.out rfl
                    simp only at gr1 gr2
                    go_wp2_with (go_at_call 103; (with_reducible refine CI.out.mono ?_); rintro e w4 ⟨rfl, hb4⟩; have X4 := hide2 (X3.out.trans (hb4.mono X3.out.size)); clear hb4)
                    go_roundw
                    case rel => exact ⟨i + 1, rh, by omega, by go_num, rfl, by omega, gr2, TK, X4⟩
                    case measure => simp [intOf]; omega
                  · have FE := hide2 (TB.out hre)
                    go_wp2_with (go_at_call 103; (with_reducible refine CI.out.mono ?_); rintro e w4 ⟨rfl, hb4⟩; have X4 := hide2 (X3.out.trans (hb4.mono X3.out.size)); clear hb4)
                    go_ret2
                    rw [FIN.out, FE.out]
                    exact ⟨by first | rfl | simp, BX.out.trans (X4.out.mono BX.out.size)⟩
                · obtain rfl : i = n := by omega
                  have FE := hide2 (show ks.foldl (stepC (chkB f)) (h1, 0) = (hd, 0) by have := FO.out; rwa [List.take_of_length_le (by rw [HL.out]; exact Nat.le_refl _)] at this)
                  go_wp2
                  go_ret2
                  rw [FIN.out, FE.out]
                  exact ⟨by first | rfl | simp, BX.out.trans (X2.out.mono BX.out.size)⟩
          · by_cases hn0 : n = 2
            · skip
              have HD := hide2 (show headB 6 lb n = 0 by unfold headB; simp <;> omega)
              subst hn0
              have FIN := hide2 (GOOD.out (by omega) HD.out)
              rw [hh1] at FIN
              clear FULL BAD GOOD HD
              go_upto_region 13 with fail
              obtain ⟨wo, hwo⟩ : ∃ wo : World, wo = u2 := ⟨_, rfl⟩
              subst hwo
              go_wp2
              clear b0 b1 b2
              go_loopw [1, 70] (fun hv v wr => ∃ (i hd : Nat), i ≤ 2 ∧ v = .int .i64 i ∧ hv = .int .i64 hd ∧ had + 1 ≤ hd ∧ hd ≤ 40 ∧ Hid ((ks.take i).foldl (stepC (chkB f)) (h1, 0) = (hd, 0)) ∧ Hid (Below wo.heap.size wo wr)) (fun _ v _ => 2 - (intOf v).toNat)
              case atStart => exact ⟨0, h1, Nat.zero_le _, rfl, rfl, by omega, by omega, rfl, Below.refl _ _⟩
              case round =>
                obtain ⟨i, hd, hi, rfl, rfl, hd1, hd2, FO, X2⟩ := hrel
                by_cases hlt : i < 2
                · have hki : (i : Int) < (2 : Int) := by omega
                  obtain ⟨bl, off, kd', lb', ks', B', m', e', d', rfl, rfl, hbl, hx, q0, q1, q2, K'⟩ := (K.out.keep X2.out).get hlt
                  have TK := hide2 (foldC_take (g := chkB f) (s := (h1, 0)) hx.out)
                  rw [FO.out] at TK
                  have TB := hide2 (fun h => foldC_bad (g := chkB f) (s := (h1, 0)) (l := ks) (i := i + 1) h)
                  obtain ⟨r, hr⟩ : ∃ r, chkB f (.mk kd' lb' ks') hd = r := ⟨_, rfl⟩
                  have hst : stepC (chkB f) (hd, 0) (.mk kd' lb' ks') = r := by rw [stepC, if_pos rfl]; exact hr
                  rw [hst] at TK
                  rw [TK.out] at TB
                  have GR := hide2 (chkB_ok f (.mk kd' lb' ks') hd)
                  rw [hr] at GR
                  have bb2 := boxBelow wr (.cells #[.int .i64 kd', .int .i64 lb', .slice B' m' e'] 24)
                  have X3 := hide2 (X2.out.trans (bb2.mono X2.out.size))
                  have CI := hide2 (IH.out d' kd' lb' B' m' e' hd ks' (wr.alloc (.cells #[.int .i64 kd', .int .i64 lb', .slice B' m' e'] 24)) (by omega) hd2 (K'.out.keep bb2))
                  rw [hr] at CI
                  clear hr hst bb2 hx
                  obtain ⟨rh, re⟩ := r
                  by_cases hre : re = 0
                  · subst hre
                    obtain ⟨gr1, gr2⟩ := GR.out rfl
                    simp only at gr1 gr2
                    go_wp2_with (go_at_call 103; (with_reducible refine CI.out.mono ?_); rintro e w4 ⟨rfl, hb4⟩; have X4 := hide2 (X3.out.trans (hb4.mono X3.out.size)); clear hb4)
                    go_roundw
                    case rel => exact ⟨i + 1, rh, by omega, by go_num, rfl, by omega, gr2, TK, X4⟩
                    case measure => simp [intOf]; omega
                  · have FE := hide2 (TB.out hre)
                    go_wp2_with (go_at_call 103; (with_reducible refine CI.out.mono ?_); rintro e w4 ⟨rfl, hb4⟩; have X4 := hide2 (X3.out.trans (hb4.mono X3.out.size)); clear hb4)
                    go_ret2
                    rw [FIN.out, FE.out]
                    exact ⟨by first | rfl | simp, BX.out.trans (X4.out.mono BX.out.size)⟩
                · obtain rfl : i = 2 := by omega
                  have FE := hide2 (show ks.foldl (stepC (chkB f)) (h1, 0) = (hd, 0) by have := FO.out; rwa [List.take_of_length_le (by rw [HL.out]; exact Nat.le_refl _)] at this)
                  go_wp2
                  go_ret2
                  rw [FIN.out, FE.out]
                  exact ⟨by first | rfl | simp, BX.out.trans (X2.out.mono BX.out.size)⟩
            · by_cases hn1 : n = 0
              · subst hn1
                have HD := hide2 (show headB 6 lb 0 = 1 by unfold headB; simp)
                have FIN := hide2 (BAD.out (by omega) (by rw [HD.out]; decide))
                rw [HD.out] at FIN

                go_wp2
                go_ret2
                rw [FIN.out]
                exact ⟨by rw [hh1]; first | rfl | simp, BX.out⟩
              · have hn0i : ¬ (n : Int) = 0 := by omega
                have hnb : ((n : Int) != 2) = true := by simp; omega
                have HD := hide2 (show headB 6 lb n = 1 by unfold headB; simp <;> omega)
                have FIN := hide2 (BAD.out (by omega) (by rw [HD.out]; decide))
                rw [HD.out] at FIN

                go_wp2
                go_ret2
                rw [FIN.out]
                exact ⟨by rw [hh1]; first | rfl | simp, BX.out⟩

set_option maxRecDepth 100000 in
set_option maxHeartbeats 4000000 in
theorem jWrong_calls {d : Nat} {w : World} {kd lb : Int} {A : Option Addr} {n c : Nat} {ks : List PBlk} (h : Blks d w A n c ks) :
    Calls Try.prog 40 #[.agg #[.int .i64 kd, .int .i64 lb, .slice A n c]] w (fun e w' => e = .returned (.int .i64 (wrongB (.mk kd lb ks))) ∧ Below w.heap.size w w') := by
  have bb := boxBelow w (.cells #[.int .i64 kd, .int .i64 lb, .slice A n c] 24)
  have BB := hide2 (Box.new w #[.int .i64 kd, .int .i64 lb, .slice A n c] 24)
  have BX := hide2 bb
  have CI := hide2 (show Calls Try.prog 103 #[.agg #[.int .i64 kd, .int .i64 lb, .slice A n c], .int .i64 0] (w.alloc (.cells #[.int .i64 kd, .int .i64 lb, .slice A n c] 24)) (fun e w' => e = .returned (.tuple #[.int .i64 (chkB 41 (.mk kd lb ks) 0).1, .int .i64 (chkB 41 (.mk kd lb ks) 0).2]) ∧ Below (w.alloc (.cells #[.int .i64 kd, .int .i64 lb, .slice A n c] 24)).heap.size (w.alloc (.cells #[.int .i64 kd, .int .i64 lb, .slice A n c] 24)) w') from jwrong_calls 41 d kd lb A n c 0 ks _ (by omega) (by omega) (h.keep bb))
  clear h bb
  obtain ⟨r, hr⟩ : ∃ r, chkB 41 (.mk kd lb ks) 0 = r := ⟨_, rfl⟩
  have FIN := hide2 (show wrongB (.mk kd lb ks) = r.2 by unfold wrongB; rw [hr])
  rw [hr] at CI
  clear hr
  go_enter Try.func40, Try.ntmps40
  go_upto_region 1 with fail
  generalize w.alloc (.cells #[.int .i64 kd, .int .i64 lb, .slice A n c] 24) = u2 at *
  obtain ⟨b0, b1, b2⟩ := BB.out.three
  go_wp2_with (go_at_call 103; go_loud ((with_reducible refine CI.out.mono ?_); rintro e w4 ⟨rfl, hb4⟩); have X4 := hide2 (BX.out.trans (hb4.mono BX.out.size)); clear hb4)
  go_ret
  rw [FIN.out]
  exact ⟨by first | rfl | simp, X4.out⟩

set_option maxRecDepth 100000 in
set_option maxHeartbeats 4000000 in
theorem blkWrong_calls {d : Nat} {w : World} {kd lb : Int} {A : Option Addr} {n c : Nat} {ks : List PBlk} (h : Blks d w A n c ks) :
    Calls Try.prog 36 #[.agg #[.int .i64 kd, .int .i64 lb, .slice A n c]] w (fun e w' => e = .returned (.int .i64 (wrongB (.mk kd lb ks))) ∧ Below w.heap.size w w') := by
  have henter : ∀ (args : Array Value) (w : World), Sem.run Try.prog (callFunc 99 args) w = .ok (.enter 99 args) w := fun args w => by kernel_rfl
  obtain ⟨r, hr⟩ : ∃ r, chkB 41 (.mk kd lb ks) 0 = r := ⟨_, rfl⟩
  have FIN := hide2 (show wrongB (.mk kd lb ks) = r.2 by unfold wrongB; rw [hr])
  have HR := hide2 hr
  have H := hide2 h
  clear hr h
  go_enter Try.func36, Try.ntmps36
  go_upto_region 3 with fail
  generalize hw4 : ((w.alloc (.cells #[.int .i64 kd, .int .i64 lb, .slice A n c] 24)).alloc (.cells #[.int .i64 0] 3)).alloc (.cells #[.nilFunc] 65) = w4
  have D4 : Below w.heap.size w w4 := by rw [← hw4]; exact (((Below.refl _ _).alloc (Nat.le_refl _) _).alloc (by simp) _).alloc (by simp; omega) _
  have Y0 : Box w4 w.heap.size 24 #[.int .i64 kd, .int .i64 lb, .slice A n c] := by rw [← hw4]; exact ((Box.new _ _ _).old _).old _
  have Y1 : Box w4 (w.heap.size + 1) 3 #[.int .i64 0] := by rw [← hw4]; exact (Box.newAt (by simp) _ _).old _
  have Y2 : Box w4 (w.heap.size + 1 + 1) 65 #[.nilFunc] := by rw [← hw4]; exact Box.newAt (by simp) _ _
  clear hw4
  have f0 := Y2.frozen 0
  have n0 := Y2.cell 0
  simp only [List.getElem?_toArray, List.getElem?_cons_zero] at n0
  go_upto_region 4 with fail
  generalize hw5 : w4.setCell ⟨w.heap.size + 1 + 1, 0, none⟩ (.func (.func 99) #[] #[.pointer (some ⟨w.heap.size + 1, 0, none⟩), .pointer (some ⟨w.heap.size + 1 + 1, 0, none⟩)]) = w5
  have hmk : checkV (w.heap.size + 1) (w.heap.size + 1 + 1) = (.func (.func 99) #[] #[.pointer (some ⟨w.heap.size + 1, 0, none⟩), .pointer (some ⟨w.heap.size + 1 + 1, 0, none⟩)]) := rfl
  rw [← hmk] at hw5
  have hbs : Beside (w.heap.size + 1 + 1) w4 w5 := by rw [← hw5]; exact Beside.set _ _ _ _
  have D5 := hide2 (show Below w.heap.size w w5 by rw [← hw5]; exact D4.setCell (show w.heap.size ≤ w.heap.size + 1 + 1 by omega) _)
  have Z0 := hide2 (hbs.box Y0 (by omega))
  have Z1 := hide2 (hbs.box Y1 (by omega))
  have Z2 : Box w5 (w.heap.size + 1 + 1) 65 #[checkV (w.heap.size + 1) (w.heap.size + 1 + 1)] := by rw [← hw5]; simpa using Y2.set 0 (checkV (w.heap.size + 1) (w.heap.size + 1 + 1))
  have fn0 := Z2.cell 0
  simp only [List.getElem?_toArray, List.getElem?_cons_zero] at fn0
  obtain ⟨b0, b1, b2⟩ := Z0.out.three
  have CL := hide2 (check_calls (w0 := w) (bn := w.heap.size + 1) (bc := w.heap.size + 1 + 1) (by omega) (by omega) 41 d kd lb A n c 0 ks w5 (by omega) (by omega) H.out Z1.out Z2 D5.out)
  rw [HR.out] at CL
  clear hw5 hbs Y0 Y1 Y2 f0 n0 D4 Z2
  go_wp2_with fail
  refine CL.out.mono ?_
  rintro e w6 ⟨rfl, _, _, hb6⟩
  have D6 := hide2 hb6
  clear hb6 fn0
  go_wp2
  go_ret
  rw [FIN.out]
  exact ⟨by first | rfl | simp, D6.out⟩
end Go.Proofs.Ytnfppolgaeibeaa

