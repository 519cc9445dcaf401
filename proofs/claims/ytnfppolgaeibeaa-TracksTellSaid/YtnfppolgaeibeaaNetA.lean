/- The contract of net.Wrong. Conditions: the net's transitions read as a list. -/
import Derived.Test.YtnfppolgaeibeaaMarkE
namespace Go.Proofs.Ytnfppolgaeibeaa
open Go.RowKit

theorem badW_pred (w : World) : IsPred 105 #[] w badW where
  enters := fun args w => by kernel_rfl
  calls := fun x => by
    go_enter Try.func105, Try.ntmps105
    go_wp2
    all_goals
      go_ret
      exact ⟨ret_bool (by simp [badW]; try omega), rfl⟩

set_option maxRecDepth 100000 in
set_option maxHeartbeats 1000000 in
theorem netWrong_calls (w : World) (P : Int) (A : Option Addr) (n c : Nat) (ts : List PTran) (h : Trans w A n c ts) :
    Calls Try.prog 47 #[.agg #[.int .i64 P, .slice A n c]] w fun e w' => e = .returned (.int .i64 (wrongNet ⟨P, ts⟩)) ∧ Below w.heap.size w w' := by
  have hn := h.small
  have HL := hide2 h.len
  have boxB : ∀ o, Below w.heap.size w (w.alloc o) := fun o => (Below.refl _ _).alloc (Nat.le_refl _) _
  have BB := hide2 boxB
  clear boxB
  by_cases g0 : P < 0 ∨ 16 < P ∨ 24 < n
  · have FIN := hide2 (show wrongNet ⟨P, ts⟩ = 2 from wrongNet_not (netOk_not (by have := HL.out; simp only []; omega)))
    clear h
    rcases g0 with g0 | g0 | g0
    all_goals
      go_enter Try.func47, Try.ntmps47
      go_wp2
      all_goals
        go_ret
        exact ⟨ret_int FIN.out.symm, BB.out _⟩
  · have g1 : 0 ≤ P := by omega
    have g2 : P ≤ 16 := by omega
    have g3 : n ≤ 24 := by omega
    clear g0
    go_enter Try.func47, Try.ntmps47
    go_wp2
    go_loopw [23] (fun i wr => ∃ k : Nat, k ≤ n ∧ i = .int .i64 k ∧ Below (w.heap.size+1) (w.alloc (.cells #[.int .i64 P, .slice A n c] 27)) wr ∧ Hid (∀ (j : Nat) (t : PTran), j < k → ts[j]? = some t → tranOk P t = true)) (fun i _ => n - (intOf i).toNat)
    case atStart => exact ⟨0, Nat.zero_le _, rfl, Below.refl _ _, fun j t hj => absurd hj (by omega)⟩
    case round =>
      obtain ⟨k, hk, rfl, hb, hok⟩ := hrel
      have hbw : Below w.heap.size w wr := (BB.out _).trans (hb.mono (by simp))
      by_cases hlt : k < n
      · obtain ⟨b, off, t, A1, n1, c1, A2, n2, c2, rfl, hbl, ht, q0, q1, q2, i1, i2, m1, m2⟩ := Trans.get (h.keep hbw) hlt
        have hc0 : wr.cell? ⟨w.heap.size, 0, none⟩ = some (.int .i64 P) := (hb.cell (by simp)).trans (by simp)
        have hc1 : wr.cell? ⟨w.heap.size, 1, none⟩ = some (.slice (some ⟨b, off, none⟩) n c) := (hb.cell (by simp)).trans (by simp)
        have hsz : w.heap.size < wr.heap.size := by have := hb.size; simp at this; omega
        have FIN := hide2 (show tranOk P t = false → wrongNet ⟨P, ts⟩ = 2 from fun hf => wrongNet_not (netOk_not_tran ht.out hf))
        have L1 := hide2 i1.len
        have L2 := hide2 i2.len
        have hal : ∀ o, Below wr.heap.size wr (wr.alloc o) := fun o => (Below.refl _ _).alloc (Nat.le_refl _) _
        have HAL := hide2 hal
        have HBW := hide2 hbw
        have HB := hide2 hb
        have I1 := hide2 i1
        have I2 := hide2 i2
        clear h i1 i2 hal hb hbw
        have NO := hide2 (show (t.label < 0 ∨ 26 < t.label ∨ ¬ (n1 : Int) = P ∨ ¬ (n2 : Int) = P) → wrongNet ⟨P, ts⟩ = 2 from fun p0 => FIN.out (by
            cases hc : tranOk P t
            · rfl
            · have := (tranOk_iff P t).1 hc
              have := L1.out
              have := L2.out
              omega))
        go_wp2_with fail
        all_goals
          first
          | (go_ret; exact ⟨ret_int (NO.out (by omega)).symm, HBW.out.trans ((HAL.out _).mono HBW.out.size)⟩)
          | skip
        have e1 : (n1 : Int) = P := by assumption
        have e2 : (n2 : Int) = P := by assumption
        have l1 : 0 ≤ t.label := by assumption
        have l2 : t.label ≤ 26 := by assumption
        refine (containsFuncInts (I1.out.keep (HAL.out _)) (badW_pred _)).mono ?_
        rintro e w' ⟨rfl, rfl⟩
        cases a1 : t.pre.any badW
        · have A1' := hide2 a1
          clear a1
          go_wp2_with fail
          refine (containsFuncInts (I2.out.keep (HAL.out _)) (badW_pred _)).mono ?_
          rintro e w' ⟨rfl, rfl⟩
          cases a2 : t.post.any badW
          · have A2' := hide2 a2
            clear a2
            have E1 := hide2 e1
            have E2 := hide2 e2
            go_wp2
            go_roundw
            case rel =>
              refine ⟨k + 1, by omega, by go_num, ?_, fun j t' hj ht' => ?_⟩
              · exact HB.out.trans ((HAL.out _).mono (by have := HB.out.size; simpa using this))
              · by_cases hjk : j = k
                · subst hjk
                  have := ht.out
                  rw [ht'] at this
                  injection this with this
                  subst this
                  rw [tranOk_iff]
                  exact ⟨l1, l2, by rw [L1.out]; exact E1.out, by rw [L2.out]; exact E2.out, A1'.out, A2'.out⟩
                · exact hok.out j t' (by omega) ht'
            case measure => simp [intOf]; omega
          · have NO2 := hide2 (show wrongNet ⟨P, ts⟩ = 2 from FIN.out (by
              cases hc : tranOk P t
              · rfl
              · have := ((tranOk_iff P t).1 hc).2.2.2.2.2
                rw [a2] at this; cases this))
            clear a2
            go_wp2
            go_ret
            exact ⟨ret_int NO2.out.symm, HBW.out.trans ((HAL.out _).mono HBW.out.size)⟩
        · have NO2 := hide2 (show wrongNet ⟨P, ts⟩ = 2 from FIN.out (by
            cases hc : tranOk P t
            · rfl
            · have := ((tranOk_iff P t).1 hc).2.2.2.2.1
              rw [a1] at this; cases this))
          clear a1
          go_wp2
          go_ret
          exact ⟨ret_int NO2.out.symm, HBW.out.trans ((HAL.out _).mono HBW.out.size)⟩
      · have FIN := hide2 (show wrongNet ⟨P, ts⟩ = 0 from wrongNet_ok ((netOk_iff _).2 ⟨g1, g2, by have := HL.out; simp only []; omega, forall_get.2 (fun j t hj => hok.out j t (by have := HL.out; have := (List.getElem?_eq_some_iff.1 hj).1; simp only [] at this; omega) hj)⟩))
        have HBW := hide2 hbw
        clear h hb hbw
        go_wp2
        go_ret
        exact ⟨ret_int FIN.out.symm, HBW.out⟩
end Go.Proofs.Ytnfppolgaeibeaa
