/- The contract of BWrong. Conditions: the net's transitions read as a list. -/
import Derived.Test.YtnfppolgaeibeaaNetB
import Derived.Deep.DeepCutAuto
import Derived.Deep.LoopGhost
namespace Go.Proofs.Ytnfppolgaeibeaa
open Go.RowKit

theorem allOk_take_succ {P : Int} {ts : List PTran} {k : Nat} {t : PTran} (ht : ts[k]? = some t) : (ts.take (k + 1)).all (tranOk P) = ((ts.take k).all (tranOk P) && tranOk P t) := by
  rw [take_snoc ht, List.all_append]; simp

theorem tranOk_parts {P : Int} {t : PTran} {n1 n2 : Nat} (h1 : t.pre.length = n1) (h2 : t.post.length = n2) :
    tranOk P t = ((decide (0 ≤ t.label) && decide (t.label ≤ 26) && decide ((n1 : Int) = P) && decide ((n2 : Int) = P)) && !(t.pre ++ t.post).any badW) := by
  rw [tranOk, h1, h2, List.any_append]
  simp [Bool.and_assoc]
theorem wrongNet_bool {P : Int} {ts : List PTran} {n : Nat} (h : ts.length = n) : wrongNet ⟨P, ts⟩ = if ((decide (0 ≤ P) && decide (P ≤ 16) && decide (n ≤ 24)) && ts.all (tranOk P)) = true then 0 else 2 := by
  rw [wrongNet, netOk, h]

set_option maxRecDepth 100000 in
set_option maxHeartbeats 1000000 in
theorem refWrong_calls (w : World) (P : Int) (A : Option Addr) (n c : Nat) (ts : List PTran) (h : Trans w A n c ts) :
    Calls Try.prog 52 #[.agg #[.int .i64 P, .slice A n c]] w fun e w' => e = .returned (.int .i64 (wrongNet ⟨P, ts⟩)) ∧ Below w.heap.size w w' := by
  have hn := h.small
  have HL := hide2 h.len
  have boxB : ∀ o, Below w.heap.size w (w.alloc o) := fun o => (Below.refl _ _).alloc (Nat.le_refl _) _
  have BB := hide2 boxB
  clear boxB
  obtain ⟨g, hg⟩ : ∃ g : Bool, g = (decide (0 ≤ P) && decide (P ≤ 16) && decide (n ≤ 24)) := ⟨_, rfl⟩
  have HG := hide2 hg
  clear hg
  go_enter Try.func52, Try.ntmps52
  go_upto_region 1 with fail
  go_cut [3] (fun s wx => s = .bool g ∧ wx = w.alloc (.cells #[.int .i64 P, .slice A n c] 27))
  case first =>
    go_wp2
    all_goals
      go_meet
      exact ⟨congrArg Value.bool (by rw [HG.out, Bool.eq_iff_iff]; simp only [Bool.and_eq_true, decide_eq_true_eq, Bool.false_eq_true]; constructor <;> intro h <;> first | exact h.elim | omega), rfl⟩
  case rest =>
    obtain ⟨rfl, rfl⟩ := hcut
    go_wp2
    go_loopg [3, 25] n (fun gk v i wr => ∃ (k : Nat) (b : Bool), k + gk = n ∧ i = .int .i64 k ∧ v = .bool b ∧ Below (w.heap.size+1) (w.alloc (.cells #[.int .i64 P, .slice A n c] 27)) wr ∧ Hid (b = (g && (ts.take k).all (tranOk P))))
    case atStart => exact ⟨0, g, by omega, rfl, rfl, Below.refl _ _, by simp [Hid]⟩
    case round =>
      obtain ⟨k, b, hk, rfl, rfl, hb, hv⟩ := hrel
      have hbw : Below w.heap.size w wr := (BB.out _).trans (hb.mono (by simp))
      by_cases hlt : k < n
      · obtain ⟨bl, off, t, A1, n1, c1, A2, n2, c2, rfl, hbl, ht, q0, q1, q2, i1, i2, m1, m2⟩ := Trans.get (h.keep hbw) hlt
        have hc0 : wr.cell? ⟨w.heap.size, 0, none⟩ = some (.int .i64 P) := (hb.cell (by simp)).trans (by simp)
        have hsz : w.heap.size < wr.heap.size := by have := hb.size; simp at this; omega
        have L1 := hide2 i1.len
        have L2 := hide2 i2.len
        have HAL := hide2 (show ∀ o, Below wr.heap.size wr (wr.alloc o) from fun o => (Below.refl _ _).alloc (Nat.le_refl _) _)
        have HB := hide2 hb
        have I1 := hide2 i1
        have I2 := hide2 i2
        clear h i1 i2 hb hbw
        go_upto_region 5 with fail
        go_cut [3] (fun s wx => ∃ b1 : Bool, s = .bool b1 ∧ wx = wr.alloc (.cells #[.int .i64 t.label, .slice A1 n1 c1, .slice A2 n2 c2] 78) ∧ Hid (b1 = (b && (decide (0 ≤ t.label) && decide (t.label ≤ 26) && decide ((n1 : Int) = P) && decide ((n2 : Int) = P)))))
        case first =>
          cases b
          all_goals
            go_wp2
            all_goals
              go_meet
              refine ⟨_, rfl, rfl, ?_⟩
              first
              | rfl
              | (show _ = _; rw [Bool.eq_iff_iff]; simp only [Bool.true_and, Bool.and_eq_true, decide_eq_true_eq, beq_iff_eq, Bool.false_eq_true]; constructor <;> intro h <;> first | exact h.elim | omega)
        case rest =>
          obtain ⟨b1, rfl, rfl, hb1⟩ := hcut
          go_wp2_with fail
          refine (concat2_calls (xs := t.pre) (ys := t.post) (by simp) (by simp) ((I1.out.keep (HAL.out _)).keep ((Below.refl _ _).alloc (Nat.le_refl _) _)) ((I2.out.keep (HAL.out _)).keep ((Below.refl _ _).alloc (Nat.le_refl _) _)) (by omega)).mono ?_
          rintro e w2 ⟨C, cc, rfl, hi, hb2⟩
          have HB2 := hide2 (show Below (w.heap.size+1) (w.alloc (.cells #[.int .i64 P, .slice (some ⟨bl, off, none⟩) n c] 27)) w2 from
            (HB.out.trans ((((Below.refl _ _).alloc (Nat.le_refl _) _).alloc (by simp) _).mono (by omega))).trans (hb2.mono (by simp; omega)))
          have hci : ∀ j (hj : j < n1 + n2), ∃ b off x, C = some ⟨b, off, none⟩ ∧ Hid ((t.pre ++ t.post)[j]? = some x) ∧ w2.cell? ⟨b, off + j, none⟩ = some (.int .i64 x) := fun j hj => by
            obtain ⟨b, off, x, h1, _, h2, h3⟩ := hi.get hj
            exact ⟨b, off, x, h1, h2, h3⟩
          have HCI := hide2 hci
          have HCL := hide2 hi.len
          clear hb2 hi hci
          go_wp2
          obtain ⟨wo, hwo⟩ : ∃ wo : World, wo = w2 := ⟨_, rfl⟩
          subst hwo
          go_loopg [3, 63] (n1 + n2) (fun gj v i wr => ∃ (j : Nat) (b2 : Bool), j + gj = n1 + n2 ∧ i = .int .i64 j ∧ v = .bool b2 ∧ Hid (wr = wo) ∧ Hid (b2 = (b1 && !((t.pre ++ t.post).take j).any badW)))
          case atStart => exact ⟨0, b1, by omega, by rfl, rfl, by rfl, by simp [Hid]⟩
          case round =>
            obtain ⟨j, b2, hj, rfl, rfl, hwr, hv2⟩ := hrel
            obtain rfl := hwr.out
            by_cases hjl : j < n1 + n2
            · obtain ⟨bb, oo, x, rfl, hx, hcx⟩ := HCI.out j hjl
              have FIN := hide2 (show ∀ r : Bool, (r = true ↔ b2 = true ∧ 0 ≤ x ∧ x ≤ 9) → r = (b1 && !((t.pre ++ t.post).take (j + 1)).any badW) from by
                intro r hr
                have := hv2.out
                rw [take_snoc hx.out, List.any_append]
                simp only [List.any_cons, List.any_nil, Bool.or_false, Bool.not_or, ← Bool.and_assoc]
                rw [← this]
                rw [Bool.eq_iff_iff, hr]
                simp [badW])
              cases b2
              · go_wp2
                go_roundg (gk - 1)
                case measure => omega
                case rel => exact ⟨j + 1, false, by omega, by go_num, rfl, by first | exact hwr | rfl, FIN.out false (by simp)⟩
              · by_cases x0 : 0 ≤ x
                · by_cases x1 : x ≤ 9
                  · go_wp2
                    go_roundg (gk - 1)
                    case measure => omega
                    case rel => exact ⟨j + 1, true, by omega, by go_num, by first | rfl | simp, by first | exact hwr | rfl, FIN.out true (iff_of_true rfl ⟨by first | trivial | rfl, x0, x1⟩)⟩
                  · go_wp2
                    go_roundg (gk - 1)
                    case measure => omega
                    case rel => exact ⟨j + 1, false, by omega, by go_num, by first | rfl | simp, by first | exact hwr | rfl, FIN.out false ⟨fun h => (by cases h), fun h => (by omega)⟩⟩
                · go_wp2
                  go_roundg (gk - 1)
                  case measure => omega
                  case rel => exact ⟨j + 1, false, by omega, by go_num, by first | rfl | simp, by first | exact hwr | rfl, FIN.out false ⟨fun h => (by cases h), fun h => (by omega)⟩⟩
            · have FIN := hide2 (show b2 = (g && (ts.take (k + 1)).all (tranOk P)) from by
                have e2 := hv2.out
                rw [List.take_of_length_le (by rw [HCL.out]; omega), hb1.out, hv.out] at e2
                rw [e2, allOk_take_succ ht.out, tranOk_parts L1.out L2.out]
                simp only [Bool.and_assoc])
              go_wp2
              go_roundg (n - (k + 1))
              case measure => omega
              case rel => exact ⟨k + 1, b2, by omega, by go_num, rfl, HB2.out, FIN⟩
      · have FIN := hide2 (show b = (g && ts.all (tranOk P)) from by
          have := hv.out
          rwa [List.take_of_length_le (by have := HL.out; omega)] at this)
        have HBW := hide2 hbw
        clear h hb hbw
        cases b
        · go_wp2
          go_ret
          exact ⟨ret_int (by rw [wrongNet_bool HL.out, ← HG.out, ← FIN.out]; rfl), HBW.out⟩
        · go_wp2
          go_ret
          exact ⟨ret_int (by rw [wrongNet_bool HL.out, ← HG.out, ← FIN.out]; rfl), HBW.out⟩
end Go.Proofs.Ytnfppolgaeibeaa
