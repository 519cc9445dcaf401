/- Contracts of flow.Weigh and of the reference's CWeigh. Conditions: the slices read as lists of integers. -/
import Derived.Test.YtmdlbbfponepoaaFlowA
namespace Go.Proofs.Ytmdlbbfponepoaa
open Go.RowKit

theorem wrapI (z : Int) : IntKind.i64.wrap z = wrap64 z := by unfold wrap64; rw [IntKind.wrap_i64]

set_option maxRecDepth 100000 in
theorem weigh_calls {w : World} {A B : Option Addr} {n c m d : Nat} {ys ms : List Int} (h : Ints w A n c ys) (g : Ints w B m d ms) :
    Calls Try.prog 16 #[.slice A n c, .slice B m d] w fun e w' => e = .returned (.int .i64 (wrap64 (dotL ys ms))) ∧ Drew w w' := by
  have hn := h.small
  have hm := g.small
  have HL := hide2 h.len
  have GL := hide2 g.len
  obtain ⟨M, hM⟩ : ∃ M : Nat, min n m = M := ⟨_, rfl⟩
  have hMi : min (n : Int) (m : Int) = (M : Int) := by omega
  have hMn : M ≤ n := by omega
  have hMm : M ≤ m := by omega
  have HM := hide2 hM
  clear hM
  go_enter Try.func16, Try.ntmps16
  go_wp2
  go_loopw [5, 12] (fun s i wr => ∃ k : Nat, k ≤ M ∧ i = .int .i64 k ∧ (∃ z : Int, s = .int .i64 z ∧ Hid (z = wrap64 (dotL (ys.take k) (ms.take k)))) ∧ ∃ q, wr = w.drewN q) (fun _ i _ => M - (intOf i).toNat)
  case atStart => exact ⟨0, Nat.zero_le _, rfl, ⟨0, rfl, by show _ = _; simp [dotL, wrap64]⟩, 0, rfl⟩
  case round =>
    obtain ⟨k, hk, rfl, ⟨z, rfl, hz⟩, q, rfl⟩ := hrel
    by_cases hlt : k < M
    · obtain ⟨b, off, x, rfl, hb, hx, hc⟩ := h.get (show k < n by omega)
      obtain ⟨b', off', y, rfl, hb', hy, hc'⟩ := g.get (show k < m by omega)
      have hkn : (k : Int) < (n : Int) := by omega
      have hkm : (k : Int) < (m : Int) := by omega
      have F := hide2 (show wrap64 (z + wrap64 (x * y)) = wrap64 (dotL (ys.take (k + 1)) (ms.take (k + 1))) by rw [hz.out, dotL_take hx.out hy.out, wrap_add2])
      clear h g hz
      go_wp2
      go_quiet (fail)
      go_wp2
      go_roundw
      case rel => exact ⟨k + 1, by omega, by go_num, ⟨_, rfl, F.out⟩, _, rfl⟩
      case measure => simp [intOf]; omega
    · obtain rfl : k = M := by omega
      have W := hide2 (show z = wrap64 (dotL ys ms) by rw [hz.out, dotL_min (by rw [HL.out, GL.out, HM.out]; omega)])
      clear h g hz
      go_wp2
      go_ret
      exact ⟨ret_int W.out, _, rfl⟩

set_option maxRecDepth 100000 in
theorem refWeigh_calls (K : Nat) : ∀ (w : World) (A B : Option Addr) (n c m d : Nat) (ys ms : List Int), n ≤ K → Ints w A n c ys → Ints w B m d ms →
    Calls Try.prog 17 #[.slice A n c, .slice B m d] w fun e w' => e = .returned (.int .i64 (wrap64 (dotL ys ms))) ∧ Drew w w' := by
  induction K with
  | zero =>
    intro w A B n c m d ys ms hK h g
    obtain rfl : n = 0 := by omega
    have e1 := List.eq_nil_of_length_eq_zero h.len
    subst e1
    clear h g
    go_enter Try.func17, Try.ntmps17
    go_wp2
    go_ret
    exact ⟨ret_int (by simp [dotL, wrap64]), Drew.refl _⟩
  | succ K ih =>
    intro w A B n c m d ys ms hK h g
    by_cases hn0 : n = 0
    · exact ih w A B n c m d ys ms (by omega) h g
    · by_cases hm0 : m = 0
      · subst hm0
        have e1 := List.eq_nil_of_length_eq_zero g.len
        subst e1
        have hne : ((n : Int) == 0) = false := by simp; omega
        have W := hide2 (show wrap64 (dotL ys []) = 0 by rw [dotL_nil]; simp [wrap64])
        clear h g ih
        go_enter Try.func17, Try.ntmps17
        go_wp2
        go_ret
        exact ⟨ret_int W.out.symm, Drew.refl _⟩
      · obtain ⟨b, off, x, rfl, hb, hx, hc⟩ := h.get (k := 0) (by omega)
        obtain ⟨b', off', y, rfl, hb', hy, hc'⟩ := g.get (k := 0) (by omega)
        obtain ⟨r, rfl⟩ : ∃ r, ys = x :: r := ⟨_, by simpa using drop_cons hx.out⟩
        obtain ⟨s, rfl⟩ : ∃ s, ms = y :: s := ⟨_, by simpa using drop_cons hy.out⟩
        have hne : ((n : Int) == 0) = false := by simp; omega
        have hne' : ((m : Int) == 0) = false := by simp; omega
        have n1 : 0 < n := by omega
        have n2 : (0 : Int) < (n : Int) := by omega
        have n3 : 1 ≤ n := by omega
        have n4 : (1 : Int) ≤ (n : Int) := by omega
        have n5 : (n : Int) ≤ (c : Int) := by have := h.le; omega
        have m1 : 0 < m := by omega
        have m2 : (0 : Int) < (m : Int) := by omega
        have m3 : 1 ≤ m := by omega
        have m4 : (1 : Int) ≤ (m : Int) := by omega
        have m5 : (m : Int) ≤ (d : Int) := by have := g.le; omega
        have hcap := h.cap
        have hcap' := g.cap
        unfold maxLen at hcap hcap'
        have H := hide2 h.drop1
        have G := hide2 g.drop1
        have W := hide2 (show wrap64 (x * y + wrap64 (dotL r s)) = wrap64 (dotL (x :: r) (y :: s)) by rw [wrap_add']; rfl)
        have IH := hide2 ih
        simp only [Nat.add_zero] at hc hc'
        clear h g ih hn0 hm0 hx hy
        obtain ⟨A1, hA⟩ : ∃ A1, (if c = 1 then some (⟨b, off, none⟩ : Addr) else some ⟨b, off + 1, none⟩) = A1 := ⟨_, rfl⟩
        obtain ⟨B1, hB⟩ : ∃ B1, (if d = 1 then some (⟨b', off', none⟩ : Addr) else some ⟨b', off' + 1, none⟩) = B1 := ⟨_, rfl⟩
        rw [hA] at H
        rw [hB] at G
        have HD := hide2 (H.out.keep IntR.kept ((Below.refl _ _).drew : Below w.heap.size w w.drew))
        have GD := hide2 (G.out.keep IntR.kept ((Below.refl _ _).drew : Below w.heap.size w w.drew))
        clear H G
        by_cases c1 : c = 1 <;> by_cases d1 : d = 1
        all_goals
          simp only [c1, d1, if_true, if_false] at hA hB
          subst hA hB
          try subst c1
          try subst d1
          go_enter Try.func17, Try.ntmps17
          go_wp2
          go_region_held3 (fun w' => w'.cell? ⟨b, off, none⟩ = some (.int .i64 x) ∧ w'.cell? ⟨b', off', none⟩ = some (.int .i64 y)) (first | go_keep)
            (first
              | (go_at_call 17; (with_reducible refine (IH.out w.drew _ _ _ _ _ _ _ _ (by omega) HD.out GD.out).mono ?_); rintro e w1 ⟨rfl, q, rfl⟩; have z0 : (w.drew.drewN q).cell? ⟨b, off, none⟩ = some (.int .i64 x) := hc; have z1 : (w.drew.drewN q).cell? ⟨b', off', none⟩ = some (.int .i64 y) := hc'))
          go_wp2
          go_ret
          exact ⟨ret_int (by rw [wrapI, wrapI, wrap_add]; exact W.out), _, rfl⟩
end Go.Proofs.Ytmdlbbfponepoaa
