/- Contracts of package mark and of the references of chapter 1, part two. Conditions: the slices read as lists of integers. | Contracts of AMix, APlus, AMinus. Conditions: the slices read as lists of integers, none of them large. -/
import Derived.Test.YtnfppolgaeibeaaMark
import Derived.Test.YtnfppolgaeibeaaOwn
namespace Go.Proofs.Ytnfppolgaeibeaa
open Go.RowKit

set_option maxRecDepth 100000 in
theorem at_calls {w : World} {A : Option Addr} {n c : Nat} {xs : List Int} (h : Ints w A n c xs) (p : Nat) :
    Calls Try.prog 109 #[.slice A n c, .int .i64 p] w fun e w' => e = .returned (.int .i64 (atL xs p)) ∧ w = w' := by
  have hn := h.small
  by_cases hlt : p < n
  · obtain ⟨b, off, x, rfl, hb, hx, hc⟩ := h.get hlt
    clear h
    go_enter Try.func109, Try.ntmps109
    go_wp2
    go_ret
    exact ⟨ret_int (atL_some hx.out).symm, rfl⟩
  · have hL := hide2 h.len
    clear h
    go_enter Try.func109, Try.ntmps109
    go_wp2
    go_ret
    exact ⟨ret_int (atL_none (by have := hL.out; omega)).symm, rfl⟩

set_option maxRecDepth 100000 in
theorem refAt_calls {w : World} {A : Option Addr} {n c : Nat} {xs : List Int} (h : Ints w A n c xs) (p : Nat) :
    Calls Try.prog 114 #[.slice A n c, .int .i64 p] w fun e w' => e = .returned (.int .i64 (atL xs p)) ∧ w = w' := by
  have hn := h.small
  go_enter Try.func114, Try.ntmps114
  go_wp2
  go_loop [5, 10] (fun v i => ∃ k : Nat, k ≤ n ∧ i = .int .i64 k ∧ ∃ x : Int, v = .int .i64 x ∧ Hid (x = if p < k then atL xs p else 0)) (fun _ i => n - (intOf i).toNat)
  case atStart => exact ⟨0, Nat.zero_le _, rfl, 0, rfl, by simp [Hid]⟩
  case round =>
    obtain ⟨k, hk, rfl, v, rfl, hv⟩ := hrel
    by_cases hlt : k < n
    · obtain ⟨b, off, x, rfl, hb, hx, hc⟩ := h.get hlt
      clear h
      by_cases hkp : k = p
      · subst hkp
        go_wp2
        go_round
        case rel => exact ⟨k + 1, by omega, by go_num, x, rfl, by rw [if_pos (by omega)]; exact (atL_some hx.out).symm⟩
        case measure => simp [intOf]; omega
      · have hkp' : ((k : Int) == (p : Int)) = false := by simp; omega
        have HN := hide2 hkp
        clear hkp
        go_wp2
        go_round
        case rel =>
          refine ⟨k + 1, by omega, by go_num, v, rfl, hv.out.trans ?_⟩
          have := HN.out
          by_cases h1 : p < k
          · rw [if_pos h1, if_pos (by omega)]
          · rw [if_neg h1, if_neg (by omega)]
        case measure => simp [intOf]; omega
    · have hL := hide2 h.len
      go_wp2
      go_ret
      refine ⟨ret_int (hv.out.trans ?_), rfl⟩
      by_cases h1 : p < k
      · rw [if_pos h1]
      · rw [if_neg h1, atL_none (by have := hL.out; omega)]

set_option maxRecDepth 100000 in
theorem covers_calls {w : World} {A B : Option Addr} {n c m d : Nat} {xs ys : List Int} (h : Ints w A n c xs) (g : Ints w B m d ys) :
    Calls Try.prog 61 #[.slice A n c, .slice B m d] w fun e w' => e = .returned (.bool (coversB xs ys)) ∧ w = w' := by
  have hn := h.small
  have hm := g.small
  obtain ⟨M, hM⟩ : ∃ M : Nat, max n m = M := ⟨_, rfl⟩
  have hMb : M ≤ 281474976710656 := by omega
  have hmx : max (n : Int) (m : Int) = (M : Int) := by omega
  have HM := hide2 hM
  clear hM
  go_enter Try.func61, Try.ntmps61
  go_wp2
  clear hmx
  go_loop [11] (fun i => ∃ k : Nat, k ≤ M ∧ i = .int .i64 k ∧ Hid (∀ j, j < k → atL ys j ≤ atL xs j)) (fun i => M - (intOf i).toNat)
  case atStart => exact ⟨0, Nat.zero_le _, rfl, fun j hj => absurd hj (by omega)⟩
  case round =>
    obtain ⟨k, hk, rfl, hlow⟩ := hrel
    by_cases hlt : k < M
    · by_cases hc : atL xs k < atL ys k
      · go_wp2_with (first | ((with_reducible refine (at_calls h k).mono ?_); rintro e w' ⟨rfl, rfl⟩) | ((with_reducible refine (at_calls g k).mono ?_); rintro e w' ⟨rfl, rfl⟩))
        go_ret
        exact ⟨ret_bool (coversB_false hc).symm, rfl⟩
      · go_wp2_with (first | ((with_reducible refine (at_calls h k).mono ?_); rintro e w' ⟨rfl, rfl⟩) | ((with_reducible refine (at_calls g k).mono ?_); rintro e w' ⟨rfl, rfl⟩))
        go_round
        case rel =>
          refine ⟨k + 1, by omega, by go_num, fun j hj => ?_⟩
          by_cases hjk : j = k
          · subst hjk; omega
          · exact hlow.out j (by omega)
        case measure => simp [intOf]; omega
    · have hL := hide2 h.len
      have gL := hide2 g.len
      go_wp2
      go_ret
      refine ⟨ret_bool ?_, rfl⟩
      symm
      rw [coversB_iff]
      intro p hp
      exact hlow.out p (by have := hL.out; have := gL.out; have := HM.out; omega)

end Go.Proofs.Ytnfppolgaeibeaa
namespace Go.Proofs.Ytnfppolgaeibeaa
open Go.RowKit

def SmallL (xs : List Int) : Prop := ∀ p, -1000000000 ≤ atL xs p ∧ atL xs p ≤ 1000000000
theorem SmallL.of_right {xs : List Int} (h : rightB xs = true) : SmallL xs := fun p => by have := atL_right h p; omega

theorem mixL_take_succ {xs ys : List Int} {t : Int} {k : Nat} (h : k < max xs.length ys.length) : (mixL xs ys t).take (k + 1) = (mixL xs ys t).take k ++ [atL xs k + t * atL ys k] := take_snoc (mixL_get h)

set_option maxRecDepth 100000 in
theorem mix_calls {w : World} {A B : Option Addr} {n c m d : Nat} {xs ys : List Int} (h : Ints w A n c xs) (g : Ints w B m d ys) (t : Int) (ht : t = 1 ∨ t = -1) (sx : SmallL xs) (sy : SmallL ys) (hM8 : max n m * 8 ≤ 140737488355328) :
    Calls Try.prog 127 #[.slice A n c, .slice B m d, .int .i64 t] w fun e w' => ∃ C k, e = .returned (.slice C (max n m) k) ∧ Ints w' C (max n m) k (mixL xs ys t) ∧ Below w.heap.size w w' := by
  have hn := h.small
  have hm := g.small
  obtain ⟨M, hM⟩ : ∃ M : Nat, max n m = M := ⟨_, rfl⟩
  have hMb : M ≤ 281474976710656 := by omega
  have hM8' : M * 8 ≤ 140737488355328 := by omega
  have hmx : max (n : Int) (m : Int) = (M : Int) := by omega
  have hlen : max xs.length ys.length = M := by rw [h.len, g.len, hM]
  rw [hM]
  have HL := hide2 hlen
  clear hM hM8 hlen
  go_enter Try.func127, Try.ntmps127
  go_wp2
  clear hmx
  go_loopw [7, 14] (fun v i wr => ∃ k : Nat, k ≤ M ∧ i = .int .i64 k ∧ wr.ownsRow w.heap.size 3 1 v k (((mixL xs ys t).take k).map (Value.int .i64)) ∧ Below w.heap.size w wr) (fun _ i _ => M - (intOf i).toNat)
  case atStart => exact ⟨0, Nat.zero_le _, rfl, World.ownsRow_nil _ _ _ _, Below.refl _ _⟩
  case round =>
    obtain ⟨k, hk, rfl, own, hb⟩ := hrel
    by_cases hlt : k < M
    · have h1 := sx k
      have h2 := sy k
      have hstep := hide2 (mixL_take_succ (xs := xs) (ys := ys) (t := t) (k := k) (by rw [HL.out]; exact hlt))
      have h' := h.keep hb
      have g' := g.keep hb
      have hsz := hb.size
      obtain ⟨a, ha⟩ : ∃ a, atL xs k = a := ⟨_, rfl⟩
      obtain ⟨b, hbb⟩ : ∃ b, atL ys k = b := ⟨_, rfl⟩
      rw [ha] at h1
      rw [hbb] at h2
      have HA := hide2 ha
      have HB := hide2 hbb
      obtain ⟨h3, h4⟩ := h1
      obtain ⟨h5, h6⟩ := h2
      clear ha hbb h g sx sy
      have Ht := hide2 ht
      rcases ht with rfl | rfl
      all_goals
        go_wp2_with (first
          | ((with_reducible refine (refAt_calls h' k).mono ?_); rintro e w' ⟨rfl, rfl⟩; rw [HA.out])
          | ((with_reducible refine (refAt_calls g' k).mono ?_); rintro e w' ⟨rfl, rfl⟩; rw [HB.out])
          | (at_builtin; refine wpList_app tyInts rfl _ _ rfl _ rfl rfl (by simp) rfl (by simp [Value.oneCell']) own hb hsz (by omega) (by omega) ?_; intro v1 w1 own1 hg1 hb1))
        go_roundw
        case rel =>
          refine ⟨k + 1, by omega, by go_num, ?_, hb1⟩
          rw [hstep.out, HA.out, HB.out]
          simpa using own1
        case measure => simp [intOf]; omega
    · obtain rfl : k = M := by omega
      have hfull := hide2 (show (mixL xs ys t).take k = mixL xs ys t from List.take_of_length_le (by rw [mixL_length, HL.out]; exact Nat.le_refl _))
      have hbH := hide2 hb
      have ownH := hide2 own
      go_wp2
      go_ret
      have own2 := ownH.out
      rw [hfull.out] at own2
      obtain ⟨C, cc, hv, hi⟩ := Ints.of_own own2 hMb
      exact ⟨C, cc, by rw [← hv]; rfl, hi, hbH.out⟩
end Go.Proofs.Ytnfppolgaeibeaa
