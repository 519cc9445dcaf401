/- Contracts of AMix, APlus, AMinus. Conditions: the slices read as lists of integers, none of them large. -/
import Derived.Test.YtldljjmibaaokaaMarkB
import Derived.Test.YtldljjmibaaokaaOwn
namespace Go.Proofs.Ytldljjmibaaokaa
open Go.RowKit

def SmallL (xs : List Int) : Prop := ∀ p, -1000000000 ≤ atL xs p ∧ atL xs p ≤ 1000000000
theorem SmallL.of_right {xs : List Int} (h : rightB xs = true) : SmallL xs := fun p => by have := atL_right h p; omega

theorem mixL_take_succ {xs ys : List Int} {t : Int} {k : Nat} (h : k < max xs.length ys.length) : (mixL xs ys t).take (k + 1) = (mixL xs ys t).take k ++ [atL xs k + t * atL ys k] := take_snoc (mixL_get h)

set_option maxRecDepth 100000 in
theorem mix_calls {w : World} {A B : Option Addr} {n c m d : Nat} {xs ys : List Int} (h : Ints w A n c xs) (g : Ints w B m d ys) (t : Int) (ht : t = 1 ∨ t = -1) (sx : SmallL xs) (sy : SmallL ys) (hM8 : max n m * 8 ≤ 140737488355328) :
    Calls Try.prog 142 #[.slice A n c, .slice B m d, .int .i64 t] w fun e w' => ∃ C k, e = .returned (.slice C (max n m) k) ∧ Ints w' C (max n m) k (mixL xs ys t) ∧ Below w.heap.size w w' := by
  have hn := h.small
  have hm := g.small
  obtain ⟨M, hM⟩ : ∃ M : Nat, max n m = M := ⟨_, rfl⟩
  have hMb : M ≤ 281474976710656 := by omega
  have hM8' : M * 8 ≤ 140737488355328 := by omega
  have hmx : max (n : Int) (m : Int) = (M : Int) := by omega
  have hlen : max xs.length ys.length = M := by rw [h.len, g.len, hM]
  rw [hM]
  have HL := hide2 hlen
  clear hM hM8 hlen
  go_enter Try.func142, Try.ntmps142
  go_wp2
  clear hmx
  go_loopw [7, 14] (fun v i wr => ∃ k : Nat, k ≤ M ∧ i = .int .i64 k ∧ wr.ownsRow w.heap.size 3 1 v k (((mixL xs ys t).take k).map (Value.int .i64)) ∧ Below w.heap.size w wr) (fun _ i _ => M - (intOf i).toNat)
  case atStart => exact ⟨0, Nat.zero_le _, rfl, World.ownsRow_nil _ _ _ _, Below.refl _ _⟩
  case round =>
    obtain ⟨k, hk, rfl, own, hb⟩ := hrel
    by_cases hlt : k < M
    · have h1 := sx k
      have h2 := sy k
      have hstep := hide2 (mixL_take_succ (xs := xs) (ys := ys) (t := t) (k := k) (by rw [HL.out]; exact hlt))
      have h' := h.keep hb
      have g' := g.keep hb
      have hsz := hb.size
      obtain ⟨a, ha⟩ : ∃ a, atL xs k = a := ⟨_, rfl⟩
      obtain ⟨b, hbb⟩ : ∃ b, atL ys k = b := ⟨_, rfl⟩
      rw [ha] at h1
      rw [hbb] at h2
      have HA := hide2 ha
      have HB := hide2 hbb
      obtain ⟨h3, h4⟩ := h1
      obtain ⟨h5, h6⟩ := h2
      clear ha hbb h g sx sy
      have Ht := hide2 ht
      rcases ht with rfl | rfl
      all_goals
        go_wp2_with (first
          | ((with_reducible refine (refAt_calls h' k).mono ?_); rintro e w' ⟨rfl, rfl⟩; rw [HA.out])
          | ((with_reducible refine (refAt_calls g' k).mono ?_); rintro e w' ⟨rfl, rfl⟩; rw [HB.out])
          | (at_builtin; refine wpList_app tyInts rfl _ _ rfl _ rfl rfl (by simp) rfl (by simp [Value.oneCell']) own hb hsz (by omega) (by omega) ?_; intro v1 w1 own1 hg1 hb1))
        go_roundw
        case rel =>
          refine ⟨k + 1, by omega, by go_num, ?_, hb1⟩
          rw [hstep.out, HA.out, HB.out]
          simpa using own1
        case measure => simp [intOf]; omega
    · obtain rfl : k = M := by omega
      have hfull := hide2 (show (mixL xs ys t).take k = mixL xs ys t from List.take_of_length_le (by rw [mixL_length, HL.out]; exact Nat.le_refl _))
      have hbH := hide2 hb
      have ownH := hide2 own
      go_wp2
      go_ret
      have own2 := ownH.out
      rw [hfull.out] at own2
      obtain ⟨C, cc, hv, hi⟩ := Ints.of_own own2 hMb
      exact ⟨C, cc, by rw [← hv]; rfl, hi, hbH.out⟩
end Go.Proofs.Ytldljjmibaaokaa
