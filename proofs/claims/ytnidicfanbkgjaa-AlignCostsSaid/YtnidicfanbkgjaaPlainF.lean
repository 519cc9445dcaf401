/- What is done with a case, way by way. No program in sight. Conditions: none. -/
import Derived.Test.YtnidicfanbkgjaaPlainC
namespace Go.Proofs.Ytnidicfanbkgjaa

theorem doL_not {N : PNet} {p : PCase} {k t : Int} (h : caseOk N p = false) : doL N p k t = (PCase.nil, 2) := by rw [doL, h]; rfl
theorem doL_kind {N : PNet} {p : PCase} {k t : Int} (h : caseOk N p = true) (hk : k < 1 ∨ 4 < k) : doL N p k t = (PCase.nil, 5) := by rw [doL, if_pos h, if_neg (by omega)]
theorem doL_none {N : PNet} {p : PCase} {k t : Int} (h : caseOk N p = true) (hk : 1 ≤ k ∧ k ≤ 4) (ht : t < 0 ∨ (N.trans.length : Int) ≤ t) : doL N p k t = (PCase.nil, 3) := by rw [doL, if_pos h, if_pos hk, if_neg (by omega)]
theorem doL_in {N : PNet} {p : PCase} {k : Int} {i : Nat} {T : PTran} (h : caseOk N p = true) (hk : 1 ≤ k ∧ k ≤ 4) (hT : N.trans[i]? = some T) : doL N p k (i : Int) = if (k = 1 ↔ T.label = 0) then stepL p k T i else (PCase.nil, 1) := by
  have hlt := (List.getElem?_eq_some_iff.1 hT).1
  rw [doL, if_pos h, if_pos hk, if_pos (by omega)]
  have e : N.trans.getD (i : Int).toNat default = T := by simp [List.getD_eq_getElem?_getD, hT]
  rw [e]
  rfl
theorem fireL_in {N : PNet} {m : List Int} {i : Nat} {T : PTran} (h : fitsB N m = true) (hT : N.trans[i]? = some T) : fireL N m (i : Int) = fireT m T := by
  have hlt := (List.getElem?_eq_some_iff.1 hT).1
  rw [fireL, if_pos h, if_pos (by omega)]
  have e : N.trans.getD (i : Int).toNat default = T := by simp [List.getD_eq_getElem?_getD, hT]
  rw [e]
theorem atL_busy {b : List Int} (h : rightB b = true) (i : Nat) : 0 ≤ atL b i := (atL_right h i).1
def thenC (q : List Int × Int) (r : List Int × Int) : PCase × Int := if q.2 = 0 then (if r.2 = 0 then (⟨q.1, r.1⟩, 0) else (PCase.nil, r.2)) else (PCase.nil, q.2)
def thenB (r : List Int × Int) (q : List Int × Int) : PCase × Int := if r.2 = 0 then (if q.2 = 0 then (⟨q.1, r.1⟩, 0) else (PCase.nil, q.2)) else (PCase.nil, r.2)
theorem step1 {p : PCase} {T : PTran} {i : Nat} (hb : rightB p.busy = true) : stepL p 1 T i = thenC (fireT p.mark T) (p.busy, 0) := by
  have hi := atL_busy hb i
  unfold stepL thenC fireT
  simp only [takeT, giveT, moreT, true_or, if_true, Int.add_zero, set_same, hb, and_true, hi]
  by_cases hc : coversB p.mark T.pre = true
  · rw [if_pos hc, if_pos hc]
    by_cases hm : rightB (mixL (mixL p.mark T.pre (-1)) T.post 1) = true
    · rw [if_pos hm, if_pos hm]; simp
    · rw [if_neg hm, if_neg hm]; simp
  · rw [if_neg hc, if_neg hc]; simp
theorem step2 {p : PCase} {T : PTran} {i : Nat} (hm : rightB p.mark = true) (hp : rightB T.pre = true) (hb : rightB p.busy = true) (hi : i < p.busy.length) : stepL p 2 T i = thenC (minusL p.mark T.pre) (busyL p.busy i 1) := by
  have h0 := atL_busy hb i
  rw [minusL_covers hm hp]
  unfold stepL thenC busyL
  simp only [takeT, giveT, moreT, or_true, if_true, show ¬ ((2 : Int) = 1) by omega, show ¬ ((2 : Int) = 3) by omega, show ¬ ((2 : Int) = 4) by omega, or_false, if_false, mixL_nil_right]
  by_cases hc : coversB p.mark T.pre = true
  · rw [if_pos ⟨hc, by omega⟩, if_pos hc, if_neg (show ¬ atL p.busy i + 1 < 0 by omega)]
    have hr := rightB_mix_covers hm hp hc
    by_cases hx : 1000000 < atL p.busy i + 1
    · rw [if_neg (fun h => by rw [set_not_right hi (.inr hx)] at h; exact absurd h.2 (by simp)), if_pos hx]; simp
    · rw [if_pos ⟨hr, set_right hb (by omega) (by omega)⟩, if_neg hx]; simp
  · rw [if_neg (fun h => hc h.1), if_neg hc]; simp
theorem step34 {p : PCase} {T : PTran} {i : Nat} {k : Int} (hk : k = 3 ∨ k = 4) (hm : rightB p.mark = true) (hg : rightB (giveT k T) = true) (hb : rightB p.busy = true) :
    stepL p k T i = thenB (busyL p.busy i (-1)) (plusL p.mark (giveT k T)) := by
  have h0 := atL_right hb i
  have hmore : moreT k = -1 := by unfold moreT; rcases hk with rfl | rfl <;> simp
  have htake : takeT k T = [] := by unfold takeT; rcases hk with rfl | rfl <;> simp
  rw [plusL, if_pos ⟨hm, hg⟩]
  unfold stepL thenB busyL
  rw [hmore, htake, mixL_nil_right, coversB_nil hm]
  by_cases hx : atL p.busy i + -1 < 0
  · rw [if_neg (by omega), if_pos hx]; simp
  · rw [if_pos ⟨rfl, by omega⟩, if_neg hx, if_neg (show ¬ 1000000 < atL p.busy i + -1 by omega)]
    by_cases hr : rightB (mixL p.mark (giveT k T) 1) = true
    · rw [if_pos ⟨hr, set_right hb (by omega) (by omega)⟩, if_pos hr]; simp
    · rw [if_neg (fun h => hr h.1), if_neg hr]; simp
end Go.Proofs.Ytnidicfanbkgjaa
