/- The plain law of turned nets and of runs. No program in sight. -/
import Derived.Test.YtldljjmibaaokaaPlainB
namespace Go.Proofs.Ytldljjmibaaokaa
def turnT (t : PTran) : PTran := ⟨t.label, t.post, t.pre⟩
def turned (N : PNet) : PNet := ⟨N.places, N.trans.map turnT⟩
/-- One fire behind the other. -/
def loopL (N : PNet) : List Int → List Int → List Int × Int
  | m, [] => (m, 0)
  | m, t :: r => if (fireL N m t).2 = 0 then loopL N (fireL N m t).1 r else fireL N m t
def runL (N : PNet) (m seq : List Int) : List Int × Int := if fitsB N m = true then loopL N m seq else ([], 2)
theorem fireT_fits {N : PNet} {m : List Int} {t : PTran} (h : fitsB N m = true) (hp : (t.pre.length : Int) = N.places) (hq : (t.post.length : Int) = N.places) (he : (fireT m t).2 = 0) : fitsB N (fireT m t).1 = true := by
  have hf := (fitsB_iff _ _).1 h
  unfold fireT at he ⊢
  split at he
  · rename_i hc
    rw [if_pos hc]
    split at he
    · rename_i hr
      rw [if_pos hr, fitsB_iff]
      refine ⟨hf.1, ?_, hr⟩
      rw [mixL_length, mixL_length]
      omega
    · simp at he
  · simp at he
theorem fireL_err {N : PNet} {m : List Int} {t : Int} (he : (fireL N m t).2 ≠ 0) : (fireL N m t).1 = [] := by
  unfold fireL at he ⊢
  split at he
  · rename_i hf
    rw [if_pos hf]
    split at he
    · rename_i ht
      rw [if_pos ht]
      unfold fireT at he ⊢
      split at he
      · rename_i hc
        rw [if_pos hc]
        split at he
        · simp at he
        · rename_i hr
          rw [if_neg hr]
      · rename_i hc
        rw [if_neg hc]
    · rename_i ht
      rw [if_neg ht]
  · rename_i hf
    rw [if_neg hf]
theorem fireL_fits {N : PNet} {m : List Int} {t : Int} (he : (fireL N m t).2 = 0) : fitsB N (fireL N m t).1 = true := by
  unfold fireL at he ⊢
  split at he
  · rename_i hf
    rw [if_pos hf]
    split at he
    · rename_i ht
      rw [if_pos ht]
      have hlt : t.toNat < N.trans.length := by omega
      have hx : N.trans[t.toNat]? = some (N.trans.getD t.toNat default) := by simp [List.getElem?_eq_getElem hlt]
      have hk := netOk_tran ((fitsB_iff _ _).1 hf).1 hx
      exact fireT_fits hf hk.2.2.1 hk.2.2.2.1 he
    · simp at he
  · simp at he
theorem fireL_not {N : PNet} {m : List Int} {t : Int} (h : fitsB N m = false) : fireL N m t = ([], 2) := by rw [fireL, h]; rfl
theorem fireL_length {N : PNet} {m : List Int} {t : Int} : (fireL N m t).1.length ≤ 16 := by
  by_cases he : (fireL N m t).2 = 0
  · have h := (fitsB_iff _ _).1 (fireL_fits he)
    have := ((netOk_iff _).1 h.1).2.1
    omega
  · rw [fireL_err he]; simp
theorem loopL_step {N : PNet} {m : List Int} {t : Int} {r : List Int} (he : (fireL N m t).2 = 0) : loopL N m (t :: r) = loopL N (fireL N m t).1 r := by rw [loopL, if_pos he]
theorem loopL_stop {N : PNet} {m : List Int} {t : Int} {r : List Int} (he : (fireL N m t).2 ≠ 0) : loopL N m (t :: r) = fireL N m t := by rw [loopL, if_neg he]
theorem runL_cons {N : PNet} {m : List Int} {t : Int} {r : List Int} : runL N m (t :: r) = if (fireL N m t).2 = 0 then runL N (fireL N m t).1 r else fireL N m t := by
  unfold runL
  cases hf : fitsB N m
  · rw [fireL_not hf]; simp
  · simp only [if_true]
    by_cases he : (fireL N m t).2 = 0
    · rw [loopL_step he, if_pos he, if_pos (fireL_fits he)]
    · rw [loopL_stop he, if_neg he]
/-- The loop from the k-th on. -/
theorem drop_cons {α : Type} {xs : List α} {k : Nat} {x : α} (h : xs[k]? = some x) : xs.drop k = x :: xs.drop (k + 1) := by
  obtain ⟨hk, rfl⟩ := List.getElem?_eq_some_iff.1 h
  exact List.drop_eq_getElem_cons hk
end Go.Proofs.Ytldljjmibaaokaa
