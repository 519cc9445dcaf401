/- The plain law of turned nets and of runs. No program in sight. | What chapter 16 says, in plain Lean: cases, and what is done with them. Conditions: none. | What is done with a case, way by way. No program in sight. Conditions: none. -/
import Derived.Test.YtnfppolgaeibeaaPlainA
namespace Go.Proofs.Ytnfppolgaeibeaa
def turnT (t : PTran) : PTran := ⟨t.label, t.post, t.pre⟩
def turned (N : PNet) : PNet := ⟨N.places, N.trans.map turnT⟩
/-- One fire behind the other. -/
def loopL (N : PNet) : List Int → List Int → List Int × Int
  | m, [] => (m, 0)
  | m, t :: r => if (fireL N m t).2 = 0 then loopL N (fireL N m t).1 r else fireL N m t
def runL (N : PNet) (m seq : List Int) : List Int × Int := if fitsB N m = true then loopL N m seq else ([], 2)
theorem fireT_fits {N : PNet} {m : List Int} {t : PTran} (h : fitsB N m = true) (hp : (t.pre.length : Int) = N.places) (hq : (t.post.length : Int) = N.places) (he : (fireT m t).2 = 0) : fitsB N (fireT m t).1 = true := by
  have hf := (fitsB_iff _ _).1 h
  unfold fireT at he ⊢
  split at he
  · rename_i hc
    rw [if_pos hc]
    split at he
    · rename_i hr
      rw [if_pos hr, fitsB_iff]
      refine ⟨hf.1, ?_, hr⟩
      rw [mixL_length, mixL_length]
      omega
    · simp at he
  · simp at he
theorem fireL_err {N : PNet} {m : List Int} {t : Int} (he : (fireL N m t).2 ≠ 0) : (fireL N m t).1 = [] := by
  unfold fireL at he ⊢
  split at he
  · rename_i hf
    rw [if_pos hf]
    split at he
    · rename_i ht
      rw [if_pos ht]
      unfold fireT at he ⊢
      split at he
      · rename_i hc
        rw [if_pos hc]
        split at he
        · simp at he
        · rename_i hr
          rw [if_neg hr]
      · rename_i hc
        rw [if_neg hc]
    · rename_i ht
      rw [if_neg ht]
  · rename_i hf
    rw [if_neg hf]
theorem fireL_fits {N : PNet} {m : List Int} {t : Int} (he : (fireL N m t).2 = 0) : fitsB N (fireL N m t).1 = true := by
  unfold fireL at he ⊢
  split at he
  · rename_i hf
    rw [if_pos hf]
    split at he
    · rename_i ht
      rw [if_pos ht]
      have hlt : t.toNat < N.trans.length := by omega
      have hx : N.trans[t.toNat]? = some (N.trans.getD t.toNat default) := by simp [List.getElem?_eq_getElem hlt]
      have hk := netOk_tran ((fitsB_iff _ _).1 hf).1 hx
      exact fireT_fits hf hk.2.2.1 hk.2.2.2.1 he
    · simp at he
  · simp at he
theorem fireL_not {N : PNet} {m : List Int} {t : Int} (h : fitsB N m = false) : fireL N m t = ([], 2) := by rw [fireL, h]; rfl
theorem fireL_length {N : PNet} {m : List Int} {t : Int} : (fireL N m t).1.length ≤ 16 := by
  by_cases he : (fireL N m t).2 = 0
  · have h := (fitsB_iff _ _).1 (fireL_fits he)
    have := ((netOk_iff _).1 h.1).2.1
    omega
  · rw [fireL_err he]; simp
theorem loopL_step {N : PNet} {m : List Int} {t : Int} {r : List Int} (he : (fireL N m t).2 = 0) : loopL N m (t :: r) = loopL N (fireL N m t).1 r := by rw [loopL, if_pos he]
theorem loopL_stop {N : PNet} {m : List Int} {t : Int} {r : List Int} (he : (fireL N m t).2 ≠ 0) : loopL N m (t :: r) = fireL N m t := by rw [loopL, if_neg he]
theorem runL_cons {N : PNet} {m : List Int} {t : Int} {r : List Int} : runL N m (t :: r) = if (fireL N m t).2 = 0 then runL N (fireL N m t).1 r else fireL N m t := by
  unfold runL
  cases hf : fitsB N m
  · rw [fireL_not hf]; simp
  · simp only [if_true]
    by_cases he : (fireL N m t).2 = 0
    · rw [loopL_step he, if_pos he, if_pos (fireL_fits he)]
    · rw [loopL_stop he, if_neg he]
/-- The loop from the k-th on. -/
theorem drop_cons {α : Type} {xs : List α} {k : Nat} {x : α} (h : xs[k]? = some x) : xs.drop k = x :: xs.drop (k + 1) := by
  obtain ⟨hk, rfl⟩ := List.getElem?_eq_some_iff.1 h
  exact List.drop_eq_getElem_cons hk
end Go.Proofs.Ytnfppolgaeibeaa
namespace Go.Proofs.Ytnfppolgaeibeaa

def oneL (n : Nat) (i : Int) : List Int := (List.range n).map fun (p : Nat) => if (p : Int) = i then 1 else 0
theorem oneL_length (n : Nat) (i : Int) : (oneL n i).length = n := by simp [oneL]
theorem oneL_succ (n : Nat) (i : Int) : oneL (n + 1) i = oneL n i ++ [if (n : Int) = i then 1 else 0] := by simp [oneL, List.range_succ]
theorem oneL_right (n : Nat) (i : Int) : rightB (oneL n i) = true := by
  rw [rightB_iff]
  intro x hx
  simp only [oneL, List.mem_map, List.mem_range] at hx
  obtain ⟨p, _, rfl⟩ := hx
  split <;> omega
theorem oneL_set (n i : Nat) : (List.replicate n (0 : Int)).set i 1 = oneL n (i : Int) := by
  apply List.ext_getElem (by simp [oneL])
  intro j h1 h2
  by_cases hj : i = j
  · subst hj; simp [oneL]
  · rw [List.getElem_set_ne hj]
    have : ¬ (j : Int) = (i : Int) := by omega
    simp [oneL, this]
theorem oneL_out (n : Nat) (i : Int) (h : ¬ (0 ≤ i ∧ i < (n : Int))) : List.replicate n (0 : Int) = oneL n i := by
  apply List.ext_getElem (by simp [oneL])
  intro j h1 h2
  have : ¬ ((j : Int) = i) := by simp at h1; omega
  simp [oneL, this]

structure PCase where
  mark : List Int
  busy : List Int
deriving Inhabited, DecidableEq
def PCase.nil : PCase := ⟨[], []⟩
def caseOk (N : PNet) (c : PCase) : Bool := fitsB N c.mark && decide (c.busy.length = N.trans.length) && rightB c.busy
theorem caseOk_iff (N : PNet) (c : PCase) : caseOk N c = true ↔ netOk N = true ∧ (c.mark.length : Int) = N.places ∧ rightB c.mark = true ∧ c.busy.length = N.trans.length ∧ rightB c.busy = true := by
  simp [caseOk, fitsB, and_assoc]
def beginL (N : PNet) (i : Int) : PCase × Int :=
  if netOk N = true then (if 0 ≤ i ∧ i < N.places then (⟨oneL N.places.toNat i, List.replicate N.trans.length 0⟩, 0) else (PCase.nil, 3)) else (PCase.nil, 2)
theorem beginL_err (N : PNet) (i : Int) (h : (beginL N i).2 ≠ 0) : (beginL N i).1 = PCase.nil := by
  unfold beginL at h ⊢
  split
  · rename_i h1
    rw [if_pos h1] at h
    split
    · rename_i h2; rw [if_pos h2] at h; simp at h
    · rfl
  · rfl

def takeT (k : Int) (T : PTran) : List Int := if k = 1 ∨ k = 2 then T.pre else []
def giveT (k : Int) (T : PTran) : List Int := if k = 1 ∨ k = 3 then T.post else if k = 4 then T.pre else []
def moreT (k : Int) : Int := if k = 1 then 0 else if k = 2 then 1 else -1
def stepL (c : PCase) (k : Int) (T : PTran) (i : Nat) : PCase × Int :=
  if coversB c.mark (takeT k T) = true ∧ 0 ≤ atL c.busy i + moreT k then
    (if rightB (mixL (mixL c.mark (takeT k T) (-1)) (giveT k T) 1) = true ∧ rightB (c.busy.set i (atL c.busy i + moreT k)) = true then
      (⟨mixL (mixL c.mark (takeT k T) (-1)) (giveT k T) 1, c.busy.set i (atL c.busy i + moreT k)⟩, 0) else (PCase.nil, 4))
  else (PCase.nil, 3)
def doL (N : PNet) (c : PCase) (k t : Int) : PCase × Int :=
  if caseOk N c = true then (if 1 ≤ k ∧ k ≤ 4 then (if 0 ≤ t ∧ t < (N.trans.length : Int) then
    (if (k = 1 ↔ (N.trans.getD t.toNat default).label = 0) then stepL c k (N.trans.getD t.toNat default) t.toNat else (PCase.nil, 1)) else (PCase.nil, 3)) else (PCase.nil, 5)) else (PCase.nil, 2)

theorem mixL_nil_right (a : List Int) (t : Int) : mixL a [] t = a := by
  apply List.ext_getElem (by simp [mixL])
  intro i h1 h2
  simp [mixL, atL, h2]
theorem coversB_nil {a : List Int} (h : rightB a = true) : coversB a [] = true := by
  rw [coversB_iff']
  intro p
  have := atL_right h p
  simp only [atL_none (xs := []) (p := p) (by simp)]
  omega
theorem set_right {b : List Int} {i : Nat} {x : Int} (h : rightB b = true) (h0 : 0 ≤ x) (h1 : x ≤ 1000000) : rightB (b.set i x) = true := by
  rw [rightB_iff] at h ⊢
  intro y hy
  rcases List.mem_or_eq_of_mem_set hy with hy | rfl
  · exact h y hy
  · exact ⟨h0, h1⟩
theorem set_not_right {b : List Int} {i : Nat} {x : Int} (hi : i < b.length) (h : x < 0 ∨ 1000000 < x) : rightB (b.set i x) = false := by
  cases hc : rightB (b.set i x)
  · rfl
  · have := (rightB_iff _).1 hc x (List.mem_iff_getElem.2 ⟨i, by simpa using hi, by simp⟩)
    omega
theorem set_same {b : List Int} {i : Nat} : b.set i (atL b i) = b := by
  apply List.ext_getElem (by simp)
  intro j h1 h2
  by_cases hj : i = j
  · subst hj; simp [atL, h2]
  · rw [List.getElem_set_ne hj]

/-- What a busy count may become. -/
def busyL (b : List Int) (i : Nat) (more : Int) : List Int × Int := if atL b i + more < 0 then ([], 3) else if 1000000 < atL b i + more then ([], 4) else (b.set i (atL b i + more), 0)

theorem doL_ok {N : PNet} {c : PCase} {k t : Int} (h : (doL N c k t).2 = 0) : caseOk N (doL N c k t).1 = true := by
  unfold doL at h ⊢
  split at h
  · rename_i hc
    rw [if_pos hc]
    split at h
    · rename_i hk
      rw [if_pos hk]
      split at h
      · rename_i ht
        rw [if_pos ht]
        split at h
        · rename_i hl
          rw [if_pos hl]
          unfold stepL at h ⊢
          split at h
          · rename_i h1
            rw [if_pos h1]
            split at h
            · rename_i h2
              rw [if_pos h2]
              rw [caseOk_iff] at hc ⊢
              have hx : N.trans[t.toNat]? = some (N.trans.getD t.toNat default) := by
                have hlt : t.toNat < N.trans.length := by omega
                simp [List.getElem?_eq_getElem hlt]
              have hT := netOk_tran hc.1 hx
              refine ⟨hc.1, ?_, h2.1, by simpa using hc.2.2.2.1, h2.2⟩
              have e1 : (takeT k (N.trans.getD t.toNat default)).length ≤ c.mark.length := by
                unfold takeT; split
                · omega
                · simp
              have e2 : (giveT k (N.trans.getD t.toNat default)).length ≤ c.mark.length := by
                unfold giveT; split
                · omega
                · split
                  · omega
                  · simp
              simp only [mixL_length]
              omega
            · simp at h
          · simp at h
        · simp at h
      · simp at h
    · simp at h
  · simp at h
theorem beginL_ok {N : PNet} {i : Int} (h : (beginL N i).2 = 0) : caseOk N (beginL N i).1 = true := by
  unfold beginL at h ⊢
  split at h
  · rename_i h1
    rw [if_pos h1]
    split at h
    · rename_i h2
      rw [if_pos h2, caseOk_iff]
      have := (netOk_iff N).1 h1
      refine ⟨h1, by simp only [oneL_length]; omega, oneL_right _ _, by simp, ?_⟩
      rw [rightB_iff]
      intro x hx
      obtain ⟨_, rfl⟩ := List.mem_replicate.1 hx
      omega
    · simp at h
  · simp at h
/-- One behind the other; what cannot be is left out. -/
def playC (N : PNet) : PCase → List (Int × Int) → PCase
  | c, [] => c
  | c, o :: r => playC N (if (doL N c o.1 o.2).2 = 0 then (doL N c o.1 o.2).1 else c) r
def playE (N : PNet) : PCase → List (Int × Int) → List Int
  | _, [] => []
  | c, o :: r => (doL N c o.1 o.2).2 :: playE N (if (doL N c o.1 o.2).2 = 0 then (doL N c o.1 o.2).1 else c) r
theorem playC_snoc (N : PNet) : ∀ (l : List (Int × Int)) (c : PCase) (o : Int × Int), playC N c (l ++ [o]) = if (doL N (playC N c l) o.1 o.2).2 = 0 then (doL N (playC N c l) o.1 o.2).1 else playC N c l
  | [], _, _ => rfl
  | _ :: l, _, o => playC_snoc N l _ o
theorem playE_snoc (N : PNet) : ∀ (l : List (Int × Int)) (c : PCase) (o : Int × Int), playE N c (l ++ [o]) = playE N c l ++ [(doL N (playC N c l) o.1 o.2).2]
  | [], _, _ => rfl
  | x :: l, c, o => congrArg (List.cons (doL N c x.1 x.2).2) (playE_snoc N l _ o)
end Go.Proofs.Ytnfppolgaeibeaa
namespace Go.Proofs.Ytnfppolgaeibeaa

theorem doL_not {N : PNet} {p : PCase} {k t : Int} (h : caseOk N p = false) : doL N p k t = (PCase.nil, 2) := by rw [doL, h]; rfl
theorem doL_kind {N : PNet} {p : PCase} {k t : Int} (h : caseOk N p = true) (hk : k < 1 ∨ 4 < k) : doL N p k t = (PCase.nil, 5) := by rw [doL, if_pos h, if_neg (by omega)]
theorem doL_none {N : PNet} {p : PCase} {k t : Int} (h : caseOk N p = true) (hk : 1 ≤ k ∧ k ≤ 4) (ht : t < 0 ∨ (N.trans.length : Int) ≤ t) : doL N p k t = (PCase.nil, 3) := by rw [doL, if_pos h, if_pos hk, if_neg (by omega)]
theorem doL_in {N : PNet} {p : PCase} {k : Int} {i : Nat} {T : PTran} (h : caseOk N p = true) (hk : 1 ≤ k ∧ k ≤ 4) (hT : N.trans[i]? = some T) : doL N p k (i : Int) = if (k = 1 ↔ T.label = 0) then stepL p k T i else (PCase.nil, 1) := by
  have hlt := (List.getElem?_eq_some_iff.1 hT).1
  rw [doL, if_pos h, if_pos hk, if_pos (by omega)]
  have e : N.trans.getD (i : Int).toNat default = T := by simp [List.getD_eq_getElem?_getD, hT]
  rw [e]
  rfl
theorem fireL_in {N : PNet} {m : List Int} {i : Nat} {T : PTran} (h : fitsB N m = true) (hT : N.trans[i]? = some T) : fireL N m (i : Int) = fireT m T := by
  have hlt := (List.getElem?_eq_some_iff.1 hT).1
  rw [fireL, if_pos h, if_pos (by omega)]
  have e : N.trans.getD (i : Int).toNat default = T := by simp [List.getD_eq_getElem?_getD, hT]
  rw [e]
theorem atL_busy {b : List Int} (h : rightB b = true) (i : Nat) : 0 ≤ atL b i := (atL_right h i).1
def thenC (q : List Int × Int) (r : List Int × Int) : PCase × Int := if q.2 = 0 then (if r.2 = 0 then (⟨q.1, r.1⟩, 0) else (PCase.nil, r.2)) else (PCase.nil, q.2)
def thenB (r : List Int × Int) (q : List Int × Int) : PCase × Int := if r.2 = 0 then (if q.2 = 0 then (⟨q.1, r.1⟩, 0) else (PCase.nil, q.2)) else (PCase.nil, r.2)
theorem step1 {p : PCase} {T : PTran} {i : Nat} (hb : rightB p.busy = true) : stepL p 1 T i = thenC (fireT p.mark T) (p.busy, 0) := by
  have hi := atL_busy hb i
  unfold stepL thenC fireT
  simp only [takeT, giveT, moreT, true_or, if_true, Int.add_zero, set_same, hb, and_true, hi]
  by_cases hc : coversB p.mark T.pre = true
  · rw [if_pos hc, if_pos hc]
    by_cases hm : rightB (mixL (mixL p.mark T.pre (-1)) T.post 1) = true
    · rw [if_pos hm, if_pos hm]; simp
    · rw [if_neg hm, if_neg hm]; simp
  · rw [if_neg hc, if_neg hc]; simp
theorem step2 {p : PCase} {T : PTran} {i : Nat} (hm : rightB p.mark = true) (hp : rightB T.pre = true) (hb : rightB p.busy = true) (hi : i < p.busy.length) : stepL p 2 T i = thenC (minusL p.mark T.pre) (busyL p.busy i 1) := by
  have h0 := atL_busy hb i
  rw [minusL_covers hm hp]
  unfold stepL thenC busyL
  simp only [takeT, giveT, moreT, or_true, if_true, show ¬ ((2 : Int) = 1) by omega, show ¬ ((2 : Int) = 3) by omega, show ¬ ((2 : Int) = 4) by omega, or_false, if_false, mixL_nil_right]
  by_cases hc : coversB p.mark T.pre = true
  · rw [if_pos ⟨hc, by omega⟩, if_pos hc, if_neg (show ¬ atL p.busy i + 1 < 0 by omega)]
    have hr := rightB_mix_covers hm hp hc
    by_cases hx : 1000000 < atL p.busy i + 1
    · rw [if_neg (fun h => by rw [set_not_right hi (.inr hx)] at h; exact absurd h.2 (by simp)), if_pos hx]; simp
    · rw [if_pos ⟨hr, set_right hb (by omega) (by omega)⟩, if_neg hx]; simp
  · rw [if_neg (fun h => hc h.1), if_neg hc]; simp
theorem step34 {p : PCase} {T : PTran} {i : Nat} {k : Int} (hk : k = 3 ∨ k = 4) (hm : rightB p.mark = true) (hg : rightB (giveT k T) = true) (hb : rightB p.busy = true) :
    stepL p k T i = thenB (busyL p.busy i (-1)) (plusL p.mark (giveT k T)) := by
  have h0 := atL_right hb i
  have hmore : moreT k = -1 := by unfold moreT; rcases hk with rfl | rfl <;> simp
  have htake : takeT k T = [] := by unfold takeT; rcases hk with rfl | rfl <;> simp
  rw [plusL, if_pos ⟨hm, hg⟩]
  unfold stepL thenB busyL
  rw [hmore, htake, mixL_nil_right, coversB_nil hm]
  by_cases hx : atL p.busy i + -1 < 0
  · rw [if_neg (by omega), if_pos hx]; simp
  · rw [if_pos ⟨rfl, by omega⟩, if_neg hx, if_neg (show ¬ 1000000 < atL p.busy i + -1 by omega)]
    by_cases hr : rightB (mixL p.mark (giveT k T) 1) = true
    · rw [if_pos ⟨hr, set_right hb (by omega) (by omega)⟩, if_pos hr]; simp
    · rw [if_neg (fun h => hr h.1), if_neg hr]; simp
end Go.Proofs.Ytnfppolgaeibeaa
