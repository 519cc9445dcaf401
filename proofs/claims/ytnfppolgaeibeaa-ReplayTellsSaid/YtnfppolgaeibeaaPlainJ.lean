/- What T1 says of a replayed trace, in plain Lean: place by place, and transition by transition. Conditions: none. -/
import Derived.Test.YtnfppolgaeibeaaPlainH
namespace Go.Proofs.Ytnfppolgaeibeaa

def sumN (n : Nat) (f : Nat → Int) : Int := ((List.range n).map f).sum
theorem sumN_zero (f : Nat → Int) : sumN 0 f = 0 := rfl
theorem sumN_succ (n : Nat) (f : Nat → Int) : sumN (n + 1) f = sumN n f + f n := by
  simp [sumN, List.range_succ]
theorem sumN_add (n : Nat) (f g : Nat → Int) : sumN n (fun p => f p + g p) = sumN n f + sumN n g := by
  induction n with
  | zero => rfl
  | succ n ih => rw [sumN_succ, sumN_succ, sumN_succ, ih]; omega
theorem sumN_congr {n : Nat} {f g : Nat → Int} (h : ∀ p, p < n → f p = g p) : sumN n f = sumN n g := by
  induction n with
  | zero => rfl
  | succ n ih => rw [sumN_succ, sumN_succ, ih (fun p hp => h p (by omega)), h n (by omega)]
theorem sumN_bd {n : Nat} {f : Nat → Int} {B : Int} (h : ∀ p, p < n → 0 ≤ f p ∧ f p ≤ B) : 0 ≤ sumN n f ∧ sumN n f ≤ n * B := by
  induction n with
  | zero => simp [sumN_zero]
  | succ n ih =>
    have h1 := ih (fun p hp => h p (by omega))
    have h2 := h n (by omega)
    rw [sumN_succ]
    have e : ((n + 1 : Nat) : Int) * B = n * B + B := by rw [Int.natCast_add, Int.add_mul]; simp
    omega

def stepH1 (h a b : Int) : Int := h + max (a - h) 0 - a + b
def haveL (p : Nat) : List PTran → Int → Int
  | [], h => h
  | t :: r, h => haveL p r (stepH1 h (atL t.pre p) (atL t.post p))
def lackL (p : Nat) : List PTran → Int → Int
  | [], _ => 0
  | t :: r, h => max (atL t.pre p - h) 0 + lackL p r (stepH1 h (atL t.pre p) (atL t.post p))
def takenL (p : Nat) (l : List PTran) : Int := (l.map fun t => atL t.pre p).sum
def putL (p : Nat) (l : List PTran) : Int := (l.map fun t => atL t.post p).sum
theorem haveL_snoc (p : Nat) : ∀ (l : List PTran) (h : Int) (t : PTran), haveL p (l ++ [t]) h = stepH1 (haveL p l h) (atL t.pre p) (atL t.post p)
  | [], _, _ => rfl
  | _ :: l, _, _ => haveL_snoc p l _ _
theorem lackL_snoc (p : Nat) : ∀ (l : List PTran) (h : Int) (t : PTran), lackL p (l ++ [t]) h = lackL p l h + max (atL t.pre p - haveL p l h) 0
  | [], h, t => by simp [lackL, haveL]
  | u :: l, h, t => by
    simp only [List.cons_append, lackL, haveL]
    rw [lackL_snoc p l]; omega
theorem takenL_snoc (p : Nat) (l : List PTran) (t : PTran) : takenL p (l ++ [t]) = takenL p l + atL t.pre p := by simp [takenL]
theorem putL_snoc (p : Nat) (l : List PTran) (t : PTran) : putL p (l ++ [t]) = putL p l + atL t.post p := by simp [putL]
/-- All weights are from 0 to 9. -/
def LightL (l : List PTran) : Prop := ∀ t ∈ l, ∀ p, 0 ≤ atL t.pre p ∧ atL t.pre p ≤ 9 ∧ 0 ≤ atL t.post p ∧ atL t.post p ≤ 9
theorem have_bd (p : Nat) : ∀ (l : List PTran) (h : Int), LightL l → 0 ≤ h → 0 ≤ haveL p l h ∧ haveL p l h ≤ h + 9 * l.length
  | [], h, _, h0 => by simp [haveL]; exact h0
  | t :: l, h, hl, h0 => by
    have ht := hl t (by simp) p
    have := have_bd p l (stepH1 h (atL t.pre p) (atL t.post p)) (fun u hu => hl u (by simp [hu])) (by unfold stepH1; omega)
    simp only [haveL, List.length_cons]
    unfold stepH1 at this ⊢
    omega
theorem lack_bd (p : Nat) : ∀ (l : List PTran) (h : Int), LightL l → 0 ≤ h → 0 ≤ lackL p l h ∧ lackL p l h ≤ 9 * l.length
  | [], h, _, h0 => by simp [lackL]
  | t :: l, h, hl, h0 => by
    have ht := hl t (by simp) p
    have := lack_bd p l (stepH1 h (atL t.pre p) (atL t.post p)) (fun u hu => hl u (by simp [hu])) (by unfold stepH1; omega)
    simp only [lackL, List.length_cons]
    omega
theorem taken_bd (p : Nat) : ∀ (l : List PTran), LightL l → 0 ≤ takenL p l ∧ takenL p l ≤ 9 * l.length
  | [], _ => by simp [takenL]
  | t :: l, hl => by
    have ht := hl t (by simp) p
    have := taken_bd p l (fun u hu => hl u (by simp [hu]))
    simp only [takenL, List.map_cons, List.sum_cons, List.length_cons] at this ⊢
    omega
theorem put_bd (p : Nat) : ∀ (l : List PTran), LightL l → 0 ≤ putL p l ∧ putL p l ≤ 9 * l.length
  | [], _ => by simp [putL]
  | t :: l, hl => by
    have ht := hl t (by simp) p
    have := put_bd p l (fun u hu => hl u (by simp [hu]))
    simp only [putL, List.map_cons, List.sum_cons, List.length_cons] at this ⊢
    omega

/-! ### transition by transition -/
def putV (xs ws : List Int) (j : Nat) : List Int := (List.range xs.length).map fun p => if p < j then atL xs p + atL ws p else atL xs p
def lackV (xs ws : List Int) (j : Nat) : List Int := (List.range xs.length).map fun p => if p < j then atL xs p + max (atL ws p - atL xs p) 0 - atL ws p else atL xs p
theorem putV_length (xs ws : List Int) (j : Nat) : (putV xs ws j).length = xs.length := by simp [putV]
theorem lackV_length (xs ws : List Int) (j : Nat) : (lackV xs ws j).length = xs.length := by simp [lackV]
theorem map_atL (xs : List Int) : (List.range xs.length).map (atL xs) = xs := by
  apply List.ext_getElem?
  intro i
  by_cases hi : i < xs.length
  · simp [hi, atL]
  · simp [hi]
theorem putV_zero (xs ws : List Int) : putV xs ws 0 = xs := by
  unfold putV
  simp only [Nat.not_lt_zero, if_false]
  exact map_atL xs
theorem lackV_zero (xs ws : List Int) : lackV xs ws 0 = xs := by
  unfold lackV
  simp only [Nat.not_lt_zero, if_false]
  exact map_atL xs
theorem putV_get {xs ws : List Int} {j p : Nat} (hp : p < xs.length) : (putV xs ws j)[p]? = some (if p < j then atL xs p + atL ws p else atL xs p) := by simp [putV, hp]
theorem lackV_get {xs ws : List Int} {j p : Nat} (hp : p < xs.length) : (lackV xs ws j)[p]? = some (if p < j then atL xs p + max (atL ws p - atL xs p) 0 - atL ws p else atL xs p) := by simp [lackV, hp]
theorem putV_succ {xs ws : List Int} {j : Nat} (_ : j < xs.length) : (putV xs ws j).set j (atL xs j + atL ws j) = putV xs ws (j + 1) := by
  apply List.ext_getElem?
  intro i
  by_cases hi : i < xs.length
  · rw [List.getElem?_set]
    by_cases hij : j = i
    · subst hij
      rw [if_pos rfl, if_pos (by rw [putV_length]; exact hi), putV_get hi, if_pos (by omega)]
    · rw [if_neg hij, putV_get hi, putV_get hi]
      by_cases h1 : i < j
      · rw [if_pos h1, if_pos (by omega)]
      · rw [if_neg h1, if_neg (by omega)]
  · rw [List.getElem?_eq_none (by simp [putV]; omega), List.getElem?_eq_none (by simp [putV]; omega)]
theorem lackV_succ {xs ws : List Int} {j : Nat} (_ : j < xs.length) : (lackV xs ws j).set j (atL xs j + max (atL ws j - atL xs j) 0 - atL ws j) = lackV xs ws (j + 1) := by
  apply List.ext_getElem?
  intro i
  by_cases hi : i < xs.length
  · rw [List.getElem?_set]
    by_cases hij : j = i
    · subst hij
      rw [if_pos rfl, if_pos (by rw [lackV_length]; exact hi), lackV_get hi, if_pos (by omega)]
    · rw [if_neg hij, lackV_get hi, lackV_get hi]
      by_cases h1 : i < j
      · rw [if_pos h1, if_pos (by omega)]
      · rw [if_neg h1, if_neg (by omega)]
  · rw [List.getElem?_eq_none (by simp [lackV]; omega), List.getElem?_eq_none (by simp [lackV]; omega)]

/-- What there is behind some transitions, place by place. -/
def markL (s : List Int) (l : List PTran) : List Int := (List.range s.length).map fun p => haveL p l (atL s p)
theorem markL_length (s : List Int) (l : List PTran) : (markL s l).length = s.length := by simp [markL]
theorem markL_at {s : List Int} {l : List PTran} {p : Nat} (hp : p < s.length) : atL (markL s l) p = haveL p l (atL s p) := by simp [atL, markL, hp]
theorem markL_nil (s : List Int) : markL s [] = s := by
  unfold markL
  simp only [haveL]
  exact map_atL s
theorem markL_snoc (s : List Int) (l : List PTran) (t : PTran) : putV (lackV (markL s l) t.pre s.length) t.post s.length = markL s (l ++ [t]) := by
  apply List.ext_getElem?
  intro i
  by_cases hi : i < s.length
  · rw [putV_get (by rw [lackV_length, markL_length]; exact hi), if_pos hi]
    have e : atL (lackV (markL s l) t.pre s.length) i = haveL i l (atL s i) + max (atL t.pre i - haveL i l (atL s i)) 0 - atL t.pre i := by
      have := lackV_get (xs := markL s l) (ws := t.pre) (j := s.length) (p := i) (by rw [markL_length]; exact hi)
      rw [if_pos hi] at this
      rw [atL_some this, markL_at hi]
    rw [e]
    simp [markL, hi, haveL_snoc, stepH1]
  · rw [List.getElem?_eq_none (by simp [putV, lackV, markL]; omega), List.getElem?_eq_none (by simp [markL]; omega)]
/-- The counts: put, taken, lacked. -/
def putC (s : List Int) (l : List PTran) : Int := sumN s.length fun p => atL s p + putL p l
def takenC (s : List Int) (l : List PTran) : Int := sumN s.length fun p => takenL p l
def lackC (s : List Int) (l : List PTran) : Int := sumN s.length fun p => lackL p l (atL s p)
def leftC (s : List Int) (l : List PTran) : Int := sumN s.length fun p => haveL p l (atL s p)
theorem putC_snoc (s : List Int) (l : List PTran) (t : PTran) : putC s (l ++ [t]) = putC s l + sumN s.length (atL t.post) := by
  unfold putC
  rw [← sumN_add]
  exact sumN_congr fun p _ => by rw [putL_snoc]; omega
theorem takenC_snoc (s : List Int) (l : List PTran) (t : PTran) : takenC s (l ++ [t]) = takenC s l + sumN s.length (atL t.pre) := by
  unfold takenC
  rw [← sumN_add]
  exact sumN_congr fun p _ => by rw [takenL_snoc]
theorem lackC_snoc (s : List Int) (l : List PTran) (t : PTran) : lackC s (l ++ [t]) = lackC s l + sumN s.length (fun p => max (atL t.pre p - atL (markL s l) p) 0) := by
  unfold lackC
  rw [← sumN_add]
  exact sumN_congr fun p hp => by rw [lackL_snoc, markL_at hp]

/-! ### the answer -/
structure PPlayed where
  put : Int
  taken : Int
  lacked : Int
  left : Int
def PPlayed.nil : PPlayed := ⟨0, 0, 0, 0⟩
def plainB (ts : List PTran) : Bool := (List.range ts.length).all fun k => match ts[k]? with
  | none => true
  | some t => t.label != 0 && !(ts.take k).any fun u => u.label == t.label
def byL (ts : List PTran) (a : Int) : Option PTran := ts.find? fun t => t.label == a
def endT (P : Nat) (o : Int) : PTran := ⟨0, oneL P o, List.replicate P 0⟩
def playedL (P : Nat) (i o : Int) (l : List PTran) : PPlayed :=
  ⟨putC (oneL P i) (l ++ [endT P o]), takenC (oneL P i) (l ++ [endT P o]), lackC (oneL P i) (l ++ [endT P o]), leftC (oneL P i) (l ++ [endT P o])⟩
def replayL (N : PNet) (i o : Int) (trace : List Int) : PPlayed × Int :=
  if shapeL N i o = 0 then (if plainB N.trans = true then (if trace.length ≤ 60 then (if trace.all (fun a => (byL N.trans a).isSome) = true then (playedL N.places.toNat i o (trace.filterMap (byL N.trans)), 0) else (PPlayed.nil, 3)) else (PPlayed.nil, 2)) else (PPlayed.nil, 1)) else (PPlayed.nil, shapeL N i o)
end Go.Proofs.Ytnfppolgaeibeaa
