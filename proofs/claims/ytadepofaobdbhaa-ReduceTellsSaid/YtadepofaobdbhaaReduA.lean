/- The plain law of M1: nets made smaller, step by step, as the program does it and as the reference does. No program in sight. -/
import Derived.Test.YtadepofaobdbhaaPlainB
namespace Go.Proofs.Ytadepofaobdbhaa

/-- A net that goes from i to o. -/
structure PSm where
  net : PNet
  i : Int
  o : Int
deriving Inhabited
/-- The first k below n for which f holds with some j below k. -/
def firstPair (n : Nat) (f : Nat → Nat → Bool) : Option Nat := (List.range n).find? fun k => (List.range k).any fun j => f k j
theorem firstPair_some {n k j : Nat} {f : Nat → Nat → Bool} (hk : k < n) (hj : j < k) (h : f k j = true) (h0 : ∀ a, a < k → ∀ b, b < a → f a b = false) : firstPair n f = some k := by
  unfold firstPair
  rw [List.find?_range_eq_some]
  refine ⟨?_, by simpa using hk, fun a ha => ?_⟩
  · simp only [List.any_eq_true, List.mem_range]
    exact ⟨j, hj, h⟩
  · simp only [Bool.not_eq_true', List.any_eq_false, List.mem_range]
    intro b hb
    simp [h0 a ha b hb]
theorem firstPair_none {n : Nat} {f : Nat → Nat → Bool} (h0 : ∀ a, a < n → ∀ b, b < a → f a b = false) : firstPair n f = none := by
  unfold firstPair
  rw [List.find?_range_eq_none]
  intro a ha
  simp only [Bool.not_eq_true', List.any_eq_false, List.mem_range]
  intro b hb
  simp [h0 a ha b hb]
theorem firstPair_lt {n k : Nat} {f : Nat → Nat → Bool} (h : firstPair n f = some k) : k < n := by
  unfold firstPair at h
  have := List.mem_of_find?_eq_some h
  simpa using this
theorem firstPair_congr {n : Nat} {f g : Nat → Nat → Bool} (h : ∀ a, a < n → ∀ b, b < a → f a b = g a b) : firstPair n f = firstPair n g := by
  unfold firstPair
  have : ∀ l : List Nat, (∀ a ∈ l, a < n) → l.find? (fun k => (List.range k).any fun j => f k j) = l.find? (fun k => (List.range k).any fun j => g k j) := by
    intro l
    induction l with
    | nil => intro _; rfl
    | cons a l ih =>
      intro ha
      have e : ((List.range a).any fun j => f a j) = ((List.range a).any fun j => g a j) := by
        rw [Bool.eq_iff_iff]
        simp only [List.any_eq_true, List.mem_range]
        constructor
        · rintro ⟨b, hb, hf⟩; exact ⟨b, hb, by rw [← h a (ha a (by simp)) b hb]; exact hf⟩
        · rintro ⟨b, hb, hf⟩; exact ⟨b, hb, by rw [h a (ha a (by simp)) b hb]; exact hf⟩
      rw [List.find?_cons, List.find?_cons, e, ih (fun x hx => ha x (by simp [hx]))]
  exact this _ (fun a ha => by simpa using ha)

def tAt (ts : List PTran) (k : Nat) : PTran := ts.getD k default
theorem tAt_get {ts : List PTran} {k : Nat} {t : PTran} (h : ts[k]? = some t) : tAt ts k = t := by simp [tAt, h]
/-- What transitions take from a place, and put there. -/
def colL (ts : List PTran) (p : Nat) : List Int := ts.flatMap fun t => [t.pre.getD p 0, t.post.getD p 0]
theorem colL_snoc {ts : List PTran} {k : Nat} {t : PTran} (p : Nat) (h : ts[k]? = some t) : colL (ts.take (k + 1)) p = colL (ts.take k) p ++ [t.pre.getD p 0, t.post.getD p 0] := by
  obtain ⟨hk, rfl⟩ := List.getElem?_eq_some_iff.1 h
  rw [List.take_succ_eq_append_getElem hk, colL, List.flatMap_append]
  simp [colL]
def sameTr (ts : List PTran) (k j : Nat) : Bool := (tAt ts k).pre == (tAt ts j).pre && (tAt ts k).post == (tAt ts j).post
def dropT (s : PSm) (k : Nat) : PSm := { s with net := ⟨s.net.places, s.net.trans.eraseIdx k⟩ }
def dropPl (p : Nat) (t : PTran) : PTran := ⟨t.label, t.pre.eraseIdx p, t.post.eraseIdx p⟩
def down (x : Int) (p : Nat) : Int := if (p : Int) < x then x - 1 else x
def dropP (s : PSm) (p : Nat) : PSm := ⟨⟨s.net.places - 1, s.net.trans.map (dropPl p)⟩, down s.i p, down s.o p⟩
def innerB (s : PSm) (p : Nat) : Bool := decide ((p : Int) ≠ s.i) && decide ((p : Int) ≠ s.o)
def sameP (s : PSm) (q p : Nat) : Bool := innerB s p && innerB s q && (colL s.net.trans p == colL s.net.trans q)
def preW (ts : List PTran) (p : Nat) : List Int := ts.map fun t => t.pre.getD p 0
def postW (ts : List PTran) (p : Nat) : List Int := ts.map fun t => t.post.getD p 0
def posB (x : Int) : Bool := decide (0 < x)
/-- The one index with a weight, that is 1. -/
def onlyL (ws : List Int) : Int := match ws.findIdx? posB with
  | none => -1
  | some k => if ws.getD k 0 = 1 ∧ (ws.drop (k + 1)).any posB = false then (k : Int) else -1
def addL (a b : List Int) : List Int := (List.range a.length).map fun q => a.getD q 0 + b.getD q 0
def mergeT (t u : PTran) (p : Nat) : PTran := ⟨t.label, t.pre, (addL t.post u.post).set p 0⟩
/-- Whether place p can go by the third rule, with a the one that puts, b the one that takes. -/
def serOk (s : PSm) (p : Nat) (a b : Int) : Bool :=
  innerB s p && !decide (a < 0) && !decide (b < 0) && !decide (a = b) && decide ((tAt s.net.trans b.toNat).pre.sum = 1) && (mergeT (tAt s.net.trans a.toNat) (tAt s.net.trans b.toNat) p).post.all fun x => decide (x ≤ 9)
def serDo (s : PSm) (p a b : Nat) : PSm := dropP (dropT { s with net := ⟨s.net.places, s.net.trans.set a (mergeT (tAt s.net.trans a) (tAt s.net.trans b) p)⟩ } b) p
def serP (s : PSm) (p : Nat) : Option PSm :=
  if serOk s p (onlyL (postW s.net.trans p)) (onlyL (preW s.net.trans p)) = true then some (serDo s p (onlyL (postW s.net.trans p)).toNat (onlyL (preW s.net.trans p)).toNat) else none
/-- One step. -/
def stT (s : PSm) : Option PSm := (firstPair s.net.trans.length (sameTr s.net.trans)).map (dropT s)
def stP (s : PSm) : Option PSm := (firstPair s.net.places.toNat (sameP s)).map (dropP s)
def stS (s : PSm) : Option PSm := (List.range s.net.places.toNat).findSome? (serP s)
def stepS (s : PSm) : Option PSm := (stT s).or ((stP s).or (stS s))
def runS : Nat → PSm → Nat → PSm × Nat
  | 0, s, k => (s, k)
  | f + 1, s, k => match stepS s with
    | none => (s, k)
    | some s' => runS f s' (k + 1)
theorem runS_none {f : Nat} {s : PSm} {k : Nat} (h : stepS s = none) : runS f s k = (s, k) := by
  cases f with
  | zero => rfl
  | succ f => simp [runS, h]
theorem runS_some {f : Nat} {s s' : PSm} {k : Nat} (h : stepS s = some s') : runS (f + 1) s k = runS f s' (k + 1) := by simp [runS, h]

/-! ### the reference -/
structure PM where
  labels : List Int
  rows : List (List Int)
  i : Int
  o : Int
deriving Inhabited
def mofL (s : PSm) : PM := ⟨s.net.trans.map (·.label), (List.range s.net.places.toNat).map (colL s.net.trans), s.i, s.o⟩
def cutL (xs : List Int) (a b : Nat) : List Int := xs.take a ++ xs.drop b
def noTranM (m : PM) (k : Nat) : PM := ⟨cutL m.labels k (k + 1), m.rows.map fun r => cutL r (2 * k) (2 * k + 2), m.i, m.o⟩
def noPlaceM (m : PM) (p : Nat) : PM := ⟨m.labels, m.rows.eraseIdx p, down m.i p, down m.o p⟩
def sameRow (k j : Nat) (r : List Int) : Bool := decide (r.getD (2 * j) 0 = r.getD (2 * k) 0) && decide (r.getD (2 * j + 1) 0 = r.getD (2 * k + 1) 0)
def sameTM (m : PM) (k j : Nat) : Bool := m.rows.all (sameRow k j)
def samePM (m : PM) (q p : Nat) : Bool := (m.rows.getD p [] == m.rows.getD q []) && decide ((p : Int) ≠ m.i) && decide ((p : Int) ≠ m.o) && decide ((q : Int) ≠ m.i) && decide ((q : Int) ≠ m.o)
/-- How many up to n meet f, and the last (-1: none). -/
def cntL (f : Nat → Bool) (n : Nat) : Int := (((List.range n).filter f).length : Int)
def lastL (f : Nat → Bool) (n : Nat) : Int := match ((List.range n).filter f).getLast? with
  | some k => (k : Int)
  | none => -1
theorem cntL_succ (f : Nat → Bool) (n : Nat) : cntL f (n + 1) = cntL f n + (if f n = true then 1 else 0) := by
  unfold cntL
  rw [List.range_succ, List.filter_append]
  by_cases h : f n = true <;> simp [h]
theorem lastL_succ (f : Nat → Bool) (n : Nat) : lastL f (n + 1) = if f n = true then (n : Int) else lastL f n := by
  unfold lastL
  rw [List.range_succ, List.filter_append]
  by_cases h : f n = true <;> simp [h]
def takesM (m : PM) (p : Nat) (k : Nat) : Bool := decide (0 < (m.rows.getD p []).getD (2 * k) 0)
def putsM (m : PM) (p : Nat) (k : Nat) : Bool := decide (0 < (m.rows.getD p []).getD (2 * k + 1) 0)
/-- Whether the third rule fits, as the reference asks it. -/
def serQ (m : PM) (p : Nat) (taken put t u : Int) : Bool :=
  !(decide ((p : Int) = m.i) || decide ((p : Int) = m.o) || decide (taken ≠ 1) || decide (put ≠ 1) || decide (t = u) || decide ((m.rows.getD p []).getD (2 * u.toNat) 0 ≠ 1) || decide ((m.rows.getD p []).getD (2 * t.toNat + 1) 0 ≠ 1))
def addRow (t u : Nat) (r : List Int) : List Int := r.set (2 * t + 1) (r.getD (2 * t + 1) 0 + r.getD (2 * u + 1) 0)
def okRow (p t u q : Nat) (r : List Int) : Bool := decide (q = p) || (!decide (0 < r.getD (2 * u) 0) && !decide (9 < r.getD (2 * t + 1) 0 + r.getD (2 * u + 1) 0))
def serR (m : PM) (p t u : Nat) : Option PM :=
  if (List.range m.rows.length).all (fun q => okRow p t u q (m.rows.getD q [])) = true then some (noPlaceM (noTranM ⟨m.labels, m.rows.map (addRow t u), m.i, m.o⟩ u) p) else none
def serM (m : PM) (p : Nat) : Option PM :=
  if serQ m p (cntL (takesM m p) m.labels.length) (cntL (putsM m p) m.labels.length) (lastL (putsM m p) m.labels.length) (lastL (takesM m p) m.labels.length) = true then
    serR m p (lastL (putsM m p) m.labels.length).toNat (lastL (takesM m p) m.labels.length).toNat else none
def smaT (m : PM) : Option PM := (firstPair m.labels.length (sameTM m)).map (noTranM m)
def smaP (m : PM) : Option PM := (firstPair m.rows.length (samePM m)).map (noPlaceM m)
def smaS (m : PM) : Option PM := (List.range m.rows.length).findSome? (serM m)
def smallerM (m : PM) : Option PM := (smaT m).or ((smaP m).or (smaS m))
def netM (m : PM) : PNet := ⟨(m.rows.length : Int), (List.range m.labels.length).map fun k => ⟨m.labels.getD k 0, m.rows.map fun r => r.getD (2 * k) 0, m.rows.map fun r => r.getD (2 * k + 1) 0⟩⟩
end Go.Proofs.Ytadepofaobdbhaa
