/- The plain law of nets: what chapter 2's calls answer, as functions on lists. No program in sight. -/
import Derived.Test.YtldljjmibaaokaaPlainA
namespace Go.Proofs.Ytldljjmibaaokaa
/-- A transition: its label, what it takes, what it puts. -/
structure PTran where
  label : Int
  pre : List Int
  post : List Int
deriving Inhabited, DecidableEq
structure PNet where
  places : Int
  trans : List PTran
deriving Inhabited, DecidableEq
def badW (x : Int) : Bool := decide (x < 0) || decide (9 < x)
def tranOk (P : Int) (t : PTran) : Bool := decide (0 ≤ t.label) && decide (t.label ≤ 26) && decide ((t.pre.length : Int) = P) && decide ((t.post.length : Int) = P) && !t.pre.any badW && !t.post.any badW
def netOk (N : PNet) : Bool := decide (0 ≤ N.places) && decide (N.places ≤ 16) && decide (N.trans.length ≤ 24) && N.trans.all (tranOk N.places)
def wrongNet (N : PNet) : Int := if netOk N = true then 0 else 2
theorem tranOk_iff (P : Int) (t : PTran) : tranOk P t = true ↔ 0 ≤ t.label ∧ t.label ≤ 26 ∧ (t.pre.length : Int) = P ∧ (t.post.length : Int) = P ∧ t.pre.any badW = false ∧ t.post.any badW = false := by
  simp [tranOk, and_assoc]
theorem netOk_iff (N : PNet) : netOk N = true ↔ 0 ≤ N.places ∧ N.places ≤ 16 ∧ N.trans.length ≤ 24 ∧ ∀ t ∈ N.trans, tranOk N.places t = true := by
  simp [netOk, and_assoc]
theorem wrongNet_ok {N : PNet} (h : netOk N = true) : wrongNet N = 0 := by simp [wrongNet, h]
theorem wrongNet_not {N : PNet} (h : netOk N = false) : wrongNet N = 2 := by simp [wrongNet, h]
theorem netOk_not_tran {N : PNet} {k : Nat} {t : PTran} (ht : N.trans[k]? = some t) (h : tranOk N.places t = false) : netOk N = false := by
  cases hc : netOk N
  · rfl
  · have := ((netOk_iff N).1 hc).2.2.2 t (List.mem_iff_getElem?.2 ⟨k, ht⟩)
    rw [h] at this; cases this
theorem netOk_not {N : PNet} (h : N.places < 0 ∨ 16 < N.places ∨ 24 < N.trans.length) : netOk N = false := by
  cases hc : netOk N
  · rfl
  · have := (netOk_iff N).1 hc; omega
theorem badW_false {x : Int} (h : badW x = false) : 0 ≤ x ∧ x ≤ 9 := by
  simp [badW] at h; omega
theorem any_false_get {α : Type} {p : α → Bool} {xs : List α} (h : xs.any p = false) {k : Nat} {x : α} (hx : xs[k]? = some x) : p x = false := by
  rw [List.any_eq_false] at h
  have := h x (List.mem_iff_getElem?.2 ⟨k, hx⟩)
  simpa using this
theorem forall_get {α : Type} {p : α → Prop} {xs : List α} : (∀ x ∈ xs, p x) ↔ ∀ (j : Nat) (x : α), xs[j]? = some x → p x := by
  constructor
  · intro h j x hx
    exact h x (List.mem_iff_getElem?.2 ⟨j, hx⟩)
  · intro h x hx
    obtain ⟨j, hj⟩ := List.mem_iff_getElem?.1 hx
    exact h j x hj
/-- A net, and a mark of it. -/
def fitsB (N : PNet) (m : List Int) : Bool := netOk N && decide ((m.length : Int) = N.places) && rightB m
def fitsE (N : PNet) (m : List Int) : Int := if fitsB N m = true then 0 else 2
theorem fitsE_ok {N : PNet} {m : List Int} (h : fitsB N m = true) : fitsE N m = 0 := by simp [fitsE, h]
theorem fitsE_not {N : PNet} {m : List Int} (h : fitsB N m = false) : fitsE N m = 2 := by simp [fitsE, h]
/-- Who can fire: the indices. -/
def enIdx (ts : List PTran) (m : List Int) : List Int := (ts.zipIdx.filter fun p => coversB m p.1.pre).map fun p => (p.2 : Int)
theorem enIdx_snoc (l : List PTran) (t : PTran) (m : List Int) : enIdx (l ++ [t]) m = enIdx l m ++ (if coversB m t.pre = true then [(l.length : Int)] else []) := by
  unfold enIdx
  rw [List.zipIdx_append, List.filter_append, List.map_append]
  congr 1
  simp only [List.zipIdx_cons, List.zipIdx_nil, List.filter_cons, List.filter_nil]
  split <;> simp
theorem enIdx_length (l : List PTran) (m : List Int) : (enIdx l m).length ≤ l.length := by
  unfold enIdx
  rw [List.length_map]
  exact Nat.le_trans (List.length_filter_le _ _) (by simp)
def enabledL (N : PNet) (m : List Int) : List Int × Int := if fitsB N m = true then (enIdx N.trans m, 0) else ([], 2)
/-- One fire. -/
def fireT (m : List Int) (t : PTran) : List Int × Int := if coversB m t.pre = true then (if rightB (mixL (mixL m t.pre (-1)) t.post 1) = true then (mixL (mixL m t.pre (-1)) t.post 1, 0) else ([], 4)) else ([], 3)
def fireL (N : PNet) (m : List Int) (t : Int) : List Int × Int :=
  if fitsB N m = true then (if 0 ≤ t ∧ t < (N.trans.length : Int) then fireT m (N.trans.getD t.toNat default) else ([], 3)) else ([], 2)
theorem any_badW_right {xs : List Int} (h : xs.any badW = false) : rightB xs = true := by
  rw [rightB_iff]
  intro x hx
  rw [List.any_eq_false] at h
  have := badW_false (x := x) (by have := h x hx; simpa using this)
  omega
theorem minusL_covers {m p : List Int} (hm : rightB m = true) (hp : rightB p = true) : minusL m p = if coversB m p = true then (mixL m p (-1), 0) else ([], 3) := by
  rw [minusL, if_pos ⟨hm, hp⟩]
  by_cases hc : coversB m p = true
  · have h1 := (coversB_iff' m p).1 hc
    rw [if_pos hc, if_pos]
    refine rightB_mix (fun q hq => ?_)
    have h2 := atL_right hm q
    have h3 := atL_right hp q
    have h4 := h1 q
    omega
  · rw [if_neg hc, if_neg]
    intro hr
    apply hc
    rw [coversB_iff]
    intro q hq
    have := (rightB_iff _).1 hr _ (List.mem_iff_getElem?.2 ⟨q, mixL_get hq⟩)
    omega
theorem rightB_mix_covers {m p : List Int} (hm : rightB m = true) (hp : rightB p = true) (hc : coversB m p = true) : rightB (mixL m p (-1)) = true := by
  have h1 := (coversB_iff' m p).1 hc
  refine rightB_mix (fun q hq => ?_)
  have h2 := atL_right hm q
  have h3 := atL_right hp q
  have h4 := h1 q
  omega
theorem plus_minus_fire {m : List Int} {t : PTran} (hm : rightB m = true) (h1 : rightB t.pre = true) (h2 : rightB t.post = true) (hc : coversB m t.pre = true) : plusL (mixL m t.pre (-1)) t.post = fireT m t := by
  rw [plusL, if_pos ⟨rightB_mix_covers hm h1 hc, h2⟩, fireT, if_pos hc]
theorem fitsB_iff (N : PNet) (m : List Int) : fitsB N m = true ↔ netOk N = true ∧ (m.length : Int) = N.places ∧ rightB m = true := by
  simp [fitsB, and_assoc]
theorem netOk_tran {N : PNet} (h : netOk N = true) {k : Nat} {t : PTran} (ht : N.trans[k]? = some t) : 0 ≤ t.label ∧ t.label ≤ 26 ∧ (t.pre.length : Int) = N.places ∧ (t.post.length : Int) = N.places ∧ t.pre.any badW = false ∧ t.post.any badW = false :=
  (tranOk_iff _ _).1 (((netOk_iff N).1 h).2.2.2 t (List.mem_iff_getElem?.2 ⟨k, ht⟩))
end Go.Proofs.Ytldljjmibaaokaa
