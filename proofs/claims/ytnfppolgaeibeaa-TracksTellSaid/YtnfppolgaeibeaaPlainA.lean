/- The plain law of marks: what chapter 1's calls answer, as functions on lists of integers. No program in sight. | The plain law of nets: what chapter 2's calls answer, as functions on lists. No program in sight. -/
namespace Go.Proofs.Ytnfppolgaeibeaa

/-- The first index at which p holds; -1 if there is none. -/
def idxFirst {α : Type} (p : α → Bool) (xs : List α) : Int := match xs.findIdx? p with
  | some k => (k : Int)
  | none => -1
theorem idxFirst_some {α : Type} {p : α → Bool} {xs : List α} {k : Nat} {x : α} (h : ∀ j, j < k → ∀ y, xs[j]? = some y → p y = false) (hx : xs[k]? = some x) (hp : p x = true) : idxFirst p xs = (k : Int) := by
  have hf : xs.findIdx? p = some k := by
    obtain ⟨hk, hx'⟩ := List.getElem?_eq_some_iff.1 hx
    rw [List.findIdx?_eq_some_iff_getElem]
    refine ⟨hk, by rw [hx']; exact hp, fun j hj => ?_⟩
    have := h j hj _ (List.getElem?_eq_getElem (by omega))
    simp [this]
  simp [idxFirst, hf]
theorem idxFirst_none {α : Type} {p : α → Bool} {xs : List α} (h : ∀ j, j < xs.length → ∀ y, xs[j]? = some y → p y = false) : idxFirst p xs = -1 := by
  have hf : xs.findIdx? p = none := by
    rw [List.findIdx?_eq_none_iff]
    intro x hx
    obtain ⟨j, hj, rfl⟩ := List.getElem_of_mem hx
    exact h j hj _ (List.getElem?_eq_getElem hj)
  simp [idxFirst, hf]
theorem idxFirst_any {α : Type} (p : α → Bool) (xs : List α) : decide (0 ≤ idxFirst p xs) = xs.any p := by
  unfold idxFirst
  cases h : xs.findIdx? p with
  | none =>
    rw [List.findIdx?_eq_none_iff] at h
    simp only [show ¬ ((0:Int) ≤ -1) from by omega, decide_false]
    symm
    rw [List.any_eq_false]
    intro x hx
    simp [h x hx]
  | some k =>
    rw [List.findIdx?_eq_some_iff_getElem] at h
    obtain ⟨hk, hp, _⟩ := h
    simp only [show (0:Int) ≤ (k:Int) from by omega, decide_true]
    symm
    rw [List.any_eq_true]
    exact ⟨xs[k], List.getElem_mem hk, hp⟩

def badN (x : Int) : Bool := decide (x < 0) || decide (1000000 < x)
def rightB (xs : List Int) : Bool := !xs.any badN
theorem rightB_iff (xs : List Int) : rightB xs = true ↔ ∀ x ∈ xs, 0 ≤ x ∧ x ≤ 1000000 := by
  unfold rightB badN
  simp only [Bool.not_eq_true', List.any_eq_false]
  constructor
  · intro h x hx
    have := h x hx
    simp at this
    omega
  · intro h x hx
    have := h x hx
    simp
    omega
/-- How many are at a place. -/
def atL (xs : List Int) (p : Nat) : Int := xs.getD p 0
theorem atL_some {xs : List Int} {p : Nat} {x : Int} (h : xs[p]? = some x) : atL xs p = x := by simp [atL, h]
theorem atL_none {xs : List Int} {p : Nat} (h : xs.length ≤ p) : atL xs p = 0 := by simp [atL, List.getElem?_eq_none h]
theorem atL_right {xs : List Int} (h : rightB xs = true) (p : Nat) : 0 ≤ atL xs p ∧ atL xs p ≤ 1000000 := by
  unfold atL
  by_cases hp : p < xs.length
  · simp only [List.getD_eq_getElem?_getD, List.getElem?_eq_getElem hp, Option.getD_some]
    exact (rightB_iff xs).1 h _ (List.getElem_mem hp)
  · simp [List.getElem?_eq_none (Nat.le_of_not_lt hp)]

/-- a has at each place what b has, or more. -/
def coversB (a b : List Int) : Bool := (List.range (max a.length b.length)).all fun p => decide (atL b p ≤ atL a p)
theorem coversB_iff (a b : List Int) : coversB a b = true ↔ ∀ p, p < max a.length b.length → atL b p ≤ atL a p := by
  simp [coversB]
theorem coversB_iff' (a b : List Int) : coversB a b = true ↔ ∀ p, atL b p ≤ atL a p := by
  rw [coversB_iff]
  constructor
  · intro h p
    by_cases hp : p < max a.length b.length
    · exact h p hp
    · rw [atL_none (by omega), atL_none (by omega)]; omega
  · intro h p _
    exact h p
theorem coversB_false {a b : List Int} {p : Nat} (h : atL a p < atL b p) : coversB a b = false := by
  cases hc : coversB a b
  · rfl
  · have := (coversB_iff' a b).1 hc p; omega
/-- a, and times b, at as many places as the longer one has. -/
def mixL (a b : List Int) (t : Int) : List Int := (List.range (max a.length b.length)).map fun p => atL a p + t * atL b p
theorem mixL_length (a b : List Int) (t : Int) : (mixL a b t).length = max a.length b.length := by simp [mixL]
theorem mixL_get {a b : List Int} {t : Int} {p : Nat} (h : p < max a.length b.length) : (mixL a b t)[p]? = some (atL a p + t * atL b p) := by
  simp [mixL, List.getElem?_range h]
/-- Plus and Minus: the list, and what is wrong. -/
def plusL (a b : List Int) : List Int × Int :=
  if rightB a = true ∧ rightB b = true then (if rightB (mixL a b 1) = true then (mixL a b 1, 0) else ([], 4)) else ([], 2)
def minusL (a b : List Int) : List Int × Int :=
  if rightB a = true ∧ rightB b = true then (if rightB (mixL a b (-1)) = true then (mixL a b (-1), 0) else ([], 3)) else ([], 2)
theorem rightB_mix {a b : List Int} {t : Int} (h : ∀ p, p < max a.length b.length → 0 ≤ atL a p + t * atL b p ∧ atL a p + t * atL b p ≤ 1000000) : rightB (mixL a b t) = true := by
  rw [rightB_iff]
  intro x hx
  simp only [mixL, List.mem_map, List.mem_range] at hx
  obtain ⟨p, hp, rfl⟩ := hx
  exact h p hp
theorem rightB_mix_not {a b : List Int} {t : Int} {p : Nat} (hp : p < max a.length b.length) (h : atL a p + t * atL b p < 0 ∨ 1000000 < atL a p + t * atL b p) : rightB (mixL a b t) = false := by
  cases hc : rightB (mixL a b t)
  · rfl
  · have := (rightB_iff _).1 hc _ (List.mem_iff_getElem?.2 ⟨p, mixL_get hp⟩)
    omega
/-- Place by place what f makes of both; E if there is an error anywhere. -/
def zipOk (f : Int → Int → Int × Int) (a b : List Int) : Bool := (List.range (max a.length b.length)).all fun p => (f (atL a p) (atL b p)).2 == 0
def zipV (f : Int → Int → Int × Int) (a b : List Int) : List Int := (List.range (max a.length b.length)).map fun p => (f (atL a p) (atL b p)).1
def zipL (f : Int → Int → Int × Int) (E : Int) (a b : List Int) : List Int × Int :=
  if rightB a = true ∧ rightB b = true then (if zipOk f a b = true then (zipV f a b, 0) else ([], E)) else ([], 2)
theorem zipV_length (f : Int → Int → Int × Int) (a b : List Int) : (zipV f a b).length = max a.length b.length := by simp [zipV]
theorem zipV_get {f : Int → Int → Int × Int} {a b : List Int} {p : Nat} (h : p < max a.length b.length) : (zipV f a b)[p]? = some (f (atL a p) (atL b p)).1 := by
  simp [zipV, List.getElem?_range h]
theorem zipOk_not {f : Int → Int → Int × Int} {a b : List Int} {p : Nat} (h : p < max a.length b.length) (hf : (f (atL a p) (atL b p)).2 ≠ 0) : zipOk f a b = false := by
  cases hc : zipOk f a b
  · rfl
  · simp only [zipOk, List.all_eq_true, List.mem_range, beq_iff_eq] at hc
    exact absurd (hc p h) hf
theorem zipOk_all {f : Int → Int → Int × Int} {a b : List Int} (h : ∀ p, p < max a.length b.length → (f (atL a p) (atL b p)).2 = 0) : zipOk f a b = true := by
  simp only [zipOk, List.all_eq_true, List.mem_range, beq_iff_eq]
  exact h
def plusF (x y : Int) : Int × Int := if 1000000 < x + y then (0, 4) else (x + y, 0)
def minusF (x y : Int) : Int × Int := if x < y then (0, 3) else (x - y, 0)
theorem zipL_plus (a b : List Int) : zipL plusF 4 a b = plusL a b := by
  unfold zipL plusL
  by_cases hr : rightB a = true ∧ rightB b = true
  · rw [if_pos hr, if_pos hr]
    by_cases ho : ∀ p, p < max a.length b.length → (plusF (atL a p) (atL b p)).2 = 0
    · have hm : rightB (mixL a b 1) = true := by
        refine rightB_mix (fun p hp => ?_)
        have h1 := ho p hp
        have h2 := atL_right hr.1 p
        have h3 := atL_right hr.2 p
        unfold plusF at h1
        split at h1
        · simp at h1
        · omega
      rw [if_pos (zipOk_all ho), if_pos hm]
      have : zipV plusF a b = mixL a b 1 := by
        unfold zipV mixL
        refine List.map_congr_left (fun p hp => ?_)
        have h1 := ho p (List.mem_range.1 hp)
        unfold plusF at h1 ⊢
        split at h1
        · simp at h1
        · rw [if_neg ‹_›]; simp
      rw [this]
    · simp only [Classical.not_forall] at ho
      obtain ⟨p, hp, hne⟩ := ho
      have hm : rightB (mixL a b 1) = false := by
        refine rightB_mix_not hp ?_
        unfold plusF at hne
        split at hne
        · omega
        · simp at hne
      rw [zipOk_not hp hne, hm]
      rfl
  · rw [if_neg hr, if_neg hr]
theorem zipL_minus (a b : List Int) : zipL minusF 3 a b = minusL a b := by
  unfold zipL minusL
  by_cases hr : rightB a = true ∧ rightB b = true
  · rw [if_pos hr, if_pos hr]
    by_cases ho : ∀ p, p < max a.length b.length → (minusF (atL a p) (atL b p)).2 = 0
    · have hm : rightB (mixL a b (-1)) = true := by
        refine rightB_mix (fun p hp => ?_)
        have h1 := ho p hp
        have h2 := atL_right hr.1 p
        have h3 := atL_right hr.2 p
        unfold minusF at h1
        split at h1
        · simp at h1
        · omega
      rw [if_pos (zipOk_all ho), if_pos hm]
      have : zipV minusF a b = mixL a b (-1) := by
        unfold zipV mixL
        refine List.map_congr_left (fun p hp => ?_)
        have h1 := ho p (List.mem_range.1 hp)
        unfold minusF at h1 ⊢
        split at h1
        · simp at h1
        · rw [if_neg ‹_›]; simp only []; omega
      rw [this]
    · simp only [Classical.not_forall] at ho
      obtain ⟨p, hp, hne⟩ := ho
      have hm : rightB (mixL a b (-1)) = false := by
        refine rightB_mix_not hp ?_
        unfold minusF at hne
        split at hne
        · omega
        · simp at hne
      rw [zipOk_not hp hne, hm]
      rfl
  · rw [if_neg hr, if_neg hr]
theorem take_snoc {α : Type} {xs : List α} {k : Nat} {x : α} (h : xs[k]? = some x) : xs.take (k + 1) = xs.take k ++ [x] := by
  obtain ⟨hk, rfl⟩ := List.getElem?_eq_some_iff.1 h
  rw [List.take_succ_eq_append_getElem hk]
end Go.Proofs.Ytnfppolgaeibeaa
namespace Go.Proofs.Ytnfppolgaeibeaa
/-- A transition: its label, what it takes, what it puts. -/
structure PTran where
  label : Int
  pre : List Int
  post : List Int
deriving Inhabited, DecidableEq
structure PNet where
  places : Int
  trans : List PTran
deriving Inhabited, DecidableEq
def badW (x : Int) : Bool := decide (x < 0) || decide (9 < x)
def tranOk (P : Int) (t : PTran) : Bool := decide (0 ≤ t.label) && decide (t.label ≤ 26) && decide ((t.pre.length : Int) = P) && decide ((t.post.length : Int) = P) && !t.pre.any badW && !t.post.any badW
def netOk (N : PNet) : Bool := decide (0 ≤ N.places) && decide (N.places ≤ 16) && decide (N.trans.length ≤ 24) && N.trans.all (tranOk N.places)
def wrongNet (N : PNet) : Int := if netOk N = true then 0 else 2
theorem tranOk_iff (P : Int) (t : PTran) : tranOk P t = true ↔ 0 ≤ t.label ∧ t.label ≤ 26 ∧ (t.pre.length : Int) = P ∧ (t.post.length : Int) = P ∧ t.pre.any badW = false ∧ t.post.any badW = false := by
  simp [tranOk, and_assoc]
theorem netOk_iff (N : PNet) : netOk N = true ↔ 0 ≤ N.places ∧ N.places ≤ 16 ∧ N.trans.length ≤ 24 ∧ ∀ t ∈ N.trans, tranOk N.places t = true := by
  simp [netOk, and_assoc]
theorem wrongNet_ok {N : PNet} (h : netOk N = true) : wrongNet N = 0 := by simp [wrongNet, h]
theorem wrongNet_not {N : PNet} (h : netOk N = false) : wrongNet N = 2 := by simp [wrongNet, h]
theorem netOk_not_tran {N : PNet} {k : Nat} {t : PTran} (ht : N.trans[k]? = some t) (h : tranOk N.places t = false) : netOk N = false := by
  cases hc : netOk N
  · rfl
  · have := ((netOk_iff N).1 hc).2.2.2 t (List.mem_iff_getElem?.2 ⟨k, ht⟩)
    rw [h] at this; cases this
theorem netOk_not {N : PNet} (h : N.places < 0 ∨ 16 < N.places ∨ 24 < N.trans.length) : netOk N = false := by
  cases hc : netOk N
  · rfl
  · have := (netOk_iff N).1 hc; omega
theorem badW_false {x : Int} (h : badW x = false) : 0 ≤ x ∧ x ≤ 9 := by
  simp [badW] at h; omega
theorem any_false_get {α : Type} {p : α → Bool} {xs : List α} (h : xs.any p = false) {k : Nat} {x : α} (hx : xs[k]? = some x) : p x = false := by
  rw [List.any_eq_false] at h
  have := h x (List.mem_iff_getElem?.2 ⟨k, hx⟩)
  simpa using this
theorem forall_get {α : Type} {p : α → Prop} {xs : List α} : (∀ x ∈ xs, p x) ↔ ∀ (j : Nat) (x : α), xs[j]? = some x → p x := by
  constructor
  · intro h j x hx
    exact h x (List.mem_iff_getElem?.2 ⟨j, hx⟩)
  · intro h x hx
    obtain ⟨j, hj⟩ := List.mem_iff_getElem?.1 hx
    exact h j x hj
/-- A net, and a mark of it. -/
def fitsB (N : PNet) (m : List Int) : Bool := netOk N && decide ((m.length : Int) = N.places) && rightB m
def fitsE (N : PNet) (m : List Int) : Int := if fitsB N m = true then 0 else 2
theorem fitsE_ok {N : PNet} {m : List Int} (h : fitsB N m = true) : fitsE N m = 0 := by simp [fitsE, h]
theorem fitsE_not {N : PNet} {m : List Int} (h : fitsB N m = false) : fitsE N m = 2 := by simp [fitsE, h]
/-- Who can fire: the indices. -/
def enIdx (ts : List PTran) (m : List Int) : List Int := (ts.zipIdx.filter fun p => coversB m p.1.pre).map fun p => (p.2 : Int)
theorem enIdx_snoc (l : List PTran) (t : PTran) (m : List Int) : enIdx (l ++ [t]) m = enIdx l m ++ (if coversB m t.pre = true then [(l.length : Int)] else []) := by
  unfold enIdx
  rw [List.zipIdx_append, List.filter_append, List.map_append]
  congr 1
  simp only [List.zipIdx_cons, List.zipIdx_nil, List.filter_cons, List.filter_nil]
  split <;> simp
theorem enIdx_length (l : List PTran) (m : List Int) : (enIdx l m).length ≤ l.length := by
  unfold enIdx
  rw [List.length_map]
  exact Nat.le_trans (List.length_filter_le _ _) (by simp)
def enabledL (N : PNet) (m : List Int) : List Int × Int := if fitsB N m = true then (enIdx N.trans m, 0) else ([], 2)
/-- One fire. -/
def fireT (m : List Int) (t : PTran) : List Int × Int := if coversB m t.pre = true then (if rightB (mixL (mixL m t.pre (-1)) t.post 1) = true then (mixL (mixL m t.pre (-1)) t.post 1, 0) else ([], 4)) else ([], 3)
def fireL (N : PNet) (m : List Int) (t : Int) : List Int × Int :=
  if fitsB N m = true then (if 0 ≤ t ∧ t < (N.trans.length : Int) then fireT m (N.trans.getD t.toNat default) else ([], 3)) else ([], 2)
theorem any_badW_right {xs : List Int} (h : xs.any badW = false) : rightB xs = true := by
  rw [rightB_iff]
  intro x hx
  rw [List.any_eq_false] at h
  have := badW_false (x := x) (by have := h x hx; simpa using this)
  omega
theorem minusL_covers {m p : List Int} (hm : rightB m = true) (hp : rightB p = true) : minusL m p = if coversB m p = true then (mixL m p (-1), 0) else ([], 3) := by
  rw [minusL, if_pos ⟨hm, hp⟩]
  by_cases hc : coversB m p = true
  · have h1 := (coversB_iff' m p).1 hc
    rw [if_pos hc, if_pos]
    refine rightB_mix (fun q hq => ?_)
    have h2 := atL_right hm q
    have h3 := atL_right hp q
    have h4 := h1 q
    omega
  · rw [if_neg hc, if_neg]
    intro hr
    apply hc
    rw [coversB_iff]
    intro q hq
    have := (rightB_iff _).1 hr _ (List.mem_iff_getElem?.2 ⟨q, mixL_get hq⟩)
    omega
theorem rightB_mix_covers {m p : List Int} (hm : rightB m = true) (hp : rightB p = true) (hc : coversB m p = true) : rightB (mixL m p (-1)) = true := by
  have h1 := (coversB_iff' m p).1 hc
  refine rightB_mix (fun q hq => ?_)
  have h2 := atL_right hm q
  have h3 := atL_right hp q
  have h4 := h1 q
  omega
theorem plus_minus_fire {m : List Int} {t : PTran} (hm : rightB m = true) (h1 : rightB t.pre = true) (h2 : rightB t.post = true) (hc : coversB m t.pre = true) : plusL (mixL m t.pre (-1)) t.post = fireT m t := by
  rw [plusL, if_pos ⟨rightB_mix_covers hm h1 hc, h2⟩, fireT, if_pos hc]
theorem fitsB_iff (N : PNet) (m : List Int) : fitsB N m = true ↔ netOk N = true ∧ (m.length : Int) = N.places ∧ rightB m = true := by
  simp [fitsB, and_assoc]
theorem netOk_tran {N : PNet} (h : netOk N = true) {k : Nat} {t : PTran} (ht : N.trans[k]? = some t) : 0 ≤ t.label ∧ t.label ≤ 26 ∧ (t.pre.length : Int) = N.places ∧ (t.post.length : Int) = N.places ∧ t.pre.any badW = false ∧ t.post.any badW = false :=
  (tranOk_iff _ _).1 (((netOk_iff N).1 h).2.2.2 t (List.mem_iff_getElem?.2 ⟨k, ht⟩))
end Go.Proofs.Ytnfppolgaeibeaa
