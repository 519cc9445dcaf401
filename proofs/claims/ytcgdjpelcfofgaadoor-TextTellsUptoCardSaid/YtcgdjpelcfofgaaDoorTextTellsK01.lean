/- Texts melted into one: Facts on the whole translation that each row of this seat asks. Conditions: none. | The plain law of marks: what chapter 1's calls answer, as functions on lists of integers. No program in sight. | The plain law of nets: what chapter 2's calls answer, as functions on lists. No program in sight. -/
import Derived.Test.YtcgdjpelcfofgaaDoorRows
import Derived.JoinedOf
namespace Go.Proofs.YtcgdjpelcfofgaaDoor.Facts
def n0 : List Nat := [
  104, 97, 114, 110, 101, 115, 115]
def n1 : List Nat := [
  50, 52, 50, 98, 57, 97, 48, 51, 49, 55, 51, 102, 49, 98, 54, 49, 50, 57, 48, 56, 97, 54, 57, 57, 100, 101, 102, 55, 98, 101, 52, 53, 101, 55, 53, 51, 54, 56, 57, 98,
  99, 55, 100, 57, 48, 97, 57, 102, 102, 102, 49, 100, 101, 49, 51, 53, 55, 53, 99, 50, 100, 100, 56, 51]
def n2 : List Nat := [
  99, 117, 116]
def n3 : List Nat := [
  97, 116, 32, 116, 111, 107, 101, 110, 104, 97, 108, 108, 47, 116, 111, 107, 101, 110, 104, 97, 108, 108, 108, 97, 119, 46, 84, 101, 120, 116, 84, 101, 108, 108, 115]
def ch (l : List Nat) : List Char := List.map Char.ofNat l
def headOf : List Char := ch n0 ++ Char.ofNat 32 :: (ch n1 ++ Char.ofNat 32 :: (ch n2 ++ Char.ofNat 32 :: ch n3))
theorem headChars : Tryd.prog.initOrder = String.ofList headOf := by kernel_rfl
theorem headList : Tryd.prog.initOrder.toList = headOf := by rw [headChars, String.toList_ofList]
theorem word_cons (w r : List Char) (h : ∀ c ∈ w, c ≠ Char.ofNat 32) : wordsSigns (w ++ Char.ofNat 32 :: r) = w :: wordsSigns r := by
  induction w with
  | nil => rfl
  | cons c w ih =>
    have hc : c ≠ Char.ofNat 32 := h c (List.mem_cons_self ..)
    have ih' := ih (fun x hx => h x (List.mem_cons_of_mem _ hx))
    show wordsSigns (c :: (w ++ Char.ofNat 32 :: r)) = _
    rw [wordsSigns]
    · rw [ih']
    · exact hc
theorem headWords : behindMainWord (wordsSigns headOf) = ch n2 :: wordsSigns (ch n3) := by
  unfold headOf
  rw [word_cons _ _ (by decide), word_cons _ _ (by decide), word_cons _ _ (by decide)]
  generalize wordsSigns (ch n3) = r
  kernel_rfl
theorem strip_of (c : List Char) (r : List (List Char)) : ∀ os : List String, (∀ o ∈ os, (c == o.toList) = false) → stripLifts os (c :: r) = ([], c :: r)
  | [], _ => rfl
  | o :: os, h => by
    rw [stripLifts, if_neg (by rw [h o (List.mem_cons_self ..)]; simp)]
    exact strip_of c r os (fun x hx => h x (List.mem_cons_of_mem _ hx))
theorem notLift : ∀ o ∈ liftWords, (ch n2 == o.toList) = false := by decide
theorem isGc : (ch n2 == "gc".toList) = false := by kernel_rfl
theorem isSpec : (ch n2 == "spec".toList) = false := by kernel_rfl
theorem isCarried : (ch n2 == "carried".toList) = false := by kernel_rfl
theorem isCut : (ch n2 == "cut".toList) = true := by kernel_rfl
theorem make_of {P : Program} {c : List Char} {r : List (List Char)} (h : behindMainWord (wordsSigns P.initOrder.toList) = c :: r) (h1 : (c == "gc".toList) = false) (h2 : (c == "spec".toList) = false) (h3 : (c == "cut".toList) = true) : P.make = some .cut := by
  unfold Program.make
  rw [h]
  simp only [h1, h2, h3, Bool.or_false, Bool.false_eq_true, if_false, Bool.true_or, if_true]
theorem lifts_of {P : Program} {c : List Char} {r : List (List Char)} (h : behindMainWord (wordsSigns P.initOrder.toList) = c :: r) (h1 : (c == "carried".toList) = false) (h2 : ∀ o ∈ liftWords, (c == o.toList) = false) : P.liftsFinal = false := by
  have h1' : (some c == some "carried".toList) = false := h1
  unfold Program.liftsFinal Program.headLifts
  simp only [h, strip_of c r _ h2, List.head?_cons, h1', Bool.false_and, Bool.false_or]
  split <;> rfl
theorem may_of {P : Program} {c : List Char} {r : List (List Char)} (h : behindMainWord (wordsSigns P.initOrder.toList) = c :: r) (h3 : (c == "cut".toList) = true) (h2 : ∀ o ∈ liftWords, (c == o.toList) = false)
    (k1 : P.laysLater = false) (k2 : P.bearsReflect = false) (k3 : P.doorFits [] = true) : P.mayEnter = true := by
  have h3' : (some c == some "cut".toList) = true := h3
  unfold Program.mayEnter
  rw [h]
  simp only [strip_of c r _ h2, List.head?_cons, h3', k1, k2, k3, Bool.not_false, Bool.or_true, Bool.and_true, Bool.true_and]
  simp
theorem headIs : behindMainWord (wordsSigns Tryd.prog.initOrder.toList) = ch n2 :: wordsSigns (ch n3) := by rw [headList, headWords]
theorem make : Tryd.prog.make = some .cut := make_of headIs isGc isSpec isCut
theorem liftsFinal : Tryd.prog.liftsFinal = false := lifts_of headIs isCarried notLift
theorem laysLater : Tryd.prog.laysLater = false := by kernel_rfl
theorem bearsReflect : Tryd.prog.bearsReflect = false := by kernel_rfl
theorem doorFits : Tryd.prog.doorFits [] = true := by kernel_rfl
theorem mayEnter : Tryd.prog.mayEnter = true := may_of headIs isCut notLift laysLater bearsReflect doorFits
theorem laidOut : laidOutB Tryd.prog = true := by kernel_rfl
theorem rowed : mapsRowed Tryd.prog = true := by kernel_rfl
theorem stopsHeard : Tryd.prog.stopsHeard = true := by kernel_rfl
theorem stops : Tryd.prog.stops = [] := by kernel_rfl
theorem stopKnobs : Tryd.prog.stopKnobs = [] := by kernel_rfl
theorem plainKeys : Tryd.prog.plainKeys = true := by kernel_rfl
end Go.Proofs.YtcgdjpelcfofgaaDoor.Facts
namespace Go.Proofs.YtcgdjpelcfofgaaDoor

/-- The first index at which p holds; -1 if there is none. -/
def idxFirst {α : Type} (p : α → Bool) (xs : List α) : Int := match xs.findIdx? p with
  | some k => (k : Int)
  | none => -1
theorem idxFirst_some {α : Type} {p : α → Bool} {xs : List α} {k : Nat} {x : α} (h : ∀ j, j < k → ∀ y, xs[j]? = some y → p y = false) (hx : xs[k]? = some x) (hp : p x = true) : idxFirst p xs = (k : Int) := by
  have hf : xs.findIdx? p = some k := by
    obtain ⟨hk, hx'⟩ := List.getElem?_eq_some_iff.1 hx
    rw [List.findIdx?_eq_some_iff_getElem]
    refine ⟨hk, by rw [hx']; exact hp, fun j hj => ?_⟩
    have := h j hj _ (List.getElem?_eq_getElem (by omega))
    simp [this]
  simp [idxFirst, hf]
theorem idxFirst_none {α : Type} {p : α → Bool} {xs : List α} (h : ∀ j, j < xs.length → ∀ y, xs[j]? = some y → p y = false) : idxFirst p xs = -1 := by
  have hf : xs.findIdx? p = none := by
    rw [List.findIdx?_eq_none_iff]
    intro x hx
    obtain ⟨j, hj, rfl⟩ := List.getElem_of_mem hx
    exact h j hj _ (List.getElem?_eq_getElem hj)
  simp [idxFirst, hf]
theorem idxFirst_any {α : Type} (p : α → Bool) (xs : List α) : decide (0 ≤ idxFirst p xs) = xs.any p := by
  unfold idxFirst
  cases h : xs.findIdx? p with
  | none =>
    rw [List.findIdx?_eq_none_iff] at h
    simp only [show ¬ ((0:Int) ≤ -1) from by omega, decide_false]
    symm
    rw [List.any_eq_false]
    intro x hx
    simp [h x hx]
  | some k =>
    rw [List.findIdx?_eq_some_iff_getElem] at h
    obtain ⟨hk, hp, _⟩ := h
    simp only [show (0:Int) ≤ (k:Int) from by omega, decide_true]
    symm
    rw [List.any_eq_true]
    exact ⟨xs[k], List.getElem_mem hk, hp⟩

theorem take_snoc {α : Type} {xs : List α} {k : Nat} {x : α} (h : xs[k]? = some x) : xs.take (k + 1) = xs.take k ++ [x] := by
  obtain ⟨hk, rfl⟩ := List.getElem?_eq_some_iff.1 h
  rw [List.take_succ_eq_append_getElem hk]
end Go.Proofs.YtcgdjpelcfofgaaDoor
namespace Go.Proofs.YtcgdjpelcfofgaaDoor
/-- A transition: its label, what it takes, what it puts. -/
structure PTran where
  label : Int
  pre : List Int
  post : List Int
deriving Inhabited, DecidableEq
structure PNet where
  places : Int
  trans : List PTran
deriving Inhabited, DecidableEq
def badW (x : Int) : Bool := decide (x < 0) || decide (9 < x)
def tranOk (P : Int) (t : PTran) : Bool := decide (0 ≤ t.label) && decide (t.label ≤ 26) && decide ((t.pre.length : Int) = P) && decide ((t.post.length : Int) = P) && !t.pre.any badW && !t.post.any badW
def netOk (N : PNet) : Bool := decide (0 ≤ N.places) && decide (N.places ≤ 16) && decide (N.trans.length ≤ 24) && N.trans.all (tranOk N.places)
def wrongNet (N : PNet) : Int := if netOk N = true then 0 else 2
theorem tranOk_iff (P : Int) (t : PTran) : tranOk P t = true ↔ 0 ≤ t.label ∧ t.label ≤ 26 ∧ (t.pre.length : Int) = P ∧ (t.post.length : Int) = P ∧ t.pre.any badW = false ∧ t.post.any badW = false := by
  simp [tranOk, and_assoc]
theorem netOk_iff (N : PNet) : netOk N = true ↔ 0 ≤ N.places ∧ N.places ≤ 16 ∧ N.trans.length ≤ 24 ∧ ∀ t ∈ N.trans, tranOk N.places t = true := by
  simp [netOk, and_assoc]
theorem wrongNet_ok {N : PNet} (h : netOk N = true) : wrongNet N = 0 := by simp [wrongNet, h]
theorem wrongNet_not {N : PNet} (h : netOk N = false) : wrongNet N = 2 := by simp [wrongNet, h]
theorem netOk_not_tran {N : PNet} {k : Nat} {t : PTran} (ht : N.trans[k]? = some t) (h : tranOk N.places t = false) : netOk N = false := by
  cases hc : netOk N
  · rfl
  · have := ((netOk_iff N).1 hc).2.2.2 t (List.mem_iff_getElem?.2 ⟨k, ht⟩)
    rw [h] at this; cases this
theorem netOk_not {N : PNet} (h : N.places < 0 ∨ 16 < N.places ∨ 24 < N.trans.length) : netOk N = false := by
  cases hc : netOk N
  · rfl
  · have := (netOk_iff N).1 hc; omega
theorem badW_false {x : Int} (h : badW x = false) : 0 ≤ x ∧ x ≤ 9 := by
  simp [badW] at h; omega
theorem forall_get {α : Type} {p : α → Prop} {xs : List α} : (∀ x ∈ xs, p x) ↔ ∀ (j : Nat) (x : α), xs[j]? = some x → p x := by
  constructor
  · intro h j x hx
    exact h x (List.mem_iff_getElem?.2 ⟨j, hx⟩)
  · intro h x hx
    obtain ⟨j, hj⟩ := List.mem_iff_getElem?.1 hx
    exact h j x hj
end Go.Proofs.YtcgdjpelcfofgaaDoor
