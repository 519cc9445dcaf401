/- Facts on the whole translation that each row of this seat asks. Conditions: none. -/
import Derived.Test.YtnfppolgaeibeaaRows
import Derived.JoinedOf
namespace Go.Proofs.Ytnfppolgaeibeaa.Facts
def n0 : List Nat := [
  104, 97, 114, 110, 101, 115, 115]
def n1 : List Nat := [
  102, 48, 98, 48, 101, 49, 98, 48, 97, 97, 98, 102, 101, 49, 53, 97, 56, 49, 98, 52, 52, 49, 100, 57, 54, 102, 102, 57, 53, 50, 49, 49, 52, 54, 97, 52, 98, 54, 98, 97,
  57, 55, 97, 53, 51, 54, 57, 52, 55, 99, 51, 101, 100, 99, 56, 54, 57, 101, 102, 52, 98, 100, 97, 48]
def n2 : List Nat := [
  99, 117, 116]
def n3 : List Nat := [
  97, 116, 32, 116, 111, 107, 101, 110, 104, 97, 108, 108, 47, 116, 111, 107, 101, 110, 104, 97, 108, 108, 108, 97, 119, 46, 71, 114, 111, 119, 84, 101, 108, 108, 115, 32, 116, 111, 107, 101,
  110, 104, 97, 108, 108, 47, 116, 111, 107, 101, 110, 104, 97, 108, 108, 108, 97, 119, 46, 83, 104, 97, 112, 101, 84, 101, 108, 108, 115, 32, 116, 111, 107, 101, 110, 104, 97, 108, 108, 47,
  116, 111, 107, 101, 110, 104, 97, 108, 108, 108, 97, 119, 46, 82, 101, 112, 108, 97, 121, 84, 101, 108, 108, 115, 32, 116, 111, 107, 101, 110, 104, 97, 108, 108, 47, 116, 111, 107, 101, 110,
  104, 97, 108, 108, 108, 97, 119, 46, 83, 111, 117, 110, 100, 74, 117, 100, 103, 101, 115, 32, 116, 111, 107, 101, 110, 104, 97, 108, 108, 47, 116, 111, 107, 101, 110, 104, 97, 108, 108, 108,
  97, 119, 46, 84, 111, 110, 103, 117, 101, 72, 97, 115, 32, 116, 111, 107, 101, 110, 104, 97, 108, 108, 47, 116, 111, 107, 101, 110, 104, 97, 108, 108, 108, 97, 119, 46, 84, 114, 97, 99,
  107, 115, 84, 101, 108, 108]
def ch (l : List Nat) : List Char := List.map Char.ofNat l
def headOf : List Char := ch n0 ++ Char.ofNat 32 :: (ch n1 ++ Char.ofNat 32 :: (ch n2 ++ Char.ofNat 32 :: ch n3))
theorem headChars : Try.prog.initOrder = String.ofList headOf := by kernel_rfl
theorem headList : Try.prog.initOrder.toList = headOf := by rw [headChars, String.toList_ofList]
theorem word_cons (w r : List Char) (h : ∀ c ∈ w, c ≠ Char.ofNat 32) : wordsSigns (w ++ Char.ofNat 32 :: r) = w :: wordsSigns r := by
  induction w with
  | nil => rfl
  | cons c w ih =>
    have hc : c ≠ Char.ofNat 32 := h c (List.mem_cons_self ..)
    have ih' := ih (fun x hx => h x (List.mem_cons_of_mem _ hx))
    show wordsSigns (c :: (w ++ Char.ofNat 32 :: r)) = _
    rw [wordsSigns]
    · rw [ih']
    · exact hc
theorem headWords : behindMainWord (wordsSigns headOf) = ch n2 :: wordsSigns (ch n3) := by
  unfold headOf
  rw [word_cons _ _ (by decide), word_cons _ _ (by decide), word_cons _ _ (by decide)]
  generalize wordsSigns (ch n3) = r
  kernel_rfl
theorem strip_of (c : List Char) (r : List (List Char)) : ∀ os : List String, (∀ o ∈ os, (c == o.toList) = false) → stripLifts os (c :: r) = ([], c :: r)
  | [], _ => rfl
  | o :: os, h => by
    rw [stripLifts, if_neg (by rw [h o (List.mem_cons_self ..)]; simp)]
    exact strip_of c r os (fun x hx => h x (List.mem_cons_of_mem _ hx))
theorem notLift : ∀ o ∈ liftWords, (ch n2 == o.toList) = false := by decide
theorem isGc : (ch n2 == "gc".toList) = false := by kernel_rfl
theorem isSpec : (ch n2 == "spec".toList) = false := by kernel_rfl
theorem isCarried : (ch n2 == "carried".toList) = false := by kernel_rfl
theorem isCut : (ch n2 == "cut".toList) = true := by kernel_rfl
theorem make_of {P : Program} {c : List Char} {r : List (List Char)} (h : behindMainWord (wordsSigns P.initOrder.toList) = c :: r) (h1 : (c == "gc".toList) = false) (h2 : (c == "spec".toList) = false) (h3 : (c == "cut".toList) = true) : P.make = some .cut := by
  unfold Program.make
  rw [h]
  simp only [h1, h2, h3, Bool.or_false, Bool.false_eq_true, if_false, Bool.true_or, if_true]
theorem lifts_of {P : Program} {c : List Char} {r : List (List Char)} (h : behindMainWord (wordsSigns P.initOrder.toList) = c :: r) (h1 : (c == "carried".toList) = false) (h2 : ∀ o ∈ liftWords, (c == o.toList) = false) : P.liftsFinal = false := by
  have h1' : (some c == some "carried".toList) = false := h1
  unfold Program.liftsFinal Program.headLifts
  simp only [h, strip_of c r _ h2, List.head?_cons, h1', Bool.false_and, Bool.false_or]
  split <;> rfl
theorem may_of {P : Program} {c : List Char} {r : List (List Char)} (h : behindMainWord (wordsSigns P.initOrder.toList) = c :: r) (h3 : (c == "cut".toList) = true) (h2 : ∀ o ∈ liftWords, (c == o.toList) = false)
    (k1 : P.laysLater = false) (k2 : P.bearsReflect = false) (k3 : P.doorFits [] = true) : P.mayEnter = true := by
  have h3' : (some c == some "cut".toList) = true := h3
  unfold Program.mayEnter
  rw [h]
  simp only [strip_of c r _ h2, List.head?_cons, h3', k1, k2, k3, Bool.not_false, Bool.or_true, Bool.and_true, Bool.true_and]
  simp
theorem headIs : behindMainWord (wordsSigns Try.prog.initOrder.toList) = ch n2 :: wordsSigns (ch n3) := by rw [headList, headWords]
theorem make : Try.prog.make = some .cut := make_of headIs isGc isSpec isCut
theorem liftsFinal : Try.prog.liftsFinal = false := lifts_of headIs isCarried notLift
theorem laysLater : Try.prog.laysLater = false := by kernel_rfl
theorem bearsReflect : Try.prog.bearsReflect = false := by kernel_rfl
theorem doorFits : Try.prog.doorFits [] = true := by kernel_rfl
theorem mayEnter : Try.prog.mayEnter = true := may_of headIs isCut notLift laysLater bearsReflect doorFits
theorem laidOut : laidOutB Try.prog = true := by kernel_rfl
theorem rowed : mapsRowed Try.prog = true := by kernel_rfl
theorem stopsHeard : Try.prog.stopsHeard = true := by kernel_rfl
theorem stops : Try.prog.stops = [] := by kernel_rfl
theorem stopKnobs : Try.prog.stopKnobs = [] := by kernel_rfl
theorem plainKeys : Try.prog.plainKeys = false := by kernel_rfl
end Go.Proofs.Ytnfppolgaeibeaa.Facts
