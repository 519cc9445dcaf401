/- What P4 says, in plain Lean: a net of which each transition that is seen is made two. Conditions: none. -/
import Derived.Test.YtmhcinmadelaeaaPlainE
namespace Go.Proofs.Ytmhcinmadelaeaa

def padL (m : Nat) (xs : List Int) : List Int := xs ++ List.replicate (m - xs.length) 0
def seenN (ts : List PTran) : Nat := (ts.filter fun t => t.label != 0).length
theorem seenN_snoc (l : List PTran) (t : PTran) : seenN (l ++ [t]) = seenN l + (if t.label = 0 then 0 else 1) := by
  unfold seenN
  rw [List.filter_append, List.length_append]
  by_cases h : t.label = 0 <;> simp [h]
theorem seenN_le (l : List PTran) : seenN l ≤ l.length := List.length_filter_le _ _
def twoT (m k : Nat) (t : PTran) : List PTran := if t.label = 0 then [⟨0, padL m t.pre, padL m t.post⟩] else [⟨0, padL m t.pre, oneL m (k : Int)⟩, ⟨t.label, oneL m (k : Int), padL m t.post⟩]
def busyGo (m : Nat) : Nat → List PTran → List PTran
  | _, [] => []
  | k, t :: r => twoT m k t ++ busyGo m (if t.label = 0 then k else k + 1) r
theorem busyGo_snoc (m : Nat) : ∀ (l : List PTran) (k : Nat) (t : PTran), busyGo m k (l ++ [t]) = busyGo m k l ++ twoT m (k + seenN l) t
  | [], k, t => by simp [busyGo, seenN]
  | x :: l, k, t => by
    simp only [List.cons_append, busyGo]
    rw [busyGo_snoc m l, List.append_assoc]
    have e : (if x.label = 0 then k else k + 1) + seenN l = k + seenN (x :: l) := by
      unfold seenN
      by_cases h : x.label = 0
      · simp [h]
      · simp [h]; omega
    rw [e]
theorem twoT_length (m k : Nat) (t : PTran) : (twoT m k t).length = 1 + (if t.label = 0 then 0 else 1) := by
  unfold twoT
  by_cases h : t.label = 0 <;> simp [h]
theorem busyGo_length (m : Nat) : ∀ (l : List PTran) (k : Nat), (busyGo m k l).length = l.length + seenN l
  | [], _ => by simp [busyGo, seenN]
  | x :: l, k => by
    simp only [busyGo, List.length_append, twoT_length, List.length_cons]
    rw [busyGo_length m l]
    unfold seenN
    by_cases h : x.label = 0
    · simp [h]; omega
    · simp [h]; omega
def busyNet (N : PNet) : PNet × Int :=
  if netOk N = true then (if N.places.toNat + seenN N.trans ≤ 16 ∧ N.trans.length + seenN N.trans ≤ 24 then (⟨((N.places.toNat + seenN N.trans : Nat) : Int), busyGo (N.places.toNat + seenN N.trans) N.places.toNat N.trans⟩, 0) else (⟨0, []⟩, 4)) else (⟨0, []⟩, 2)
end Go.Proofs.Ytmhcinmadelaeaa
