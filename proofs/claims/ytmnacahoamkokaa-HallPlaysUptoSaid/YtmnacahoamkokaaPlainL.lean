/- The plain law of desks: who may do what, what is done, one thing behind the other. No program in sight. -/
import Derived.Test.YtmnacahoamkokaaPlainE
import Derived.Test.YtmnacahoamkokaaPlainK
namespace Go.Proofs.Ytmnacahoamkokaa

structure PItem where
  user : Int
  tran : Int
  open_ : Bool
deriving Inhabited, DecidableEq
structure PDesk where
  case_ : PCase
  items : List PItem
def PDesk.nil : PDesk := ⟨PCase.nil, []⟩
def mayL (roles : List (List Int)) (u l : Int) : Bool := decide (0 ≤ u) && (decide (u < 8) && (roles.getD u.toNat []).any fun y => l == y)
def labelL (N : PNet) (t : Int) : Int := (N.trans.getD t.toNat default).label
def inT (N : PNet) (t : Int) : Prop := 0 ≤ t ∧ t < (N.trans.length : Int)
instance (N : PNet) (t : Int) : Decidable (inT N t) := by unfold inT; exact inferInstance
/-- The desk behind it, the item's number, what is wrong. -/
def beginD (N : PNet) (roles : List (List Int)) (k : PDesk) (o : POp) : PDesk × Int × Int :=
  if inT N o.tran then
    (if mayL roles o.user (labelL N o.tran) = true then
      (if (doL N k.case_ 2 o.tran).2 = 0 then (⟨(doL N k.case_ 2 o.tran).1, k.items ++ [⟨o.user, o.tran, true⟩]⟩, (k.items.length : Int), 0) else (k, 0, (doL N k.case_ 2 o.tran).2))
    else (k, 0, 6))
  else (k, 0, 3)
def itemL (k : PDesk) (o : POp) : Int :=
  if 0 ≤ o.item ∧ o.item < (k.items.length : Int) ∧ (k.items.getD o.item.toNat default).open_ = true then (if (k.items.getD o.item.toNat default).user = o.user then 0 else 7) else 3
def itemAt (k : PDesk) (o : POp) : PItem := k.items.getD o.item.toNat default
def kindL (o : POp) : Int := if o.kind = 3 then 4 else 3
def changeD (N : PNet) (roles : List (List Int)) (k : PDesk) (o : POp) : PDesk × Int × Int :=
  if itemL k o = 0 then
    (if o.kind = 4 then
      (if mayL roles o.to_ (labelL N (itemAt k o).tran) = true then (⟨k.case_, k.items.set o.item.toNat ⟨o.to_, (itemAt k o).tran, (itemAt k o).open_⟩⟩, o.item, 0) else (k, 0, 6))
    else
      (if (doL N k.case_ (kindL o) (itemAt k o).tran).2 = 0 then (⟨(doL N k.case_ (kindL o) (itemAt k o).tran).1, k.items.set o.item.toNat ⟨(itemAt k o).user, (itemAt k o).tran, false⟩⟩, o.item, 0)
      else (k, 0, (doL N k.case_ (kindL o) (itemAt k o).tran).2)))
  else (k, 0, itemL k o)
def skipD (N : PNet) (k : PDesk) (o : POp) : PDesk × Int × Int :=
  if (doL N k.case_ 1 o.tran).2 = 0 then (⟨(doL N k.case_ 1 o.tran).1, k.items⟩, 0, 0) else (k, 0, (doL N k.case_ 1 o.tran).2)
def stepD (N : PNet) (roles : List (List Int)) (k : PDesk) (o : POp) : PDesk × Int × Int :=
  if o.kind = 1 then beginD N roles k o else if o.kind = 2 ∨ o.kind = 3 ∨ o.kind = 4 then changeD N roles k o else if o.kind = 5 then skipD N k o else (k, 0, 5)
/-- What holds of a desk all along. -/
structure DeskOk (N : PNet) (k : PDesk) : Prop where
  case_ : caseOk N k.case_ = true
  trans : ∀ it ∈ k.items, inT N it.tran
theorem DeskOk.set {N : PNet} {k : PDesk} (h : DeskOk N k) (i : Nat) {c : PCase} (hc : caseOk N c = true) {x : PItem} (hx : inT N x.tran) : DeskOk N ⟨c, k.items.set i x⟩ :=
  ⟨hc, fun it hit => by
    rcases List.mem_or_eq_of_mem_set hit with h1 | rfl
    · exact h.trans it h1
    · exact hx⟩
theorem itemL_zero {k : PDesk} {o : POp} (h : itemL k o = 0) : 0 ≤ o.item ∧ o.item < (k.items.length : Int) ∧ (itemAt k o).open_ = true ∧ (itemAt k o).user = o.user ∧ k.items[o.item.toNat]? = some (itemAt k o) := by
  unfold itemL at h
  split at h
  · rename_i h1
    split at h
    · rename_i h2
      refine ⟨h1.1, h1.2.1, h1.2.2, h2, ?_⟩
      have : o.item.toNat < k.items.length := by omega
      simp [itemAt, List.getElem?_eq_getElem this]
    · simp at h
  · simp at h
theorem stepD_ok {N : PNet} {roles : List (List Int)} {k : PDesk} {o : POp} (h : DeskOk N k) : DeskOk N (stepD N roles k o).1 := by
  unfold stepD
  split
  · unfold beginD
    split
    · rename_i ht
      split
      · split
        · rename_i hd
          refine ⟨doL_ok hd, fun it hit => ?_⟩
          rcases List.mem_append.1 hit with h1 | h1
          · exact h.trans it h1
          · rw [List.mem_singleton.1 h1]; exact ht
        · exact h
      · exact h
    · exact h
  · split
    · unfold changeD
      split
      · rename_i hi
        have hx := h.trans _ (List.mem_of_getElem? (itemL_zero hi).2.2.2.2)
        split
        · split
          · exact h.set _ h.case_ hx
          · exact h
        · split
          · rename_i hd
            exact h.set _ (doL_ok hd) hx
          · exact h
      · exact h
    · split
      · unfold skipD
        split
        · rename_i hd
          exact ⟨doL_ok hd, h.trans⟩
        · exact h
      · exact h
theorem stepD_items {N : PNet} {roles : List (List Int)} {k : PDesk} {o : POp} : (stepD N roles k o).1.items.length ≤ k.items.length + 1 := by
  unfold stepD beginD changeD skipD
  repeat' split
  all_goals simp
def runD (N : PNet) (roles : List (List Int)) : PDesk → List POp → PDesk × List (Int × Int)
  | k, [] => (k, [])
  | k, o :: r => ((runD N roles (stepD N roles k o).1 r).1, ((stepD N roles k o).2.2, (stepD N roles k o).2.1) :: (runD N roles (stepD N roles k o).1 r).2)
theorem runD_snoc (N : PNet) (roles : List (List Int)) : ∀ (l : List POp) (k : PDesk) (o : POp), runD N roles k (l ++ [o]) =
    ((stepD N roles (runD N roles k l).1 o).1, (runD N roles k l).2 ++ [((stepD N roles (runD N roles k l).1 o).2.2, (stepD N roles (runD N roles k l).1 o).2.1)])
  | [], _, _ => rfl
  | x :: l, k, o => by
    show ((runD N roles (stepD N roles k x).1 (l ++ [o])).1, _ :: (runD N roles (stepD N roles k x).1 (l ++ [o])).2) = _
    rw [runD_snoc N roles l]
    rfl
theorem runD_ok (N : PNet) (roles : List (List Int)) : ∀ (l : List POp) (k : PDesk), DeskOk N k → DeskOk N (runD N roles k l).1 ∧ (runD N roles k l).1.items.length ≤ k.items.length + l.length ∧ (runD N roles k l).2.length = l.length
  | [], k, h => ⟨h, Nat.le_refl _, rfl⟩
  | x :: l, k, h => by
    obtain ⟨h1, h2, h3⟩ := runD_ok N roles l (stepD N roles k x).1 (stepD_ok h)
    refine ⟨h1, ?_, by simp [runD, h3]⟩
    have := stepD_items (N := N) (roles := roles) (k := k) (o := x)
    simp only [runD, List.length_cons]
    omega
/-- From the beginning on. -/
def playD (N : PNet) (roles : List (List Int)) (i : Int) (l : List POp) : PDesk × List (Int × Int) × Int :=
  if (beginL N i).2 = 0 then ((runD N roles ⟨(beginL N i).1, []⟩ l).1, (runD N roles ⟨(beginL N i).1, []⟩ l).2, 0) else (PDesk.nil, [], (beginL N i).2)
theorem DeskOk.start {N : PNet} {i : Int} (h : (beginL N i).2 = 0) : DeskOk N ⟨(beginL N i).1, []⟩ := ⟨beginL_ok h, fun it hit => by cases hit⟩
theorem DeskOk.small {N : PNet} {k : PDesk} (h : DeskOk N k) : k.case_.busy.length ≤ 24 ∧ k.case_.mark.length ≤ 16 ∧ N.trans.length ≤ 24 := by
  have h1 := (caseOk_iff N k.case_).1 h.case_
  have h2 := (netOk_iff N).1 h1.1
  omega
end Go.Proofs.Ytmnacahoamkokaa
