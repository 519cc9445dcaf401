/- The contract of LHas. Conditions: the net and the word read as lists. | The contract of LLeast, and the law TongueHas as a call: it returns true. Conditions: the net and the word read as lists. | The law TongueHas as a call: it returns true. Conditions: the net and the word read as lists; the word is not longer than a million letters. -/
import Derived.Test.YtmabnigdocokmaaGreatTongH
import Derived.Deep.DeepCutAuto
import Derived.Test.YtmabnigdocokmaaGreatBulk
namespace Go.Proofs.YtmabnigdocokmaaGreat
open Go.RowKit

structure TongOk (N : PNet) (o : Int) (s : PSp) : Prop where
  pos : 0 < s.marks.length
  small : s.marks.length ≤ 300
  few : s.arcs.length ≤ 7200
  nodup : s.marks.Nodup
  from_ : ∀ a ∈ s.arcs, Inn s.marks.length a.from_
  to_ : ∀ a ∈ s.arcs, Inn s.marks.length a.to_
  tran : ∀ a ∈ s.arcs, Inn N.trans.length a.tran
  label : ∀ a ∈ s.arcs, 0 ≤ atI (labL N) a.tran
theorem tongS_ok {N : PNet} {i o : Int} {s : PSp} (h : tongS N i o = (s, 0)) : TongOk N o s := by
  unfold tongS at h
  split at h
  · rename_i h0
    have hok := (shapeL_two h0).2
    have h2 : (graphL N (oneL (min N.places 16).toNat i) 300).2 = 0 := by rw [h]
    obtain ⟨_, SO⟩ := graphL_most h2
    have hA := graphL_arcs h2
    rw [h] at SO hA
    have hT : ∀ a ∈ s.arcs, Inn s.marks.length a.from_ ∧ Inn N.trans.length a.tran ∧ Inn s.marks.length a.to_ := fun a ha => by
      obtain ⟨e1, e2, e3⟩ := SO.ends a ha
      exact ⟨e1, e2, e3⟩
    refine ⟨SO.some_, SO.few, hA, SO.nodup, fun a ha => (hT a ha).1, fun a ha => (hT a ha).2.2, fun a ha => (hT a ha).2.1, fun a ha => ?_⟩
    obtain ⟨r, er, hr⟩ := natOf (hT a ha).2.1
    have hx : N.trans[r]? = some N.trans[r] := List.getElem?_eq_getElem hr
    have := (netOk_tran hok hx).1
    unfold atI labL
    rw [er, Int.toNat_natCast, List.getD_eq_getElem?_getD, List.getElem?_map, hx]
    exact this
  · rename_i h0
    injection h with _ h
    exact absurd h h0
theorem meetB_iff {bs es : List Bool} {n : Nat} : meetB bs es n = true ↔ ∃ j : Nat, j < n ∧ on bs (j : Int) ∧ on es (j : Int) := by
  unfold meetB on
  rw [List.any_eq_true]
  constructor
  · rintro ⟨j, hj, h⟩
    rw [Bool.and_eq_true] at h
    exact ⟨j, List.mem_range.1 hj, by simpa using h.1, by simpa using h.2⟩
  · rintro ⟨j, hj, h1, h2⟩
    refine ⟨j, List.mem_range.2 hj, ?_⟩
    rw [Bool.and_eq_true]
    exact ⟨by simpa using h1, by simpa using h2⟩
theorem endsL_on {N : PNet} {o : Int} {ms : List (List Int)} {j : Nat} : on (endsL N o ms) (j : Int) ↔ ms[j]? = some (endL N o) := by
  unfold on endsL
  rw [Int.toNat_natCast, List.getD_eq_getElem?_getD, List.getElem?_map]
  cases h : ms[j]? with
  | none => simp
  | some x => simp
theorem meet_none {N : PNet} {o : Int} {ms : List (List Int)} {bs : List Bool} {n : Nat} (h : findL ms (endL N o) = none) : meetB bs (endsL N o ms) n = false := by
  cases hm : meetB bs (endsL N o ms) n with
  | false => rfl
  | true =>
    obtain ⟨j, _, _, h2⟩ := meetB_iff.1 hm
    exact absurd (List.mem_of_getElem? (endsL_on.1 h2)) (findL_none h)
theorem meet_some {N : PNet} {o : Int} {ms : List (List Int)} {bs : List Bool} {k : Nat} (hn : ms.Nodup) (h : findL ms (endL N o) = some k) : meetB bs (endsL N o ms) ms.length = true ↔ on bs (k : Int) := by
  have hk := findL_some h
  rw [meetB_iff]
  constructor
  · rintro ⟨j, _, h1, h2⟩
    have h3 := findL_at hn (endsL_on.1 h2)
    rw [h] at h3
    injection h3 with h3
    subst h3
    exact h1
  · intro h1
    exact ⟨k, (List.getElem?_eq_some_iff.1 hk).1, h1, endsL_on.2 hk⟩

end Go.Proofs.YtmabnigdocokmaaGreat
namespace Go.Proofs.YtmabnigdocokmaaGreat
open Go.RowKit

/-- The first so many are far off. -/
def startZ (n k : Nat) : List Int := (List.range n).map fun j => if j < k then 1073741824 else 0
theorem startZ_len (n k : Nat) : (startZ n k).length = n := by simp [startZ]
theorem startZ_zero (n : Nat) : startZ n 0 = List.replicate n 0 := by
  apply List.ext_getElem (by simp [startZ])
  intro j h1 h2
  simp [startZ]
theorem startZ_succ {n k : Nat} : startZ n (k + 1) = (startZ n k).set k 1073741824 := by
  apply List.ext_getElem (by simp [startZ])
  intro j h1 h2
  rw [List.getElem_set]
  simp only [startZ, List.getElem_map, List.getElem_range]
  by_cases e : k = j
  · subst e; simp
  · rw [if_neg e]
    have : (j < k + 1) ↔ (j < k) := ⟨fun h => by omega, fun h => by omega⟩
    exact ite_congr (propext this) (fun _ => rfl) (fun _ => rfl)
theorem startZ_none {N : PNet} {o : Int} {ms : List (List Int)} (h : findL ms (endL N o) = none) : startZ ms.length ms.length = startR (fun m => on (endsL N o ms) m) ms.length := by
  apply List.ext_getElem (by simp [startZ, startR])
  intro j h1 h2
  have hj : j < ms.length := by simpa [startZ] using h1
  simp only [startZ, startR, List.getElem_map, List.getElem_range]
  rw [if_pos hj, if_neg]
  intro hon
  exact findL_none h (List.mem_of_getElem? (endsL_on.1 hon))
theorem startZ_some {N : PNet} {o : Int} {ms : List (List Int)} {k : Nat} (hn : ms.Nodup) (h : findL ms (endL N o) = some k) : (startZ ms.length ms.length).set k 0 = startR (fun m => on (endsL N o ms) m) ms.length := by
  have hk := findL_some h
  apply List.ext_getElem (by simp [startZ, startR])
  intro j h1 h2
  have hj : j < ms.length := by simpa [startZ] using h1
  rw [List.getElem_set]
  simp only [startZ, startR, List.getElem_map, List.getElem_range]
  by_cases e : k = j
  · subst e
    rw [if_pos rfl, if_pos (endsL_on.2 hk)]
  · rw [if_neg e, if_pos hj, if_neg]
    intro hon
    have h3 := findL_at hn (endsL_on.1 hon)
    rw [h] at h3
    injection h3 with h3
    exact e h3
theorem wt_min {lb : Int → Int} {a : PArc} {l : Int} (h : lb a.tran = l) (h0 : 0 ≤ l) : min l 1 = (wt lb a : Nat) := by
  unfold wt
  rw [h]
  by_cases h1 : 0 < l
  · rw [if_pos h1]; omega
  · rw [if_neg h1]; omega

end Go.Proofs.YtmabnigdocokmaaGreat
namespace Go.Proofs.YtmabnigdocokmaaGreat
open Go.RowKit

end Go.Proofs.YtmabnigdocokmaaGreat
