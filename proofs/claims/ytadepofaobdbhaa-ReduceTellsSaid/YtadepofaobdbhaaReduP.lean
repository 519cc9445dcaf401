/- The plain law of M1's loop: each step keeps the net right and makes it smaller. Conditions: none. -/
import Derived.Test.YtadepofaobdbhaaReduF
namespace Go.Proofs.Ytadepofaobdbhaa

/-- What the loop keeps. -/
def SOk (s : PSm) : Prop := netOk s.net = true ∧ (0 ≤ s.i ∧ s.i ≤ 1000) ∧ (0 ≤ s.o ∧ s.o ≤ 1000)
def meas (s : PSm) : Nat := s.net.trans.length + s.net.places.toNat
theorem down_ok {x : Int} {p : Nat} (h : 0 ≤ x ∧ x ≤ 1000) : 0 ≤ down x p ∧ down x p ≤ 1000 := by
  unfold down
  split <;> omega
theorem onlyL_lt {ws : List Int} (h : ¬ onlyL ws < 0) : (onlyL ws).toNat < ws.length := by
  rcases onlyL_cases ws with e | ⟨k, e, hk⟩
  · rw [e] at h; omega
  · rw [e]; simpa using hk
theorem tAt_mem {ts : List PTran} {k : Nat} (hk : k < ts.length) : tAt ts k ∈ ts := by
  rw [tAt_get (List.getElem?_eq_getElem hk)]
  exact List.getElem_mem hk
/-- What is known where the third rule fits. -/
theorem serP_some {s s' : PSm} {p : Nat} (h : serP s p = some s') : ∃ a b : Nat, a < s.net.trans.length ∧ b < s.net.trans.length ∧ s' = serDo s p a b ∧ serOk s p (onlyL (postW s.net.trans p)) (onlyL (preW s.net.trans p)) = true ∧ a = (onlyL (postW s.net.trans p)).toNat ∧ b = (onlyL (preW s.net.trans p)).toNat ∧
    (∀ x ∈ (mergeT (tAt s.net.trans a) (tAt s.net.trans b) p).post, x ≤ 9) := by
  unfold serP at h
  split at h
  · rename_i hs
    injection h with h
    have hs' := hs
    simp only [serOk, Bool.and_eq_true, Bool.not_eq_true', decide_eq_false_iff_not, List.all_eq_true, decide_eq_true_eq] at hs'
    obtain ⟨⟨⟨⟨⟨h1, h2⟩, h3⟩, h4⟩, h5⟩, h6⟩ := hs'
    exact ⟨_, _, by simpa [postW] using onlyL_lt h2, by simpa [preW] using onlyL_lt h3, h.symm, hs, rfl, rfl, h6⟩
  · cases h
theorem serDo_ok {s : PSm} {p a b : Nat} (h : SOk s) (hp : (p : Int) < s.net.places) (ha : a < s.net.trans.length) (hb : b < s.net.trans.length) (h9 : ∀ x ∈ (mergeT (tAt s.net.trans a) (tAt s.net.trans b) p).post, x ≤ 9) : SOk (serDo s p a b) := by
  obtain ⟨h1, h2, h3⟩ := h
  have hn := (netOk_iff _).1 h1
  refine ⟨?_, down_ok h2, down_ok h3⟩
  unfold serDo
  refine netOk_dropP ?_ hp
  exact netOk_erase (netOk_set h1 (merge_ok (hn.2.2.2 _ (tAt_mem ha)) (hn.2.2.2 _ (tAt_mem hb)) h9)) b
theorem serDo_meas {s : PSm} {p a b : Nat} (h : SOk s) (hp : (p : Int) < s.net.places) (hb : b < s.net.trans.length) : meas (serDo s p a b) < meas s := by
  have := (netOk_iff _).1 h.1
  show (((s.net.trans.set a _).eraseIdx b).map (dropPl p)).length + (s.net.places - 1).toNat < s.net.trans.length + s.net.places.toNat
  rw [List.length_map, List.length_eraseIdx_of_lt (by simpa using hb), List.length_set]
  omega
theorem stT_ok {s s' : PSm} (h : SOk s) (hs : stT s = some s') : SOk s' ∧ meas s' < meas s := by
  unfold stT at hs
  obtain ⟨k, hk, rfl⟩ := Option.map_eq_some_iff.1 hs
  have hlt := firstPair_lt hk
  refine ⟨⟨netOk_erase h.1 k, h.2.1, h.2.2⟩, ?_⟩
  show (s.net.trans.eraseIdx k).length + s.net.places.toNat < s.net.trans.length + s.net.places.toNat
  rw [List.length_eraseIdx_of_lt hlt]
  omega
theorem stP_ok {s s' : PSm} (h : SOk s) (hs : stP s = some s') : SOk s' ∧ meas s' < meas s := by
  unfold stP at hs
  obtain ⟨k, hk, rfl⟩ := Option.map_eq_some_iff.1 hs
  have hlt := firstPair_lt hk
  have hn := (netOk_iff _).1 h.1
  refine ⟨⟨netOk_dropP h.1 (by omega), down_ok h.2.1, down_ok h.2.2⟩, ?_⟩
  show (s.net.trans.map (dropPl k)).length + (s.net.places - 1).toNat < s.net.trans.length + s.net.places.toNat
  rw [List.length_map]
  omega
theorem stS_ok {s s' : PSm} (h : SOk s) (hs : stS s = some s') : SOk s' ∧ meas s' < meas s := by
  unfold stS at hs
  obtain ⟨p, hp, hsp⟩ := List.exists_of_findSome?_eq_some hs
  have hp' : (p : Int) < s.net.places := by have := List.mem_range.1 hp; omega
  obtain ⟨a, b, ha, hb, rfl, _, _, _, h9⟩ := serP_some hsp
  exact ⟨serDo_ok h hp' ha hb h9, serDo_meas h hp' hb⟩
theorem stepS_ok {s s' : PSm} (h : SOk s) (hs : stepS s = some s') : SOk s' ∧ meas s' < meas s := by
  unfold stepS at hs
  cases h1 : stT s with
  | some x => rw [h1] at hs; injection hs with hs; subst hs; exact stT_ok h h1
  | none =>
    rw [h1, Option.none_or] at hs
    cases h2 : stP s with
    | some x => rw [h2] at hs; injection hs with hs; subst hs; exact stP_ok h h2
    | none => rw [h2, Option.none_or] at hs; exact stS_ok h hs
/-- What reduce.Reduce answers: the net, its two ends and the steps, what is wrong. -/
def redL (N : PNet) (i o : Int) : PNet × (Int × Int × Int) × Int :=
  if shapeL N i o = 0 then ((runS 64 ⟨N, i, o⟩ 0).1.net, ((runS 64 ⟨N, i, o⟩ 0).1.i, (runS 64 ⟨N, i, o⟩ 0).1.o, ((runS 64 ⟨N, i, o⟩ 0).2 : Int)), 0) else (⟨0, []⟩, (0, 0, 0), shapeL N i o)
theorem shape_sok {N : PNet} {i o : Int} (h : shapeL N i o = 0) : SOk ⟨N, i, o⟩ ∧ meas ⟨N, i, o⟩ ≤ 40 := by
  obtain ⟨h1, h2⟩ := shapeL_zero h
  have hn := (netOk_iff _).1 h1
  simp only [inB, Bool.and_eq_true, decide_eq_true_eq] at h2
  refine ⟨⟨h1, by show 0 ≤ i ∧ i ≤ 1000; omega, by show 0 ≤ o ∧ o ≤ 1000; omega⟩, ?_⟩
  show N.trans.length + N.places.toNat ≤ 40
  omega
end Go.Proofs.Ytadepofaobdbhaa
