/- The rule of XHeldB, with one operation taken ahead of all that waits for nothing and reads no memory. -/
import Derived.Test.YtmhcinmadelaeaaHeldB
namespace Go.Proofs.Ytmhcinmadelaeaa
open Go.RowKit

section
variable {P : Program} {ops : Array Oper} {Q : Exit → Act → World → Prop} {md : Region.Mode} {S : World → Prop} {m : Nat}

theorem wpAnyL_pure {i : Nat} {oi : Oper} {v : Value} (hi : ops[i]? = some oi) (hsel : ∀ (j : Nat) (o : Oper) cs b, ops[j]? = some o → o.op ≠ .select cs b)
    (hQ : ∀ c a w, Q (.panic c) (a.put oi.dst v) w → Q (.panic c) a w) (him : i ≠ m) :
    ∀ (fuel : Nat) (listed : Array Bool) (a : Act) (w : World),
      (∀ j oj, ops[j]? = some oj → j ≠ i → listed.getD j true = false → (∀ e ∈ oj.after, Region.binds md e = true → e.on ≠ i) → oi.apart ops oj = true) →
      i ∈ Region.ready md ops listed → (listed.getD m true = false → S w) → YieldsIf P ops (fun _ => True) oi v a →
      wpAnyL P md ops Q S m fuel (listed.setIfInBounds i true) (a.put oi.dst v) w → wpAnyL P md ops Q S m (fuel + 1) listed a w := by
  intro fuel
  induction fuel with
  | zero =>
    intro listed a w _ hr hS hy H
    refine ⟨fun h => (by rw [h] at hr; cases hr), fun j hj => ?_⟩
    by_cases hji : j = i
    · subst hji; exact hy.wpOp hi trivial ⟨fun hu => hS (by rw [getD_set_ne true him] at hu; exact hu), H⟩
    · have := ready_mono hj hji
      rw [H.1] at this
      cases this
  | succ fuel ih =>
    intro listed a w hfree hr hS hy H
    refine ⟨fun h => (by rw [h] at hr; cases hr), fun j hj => ?_⟩
    by_cases hji : j = i
    · subst hji; exact hy.wpOp hi trivial ⟨fun hu => hS (by rw [getD_set_ne true him] at hu; exact hu), H⟩
    · have h1 := H.2 j (ready_mono hj hji)
      obtain ⟨hjun, oj, hoj, hall⟩ := mem_ready.1 hj
      have hnot : ∀ e ∈ oj.after, Region.binds md e = true → e.on ≠ i := fun e he hb heq => by
        have h1 := hall e he hb
        have h0 := (mem_ready.1 hr).1
        rw [heq] at h1
        rcases Nat.lt_or_ge i listed.size with h' | h'
        · simp [h'] at h0 h1; rw [h0] at h1; cases h1
        · simp [Array.getElem?_eq_none h'] at h1
      have h2 := wpOp_putIf hoj (hfree j oj hoj hji hjun hnot) (fun cs b => hsel i oi cs b hi) (fun cs b => hsel j oj cs b hoj) hQ hy h1
      have hfree' : ∀ k ok, ops[k]? = some ok → k ≠ i → (listed.setIfInBounds j true).getD k true = false →
          (∀ e ∈ ok.after, Region.binds md e = true → e.on ≠ i) → oi.apart ops ok = true := fun k ok hk hki hun hno => by
        refine hfree k ok hk hki ?_ hno
        by_cases hjk : j = k
        · subst hjk; exact hjun
        · rw [getD_set_ne true hjk] at hun; exact hun
      refine wpOp_mono (fun a' w' h3 => ?_) h2
      have hS' : (listed.setIfInBounds j true).getD m true = false → S w' := fun hu => h3.2.1 (by rw [Array.setIfInBounds_comm _ _ (Ne.symm hji), getD_set_ne true him]; exact hu)
      refine ⟨hS', ih (listed.setIfInBounds j true) a' w' hfree' (ready_mono hr (Ne.symm hji)) hS' h3.1 ?_⟩
      rw [Array.setIfInBounds_comm _ _ hji]
      exact h3.2.2

/-- The beginning, with number i taken ahead of all. -/
theorem wp_region_scrP {id : Nat} (m i f : Nat) (l : Scr) (S : World → Prop) {a : Act} {w : World} {oi : Oper} {v : Value} (hm : P.follows .mixedOrders = true) (hs : Region.noSelect ops = true)
    (hfree : (Region.free .any ops (Array.replicate ops.size false) i && (Region.ready .any ops (Array.replicate ops.size false)).contains i && i != m) = true) (hf : ops.size = f + 1)
    (hok : okScr .any ops m l f ((Array.replicate ops.size false).setIfInBounds i true) = true)
    (hQ : ∀ c a (d : Tmp) v w, Q (.panic c) (a.put (some d) v) w → Q (.panic c) a w) (ho : nth ops.toList i = some oi) (hw : Region.wanted oi (yielded ops a.tmps) = true)
    (hy : ∀ w', (execOp a.eval oi).run P w' = .ok (.value v) w') (hS : S w.drew) (h : S w.drew → wpScr P ops Q S l (a.put oi.dst v) w.drew) : (Code.region id ops true).wp P Q a w := by
  simp only [Bool.and_eq_true, bne_iff_ne, ne_eq] at hfree
  obtain ⟨⟨h1, h2⟩, h3⟩ := hfree
  have hr : i ∈ Region.ready .any ops (Array.replicate ops.size false) := by simpa using h2
  refine wp_region_any hm (wpAny_of_L (S := S) (m := m) _ _ _ _ ?_)
  rw [hf] at *
  refine wpAnyL_pure (nth_ops ho) (Region.noSelect_spec hs) (fun c a w h => by cases hd : oi.dst with | none => rw [hd] at h; exact h | some d => rw [hd] at h; exact hQ c a d _ w h) h3 f _ a _ (Region.free_spec (nth_ops ho) h1) hr (fun _ => hS) (.inl ⟨hw, fun w' _ => hy w'⟩) ?_
  exact wpAnyL_of_scr (m := m) hs hQ l _ _ _ _ ((Closed.start _).set hr) hok (h hS)
end
end Go.Proofs.Ytmhcinmadelaeaa
