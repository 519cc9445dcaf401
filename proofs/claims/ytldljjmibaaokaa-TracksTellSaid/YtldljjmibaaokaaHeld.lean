/- A region that draws its order, walked by a written list of its operations: each is either taken first (it yields one value in every world that meets S) or the only one that may come up. S is asked only while number m has not come up. -/
import Derived.Test.YtldljjmibaaokaaOwnC
import Derived.Deep.RegionHeld3
namespace Go.Proofs.Ytldljjmibaaokaa
open Go.RowKit

section
variable {P : Program} {ops : Array Oper} {Q : Exit → Act → World → Prop} {md : Region.Mode} {S : World → Prop} {m : Nat}

def wpAnyL (P : Program) (md : Region.Mode) (ops : Array Oper) (Q : Exit → Act → World → Prop) (S : World → Prop) (m : Nat) : Nat → Array Bool → Act → World → Prop
  | 0, listed, a, w => Region.ready md ops listed = [] ∧ Q .normal a w
  | fuel + 1, listed, a, w =>
    (Region.ready md ops listed = [] → Q .normal a w) ∧
    ∀ i ∈ Region.ready md ops listed, wpOp P ops Q i (fun a' w' => ((listed.setIfInBounds i true).getD m true = false → S w') ∧ wpAnyL P md ops Q S m fuel (listed.setIfInBounds i true) a' w') a w

theorem wpAny_of_L : ∀ (fuel : Nat) (listed : Array Bool) (a : Act) (w : World), wpAnyL P md ops Q S m fuel listed a w → wpAny P md ops Q fuel listed a w
  | 0, _, _, _, h => h
  | fuel + 1, _, _, _, h => ⟨h.1, fun i hi => wpOp_mono (fun a' w' h' => wpAny_of_L fuel _ a' w' h'.2) (h.2 i hi)⟩

/-- number m waits for number i, over at most so many edges -/
def waitsOn (md : Region.Mode) (ops : Array Oper) : Nat → Nat → Nat → Bool
  | 0, _, _ => false
  | f + 1, m, i => ((ops[m]?).map (fun o => (o.after.any fun e => Region.binds md e && e.on == i) || (o.after.any fun e => Region.binds md e && waitsOn md ops f e.on i))).getD false

/-- What has come up holds, with each operation, those that it waits for. -/
def Closed (md : Region.Mode) (ops : Array Oper) (listed : Array Bool) : Prop :=
  ∀ k o, listed.getD k false = true → ops[k]? = some o → ∀ e ∈ o.after, Region.binds md e = true → listed.getD e.on false = true

theorem Closed.start (n : Nat) : Closed md ops (Array.replicate n false) := fun k o h => by
  rcases Nat.lt_or_ge k n with h' | h' <;> simp [Array.getD, h'] at h
theorem Closed.set {listed : Array Bool} (h : Closed md ops listed) {i : Nat} (hi : i ∈ Region.ready md ops listed) : Closed md ops (listed.setIfInBounds i true) := by
  intro k o hk ho e he hb
  by_cases hki : i = k
  · subst hki
    obtain ⟨_, o', ho', hall⟩ := mem_ready.1 hi
    rw [ho] at ho'
    cases ho'
    exact getD_set_true (hall e he hb)
  · rw [getD_set_ne false hki] at hk
    exact getD_set_true (h k o hk ho e he hb)

theorem waits_listed {listed : Array Bool} (hc : Closed md ops listed) : ∀ (f m i : Nat), (∀ o, ops[m]? = some o → ∀ e ∈ o.after, Region.binds md e = true → listed.getD e.on false = true) → waitsOn md ops f m i = true → listed.getD i false = true
  | 0, _, _, _, h => by simp [waitsOn] at h
  | f + 1, m, i, hm, h => by
    unfold waitsOn at h
    cases ho : ops[m]? with
    | none => simp [ho] at h
    | some o =>
      simp only [ho, Option.map_some, Option.getD_some, Bool.or_eq_true, Array.any_eq_true, Bool.and_eq_true, beq_iff_eq] at h
      rcases h with ⟨j, hj, hb, he⟩ | ⟨j, hj, hb, he⟩
      · rw [← he]; exact hm o ho _ (Array.getElem_mem hj) hb
      · exact waits_listed hc f _ i (fun o' ho' e' he' hb' => hc _ o' (hm o ho _ (Array.getElem_mem hj) hb) ho' e' he' hb') he

theorem unready {f i : Nat} {listed : Array Bool} (hc : Closed md ops listed) (h : waitsOn md ops f m i = true) (hu : listed.getD i true = false) : m ∉ Region.ready md ops listed := by
  intro hm
  obtain ⟨_, o, ho, hall⟩ := mem_ready.1 hm
  have := waits_listed hc f m i (fun o' ho' => by rw [ho] at ho'; cases ho'; exact hall) h
  rcases Nat.lt_or_ge i listed.size with h' | h'
  · simp [h'] at hu this; rw [hu] at this; cases this
  · simp [Array.getElem?_eq_none h'] at hu

theorem wpAnyL_first {i : Nat} {oi : Oper} {v : Value} (hi : ops[i]? = some oi) (hsel : ∀ (j : Nat) (o : Oper) cs b, ops[j]? = some o → o.op ≠ .select cs b)
    (hQ : ∀ c a w, Q (.panic c) (a.put oi.dst v) w → Q (.panic c) a w) (him : i ≠ m) {f : Nat} (hwait : waitsOn md ops f m i = true) :
    ∀ (fuel : Nat) (listed : Array Bool) (a : Act) (w : World), Closed md ops listed →
      (∀ j oj, ops[j]? = some oj → j ≠ i → listed.getD j true = false → (∀ e ∈ oj.after, Region.binds md e = true → e.on ≠ i) → oi.apart ops oj = true) →
      i ∈ Region.ready md ops listed → listed.getD m true = false → YieldsIf P ops S oi v a → S w →
      wpAnyL P md ops Q S m fuel (listed.setIfInBounds i true) (a.put oi.dst v) w → wpAnyL P md ops Q S m (fuel + 1) listed a w := by
  intro fuel
  induction fuel with
  | zero =>
    intro listed a w _ _ hr hmu hy hS H
    refine ⟨fun h => (by rw [h] at hr; cases hr), fun j hj => ?_⟩
    by_cases hji : j = i
    · subst hji; exact hy.wpOp hi hS ⟨fun _ => hS, H⟩
    · have := ready_mono hj hji
      rw [H.1] at this
      cases this
  | succ fuel ih =>
    intro listed a w hc hfree hr hmu hy hS H
    refine ⟨fun h => (by rw [h] at hr; cases hr), fun j hj => ?_⟩
    by_cases hji : j = i
    · subst hji; exact hy.wpOp hi hS ⟨fun _ => hS, H⟩
    · have h1 := H.2 j (ready_mono hj hji)
      obtain ⟨hjun, oj, hoj, hall⟩ := mem_ready.1 hj
      have hjm : j ≠ m := fun e => unready hc hwait (mem_ready.1 hr).1 (e ▸ hj)
      have hnot : ∀ e ∈ oj.after, Region.binds md e = true → e.on ≠ i := fun e he hb heq => by
        have h1 := hall e he hb
        have h0 := (mem_ready.1 hr).1
        rw [heq] at h1
        rcases Nat.lt_or_ge i listed.size with h' | h'
        · simp [h'] at h0 h1; rw [h0] at h1; cases h1
        · simp [Array.getElem?_eq_none h'] at h1
      have h2 := wpOp_putIf hoj (hfree j oj hoj hji hjun hnot) (fun cs b => hsel i oi cs b hi) (fun cs b => hsel j oj cs b hoj) hQ hy h1
      have hfree' : ∀ k ok, ops[k]? = some ok → k ≠ i → (listed.setIfInBounds j true).getD k true = false →
          (∀ e ∈ ok.after, Region.binds md e = true → e.on ≠ i) → oi.apart ops ok = true := fun k ok hk hki hun hno => by
        refine hfree k ok hk hki ?_ hno
        by_cases hjk : j = k
        · subst hjk; exact hjun
        · rw [getD_set_ne true hjk] at hun; exact hun
      have hmu' : (listed.setIfInBounds j true).getD m true = false := by rw [getD_set_ne true hjm]; exact hmu
      refine wpOp_mono (fun a' w' h3 => ?_) h2
      have hS' : S w' := h3.2.1 (by rw [getD_set_ne true hjm, getD_set_ne true him]; exact hmu)
      refine ⟨fun _ => hS', ih (listed.setIfInBounds j true) a' w' (hc.set hj) hfree' (ready_mono hr (Ne.symm hji)) hmu' h3.1 hS' ?_⟩
      rw [Array.setIfInBounds_comm _ _ hji]
      exact h3.2.2

/-- The list: (0, i) number i is taken first; (1, i) number i is the only one that may come up, and S is shown anew; (2, i) the same, m having come up. -/
def okScript (md : Region.Mode) (ops : Array Oper) (m : Nat) : List (Nat × Nat) → Nat → Array Bool → Bool
  | [], _, listed => (Region.ready md ops listed).isEmpty
  | _ :: _, 0, _ => false
  | (k, i) :: rest, fuel + 1, listed =>
    (match k with
      | 0 => Region.free md ops listed i && (Region.ready md ops listed).contains i && i != m && waitsOn md ops 8 m i && !listed.getD m true
      | 1 => Region.ready md ops listed == [i]
      | _ => Region.ready md ops listed == [i] && (listed.setIfInBounds i true).getD m true) &&
    okScript md ops m rest fuel (listed.setIfInBounds i true)

def wpScript (P : Program) (ops : Array Oper) (Q : Exit → Act → World → Prop) (S : World → Prop) : List (Nat × Nat) → Act → World → Prop
  | [], a, w => Q .normal a w
  | (0, i) :: rest, a, w => ∃ oi v, ops[i]? = some oi ∧ YieldsIf P ops S oi v a ∧ S w ∧ wpScript P ops Q S rest (a.put oi.dst v) w
  | (1, i) :: rest, a, w => wpOp P ops Q i (fun a' w' => S w' ∧ wpScript P ops Q S rest a' w') a w
  | (_ + 2, i) :: rest, a, w => wpOp P ops Q i (wpScript P ops Q S rest) a w

theorem wpAnyL_of_script (hs : Region.noSelect ops = true) (hQ : ∀ c a (d : Tmp) v w, Q (.panic c) (a.put (some d) v) w → Q (.panic c) a w) :
    ∀ (l : List (Nat × Nat)) (fuel : Nat) (listed : Array Bool) (a : Act) (w : World), Closed md ops listed → okScript md ops m l fuel listed = true → wpScript P ops Q S l a w → wpAnyL P md ops Q S m fuel listed a w
  | [], fuel, listed, a, w, _, hok, h => by
    have h0 : Region.ready md ops listed = [] := by simpa [okScript] using hok
    cases fuel with
    | zero => exact ⟨h0, h⟩
    | succ n => exact ⟨fun _ => h, fun i hi => by rw [h0] at hi; cases hi⟩
  | _ :: _, 0, _, _, _, _, hok, _ => by simp [okScript] at hok
  | (0, i) :: rest, fuel + 1, listed, a, w, hc, hok, h => by
    simp only [okScript, Bool.and_eq_true, bne_iff_ne, ne_eq, Bool.not_eq_true'] at hok
    obtain ⟨⟨⟨⟨⟨hf, hr⟩, him⟩, hw⟩, hmu⟩, hrest⟩ := hok
    obtain ⟨oi, v, hi, hy, hS, h⟩ := h
    exact wpAnyL_first hi (Region.noSelect_spec hs) (fun c a w h => by cases hd : oi.dst with | none => rw [hd] at h; exact h | some d => rw [hd] at h; exact hQ c a d _ w h) him hw fuel listed a w hc (Region.free_spec hi hf) (by simpa using hr) hmu hy hS (wpAnyL_of_script hs hQ rest fuel _ _ w (hc.set (by simpa using hr)) hrest h)
  | (1, i) :: rest, fuel + 1, listed, a, w, hc, hok, h => by
    simp only [okScript, Bool.and_eq_true, beq_iff_eq] at hok
    refine ⟨fun h0 => absurd (h0.symm.trans hok.1) (by simp), fun j hj => ?_⟩
    rw [hok.1] at hj
    obtain rfl : j = i := by simpa using hj
    exact wpOp_mono (fun a' w' h' => ⟨fun _ => h'.1, wpAnyL_of_script hs hQ rest fuel _ a' w' (hc.set (by rw [hok.1]; simp)) hok.2 h'.2⟩) h
  | (k + 2, i) :: rest, fuel + 1, listed, a, w, hc, hok, h => by
    simp only [okScript, Bool.and_eq_true, beq_iff_eq] at hok
    refine ⟨fun h0 => absurd (h0.symm.trans hok.1.1) (by simp), fun j hj => ?_⟩
    rw [hok.1.1] at hj
    obtain rfl : j = i := by simpa using hj
    exact wpOp_mono (fun a' w' h' => ⟨fun h0 => absurd (h0.symm.trans hok.1.2) (by simp), wpAnyL_of_script hs hQ rest fuel _ a' w' (hc.set (by rw [hok.1.1]; simp)) hok.2 h'⟩) h

/-- The beginning. -/
theorem wp_region_script {id : Nat} (m : Nat) (l : List (Nat × Nat)) (S : World → Prop) {a : Act} {w : World} (hm : P.follows .mixedOrders = true) (hs : Region.noSelect ops = true) (hok : okScript .any ops m l ops.size (Array.replicate ops.size false) = true)
    (hQ : ∀ c a (d : Tmp) v w, Q (.panic c) (a.put (some d) v) w → Q (.panic c) a w) (hS : S w.drew) (h : S w.drew → wpScript P ops Q S l a w.drew) : (Code.region id ops true).wp P Q a w :=
  wp_region_any hm (wpAny_of_L _ _ _ _ (wpAnyL_of_script (m := m) hs hQ l _ _ _ _ (Closed.start _) hok (h hS)))

def nth {α : Type} : List α → Nat → Option α
  | [], _ => none
  | x :: _, 0 => some x
  | _ :: l, n + 1 => nth l n
theorem nth_eq {α : Type} : ∀ (l : List α) (i : Nat), nth l i = l[i]?
  | [], _ => by simp [nth]
  | _ :: _, 0 => by simp [nth]
  | _ :: l, n + 1 => by simp [nth, nth_eq l n]
theorem nth_ops {i : Nat} {o : Oper} (h : nth ops.toList i = some o) : ops[i]? = some o := by rw [nth_eq] at h; simpa using h
theorem scTake {i : Nat} {rest : List (Nat × Nat)} {a : Act} {w : World} {o : Oper} {v : Value} (ho : nth ops.toList i = some o) (hw : Region.wanted o (yielded ops a.tmps) = true) (hS : S w)
    (hy : ∀ w', S w' → (execOp a.eval o).run P w' = .ok (.value v) w') (h : wpScript P ops Q S rest (a.put o.dst v) w) : wpScript P ops Q S ((0, i) :: rest) a w :=
  ⟨o, v, nth_ops ho, .inl ⟨hw, hy⟩, hS, h⟩
theorem scOne {i : Nat} {rest : List (Nat × Nat)} {a : Act} {w : World} {o : Oper} (ho : nth ops.toList i = some o)
    (h : ∀ K' : Act → World → Prop, Shut (∀ a w, S w → (S w → wpScript P ops Q S rest a w) → K' a w) → if Region.wanted o (yielded ops a.tmps) = true then Oper.wp P o a w K' Q else K' (a.put o.dst undef) w) : wpScript P ops Q S ((1, i) :: rest) a w :=
  wpOp_step (nth_ops ho) fun K' hK => h K' fun a w hS hW => hK a w ⟨hS, hW hS⟩
theorem scEnd {i : Nat} {rest : List (Nat × Nat)} {a : Act} {w : World} {o : Oper} (ho : nth ops.toList i = some o)
    (h : ∀ K' : Act → World → Prop, Shut (∀ a w, wpScript P ops Q S rest a w → K' a w) → if Region.wanted o (yielded ops a.tmps) = true then Oper.wp P o a w K' Q else K' (a.put o.dst undef) w) : wpScript P ops Q S ((2, i) :: rest) a w :=
  wpOp_step (nth_ops ho) fun K' hK => h K' hK
end
end Go.Proofs.Ytldljjmibaaokaa
