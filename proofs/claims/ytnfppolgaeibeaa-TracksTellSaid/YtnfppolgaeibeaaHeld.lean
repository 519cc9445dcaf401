/- A region that draws its order, walked by a written list of its operations: each is either taken first (it yields one value in every world that meets S) or the only one that may come up. S is asked only while number m has not come up. | The rule of XHeld with a tree in place of the list: where two operations may come up, both ways are walked. | The rule of XHeldB, with one operation taken ahead of all that waits for nothing and reads no memory. | The rule of XHeldC, with two operations taken ahead of all. -/
import Derived.Test.YtnfppolgaeibeaaOwnB
import Derived.Deep.RegionHeld3
namespace Go.Proofs.Ytnfppolgaeibeaa
open Go.RowKit

section
variable {P : Program} {ops : Array Oper} {Q : Exit → Act → World → Prop} {md : Region.Mode} {S : World → Prop} {m : Nat}

def wpAnyL (P : Program) (md : Region.Mode) (ops : Array Oper) (Q : Exit → Act → World → Prop) (S : World → Prop) (m : Nat) : Nat → Array Bool → Act → World → Prop
  | 0, listed, a, w => Region.ready md ops listed = [] ∧ Q .normal a w
  | fuel + 1, listed, a, w =>
    (Region.ready md ops listed = [] → Q .normal a w) ∧
    ∀ i ∈ Region.ready md ops listed, wpOp P ops Q i (fun a' w' => ((listed.setIfInBounds i true).getD m true = false → S w') ∧ wpAnyL P md ops Q S m fuel (listed.setIfInBounds i true) a' w') a w

theorem wpAny_of_L : ∀ (fuel : Nat) (listed : Array Bool) (a : Act) (w : World), wpAnyL P md ops Q S m fuel listed a w → wpAny P md ops Q fuel listed a w
  | 0, _, _, _, h => h
  | fuel + 1, _, _, _, h => ⟨h.1, fun i hi => wpOp_mono (fun a' w' h' => wpAny_of_L fuel _ a' w' h'.2) (h.2 i hi)⟩

/-- number m waits for number i, over at most so many edges -/
def waitsOn (md : Region.Mode) (ops : Array Oper) : Nat → Nat → Nat → Bool
  | 0, _, _ => false
  | f + 1, m, i => ((ops[m]?).map (fun o => (o.after.any fun e => Region.binds md e && e.on == i) || (o.after.any fun e => Region.binds md e && waitsOn md ops f e.on i))).getD false

/-- What has come up holds, with each operation, those that it waits for. -/
def Closed (md : Region.Mode) (ops : Array Oper) (listed : Array Bool) : Prop :=
  ∀ k o, listed.getD k false = true → ops[k]? = some o → ∀ e ∈ o.after, Region.binds md e = true → listed.getD e.on false = true

theorem Closed.start (n : Nat) : Closed md ops (Array.replicate n false) := fun k o h => by
  rcases Nat.lt_or_ge k n with h' | h' <;> simp [Array.getD, h'] at h
theorem Closed.set {listed : Array Bool} (h : Closed md ops listed) {i : Nat} (hi : i ∈ Region.ready md ops listed) : Closed md ops (listed.setIfInBounds i true) := by
  intro k o hk ho e he hb
  by_cases hki : i = k
  · subst hki
    obtain ⟨_, o', ho', hall⟩ := mem_ready.1 hi
    rw [ho] at ho'
    cases ho'
    exact getD_set_true (hall e he hb)
  · rw [getD_set_ne false hki] at hk
    exact getD_set_true (h k o hk ho e he hb)

theorem waits_listed {listed : Array Bool} (hc : Closed md ops listed) : ∀ (f m i : Nat), (∀ o, ops[m]? = some o → ∀ e ∈ o.after, Region.binds md e = true → listed.getD e.on false = true) → waitsOn md ops f m i = true → listed.getD i false = true
  | 0, _, _, _, h => by simp [waitsOn] at h
  | f + 1, m, i, hm, h => by
    unfold waitsOn at h
    cases ho : ops[m]? with
    | none => simp [ho] at h
    | some o =>
      simp only [ho, Option.map_some, Option.getD_some, Bool.or_eq_true, Array.any_eq_true, Bool.and_eq_true, beq_iff_eq] at h
      rcases h with ⟨j, hj, hb, he⟩ | ⟨j, hj, hb, he⟩
      · rw [← he]; exact hm o ho _ (Array.getElem_mem hj) hb
      · exact waits_listed hc f _ i (fun o' ho' e' he' hb' => hc _ o' (hm o ho _ (Array.getElem_mem hj) hb) ho' e' he' hb') he

theorem unready {f i : Nat} {listed : Array Bool} (hc : Closed md ops listed) (h : waitsOn md ops f m i = true) (hu : listed.getD i true = false) : m ∉ Region.ready md ops listed := by
  intro hm
  obtain ⟨_, o, ho, hall⟩ := mem_ready.1 hm
  have := waits_listed hc f m i (fun o' ho' => by rw [ho] at ho'; cases ho'; exact hall) h
  rcases Nat.lt_or_ge i listed.size with h' | h'
  · simp [h'] at hu this; rw [hu] at this; cases this
  · simp [Array.getElem?_eq_none h'] at hu

theorem wpAnyL_first {i : Nat} {oi : Oper} {v : Value} (hi : ops[i]? = some oi) (hsel : ∀ (j : Nat) (o : Oper) cs b, ops[j]? = some o → o.op ≠ .select cs b)
    (hQ : ∀ c a w, Q (.panic c) (a.put oi.dst v) w → Q (.panic c) a w) (him : i ≠ m) {f : Nat} (hwait : waitsOn md ops f m i = true) :
    ∀ (fuel : Nat) (listed : Array Bool) (a : Act) (w : World), Closed md ops listed →
      (∀ j oj, ops[j]? = some oj → j ≠ i → listed.getD j true = false → (∀ e ∈ oj.after, Region.binds md e = true → e.on ≠ i) → oi.apart ops oj = true) →
      i ∈ Region.ready md ops listed → listed.getD m true = false → YieldsIf P ops S oi v a → S w →
      wpAnyL P md ops Q S m fuel (listed.setIfInBounds i true) (a.put oi.dst v) w → wpAnyL P md ops Q S m (fuel + 1) listed a w := by
  intro fuel
  induction fuel with
  | zero =>
    intro listed a w _ _ hr hmu hy hS H
    refine ⟨fun h => (by rw [h] at hr; cases hr), fun j hj => ?_⟩
    by_cases hji : j = i
    · subst hji; exact hy.wpOp hi hS ⟨fun _ => hS, H⟩
    · have := ready_mono hj hji
      rw [H.1] at this
      cases this
  | succ fuel ih =>
    intro listed a w hc hfree hr hmu hy hS H
    refine ⟨fun h => (by rw [h] at hr; cases hr), fun j hj => ?_⟩
    by_cases hji : j = i
    · subst hji; exact hy.wpOp hi hS ⟨fun _ => hS, H⟩
    · have h1 := H.2 j (ready_mono hj hji)
      obtain ⟨hjun, oj, hoj, hall⟩ := mem_ready.1 hj
      have hjm : j ≠ m := fun e => unready hc hwait (mem_ready.1 hr).1 (e ▸ hj)
      have hnot : ∀ e ∈ oj.after, Region.binds md e = true → e.on ≠ i := fun e he hb heq => by
        have h1 := hall e he hb
        have h0 := (mem_ready.1 hr).1
        rw [heq] at h1
        rcases Nat.lt_or_ge i listed.size with h' | h'
        · simp [h'] at h0 h1; rw [h0] at h1; cases h1
        · simp [Array.getElem?_eq_none h'] at h1
      have h2 := wpOp_putIf hoj (hfree j oj hoj hji hjun hnot) (fun cs b => hsel i oi cs b hi) (fun cs b => hsel j oj cs b hoj) hQ hy h1
      have hfree' : ∀ k ok, ops[k]? = some ok → k ≠ i → (listed.setIfInBounds j true).getD k true = false →
          (∀ e ∈ ok.after, Region.binds md e = true → e.on ≠ i) → oi.apart ops ok = true := fun k ok hk hki hun hno => by
        refine hfree k ok hk hki ?_ hno
        by_cases hjk : j = k
        · subst hjk; exact hjun
        · rw [getD_set_ne true hjk] at hun; exact hun
      have hmu' : (listed.setIfInBounds j true).getD m true = false := by rw [getD_set_ne true hjm]; exact hmu
      refine wpOp_mono (fun a' w' h3 => ?_) h2
      have hS' : S w' := h3.2.1 (by rw [getD_set_ne true hjm, getD_set_ne true him]; exact hmu)
      refine ⟨fun _ => hS', ih (listed.setIfInBounds j true) a' w' (hc.set hj) hfree' (ready_mono hr (Ne.symm hji)) hmu' h3.1 hS' ?_⟩
      rw [Array.setIfInBounds_comm _ _ hji]
      exact h3.2.2

/-- The list: (0, i) number i is taken first; (1, i) number i is the only one that may come up, and S is shown anew; (2, i) the same, m having come up. -/
def okScript (md : Region.Mode) (ops : Array Oper) (m : Nat) : List (Nat × Nat) → Nat → Array Bool → Bool
  | [], _, listed => (Region.ready md ops listed).isEmpty
  | _ :: _, 0, _ => false
  | (k, i) :: rest, fuel + 1, listed =>
    (match k with
      | 0 => Region.free md ops listed i && (Region.ready md ops listed).contains i && i != m && waitsOn md ops 8 m i && !listed.getD m true
      | 1 => Region.ready md ops listed == [i]
      | _ => Region.ready md ops listed == [i] && (listed.setIfInBounds i true).getD m true) &&
    okScript md ops m rest fuel (listed.setIfInBounds i true)

def wpScript (P : Program) (ops : Array Oper) (Q : Exit → Act → World → Prop) (S : World → Prop) : List (Nat × Nat) → Act → World → Prop
  | [], a, w => Q .normal a w
  | (0, i) :: rest, a, w => ∃ oi v, ops[i]? = some oi ∧ YieldsIf P ops S oi v a ∧ S w ∧ wpScript P ops Q S rest (a.put oi.dst v) w
  | (1, i) :: rest, a, w => wpOp P ops Q i (fun a' w' => S w' ∧ wpScript P ops Q S rest a' w') a w
  | (_ + 2, i) :: rest, a, w => wpOp P ops Q i (wpScript P ops Q S rest) a w

theorem wpAnyL_of_script (hs : Region.noSelect ops = true) (hQ : ∀ c a (d : Tmp) v w, Q (.panic c) (a.put (some d) v) w → Q (.panic c) a w) :
    ∀ (l : List (Nat × Nat)) (fuel : Nat) (listed : Array Bool) (a : Act) (w : World), Closed md ops listed → okScript md ops m l fuel listed = true → wpScript P ops Q S l a w → wpAnyL P md ops Q S m fuel listed a w
  | [], fuel, listed, a, w, _, hok, h => by
    have h0 : Region.ready md ops listed = [] := by simpa [okScript] using hok
    cases fuel with
    | zero => exact ⟨h0, h⟩
    | succ n => exact ⟨fun _ => h, fun i hi => by rw [h0] at hi; cases hi⟩
  | _ :: _, 0, _, _, _, _, hok, _ => by simp [okScript] at hok
  | (0, i) :: rest, fuel + 1, listed, a, w, hc, hok, h => by
    simp only [okScript, Bool.and_eq_true, bne_iff_ne, ne_eq, Bool.not_eq_true'] at hok
    obtain ⟨⟨⟨⟨⟨hf, hr⟩, him⟩, hw⟩, hmu⟩, hrest⟩ := hok
    obtain ⟨oi, v, hi, hy, hS, h⟩ := h
    exact wpAnyL_first hi (Region.noSelect_spec hs) (fun c a w h => by cases hd : oi.dst with | none => rw [hd] at h; exact h | some d => rw [hd] at h; exact hQ c a d _ w h) him hw fuel listed a w hc (Region.free_spec hi hf) (by simpa using hr) hmu hy hS (wpAnyL_of_script hs hQ rest fuel _ _ w (hc.set (by simpa using hr)) hrest h)
  | (1, i) :: rest, fuel + 1, listed, a, w, hc, hok, h => by
    simp only [okScript, Bool.and_eq_true, beq_iff_eq] at hok
    refine ⟨fun h0 => absurd (h0.symm.trans hok.1) (by simp), fun j hj => ?_⟩
    rw [hok.1] at hj
    obtain rfl : j = i := by simpa using hj
    exact wpOp_mono (fun a' w' h' => ⟨fun _ => h'.1, wpAnyL_of_script hs hQ rest fuel _ a' w' (hc.set (by rw [hok.1]; simp)) hok.2 h'.2⟩) h
  | (k + 2, i) :: rest, fuel + 1, listed, a, w, hc, hok, h => by
    simp only [okScript, Bool.and_eq_true, beq_iff_eq] at hok
    refine ⟨fun h0 => absurd (h0.symm.trans hok.1.1) (by simp), fun j hj => ?_⟩
    rw [hok.1.1] at hj
    obtain rfl : j = i := by simpa using hj
    exact wpOp_mono (fun a' w' h' => ⟨fun h0 => absurd (h0.symm.trans hok.1.2) (by simp), wpAnyL_of_script hs hQ rest fuel _ a' w' (hc.set (by rw [hok.1.1]; simp)) hok.2 h'⟩) h

/-- The beginning. -/
theorem wp_region_script {id : Nat} (m : Nat) (l : List (Nat × Nat)) (S : World → Prop) {a : Act} {w : World} (hm : P.follows .mixedOrders = true) (hs : Region.noSelect ops = true) (hok : okScript .any ops m l ops.size (Array.replicate ops.size false) = true)
    (hQ : ∀ c a (d : Tmp) v w, Q (.panic c) (a.put (some d) v) w → Q (.panic c) a w) (hS : S w.drew) (h : S w.drew → wpScript P ops Q S l a w.drew) : (Code.region id ops true).wp P Q a w :=
  wp_region_any hm (wpAny_of_L _ _ _ _ (wpAnyL_of_script (m := m) hs hQ l _ _ _ _ (Closed.start _) hok (h hS)))

def nth {α : Type} : List α → Nat → Option α
  | [], _ => none
  | x :: _, 0 => some x
  | _ :: l, n + 1 => nth l n
theorem nth_eq {α : Type} : ∀ (l : List α) (i : Nat), nth l i = l[i]?
  | [], _ => by simp [nth]
  | _ :: _, 0 => by simp [nth]
  | _ :: l, n + 1 => by simp [nth, nth_eq l n]
theorem nth_ops {i : Nat} {o : Oper} (h : nth ops.toList i = some o) : ops[i]? = some o := by rw [nth_eq] at h; simpa using h
theorem scTake {i : Nat} {rest : List (Nat × Nat)} {a : Act} {w : World} {o : Oper} {v : Value} (ho : nth ops.toList i = some o) (hw : Region.wanted o (yielded ops a.tmps) = true) (hS : S w)
    (hy : ∀ w', S w' → (execOp a.eval o).run P w' = .ok (.value v) w') (h : wpScript P ops Q S rest (a.put o.dst v) w) : wpScript P ops Q S ((0, i) :: rest) a w :=
  ⟨o, v, nth_ops ho, .inl ⟨hw, hy⟩, hS, h⟩
theorem scOne {i : Nat} {rest : List (Nat × Nat)} {a : Act} {w : World} {o : Oper} (ho : nth ops.toList i = some o)
    (h : ∀ K' : Act → World → Prop, Shut (∀ a w, S w → (S w → wpScript P ops Q S rest a w) → K' a w) → if Region.wanted o (yielded ops a.tmps) = true then Oper.wp P o a w K' Q else K' (a.put o.dst undef) w) : wpScript P ops Q S ((1, i) :: rest) a w :=
  wpOp_step (nth_ops ho) fun K' hK => h K' fun a w hS hW => hK a w ⟨hS, hW hS⟩
theorem scEnd {i : Nat} {rest : List (Nat × Nat)} {a : Act} {w : World} {o : Oper} (ho : nth ops.toList i = some o)
    (h : ∀ K' : Act → World → Prop, Shut (∀ a w, wpScript P ops Q S rest a w → K' a w) → if Region.wanted o (yielded ops a.tmps) = true then Oper.wp P o a w K' Q else K' (a.put o.dst undef) w) : wpScript P ops Q S ((2, i) :: rest) a w :=
  wpOp_step (nth_ops ho) fun K' hK => h K' hK
end
end Go.Proofs.Ytnfppolgaeibeaa
namespace Go.Proofs.Ytnfppolgaeibeaa
open Go.RowKit

theorem setA {α : Type} (xs : List α) (i : Nat) (a : α) : xs.toArray.setIfInBounds i a = (xs.set i a).toArray := List.setIfInBounds_toArray xs i a
theorem setZ {α : Type} {a b : α} {l : List α} : (a :: l).set 0 b = b :: l := List.set_cons_zero
theorem setS {α : Type} {a b : α} {l : List α} {n : Nat} : (a :: l).set (n + 1) b = a :: l.set n b := List.set_cons_succ
inductive Scr where
  | done
  | take (i : Nat) (r : Scr)
  | one (i : Nat) (r : Scr)
  | fin (i : Nat) (r : Scr)
  | two (i : Nat) (r1 : Scr) (j : Nat) (r2 : Scr)
  | three (i : Nat) (r1 : Scr) (j : Nat) (r2 : Scr) (k : Nat) (r3 : Scr)
def Scr.takes : List Nat → Scr → Scr
  | [], r => r
  | i :: l, r => .take i (Scr.takes l r)
def Scr.fins : List Nat → Scr → Scr
  | [], r => r
  | i :: l, r => .fin i (Scr.fins l r)

section
variable {P : Program} {ops : Array Oper} {Q : Exit → Act → World → Prop} {md : Region.Mode} {S : World → Prop} {m : Nat}

def okScr (md : Region.Mode) (ops : Array Oper) (m : Nat) : Scr → Nat → Array Bool → Bool
  | .done, _, listed => (Region.ready md ops listed).isEmpty
  | .take i r, f, listed => match f with
    | 0 => false
    | f + 1 => (Region.free md ops listed i && (Region.ready md ops listed).contains i && i != m && waitsOn md ops 8 m i && !listed.getD m true) && okScr md ops m r f (listed.setIfInBounds i true)
  | .one i r, f, listed => match f with
    | 0 => false
    | f + 1 => Region.ready md ops listed == [i] && okScr md ops m r f (listed.setIfInBounds i true)
  | .fin i r, f, listed => match f with
    | 0 => false
    | f + 1 => (Region.ready md ops listed == [i] && (listed.setIfInBounds i true).getD m true) && okScr md ops m r f (listed.setIfInBounds i true)
  | .two i r1 j r2, f, listed => match f with
    | 0 => false
    | f + 1 => Region.ready md ops listed == [i, j] && okScr md ops m r1 f (listed.setIfInBounds i true) && okScr md ops m r2 f (listed.setIfInBounds j true)
  | .three i r1 j r2 k r3, f, listed => match f with
    | 0 => false
    | f + 1 => Region.ready md ops listed == [i, j, k] && okScr md ops m r1 f (listed.setIfInBounds i true) && okScr md ops m r2 f (listed.setIfInBounds j true) && okScr md ops m r3 f (listed.setIfInBounds k true)

def wpScr (P : Program) (ops : Array Oper) (Q : Exit → Act → World → Prop) (S : World → Prop) : Scr → Act → World → Prop
  | .done, a, w => Q .normal a w
  | .take i r, a, w => ∃ oi v, ops[i]? = some oi ∧ YieldsIf P ops S oi v a ∧ S w ∧ wpScr P ops Q S r (a.put oi.dst v) w
  | .one i r, a, w => wpOp P ops Q i (fun a' w' => S w' ∧ wpScr P ops Q S r a' w') a w
  | .fin i r, a, w => wpOp P ops Q i (wpScr P ops Q S r) a w
  | .two i r1 j r2, a, w => wpOp P ops Q i (fun a' w' => S w' ∧ wpScr P ops Q S r1 a' w') a w ∧ wpOp P ops Q j (fun a' w' => S w' ∧ wpScr P ops Q S r2 a' w') a w
  | .three i r1 j r2 k r3, a, w => wpOp P ops Q i (fun a' w' => S w' ∧ wpScr P ops Q S r1 a' w') a w ∧ wpOp P ops Q j (fun a' w' => S w' ∧ wpScr P ops Q S r2 a' w') a w ∧ wpOp P ops Q k (fun a' w' => S w' ∧ wpScr P ops Q S r3 a' w') a w

theorem wpAnyL_of_scr (hs : Region.noSelect ops = true) (hQ : ∀ c a (d : Tmp) v w, Q (.panic c) (a.put (some d) v) w → Q (.panic c) a w) :
    ∀ (l : Scr) (fuel : Nat) (listed : Array Bool) (a : Act) (w : World), Closed md ops listed → okScr md ops m l fuel listed = true → wpScr P ops Q S l a w → wpAnyL P md ops Q S m fuel listed a w := by
  intro l
  induction l with
  | done =>
    intro fuel listed a w _ hok h
    have h0 : Region.ready md ops listed = [] := by simpa [okScr] using hok
    cases fuel with
    | zero => exact ⟨h0, h⟩
    | succ n => exact ⟨fun _ => h, fun i hi => by rw [h0] at hi; cases hi⟩
  | take i r ih =>
    intro fuel listed a w hc hok h
    cases fuel with
    | zero => simp [okScr] at hok
    | succ fuel =>
      simp only [okScr, Bool.and_eq_true, bne_iff_ne, ne_eq, Bool.not_eq_true'] at hok
      obtain ⟨⟨⟨⟨⟨hf, hr⟩, him⟩, hw⟩, hmu⟩, hrest⟩ := hok
      obtain ⟨oi, v, hi, hy, hS, h⟩ := h
      exact wpAnyL_first hi (Region.noSelect_spec hs) (fun c a w h => by cases hd : oi.dst with | none => rw [hd] at h; exact h | some d => rw [hd] at h; exact hQ c a d _ w h) him hw fuel listed a w hc (Region.free_spec hi hf) (by simpa using hr) hmu hy hS (ih fuel _ _ w (hc.set (by simpa using hr)) hrest h)
  | one i r ih =>
    intro fuel listed a w hc hok h
    cases fuel with
    | zero => simp [okScr] at hok
    | succ fuel =>
      simp only [okScr, Bool.and_eq_true, beq_iff_eq] at hok
      refine ⟨fun h0 => absurd (h0.symm.trans hok.1) (by simp), fun j hj => ?_⟩
      rw [hok.1] at hj
      obtain rfl : j = i := by simpa using hj
      exact wpOp_mono (fun a' w' h' => ⟨fun _ => h'.1, ih fuel _ a' w' (hc.set (by rw [hok.1]; simp)) hok.2 h'.2⟩) h
  | fin i r ih =>
    intro fuel listed a w hc hok h
    cases fuel with
    | zero => simp [okScr] at hok
    | succ fuel =>
      simp only [okScr, Bool.and_eq_true, beq_iff_eq] at hok
      refine ⟨fun h0 => absurd (h0.symm.trans hok.1.1) (by simp), fun j hj => ?_⟩
      rw [hok.1.1] at hj
      obtain rfl : j = i := by simpa using hj
      exact wpOp_mono (fun a' w' h' => ⟨fun h0 => absurd (h0.symm.trans hok.1.2) (by simp), ih fuel _ a' w' (hc.set (by rw [hok.1.1]; simp)) hok.2 h'⟩) h
  | two i r1 j r2 ih1 ih2 =>
    intro fuel listed a w hc hok h
    cases fuel with
    | zero => simp [okScr] at hok
    | succ fuel =>
      simp only [okScr, Bool.and_eq_true, beq_iff_eq] at hok
      refine ⟨fun h0 => absurd (h0.symm.trans hok.1.1) (by simp), fun k hk => ?_⟩
      rw [hok.1.1] at hk
      have hk' : k = i ∨ k = j := by simpa using hk
      rcases hk' with rfl | rfl
      · exact wpOp_mono (fun a' w' h' => ⟨fun _ => h'.1, ih1 fuel _ a' w' (hc.set (by rw [hok.1.1]; simp)) hok.1.2 h'.2⟩) h.1
      · exact wpOp_mono (fun a' w' h' => ⟨fun _ => h'.1, ih2 fuel _ a' w' (hc.set (by rw [hok.1.1]; simp)) hok.2 h'.2⟩) h.2
  | three i r1 j r2 q r3 ih1 ih2 ih3 =>
    intro fuel listed a w hc hok h
    cases fuel with
    | zero => simp [okScr] at hok
    | succ fuel =>
      simp only [okScr, Bool.and_eq_true, beq_iff_eq] at hok
      refine ⟨fun h0 => absurd (h0.symm.trans hok.1.1.1) (by simp), fun k hk => ?_⟩
      rw [hok.1.1.1] at hk
      have hk' : k = i ∨ k = j ∨ k = q := by simpa using hk
      rcases hk' with rfl | rfl | rfl
      · exact wpOp_mono (fun a' w' h' => ⟨fun _ => h'.1, ih1 fuel _ a' w' (hc.set (by rw [hok.1.1.1]; simp)) hok.1.1.2 h'.2⟩) h.1
      · exact wpOp_mono (fun a' w' h' => ⟨fun _ => h'.1, ih2 fuel _ a' w' (hc.set (by rw [hok.1.1.1]; simp)) hok.1.2 h'.2⟩) h.2.1
      · exact wpOp_mono (fun a' w' h' => ⟨fun _ => h'.1, ih3 fuel _ a' w' (hc.set (by rw [hok.1.1.1]; simp)) hok.2 h'.2⟩) h.2.2

/-- The beginning. -/
theorem wp_region_scr {id : Nat} (m : Nat) (l : Scr) (S : World → Prop) {a : Act} {w : World} (hm : P.follows .mixedOrders = true) (hs : Region.noSelect ops = true) (hok : okScr .any ops m l ops.size (Array.replicate ops.size false) = true)
    (hQ : ∀ c a (d : Tmp) v w, Q (.panic c) (a.put (some d) v) w → Q (.panic c) a w) (hS : S w.drew) (h : S w.drew → wpScr P ops Q S l a w.drew) : (Code.region id ops true).wp P Q a w :=
  wp_region_any hm (wpAny_of_L _ _ _ _ (wpAnyL_of_scr (m := m) hs hQ l _ _ _ _ (Closed.start _) hok (h hS)))

theorem tkTake {i : Nat} {r : Scr} {a : Act} {w : World} {o : Oper} {v : Value} (ho : nth ops.toList i = some o) (hw : Region.wanted o (yielded ops a.tmps) = true) (hS : S w)
    (hy : ∀ w', S w' → (execOp a.eval o).run P w' = .ok (.value v) w') (h : wpScr P ops Q S r (a.put o.dst v) w) : wpScr P ops Q S (.take i r) a w :=
  ⟨o, v, nth_ops ho, .inl ⟨hw, hy⟩, hS, h⟩
theorem wpOp_one {i : Nat} {r : Scr} {a : Act} {w : World} {o : Oper} (ho : nth ops.toList i = some o)
    (h : ∀ K' : Act → World → Prop, Shut (∀ a w, S w → (S w → wpScr P ops Q S r a w) → K' a w) → if Region.wanted o (yielded ops a.tmps) = true then Oper.wp P o a w K' Q else K' (a.put o.dst undef) w) : wpOp P ops Q i (fun a' w' => S w' ∧ wpScr P ops Q S r a' w') a w :=
  wpOp_step (nth_ops ho) fun K' hK => h K' fun a w hS hW => hK a w ⟨hS, hW hS⟩
theorem tkOne {i : Nat} {r : Scr} {a : Act} {w : World} {o : Oper} (ho : nth ops.toList i = some o)
    (h : ∀ K' : Act → World → Prop, Shut (∀ a w, S w → (S w → wpScr P ops Q S r a w) → K' a w) → if Region.wanted o (yielded ops a.tmps) = true then Oper.wp P o a w K' Q else K' (a.put o.dst undef) w) : wpScr P ops Q S (.one i r) a w := wpOp_one ho h
theorem tkTwo {i j : Nat} {r1 r2 : Scr} {a : Act} {w : World} {o1 o2 : Oper} (ho1 : nth ops.toList i = some o1) (ho2 : nth ops.toList j = some o2)
    (h1 : ∀ K' : Act → World → Prop, Shut (∀ a w, S w → (S w → wpScr P ops Q S r1 a w) → K' a w) → if Region.wanted o1 (yielded ops a.tmps) = true then Oper.wp P o1 a w K' Q else K' (a.put o1.dst undef) w)
    (h2 : ∀ K' : Act → World → Prop, Shut (∀ a w, S w → (S w → wpScr P ops Q S r2 a w) → K' a w) → if Region.wanted o2 (yielded ops a.tmps) = true then Oper.wp P o2 a w K' Q else K' (a.put o2.dst undef) w) : wpScr P ops Q S (.two i r1 j r2) a w := ⟨wpOp_one ho1 h1, wpOp_one ho2 h2⟩
theorem tkThree {i j k : Nat} {r1 r2 r3 : Scr} {a : Act} {w : World} {o1 o2 o3 : Oper} (ho1 : nth ops.toList i = some o1) (ho2 : nth ops.toList j = some o2) (ho3 : nth ops.toList k = some o3)
    (h1 : ∀ K' : Act → World → Prop, Shut (∀ a w, S w → (S w → wpScr P ops Q S r1 a w) → K' a w) → if Region.wanted o1 (yielded ops a.tmps) = true then Oper.wp P o1 a w K' Q else K' (a.put o1.dst undef) w)
    (h2 : ∀ K' : Act → World → Prop, Shut (∀ a w, S w → (S w → wpScr P ops Q S r2 a w) → K' a w) → if Region.wanted o2 (yielded ops a.tmps) = true then Oper.wp P o2 a w K' Q else K' (a.put o2.dst undef) w)
    (h3 : ∀ K' : Act → World → Prop, Shut (∀ a w, S w → (S w → wpScr P ops Q S r3 a w) → K' a w) → if Region.wanted o3 (yielded ops a.tmps) = true then Oper.wp P o3 a w K' Q else K' (a.put o3.dst undef) w) : wpScr P ops Q S (.three i r1 j r2 k r3) a w := ⟨wpOp_one ho1 h1, wpOp_one ho2 h2, wpOp_one ho3 h3⟩
theorem tkEnd {i : Nat} {r : Scr} {a : Act} {w : World} {o : Oper} (ho : nth ops.toList i = some o)
    (h : ∀ K' : Act → World → Prop, Shut (∀ a w, wpScr P ops Q S r a w → K' a w) → if Region.wanted o (yielded ops a.tmps) = true then Oper.wp P o a w K' Q else K' (a.put o.dst undef) w) : wpScr P ops Q S (.fin i r) a w :=
  wpOp_step (nth_ops ho) fun K' hK => h K' hK
theorem tkDone {a : Act} {w : World} (h : Q .normal a w) : wpScr P ops Q S .done a w := h
end
end Go.Proofs.Ytnfppolgaeibeaa
namespace Go.Proofs.Ytnfppolgaeibeaa
open Go.RowKit

section
variable {P : Program} {ops : Array Oper} {Q : Exit → Act → World → Prop} {md : Region.Mode} {S : World → Prop} {m : Nat}

theorem wpAnyL_pure {i : Nat} {oi : Oper} {v : Value} (hi : ops[i]? = some oi) (hsel : ∀ (j : Nat) (o : Oper) cs b, ops[j]? = some o → o.op ≠ .select cs b)
    (hQ : ∀ c a w, Q (.panic c) (a.put oi.dst v) w → Q (.panic c) a w) (him : i ≠ m) :
    ∀ (fuel : Nat) (listed : Array Bool) (a : Act) (w : World),
      (∀ j oj, ops[j]? = some oj → j ≠ i → listed.getD j true = false → (∀ e ∈ oj.after, Region.binds md e = true → e.on ≠ i) → oi.apart ops oj = true) →
      i ∈ Region.ready md ops listed → (listed.getD m true = false → S w) → YieldsIf P ops (fun _ => True) oi v a →
      wpAnyL P md ops Q S m fuel (listed.setIfInBounds i true) (a.put oi.dst v) w → wpAnyL P md ops Q S m (fuel + 1) listed a w := by
  intro fuel
  induction fuel with
  | zero =>
    intro listed a w _ hr hS hy H
    refine ⟨fun h => (by rw [h] at hr; cases hr), fun j hj => ?_⟩
    by_cases hji : j = i
    · subst hji; exact hy.wpOp hi trivial ⟨fun hu => hS (by rw [getD_set_ne true him] at hu; exact hu), H⟩
    · have := ready_mono hj hji
      rw [H.1] at this
      cases this
  | succ fuel ih =>
    intro listed a w hfree hr hS hy H
    refine ⟨fun h => (by rw [h] at hr; cases hr), fun j hj => ?_⟩
    by_cases hji : j = i
    · subst hji; exact hy.wpOp hi trivial ⟨fun hu => hS (by rw [getD_set_ne true him] at hu; exact hu), H⟩
    · have h1 := H.2 j (ready_mono hj hji)
      obtain ⟨hjun, oj, hoj, hall⟩ := mem_ready.1 hj
      have hnot : ∀ e ∈ oj.after, Region.binds md e = true → e.on ≠ i := fun e he hb heq => by
        have h1 := hall e he hb
        have h0 := (mem_ready.1 hr).1
        rw [heq] at h1
        rcases Nat.lt_or_ge i listed.size with h' | h'
        · simp [h'] at h0 h1; rw [h0] at h1; cases h1
        · simp [Array.getElem?_eq_none h'] at h1
      have h2 := wpOp_putIf hoj (hfree j oj hoj hji hjun hnot) (fun cs b => hsel i oi cs b hi) (fun cs b => hsel j oj cs b hoj) hQ hy h1
      have hfree' : ∀ k ok, ops[k]? = some ok → k ≠ i → (listed.setIfInBounds j true).getD k true = false →
          (∀ e ∈ ok.after, Region.binds md e = true → e.on ≠ i) → oi.apart ops ok = true := fun k ok hk hki hun hno => by
        refine hfree k ok hk hki ?_ hno
        by_cases hjk : j = k
        · subst hjk; exact hjun
        · rw [getD_set_ne true hjk] at hun; exact hun
      refine wpOp_mono (fun a' w' h3 => ?_) h2
      have hS' : (listed.setIfInBounds j true).getD m true = false → S w' := fun hu => h3.2.1 (by rw [Array.setIfInBounds_comm _ _ (Ne.symm hji), getD_set_ne true him]; exact hu)
      refine ⟨hS', ih (listed.setIfInBounds j true) a' w' hfree' (ready_mono hr (Ne.symm hji)) hS' h3.1 ?_⟩
      rw [Array.setIfInBounds_comm _ _ hji]
      exact h3.2.2

/-- The beginning, with number i taken ahead of all. -/
theorem wp_region_scrP {id : Nat} (m i f : Nat) (l : Scr) (S : World → Prop) {a : Act} {w : World} {oi : Oper} {v : Value} (hm : P.follows .mixedOrders = true) (hs : Region.noSelect ops = true)
    (hfree : (Region.free .any ops (Array.replicate ops.size false) i && (Region.ready .any ops (Array.replicate ops.size false)).contains i && i != m) = true) (hf : ops.size = f + 1)
    (hok : okScr .any ops m l f ((Array.replicate ops.size false).setIfInBounds i true) = true)
    (hQ : ∀ c a (d : Tmp) v w, Q (.panic c) (a.put (some d) v) w → Q (.panic c) a w) (ho : nth ops.toList i = some oi) (hw : Region.wanted oi (yielded ops a.tmps) = true)
    (hy : ∀ w', (execOp a.eval oi).run P w' = .ok (.value v) w') (hS : S w.drew) (h : S w.drew → wpScr P ops Q S l (a.put oi.dst v) w.drew) : (Code.region id ops true).wp P Q a w := by
  simp only [Bool.and_eq_true, bne_iff_ne, ne_eq] at hfree
  obtain ⟨⟨h1, h2⟩, h3⟩ := hfree
  have hr : i ∈ Region.ready .any ops (Array.replicate ops.size false) := by simpa using h2
  refine wp_region_any hm (wpAny_of_L (S := S) (m := m) _ _ _ _ ?_)
  rw [hf] at *
  refine wpAnyL_pure (nth_ops ho) (Region.noSelect_spec hs) (fun c a w h => by cases hd : oi.dst with | none => rw [hd] at h; exact h | some d => rw [hd] at h; exact hQ c a d _ w h) h3 f _ a _ (Region.free_spec (nth_ops ho) h1) hr (fun _ => hS) (.inl ⟨hw, fun w' _ => hy w'⟩) ?_
  exact wpAnyL_of_scr (m := m) hs hQ l _ _ _ _ ((Closed.start _).set hr) hok (h hS)
end
end Go.Proofs.Ytnfppolgaeibeaa
namespace Go.Proofs.Ytnfppolgaeibeaa
open Go.RowKit

section
variable {P : Program} {ops : Array Oper} {Q : Exit → Act → World → Prop} {S : World → Prop} {m : Nat}

theorem wp_region_scrPP {id : Nat} (m i j f : Nat) (l : Scr) (S : World → Prop) {a : Act} {w : World} {oi oj : Oper} {v u : Value} (hm : P.follows .mixedOrders = true) (hs : Region.noSelect ops = true)
    (hfree : (Region.free .any ops (Array.replicate ops.size false) i && (Region.ready .any ops (Array.replicate ops.size false)).contains i && i != m && Region.free .any ops ((Array.replicate ops.size false).setIfInBounds i true) j && (Region.ready .any ops ((Array.replicate ops.size false).setIfInBounds i true)).contains j && j != m) = true) (hf : ops.size = f + 2)
    (hok : okScr .any ops m l f (((Array.replicate ops.size false).setIfInBounds i true).setIfInBounds j true) = true)
    (hQ : ∀ c a (d : Tmp) v w, Q (.panic c) (a.put (some d) v) w → Q (.panic c) a w)
    (ho : nth ops.toList i = some oi) (hw : Region.wanted oi (yielded ops a.tmps) = true) (hy : ∀ w', (execOp a.eval oi).run P w' = .ok (.value v) w')
    (ho' : nth ops.toList j = some oj) (hw' : Region.wanted oj (yielded ops (a.put oi.dst v).tmps) = true) (hy' : ∀ w', (execOp (a.put oi.dst v).eval oj).run P w' = .ok (.value u) w')
    (hS : S w.drew) (h : S w.drew → wpScr P ops Q S l ((a.put oi.dst v).put oj.dst u) w.drew) : (Code.region id ops true).wp P Q a w := by
  simp only [Bool.and_eq_true, bne_iff_ne, ne_eq] at hfree
  obtain ⟨⟨⟨⟨⟨h1, h2⟩, h3⟩, k1⟩, k2⟩, k3⟩ := hfree
  have hr : i ∈ Region.ready .any ops (Array.replicate ops.size false) := by simpa using h2
  have hr' : j ∈ Region.ready .any ops ((Array.replicate ops.size false).setIfInBounds i true) := by simpa using k2
  have hQ' : ∀ (d : Option Tmp) (v : Value) (c : _) (a : Act) (w : World), Q (.panic c) (a.put d v) w → Q (.panic c) a w := fun d v c a w h => by cases d with | none => exact h | some d => exact hQ c a d _ w h
  refine wp_region_any hm (wpAny_of_L (S := S) (m := m) _ _ _ _ ?_)
  rw [hf] at *
  refine wpAnyL_pure (nth_ops ho) (Region.noSelect_spec hs) (hQ' _ _) h3 (f + 1) _ a _ (Region.free_spec (nth_ops ho) h1) hr (fun _ => hS) (.inl ⟨hw, fun w' _ => hy w'⟩) ?_
  refine wpAnyL_pure (nth_ops ho') (Region.noSelect_spec hs) (hQ' _ _) k3 f _ _ _ (Region.free_spec (nth_ops ho') k1) hr' (fun _ => hS) (.inl ⟨hw', fun w' _ => hy' w'⟩) ?_
  exact wpAnyL_of_scr (m := m) hs hQ l _ _ _ _ (((Closed.start _).set hr).set hr') hok (h hS)
end
end Go.Proofs.Ytnfppolgaeibeaa
