/- The plain law of words in a finite graph with labels: rounds that add until nothing is new; where one can be behind a word; how far the end is. No program in sight. | More of the plain law of words: how far the end is, by rounds of two kinds; a table of where one can be. No program in sight. -/
import Derived.Test.YtnfppolgaeibeaaPlainM
import Derived.Test.YtnfppolgaeibeaaLiveA
namespace Go.Proofs.Ytnfppolgaeibeaa

/-! ### rounds -/
/-- A step either leaves all as it is, or marks, keeps I, and lowers the measure. -/
structure Mono {σ α : Type} (f : σ × Bool → α → σ × Bool) (l : List α) (I : σ → Prop) (μ : σ → Nat) : Prop where
  step : ∀ p, ∀ a ∈ l, I p.1 → f p a = p ∨ ((f p a).2 = true ∧ I (f p a).1 ∧ μ (f p a).1 < μ p.1)
structure Passed {σ α : Type} (f : σ × Bool → α → σ × Bool) (l : List α) (I : σ → Prop) (μ : σ → Nat) (p q : σ × Bool) : Prop where
  inv : I q.1
  up : p.2 = true → q.2 = true
  le : μ q.1 ≤ μ p.1
  new : q.2 = true → p.2 = true ∨ μ q.1 < μ p.1
  same : q.2 = false → q = p ∧ ∀ a ∈ l, f p a = p
section
variable {σ α : Type} {f : σ × Bool → α → σ × Bool} {l : List α} {I : σ → Prop} {μ : σ → Nat}
theorem Mono.passTo (h : Mono f l I μ) : ∀ (l' : List α), (∀ a ∈ l', a ∈ l) → ∀ p, I p.1 → Passed f l' I μ p (l'.foldl f p)
  | [], _, p, hI => ⟨hI, id, Nat.le_refl _, .inl, fun _ => ⟨rfl, fun a ha => by simp at ha⟩⟩
  | a :: l', hl, p, hI => by
    have hs := h.step p a (hl a (by simp)) hI
    rcases hs with h1 | ⟨h1, h2, h3⟩
    · have H := h.passTo l' (fun b hb => hl b (by simp [hb])) p hI
      rw [List.foldl_cons, h1]
      refine ⟨H.inv, H.up, H.le, H.new, fun e => ⟨(H.same e).1, fun b hb => ?_⟩⟩
      rcases List.mem_cons.1 hb with rfl | hb
      · exact h1
      · exact (H.same e).2 b hb
    · have H := h.passTo l' (fun b hb => hl b (by simp [hb])) (f p a) h2
      rw [List.foldl_cons]
      have := H.le
      refine ⟨H.inv, fun _ => H.up h1, by omega, fun _ => .inr (by omega), fun e => ?_⟩
      have := H.up h1
      rw [e] at this
      cases this
theorem Mono.pass (h : Mono f l I μ) (p : σ × Bool) (hI : I p.1) : Passed f l I μ p (l.foldl f p) := h.passTo l (fun _ ha => ha) p hI
theorem Mono.fix (h : Mono f l I μ) : ∀ (n : Nat) (s : σ), μ s ≤ n → I s → ∃ s', I s' ∧ ∀ a ∈ l, f (s', false) a = (s', false) := by
  intro n
  induction n with
  | zero =>
    intro s hn hI
    have H := h.pass (s, false) hI
    cases e : (l.foldl f (s, false)).2 with
    | false => exact ⟨s, hI, (H.same e).2⟩
    | true =>
      rcases H.new e with h1 | h1
      · cases h1
      · simp only at h1; omega
  | succ n ih =>
    intro s hn hI
    have H := h.pass (s, false) hI
    cases e : (l.foldl f (s, false)).2 with
    | false => exact ⟨s, hI, (H.same e).2⟩
    | true =>
      rcases H.new e with h1 | h1
      · cases h1
      · exact ih _ (by simp only at h1; omega) H.inv
end

/-! ### words -/
section
variable (ars : List PArc) (lb : Int → Int) (w : List Int)
/-- Behind k letters of w one can be at m. -/
inductive Told : Nat → Int → Prop
  | start : Told 0 0
  | quiet {k : Nat} {a : PArc} (h : Told k a.from_) (ha : a ∈ ars) (hl : lb a.tran = 0) : Told k a.to_
  | heard {k : Nat} {a : PArc} (h : Told k a.from_) (ha : a ∈ ars) (hl : 0 < lb a.tran) (hw : w[k]? = some (lb a.tran)) : Told (k + 1) a.to_
/-- Led to by transitions that nobody sees. -/
inductive Quietly : Int → Int → Prop
  | refl (m : Int) : Quietly m m
  | step {m : Int} {a : PArc} (h : Quietly m a.from_) (ha : a ∈ ars) (hl : lb a.tran = 0) : Quietly m a.to_
end
open Classical
abbrev on (bs : List Bool) (m : Int) : Prop := bs.getD m.toNat false = true
noncomputable def listOf (n : Nat) (p : Int → Prop) : List Bool := (List.range n).map fun (m : Nat) => decide (p m)
theorem listOf_len (n : Nat) (p : Int → Prop) : (listOf n p).length = n := by simp [listOf]
theorem listOf_on {n : Nat} {p : Int → Prop} {m : Nat} (hm : m < n) : on (listOf n p) (m : Int) ↔ p m := by
  unfold on listOf
  simp [List.getD_eq_getElem?_getD, hm]
theorem listOf_eq {n : Nat} {p : Int → Prop} {bs : List Bool} (hl : bs.length = n) (h : ∀ m : Nat, m < n → (on bs (m : Int) ↔ p m)) : bs = listOf n p := by
  apply List.ext_getElem (by rw [hl, listOf_len])
  intro j h1 h2
  have hj : j < n := by omega
  have := h j hj
  have e : bs.getD j false = bs[j] := by simp [List.getD_eq_getElem?_getD, h1]
  unfold on at this
  simp only [Int.toNat_natCast, e] at this
  have e2 : (listOf n p)[j] = decide (p (j : Int)) := by simp [listOf]
  rw [e2]
  by_cases hp : p (j : Int)
  · rw [this.2 hp]; simp [hp]
  · cases hb : bs[j]
    · simp [hp]
    · exact absurd (this.1 hb) hp
theorem listOf_congr {n : Nat} {p q : Int → Prop} (h : ∀ m : Nat, m < n → (p m ↔ q m)) : listOf n p = listOf n q :=
  listOf_eq (listOf_len n p) fun m hm => (listOf_on hm).trans (h m hm)
noncomputable def closeQ (ars : List PArc) (lb : Int → Int) (bs : List Bool) : List Bool := listOf bs.length fun m => ∃ m0 : Nat, m0 < bs.length ∧ on bs (m0 : Int) ∧ Quietly ars lb (m0 : Int) m
noncomputable def toldL (ars : List PArc) (lb : Int → Int) (w : List Int) (n k : Nat) : List Bool := listOf n fun m => Told ars lb w k m

/-! ### one round of spreading -/
def setQ (lb : Int → Int) (p : List Bool × Bool) (a : PArc) : List Bool × Bool :=
  if lb a.tran = 0 ∧ on p.1 a.from_ ∧ ¬ on p.1 a.to_ then (p.1.set a.to_.toNat true, true) else p
structure SpQ (ars : List PArc) (lb : Int → Int) (n : Nat) (bs0 bs : List Bool) : Prop where
  len : bs.length = n
  more : ∀ m : Nat, m < n → on bs0 (m : Int) → on bs (m : Int)
  sound : ∀ m : Nat, m < n → on bs (m : Int) → ∃ m0 : Nat, m0 < n ∧ on bs0 (m0 : Int) ∧ Quietly ars lb (m0 : Int) (m : Int)
theorem on_set {bs : List Bool} {j : Nat} (m : Nat) (hj : j < bs.length) : on (bs.set j true) (m : Int) ↔ m = j ∨ on bs (m : Int) := by
  unfold on
  simp only [Int.toNat_natCast, List.getD_eq_getElem?_getD]
  by_cases e : m = j
  · subst e; simp [hj]
  · rw [List.getElem?_set_ne (fun h => e h.symm)]
    simp [e]
theorem cntR_off {bs : List Bool} {j : Nat} (hj : j < bs.length) (h : ¬ bs.getD j false = true) : cntR (bs.set j true) + 1 = cntR bs := by
  refine cntR_set bs j ?_
  rw [List.getElem?_eq_getElem hj]
  rw [List.getD_eq_getElem?_getD, List.getElem?_eq_getElem hj] at h
  simpa using h
theorem natOf {x : Int} {n : Nat} (h : Inn n x) : ∃ k : Nat, x = (k : Int) ∧ k < n := ⟨x.toNat, by have := h.1; omega, by have := h.1; have := h.2; omega⟩
section
variable {ars : List PArc} {lb : Int → Int} {n : Nat} {bs0 bs : List Bool}
theorem spQ_mono (hf : ∀ a ∈ ars, Inn n a.from_) (ht : ∀ a ∈ ars, Inn n a.to_) : Mono (setQ lb) ars (SpQ ars lb n bs0) cntR where
  step := fun p a ha hI => by
    unfold setQ
    split
    · rename_i h
      obtain ⟨h1, h2, h3⟩ := h
      obtain ⟨f, ef, hfn⟩ := natOf (hf a ha)
      obtain ⟨t, et, htn⟩ := natOf (ht a ha)
      rw [ef] at h2
      rw [et] at h3
      have htl : t < p.1.length := by rw [hI.len]; exact htn
      refine .inr ⟨rfl, ⟨by rw [et]; simpa using hI.len, fun m hm ho => ?_, fun m hm ho => ?_⟩, ?_⟩
      · rw [et]; simp only [Int.toNat_natCast]
        exact (on_set m htl).2 (.inr (hI.more m hm ho))
      · rw [et] at ho; simp only [Int.toNat_natCast] at ho
        rcases (on_set m htl).1 ho with e | ho
        · subst e
          obtain ⟨m0, hm0, ho0, hq⟩ := hI.sound f hfn h2
          refine ⟨m0, hm0, ho0, ?_⟩
          rw [← ef] at hq
          have := hq.step ha h1
          rwa [et] at this
        · exact hI.sound m hm ho
      · rw [et]; simp only [Int.toNat_natCast]
        have := cntR_off htl (by simpa [on] using h3)
        omega
    · exact .inl rfl
theorem SpQ.start (hl : bs0.length = n) : SpQ ars lb n bs0 bs0 := ⟨hl, fun _ _ h => h, fun m hm h => ⟨m, hm, h, .refl _⟩⟩
theorem SpQ.done (h : SpQ ars lb n bs0 bs) (hl : bs0.length = n) (hc : ∀ a ∈ ars, setQ lb (bs, false) a = (bs, false)) : bs = closeQ ars lb bs0 := by
  have key : ∀ a ∈ ars, lb a.tran = 0 → on bs a.from_ → on bs a.to_ := fun a ha h1 h2 => by
    apply Classical.byContradiction
    intro h3
    have := hc a ha
    unfold setQ at this
    rw [if_pos ⟨h1, h2, h3⟩] at this
    injection this with _ this
    cases this
  unfold closeQ
  rw [hl]
  refine listOf_eq h.len fun m hm => ⟨fun ho => h.sound m hm ho, fun ⟨m0, hm0, ho, hq⟩ => ?_⟩
  have h0 := h.more m0 hm0 ho
  have : ∀ x y : Int, Quietly ars lb x y → on bs x → on bs y := fun x y hq => by
    induction hq with
    | refl => exact id
    | step _ ha hl ih => exact fun h => key _ ha hl (ih h)
  exact this _ _ hq h0
theorem Told.inn {w : List Int} (hn : 0 < n) (ht : ∀ a ∈ ars, Inn n a.to_) {k : Nat} {m : Int} (h : Told ars lb w k m) : Inn n m := by
  cases h with
  | start => exact ⟨by omega, by omega⟩
  | quiet _ ha _ => exact ht _ ha
  | heard _ ha _ _ => exact ht _ ha
theorem Told.quietly {w : List Int} {k : Nat} {x y : Int} (hq : Quietly ars lb x y) (h : Told ars lb w k x) : Told ars lb w k y := by
  induction hq with
  | refl => exact h
  | step _ ha hl ih => exact .quiet ih ha hl
theorem told_first {w : List Int} (hn : 0 < n) : closeQ ars lb ((List.replicate n false).set 0 true) = toldL ars lb w n 0 := by
  have hl : ((List.replicate n false).set 0 true).length = n := by simp
  unfold closeQ toldL
  rw [hl]
  refine listOf_congr fun m hm => ⟨fun ⟨m0, hm0, ho, hq⟩ => ?_, fun h => ?_⟩
  · rcases (on_set m0 (by simpa using hn)).1 ho with e | ho
    · subst e; exact Told.start.quietly hq
    · exfalso
      simp only [on, Int.toNat_natCast, List.getD_eq_getElem?_getD, List.getElem?_replicate] at ho
      split at ho <;> simp at ho
  · refine ⟨0, hn, (on_set 0 (by simpa using hn)).2 (.inl rfl), ?_⟩
    have : ∀ (k : Nat) (x : Int), Told ars lb w k x → k = 0 → Quietly ars lb 0 x := fun k x h => by
      induction h with
      | start => exact fun _ => .refl _
      | quiet _ ha hl ih => exact fun e => .step (ih e) ha hl
      | heard _ _ _ _ _ => exact fun e => absurd e (by omega)
    exact this 0 m h rfl
/-! ### hearing a letter -/
def hearF (lb : Int → Int) (s : List Bool) (c : Int) (p : List Bool × Bool) (a : PArc) : List Bool × Bool :=
  if lb a.tran = c ∧ 0 < c ∧ on s a.from_ then (p.1.set a.to_.toNat true, true) else p
def hearTo (ars : List PArc) (lb : Int → Int) (s : List Bool) (c : Int) (k : Nat) : List Bool × Bool := (ars.take k).foldl (hearF lb s c) (List.replicate s.length false, false)
theorem hearTo_succ {s : List Bool} {c : Int} {k : Nat} {a : PArc} (h : ars[k]? = some a) : hearTo ars lb s c (k + 1) = hearF lb s c (hearTo ars lb s c k) a := by
  unfold hearTo
  rw [List.take_add_one, h, List.foldl_append]; rfl
theorem hear_len {s : List Bool} {c : Int} : ∀ k, (hearTo ars lb s c k).1.length = s.length := by
  intro k
  unfold hearTo
  generalize ars.take k = l
  have : ∀ (l : List PArc) (p : List Bool × Bool), (l.foldl (hearF lb s c) p).1.length = p.1.length := fun l => by
    induction l with
    | nil => exact fun _ => rfl
    | cons a l ih =>
      intro p
      rw [List.foldl_cons, ih]
      unfold hearF
      split <;> simp
  rw [this]; simp
theorem hear_on {s : List Bool} {c : Int} (hl : s.length = n) (ht : ∀ a ∈ ars, Inn n a.to_) : ∀ k, k ≤ ars.length →
    (∀ m : Nat, m < n → (on (hearTo ars lb s c k).1 (m : Int) ↔ ∃ a ∈ ars.take k, (lb a.tran = c ∧ 0 < c ∧ on s a.from_) ∧ a.to_ = (m : Int))) ∧ ((hearTo ars lb s c k).2 = true ↔ ∃ a ∈ ars.take k, lb a.tran = c ∧ 0 < c ∧ on s a.from_) := by
  intro k
  induction k with
  | zero =>
    intro _
    refine ⟨fun m hm => ?_, ?_⟩
    · simp [hearTo, on, List.getD_eq_getElem?_getD, hl, hm]
    · simp [hearTo]
  | succ k ih =>
    intro hk
    obtain ⟨i1, i2⟩ := ih (by omega)
    obtain ⟨a, ha⟩ : ∃ a, ars[k]? = some a := ⟨_, List.getElem?_eq_getElem (by omega)⟩
    have htk : ars.take (k + 1) = ars.take k ++ [a] := by rw [List.take_add_one, ha]; rfl
    obtain ⟨t, et, htn⟩ := natOf (ht a (List.mem_of_getElem? ha))
    have hll : (hearTo ars lb s c k).1.length = n := by rw [hear_len, hl]
    rw [hearTo_succ ha, htk]
    unfold hearF
    by_cases hc : lb a.tran = c ∧ 0 < c ∧ on s a.from_
    · rw [if_pos hc]
      refine ⟨fun m hm => ?_, ?_⟩
      · rw [et]
        simp only [Int.toNat_natCast]
        rw [on_set m (by rw [hll]; exact htn), i1 m hm]
        refine ⟨fun h => ?_, fun ⟨b, hb, h1, h2⟩ => ?_⟩
        · rcases h with rfl | ⟨b, hb, h1, h2⟩
          · exact ⟨a, by simp, hc, et⟩
          · exact ⟨b, by simp [hb], h1, h2⟩
        · rcases List.mem_append.1 hb with hb | hb
          · exact .inr ⟨b, hb, h1, h2⟩
          · rw [List.mem_singleton.1 hb, et] at h2
            exact .inl (by omega)
      · exact ⟨fun _ => ⟨a, by simp, hc⟩, fun _ => rfl⟩
    · rw [if_neg hc]
      refine ⟨fun m hm => (i1 m hm).trans ⟨fun ⟨b, hb, h⟩ => ⟨b, by simp [hb], h⟩, fun ⟨b, hb, h1, h2⟩ => ?_⟩, i2.trans ⟨fun ⟨b, hb, h⟩ => ⟨b, by simp [hb], h⟩, fun ⟨b, hb, h1⟩ => ?_⟩⟩
      · rcases List.mem_append.1 hb with hb | hb
        · exact ⟨b, hb, h1, h2⟩
        · rw [List.mem_singleton.1 hb] at h1
          exact absurd h1 hc
      · rcases List.mem_append.1 hb with hb | hb
        · exact ⟨b, hb, h1⟩
        · rw [List.mem_singleton.1 hb] at h1
          exact absurd h1 hc
theorem told_on {w : List Int} {k : Nat} {x : Int} (hx : Inn n x) : on (toldL ars lb w n k) x ↔ Told ars lb w k x := by
  obtain ⟨m, rfl, hm⟩ := natOf hx
  exact listOf_on hm
theorem told_next {w : List Int} {k : Nat} {c : Int} (hw : w[k]? = some c) (hf : ∀ a ∈ ars, Inn n a.from_) (ht : ∀ a ∈ ars, Inn n a.to_) :
    closeQ ars lb (hearTo ars lb (toldL ars lb w n k) c ars.length).1 = toldL ars lb w n (k + 1) ∧ ((hearTo ars lb (toldL ars lb w n k) c ars.length).2 = false → ∀ m, ¬ Told ars lb w (k + 1) m) := by
  have hl : (toldL ars lb w n k).length = n := listOf_len _ _
  obtain ⟨i1, i2⟩ := hear_on (lb := lb) (c := c) hl ht ars.length (Nat.le_refl _)
  rw [List.take_of_length_le (Nat.le_refl _)] at i1 i2
  have key : ∀ (j : Nat) (m : Int), Told ars lb w j m → j = k + 1 → ∃ a ∈ ars, (lb a.tran = c ∧ 0 < c ∧ on (toldL ars lb w n k) a.from_) ∧ Quietly ars lb a.to_ m := fun j m h => by
    induction h with
    | start => exact fun e => absurd e (by omega)
    | quiet _ ha hl ih =>
      intro e
      obtain ⟨b, hb, h1, h2⟩ := ih e
      exact ⟨b, hb, h1, .step h2 ha hl⟩
    | @heard k' a h ha hpos hw' ih =>
      intro e
      obtain rfl : k' = k := by omega
      rw [hw] at hw'
      injection hw' with hw'
      exact ⟨a, ha, ⟨hw'.symm, by rw [hw']; exact hpos, (told_on (hf a ha)).2 h⟩, .refl _⟩
  refine ⟨?_, fun hno m hm => ?_⟩
  · unfold closeQ
    rw [hear_len, hl]
    refine listOf_congr fun m hm => ⟨fun ⟨m0, hm0, ho, hq⟩ => ?_, fun h => ?_⟩
    · obtain ⟨a, ha, ⟨h1, h2, h3⟩, h4⟩ := (i1 m0 hm0).1 ho
      have := Told.heard ((told_on (hf a ha)).1 h3) ha (by rw [h1]; exact h2) (by rw [hw, h1])
      rw [h4] at this
      exact this.quietly hq
    · obtain ⟨a, ha, h1, h2⟩ := key _ _ h rfl
      obtain ⟨t, et, htn⟩ := natOf (ht a ha)
      rw [et] at h2
      exact ⟨t, htn, (i1 t htn).2 ⟨a, ha, h1, et⟩, h2⟩
  · obtain ⟨a, ha, h1, _⟩ := key _ _ hm rfl
    have := i2.2 ⟨a, ha, h1⟩
    rw [hno] at this
    cases this
theorem Told.less {w : List Int} {j : Nat} {m : Int} (h : Told ars lb w j m) : ∀ i, i ≤ j → ∃ m', Told ars lb w i m' := by
  induction h with
  | start =>
    intro i hi
    obtain rfl : i = 0 := by omega
    exact ⟨_, .start⟩
  | quiet _ _ _ ih => exact ih
  | @heard k a h ha hl hw ih =>
    intro i hi
    by_cases e : i = k + 1
    · subst e; exact ⟨_, .heard h ha hl hw⟩
    · exact ih i (by omega)
end
end Go.Proofs.Ytnfppolgaeibeaa
namespace Go.Proofs.Ytnfppolgaeibeaa
open Classical

def wt (lb : Int → Int) (a : PArc) : Nat := if 0 < lb a.tran then 1 else 0
theorem wt_le (lb : Int → Int) (a : PArc) : wt lb a ≤ 1 := by unfold wt; split <;> omega
section
variable (ars : List PArc) (lb : Int → Int) (E : Int → Prop)
/-- From m the end is so many letters away, on some way. -/
inductive FarT : Int → Nat → Prop
  | stop {m : Int} (h : E m) : FarT m 0
  | step {a : PArc} {d : Nat} (ha : a ∈ ars) (h : FarT a.to_ d) : FarT a.from_ (d + wt lb a)
def IsDist (m x : Int) : Prop := (x = -1 ∧ ∀ d, ¬ FarT ars lb E m d) ∨ ∃ d : Nat, x = (d : Int) ∧ FarT ars lb E m d ∧ ∀ d', FarT ars lb E m d' → d ≤ d'
noncomputable def distI (m : Int) : Int := Classical.epsilon fun x => IsDist ars lb E m x
end
section
variable {ars : List PArc} {lb : Int → Int} {E : Int → Prop} {n : Nat}
theorem IsDist.uniq {m x y : Int} (h : IsDist ars lb E m x) (g : IsDist ars lb E m y) : x = y := by
  rcases h with ⟨h1, h2⟩ | ⟨d, h1, h2, h3⟩ <;> rcases g with ⟨g1, g2⟩ | ⟨e, g1, g2, g3⟩
  · rw [h1, g1]
  · exact absurd g2 (h2 _)
  · exact absurd h2 (g2 _)
  · have := h3 _ g2
    have := g3 _ h2
    omega
theorem IsDist.eq {m x : Int} (h : IsDist ars lb E m x) : distI ars lb E m = x := (Classical.epsilon_spec (p := fun x => IsDist ars lb E m x) ⟨x, h⟩ : IsDist ars lb E m _).uniq h

/-! ### the program's rounds -/
def atI (xs : List Int) (m : Int) : Int := xs.getD m.toNat 0
def stepV (lb : Int → Int) (xs : List Int) (a : PArc) : Int := if 0 ≤ atI xs a.to_ ∧ 0 < lb a.tran then atI xs a.to_ + 1 else atI xs a.to_
def farF (lb : Int → Int) (p : List Int × Bool) (a : PArc) : List Int × Bool :=
  if 0 ≤ stepV lb p.1 a ∧ (atI p.1 a.from_ < 0 ∨ stepV lb p.1 a < atI p.1 a.from_) then (p.1.set a.from_.toNat (stepV lb p.1 a), true) else p
theorem stepV_some {xs : List Int} {a : PArc} (h : 0 ≤ atI xs a.to_) : stepV lb xs a = atI xs a.to_ + (wt lb a : Nat) := by
  unfold stepV wt
  by_cases h1 : 0 < lb a.tran
  · rw [if_pos ⟨h, h1⟩, if_pos h1]; rfl
  · rw [if_neg (fun h2 => h1 h2.2), if_neg h1]; simp
theorem stepV_none {xs : List Int} {a : PArc} (h : atI xs a.to_ < 0) : stepV lb xs a = atI xs a.to_ := by
  unfold stepV
  rw [if_neg (fun h2 => by omega)]
def cntS : List Int → Nat
  | [] => 0
  | x :: xs => (if 0 ≤ x then 1 else 0) + cntS xs
def muS (N : Nat) : List Int → Nat
  | [] => 0
  | x :: xs => (if 0 ≤ x then x.toNat else N) + muS N xs
theorem cntS_le : ∀ xs : List Int, cntS xs ≤ xs.length
  | [] => Nat.le_refl _
  | x :: xs => by have := cntS_le xs; simp only [cntS, List.length_cons]; split <;> omega
theorem cntS_lt : ∀ (xs : List Int) (k : Nat) (x : Int), xs[k]? = some x → x < 0 → cntS xs < xs.length
  | y :: xs, 0, x, h, hx => by
    simp only [List.getElem?_cons_zero, Option.some.injEq] at h
    have := cntS_le xs
    simp only [cntS, List.length_cons]
    rw [if_neg (by omega)]; omega
  | y :: xs, k + 1, x, h, hx => by
    simp only [List.getElem?_cons_succ] at h
    have := cntS_lt xs k x h hx
    simp only [cntS, List.length_cons]
    split <;> omega
theorem cntS_set : ∀ (xs : List Int) (k : Nat) (x y : Int), xs[k]? = some x → 0 ≤ y → cntS (xs.set k y) = cntS xs + (if 0 ≤ x then 0 else 1)
  | z :: xs, 0, x, y, h, hy => by
    simp only [List.getElem?_cons_zero, Option.some.injEq] at h
    subst h
    simp only [List.set_cons_zero, cntS, if_pos hy]
    split <;> omega
  | z :: xs, k + 1, x, y, h, hy => by
    simp only [List.getElem?_cons_succ] at h
    have := cntS_set xs k x y h hy
    simp only [List.set_cons_succ, cntS, this]
    omega
  | [], _, _, _, h, _ => by simp at h
theorem muS_set (N : Nat) : ∀ (xs : List Int) (k : Nat) (x y : Int), xs[k]? = some x → 0 ≤ y → muS N (xs.set k y) + (if 0 ≤ x then x.toNat else N) = muS N xs + y.toNat
  | z :: xs, 0, x, y, h, hy => by
    simp only [List.getElem?_cons_zero, Option.some.injEq] at h
    subst h
    simp only [List.set_cons_zero, muS, if_pos hy]
    omega
  | z :: xs, k + 1, x, y, h, hy => by
    simp only [List.getElem?_cons_succ] at h
    have := muS_set N xs k x y h hy
    simp only [List.set_cons_succ, muS]
    omega
  | [], _, _, _, h, _ => by simp at h
theorem atI_some {xs : List Int} {k : Nat} (hk : k < xs.length) : xs[k]? = some (atI xs (k : Int)) := by
  unfold atI
  rw [Int.toNat_natCast, List.getD_eq_getElem?_getD, List.getElem?_eq_getElem hk]; rfl
theorem atI_set {xs : List Int} {j m : Nat} {y : Int} (hj : j < xs.length) : atI (xs.set j y) (m : Int) = if m = j then y else atI xs (m : Int) := by
  unfold atI
  simp only [Int.toNat_natCast, List.getD_eq_getElem?_getD]
  by_cases e : m = j
  · subst e; simp [hj]
  · rw [List.getElem?_set_ne (fun h => e h.symm), if_neg e]
structure FarI (ars : List PArc) (lb : Int → Int) (E : Int → Prop) (n : Nat) (xs : List Int) : Prop where
  len : xs.length = n
  low : ∀ k : Nat, k < n → -1 ≤ atI xs (k : Int)
  sound : ∀ k : Nat, k < n → 0 ≤ atI xs (k : Int) → FarT ars lb E (k : Int) (atI xs (k : Int)).toNat
  base : ∀ k : Nat, k < n → E (k : Int) → atI xs (k : Int) = 0
  few : ∀ k : Nat, k < n → atI xs (k : Int) < (cntS xs : Int)
theorem FarI.mono (hf : ∀ a ∈ ars, Inn n a.from_) (ht : ∀ a ∈ ars, Inn n a.to_) : Mono (farF lb) ars (FarI ars lb E n) (muS n) where
  step := fun p a ha hI => by
    unfold farF
    split
    · rename_i h
      obtain ⟨h1, h2⟩ := h
      obtain ⟨f, ef, hfn⟩ := natOf (hf a ha)
      obtain ⟨t, et, htn⟩ := natOf (ht a ha)
      have hfl : f < p.1.length := by rw [hI.len]; exact hfn
      have ht0 : 0 ≤ atI p.1 a.to_ := by
        apply Classical.byContradiction
        intro h3
        rw [stepV_none (by omega)] at h1
        exact h3 h1
      rw [stepV_some ht0] at h1 h2 ⊢
      have hw := wt_le lb a
      obtain ⟨y, hy⟩ : ∃ y, atI p.1 a.to_ + (wt lb a : Nat) = y := ⟨_, rfl⟩
      rw [hy] at h1 h2 ⊢
      rw [ef] at h2 ⊢
      simp only [Int.toNat_natCast]
      have hs : FarT ars lb E (f : Int) y.toNat := by
        have := hI.sound t htn (by rw [← et]; exact ht0)
        have h3 := FarT.step ha (by rw [et]; exact this)
        rw [ef, ← et] at h3
        have e : (atI p.1 a.to_).toNat + wt lb a = y.toNat := by omega
        rw [← e]; exact h3
      have hat := atI_some hfl
      have hcnt := cntS_set p.1 f _ y hat h1
      have hmu := muS_set n p.1 f _ y hat h1
      have hfew := hI.few t htn
      rw [← et] at hfew
      have hlf := hI.low f hfn
      refine .inr ⟨by trivial, ⟨by simpa using hI.len, fun k hk => ?_, fun k hk h0 => ?_, fun k hk hE => ?_, fun k hk => ?_⟩, ?_⟩
      · show -1 ≤ atI (p.1.set f y) k
        rw [atI_set hfl]; split
        · omega
        · exact hI.low k hk
      · have h0' : 0 ≤ atI (p.1.set f y) k := h0
        show FarT ars lb E k (atI (p.1.set f y) k).toNat
        rw [atI_set hfl] at h0' ⊢
        split
        · rename_i e; subst e; exact hs
        · rename_i e; rw [if_neg e] at h0'; exact hI.sound k hk h0'
      · show atI (p.1.set f y) k = 0
        rw [atI_set hfl]; split
        · rename_i e; subst e
          have := hI.base k hk hE
          omega
        · exact hI.base k hk hE
      · show atI (p.1.set f y) k < (cntS (p.1.set f y) : Int)
        rw [hcnt, atI_set hfl]
        split
        · rename_i e; subst e
          rcases h2 with h2 | h2
          · rw [if_neg (by omega)]; omega
          · rw [if_pos (by omega)]
            have := hI.few k hk
            omega
        · have := hI.few k hk
          split <;> omega
      · show muS n (p.1.set f y) < muS n p.1
        rcases h2 with h2 | h2
        · rw [if_neg (by omega)] at hmu
          have := cntS_lt p.1 f _ hat h2
          rw [hI.len] at this
          omega
        · rw [if_pos (by omega)] at hmu
          omega
    · exact .inl rfl
noncomputable def startA (E : Int → Prop) (n : Nat) : List Int := (List.range n).map fun (k : Nat) => if E (k : Int) then 0 else -1
theorem startA_at {k : Nat} (hk : k < n) : atI (startA E n) (k : Int) = if E (k : Int) then 0 else -1 := by
  unfold atI startA
  simp [List.getD_eq_getElem?_getD, hk]
theorem FarI.start : FarI ars lb E n (startA E n) where
  len := by simp [startA]
  low := fun k hk => by rw [startA_at hk]; split <;> omega
  sound := fun k hk h => by
    rw [startA_at hk] at h ⊢
    split
    · rename_i e; exact .stop e
    · rename_i e; rw [if_neg e] at h; omega
  base := fun k hk hE => by rw [startA_at hk, if_pos hE]
  few := fun k hk => by
    rw [startA_at hk]
    split
    · rename_i e
      have : ∀ (xs : List Int) (j : Nat), xs[j]? = some 0 → 0 < cntS xs := fun xs => by
        induction xs with
        | nil => intro j h; simp at h
        | cons x xs ih =>
          intro j h
          match j, h with
          | 0, h =>
            simp only [List.getElem?_cons_zero, Option.some.injEq] at h
            subst h
            simp [cntS]; omega
          | j + 1, h =>
            simp only [List.getElem?_cons_succ] at h
            have := ih j h
            simp only [cntS]; omega
      have h1 := this (startA E n) k (by rw [atI_some (by simpa [startA] using hk), startA_at hk, if_pos e])
      omega
    · omega
theorem FarI.done {xs : List Int} (h : FarI ars lb E n xs) (ht : ∀ a ∈ ars, Inn n a.to_) (hc : ∀ a ∈ ars, farF lb (xs, false) a = (xs, false)) {k : Nat} (hk : k < n) : IsDist ars lb E (k : Int) (atI xs (k : Int)) := by
  have key : ∀ (m : Int) (d : Nat), FarT ars lb E m d → Inn n m → 0 ≤ atI xs m ∧ atI xs m ≤ (d : Int) := fun m d hF => by
    induction hF with
    | @stop m hE =>
      intro hm
      obtain ⟨k, rfl, hk⟩ := natOf hm
      rw [h.base k hk hE]
      exact ⟨Int.le_refl _, by omega⟩
    | @step a d ha hF ih =>
      intro hm
      obtain ⟨i1, i2⟩ := ih (ht a ha)
      have h2 := hc a ha
      unfold farF at h2
      have h3 : ¬ (0 ≤ stepV lb xs a ∧ (atI xs a.from_ < 0 ∨ stepV lb xs a < atI xs a.from_)) := fun h3 => by
        rw [if_pos h3] at h2
        injection h2 with _ h2
        cases h2
      rw [stepV_some i1] at h3
      by_cases h4 : atI xs a.from_ < 0
      · exact absurd ⟨by omega, .inl h4⟩ h3
      · refine ⟨by omega, ?_⟩
        apply Classical.byContradiction
        intro h5
        exact h3 ⟨by omega, .inr (by omega)⟩
  by_cases h0 : 0 ≤ atI xs (k : Int)
  · exact .inr ⟨(atI xs k).toNat, by omega, h.sound k hk h0, fun d' hd => by have := (key _ _ hd ⟨by omega, by omega⟩).2; omega⟩
  · refine .inl ⟨by have := h.low k hk; omega, fun d hd => h0 (key _ _ hd ⟨by omega, by omega⟩).1⟩

/-- Some way is as short as any, and shorter than there are marks. -/
theorem far_short (hf : ∀ a ∈ ars, Inn n a.from_) (ht : ∀ a ∈ ars, Inn n a.to_) {k : Nat} (hk : k < n) : IsDist ars lb E (k : Int) (distI ars lb E (k : Int)) ∧ distI ars lb E (k : Int) < (n : Int) := by
  obtain ⟨xs, h1, h2⟩ := (FarI.mono (E := E) (lb := lb) hf ht).fix _ (startA E n) (Nat.le_refl _) FarI.start
  have h3 := h1.done ht h2 hk
  have h4 := h1.few k hk
  have h5 := cntS_le xs
  rw [h1.len] at h5
  rw [h3.eq]
  exact ⟨h3, by omega⟩

/-! ### hope -/
def hopeF (s : List Bool) (far : List Int) (r : Int) (j : Nat) : Int := if on s (j : Int) ∧ 0 ≤ atI far (j : Int) ∧ (r < 0 ∨ atI far (j : Int) < r) then atI far (j : Int) else r
def hopeTo (s : List Bool) (far : List Int) (k : Nat) : Int := (List.range k).foldl (hopeF s far) (-1)
theorem hopeTo_succ (s : List Bool) (far : List Int) (k : Nat) : hopeTo s far (k + 1) = hopeF s far (hopeTo s far k) k := by
  unfold hopeTo
  rw [List.range_succ, List.foldl_append]; rfl
theorem hope_spec (s : List Bool) (far : List Int) : ∀ k, (hopeTo s far k = -1 ∧ ∀ j : Nat, j < k → on s (j : Int) → atI far (j : Int) < 0) ∨ (0 ≤ hopeTo s far k ∧ (∃ j : Nat, j < k ∧ on s (j : Int) ∧ atI far (j : Int) = hopeTo s far k) ∧ ∀ j : Nat, j < k → on s (j : Int) → 0 ≤ atI far (j : Int) → hopeTo s far k ≤ atI far (j : Int)) := by
  intro k
  induction k with
  | zero => exact .inl ⟨rfl, fun j hj => absurd hj (by omega)⟩
  | succ k ih =>
    rw [hopeTo_succ]
    unfold hopeF
    by_cases hc : on s (k : Int) ∧ 0 ≤ atI far (k : Int) ∧ (hopeTo s far k < 0 ∨ atI far (k : Int) < hopeTo s far k)
    · rw [if_pos hc]
      obtain ⟨c1, c2, c3⟩ := hc
      refine .inr ⟨c2, ⟨k, by omega, c1, rfl⟩, fun j hj ho h0 => ?_⟩
      by_cases e : j = k
      · subst e; omega
      · rcases ih with ⟨h1, h2⟩ | ⟨h1, h2, h3⟩
        · have := h2 j (by omega) ho; omega
        · have := h3 j (by omega) ho h0; omega
    · rw [if_neg hc]
      rcases ih with ⟨h1, h2⟩ | ⟨h1, ⟨j0, g1, g2, g3⟩, h3⟩
      · refine .inl ⟨h1, fun j hj ho => ?_⟩
        by_cases e : j = k
        · subst e
          apply Classical.byContradiction
          intro h4
          exact hc ⟨ho, by omega, .inl (by omega)⟩
        · exact h2 j (by omega) ho
      · refine .inr ⟨h1, ⟨j0, by omega, g2, g3⟩, fun j hj ho h0 => ?_⟩
        by_cases e : j = k
        · subst e
          apply Classical.byContradiction
          intro h4
          exact hc ⟨ho, h0, .inr (by omega)⟩
        · exact h3 j (by omega) ho h0
theorem FarT.quietly {x y : Int} {d : Nat} (hq : Quietly ars lb x y) (h : FarT ars lb E y d) : FarT ars lb E x d := by
  induction hq with
  | refl => exact h
  | @step a hq ha hl ih =>
    refine ih ?_
    have := FarT.step ha h
    rwa [show wt lb a = 0 by unfold wt; rw [if_neg (by omega)], Nat.add_zero] at this
theorem hope_dist {w : List Int} {far : List Int} (hn : 0 < n) (hd : ∀ k : Nat, k < n → IsDist ars lb E (k : Int) (atI far (k : Int))) : hopeTo (toldL ars lb w n 0) far n = distI ars lb E 0 := by
  have qu : ∀ (k : Nat) (x : Int), Told ars lb w k x → k = 0 → Quietly ars lb 0 x := fun k x h => by
    induction h with
    | start => exact fun _ => .refl _
    | quiet _ ha hl ih => exact fun e => .step (ih e) ha hl
    | heard _ _ _ _ _ => exact fun e => absurd e (by omega)
  have h0 := hd 0 hn
  have on0 : on (toldL ars lb w n 0) (0 : Nat) := (told_on ⟨by omega, by omega⟩).2 .start
  rw [show ((0 : Nat) : Int) = 0 from rfl] at h0
  rw [h0.eq]
  rcases hope_spec (toldL ars lb w n 0) far n with ⟨h1, h2⟩ | ⟨h1, ⟨j, hj, ho, h2⟩, h3⟩
  · have := h2 0 hn on0
    rw [h1]
    rcases h0 with ⟨g1, _⟩ | ⟨d, g1, _⟩
    · exact g1.symm
    · rw [show ((0 : Nat) : Int) = 0 from rfl] at this; omega
  · have hq := qu _ _ ((told_on ⟨by omega, by omega⟩).1 ho) rfl
    rcases hd j hj with ⟨g1, _⟩ | ⟨d, g1, g2, _⟩
    · omega
    · have := g2.quietly hq
      rcases h0 with ⟨e1, e2⟩ | ⟨d0, e1, e2, e3⟩
      · exact absurd this (e2 _)
      · have h4 := e3 _ this
        have h5 := h3 0 hn on0 (by rw [show ((0 : Nat) : Int) = 0 from rfl, e1]; omega)
        rw [show ((0 : Nat) : Int) = 0 from rfl] at h5
        omega

/-! ### the reference's rounds -/
def relF (lb : Int → Int) (cs : List Int) (a : PArc) : List Int := cs.set a.from_.toNat (min (atI cs a.from_) (atI cs a.to_ + (wt lb a : Nat)))
def relTo (ars : List PArc) (lb : Int → Int) (cs : List Int) (q : Nat) : List Int := (ars.take q).foldl (relF lb) cs
theorem relTo_succ {cs : List Int} {q : Nat} {a : PArc} (h : ars[q]? = some a) : relTo ars lb cs (q + 1) = relF lb (relTo ars lb cs q) a := by
  unfold relTo
  rw [List.take_add_one, h, List.foldl_append]; rfl
structure RelI (ars : List PArc) (lb : Int → Int) (E : Int → Prop) (n : Nat) (cs : List Int) : Prop where
  len : cs.length = n
  low : ∀ k : Nat, k < n → 0 ≤ atI cs (k : Int) ∧ atI cs (k : Int) ≤ 1073741824
  sound : ∀ k : Nat, k < n → atI cs (k : Int) < 1073741824 → FarT ars lb E (k : Int) (atI cs (k : Int)).toNat
  base : ∀ k : Nat, k < n → E (k : Int) → atI cs (k : Int) = 0
theorem RelI.next {cs : List Int} (h : RelI ars lb E n cs) {a : PArc} (ha : a ∈ ars) (hf : Inn n a.from_) (ht : Inn n a.to_) : RelI ars lb E n (relF lb cs a) ∧ (∀ k : Nat, k < n → atI (relF lb cs a) (k : Int) ≤ atI cs (k : Int)) ∧ atI (relF lb cs a) a.from_ ≤ atI cs a.to_ + (wt lb a : Nat) := by
  obtain ⟨f, ef, hfn⟩ := natOf hf
  obtain ⟨t, et, htn⟩ := natOf ht
  have hfl : f < cs.length := by rw [h.len]; exact hfn
  have hw := wt_le lb a
  have l1 := h.low f hfn
  have l2 := h.low t htn
  rw [← ef] at l1
  rw [← et] at l2
  unfold relF
  rw [show a.from_.toNat = f by omega]
  obtain ⟨y, hy⟩ : ∃ y, min (atI cs a.from_) (atI cs a.to_ + (wt lb a : Nat)) = y := ⟨_, rfl⟩
  rw [hy]
  have hy1 : y ≤ atI cs a.from_ := by omega
  have hy2 : y ≤ atI cs a.to_ + (wt lb a : Nat) := by omega
  have hy3 : y = atI cs a.from_ ∨ y = atI cs a.to_ + (wt lb a : Nat) := by omega
  refine ⟨⟨by simpa using h.len, fun k hk => ?_, fun k hk h0 => ?_, fun k hk hE => ?_⟩, fun k hk => ?_, ?_⟩
  · rw [atI_set hfl]; split
    · omega
    · exact h.low k hk
  · rw [atI_set hfl] at h0 ⊢
    split
    · rename_i e
      subst e
      rw [if_pos rfl] at h0
      rcases hy3 with hy3 | hy3
      · rw [hy3, ef]; exact h.sound k hk (by rw [← ef]; omega)
      · have := h.sound t htn (by rw [← et]; omega)
        have h3 := FarT.step ha (by rw [et]; exact this)
        rw [ef, ← et] at h3
        have e : (atI cs a.to_).toNat + wt lb a = y.toNat := by omega
        rw [← e]; exact h3
    · rename_i e; rw [if_neg e] at h0; exact h.sound k hk h0
  · rw [atI_set hfl]; split
    · rename_i e; subst e
      have := h.base k hk hE
      rw [← ef] at this
      omega
    · exact h.base k hk hE
  · rw [atI_set hfl]; split
    · rename_i e; subst e; rw [← ef]; exact hy1
    · exact Int.le_refl _
  · rw [ef, atI_set hfl, if_pos rfl]; exact hy2
theorem RelI.to {cs : List Int} (h : RelI ars lb E n cs) (hf : ∀ a ∈ ars, Inn n a.from_) (ht : ∀ a ∈ ars, Inn n a.to_) : ∀ q, q ≤ ars.length → RelI ars lb E n (relTo ars lb cs q) ∧ (∀ k : Nat, k < n → atI (relTo ars lb cs q) (k : Int) ≤ atI cs (k : Int)) ∧ ∀ a ∈ ars.take q, atI (relTo ars lb cs q) a.from_ ≤ atI cs a.to_ + (wt lb a : Nat) := by
  intro q
  induction q with
  | zero => intro _; exact ⟨h, fun _ _ => Int.le_refl _, fun a ha => by simp at ha⟩
  | succ q ih =>
    intro hq
    obtain ⟨i1, i2, i3⟩ := ih (by omega)
    obtain ⟨a, ha⟩ : ∃ a, ars[q]? = some a := ⟨_, List.getElem?_eq_getElem (by omega)⟩
    have hm := List.mem_of_getElem? ha
    obtain ⟨j1, j2, j3⟩ := i1.next hm (hf a hm) (ht a hm)
    rw [relTo_succ ha]
    refine ⟨j1, fun k hk => Int.le_trans (j2 k hk) (i2 k hk), fun b hb => ?_⟩
    rw [List.take_add_one, ha] at hb
    rcases List.mem_append.1 hb with hb | hb
    · obtain ⟨f, ef, hfn⟩ := natOf (hf b (List.mem_of_mem_take hb))
      have := i3 b hb
      rw [ef] at this ⊢
      exact Int.le_trans (j2 f hfn) this
    · have e : b = a := by simpa using hb
      subst e
      obtain ⟨t, et, htn⟩ := natOf (ht b hm)
      have := i2 t htn
      rw [← et] at this
      omega
/-- All is known of k. -/
def FinalD (ars : List PArc) (lb : Int → Int) (E : Int → Prop) (cs : List Int) (k : Nat) : Prop := ∀ d, FarT ars lb E (k : Int) d → atI cs (k : Int) ≤ (d : Int)
noncomputable def openD (ars : List PArc) (lb : Int → Int) (E : Int → Prop) (n : Nat) (cs : List Int) : Nat := ((List.range n).filter fun k => decide (¬ FinalD ars lb E cs k)).length
theorem filter_ltS {α : Type} {p q : α → Bool} : ∀ (l : List α), (∀ x ∈ l, q x = true → p x = true) → (∃ x ∈ l, p x = true ∧ q x = false) → (l.filter q).length < (l.filter p).length
  | [], _, h => by obtain ⟨x, hx, _⟩ := h; simp at hx
  | a :: l, h, ⟨x, hx, h1, h2⟩ => by
    have le : ∀ (l' : List α), (∀ x ∈ l', q x = true → p x = true) → (l'.filter q).length ≤ (l'.filter p).length := fun l' => by
      induction l' with
      | nil => intro _; exact Nat.le_refl _
      | cons b l' ih =>
        intro hb
        have := ih fun y hy => hb y (by simp [hy])
        have hbb := hb b (by simp)
        cases hq : q b
        · cases hp : p b <;> simp [hq, hp] <;> omega
        · simp [hq, hbb hq]; omega
    have hb := h a (by simp)
    rcases List.mem_cons.1 hx with rfl | hx
    · have := le l fun y hy => h y (by simp [hy])
      simp [h1, h2]; omega
    · have := filter_ltS l (fun y hy => h y (by simp [hy])) ⟨x, hx, h1, h2⟩
      cases hq : q a
      · cases hp : p a <;> simp [hq, hp] <;> omega
      · simp [hq, hb hq]; omega
theorem RelI.round {cs : List Int} (h : RelI ars lb E n cs) (hf : ∀ a ∈ ars, Inn n a.from_) (ht : ∀ a ∈ ars, Inn n a.to_) : openD ars lb E n (relTo ars lb cs ars.length) < openD ars lb E n cs ∨ ∀ k, k < n → FinalD ars lb E cs k := by
  obtain ⟨i1, i2, i3⟩ := h.to hf ht ars.length (Nat.le_refl _)
  rw [List.take_of_length_le (Nat.le_refl _)] at i3
  by_cases hall : ∀ k, k < n → FinalD ars lb E cs k
  · exact .inr hall
  · left
    have key : ∀ (m : Int) (d : Nat), FarT ars lb E m d → ∀ k : Nat, m = (k : Int) → k < n → (∀ d', FarT ars lb E m d' → d ≤ d') → ¬ FinalD ars lb E cs k → ∃ k' : Nat, k' < n ∧ ¬ FinalD ars lb E cs k' ∧ FinalD ars lb E (relTo ars lb cs ars.length) k' := fun m d hF => by
      induction hF with
      | @stop m hE =>
        intro k e hk hd hno
        exfalso
        subst e
        refine hno fun d hd => ?_
        rw [h.base k hk hE]; omega
      | @step a d ha hF ih =>
        intro k e hk hd hno
        obtain ⟨t, et, htn⟩ := natOf (ht a ha)
        have hopt : ∀ d', FarT ars lb E a.to_ d' → d ≤ d' := fun d' hd' => by have := hd _ (.step ha hd'); omega
        by_cases hfin : FinalD ars lb E cs t
        · refine ⟨k, hk, hno, fun d' hd' => ?_⟩
          have h1 := hfin d (by rw [← et]; exact hF)
          have h2 := i3 a ha
          rw [e, et] at h2
          have h3 := hd d' (by rw [e]; exact hd')
          omega
        · exact ih t et htn hopt hfin
    have hex : ∃ k, k < n ∧ ¬ FinalD ars lb E cs k := by
      apply Classical.byContradiction
      intro hno
      exact hall fun k hk => Classical.byContradiction fun h => hno ⟨k, hk, h⟩
    obtain ⟨k, hk, hno⟩ := hex
    have hd := (far_short (E := E) (lb := lb) hf ht hk).1
    rcases hd with ⟨_, g2⟩ | ⟨d, _, g2, g3⟩
    · exact absurd (fun d hd => absurd hd (g2 d)) hno
    · obtain ⟨k', hk', h1, h2⟩ := key _ d g2 k rfl hk g3 hno
      refine filter_ltS _ (fun x hx hq => ?_) ⟨k', by simpa using hk', by simpa using h1, by simpa using h2⟩
      simp only [decide_eq_true_eq] at hq ⊢
      intro hfin
      refine hq fun d hd => ?_
      have hx' : x < n := by simpa using hx
      exact Int.le_trans (i2 x hx') (hfin d hd)
/-- After so many rounds. -/
structure RndI (ars : List PArc) (lb : Int → Int) (E : Int → Prop) (n r : Nat) (cs : List Int) : Prop where
  inv : RelI ars lb E n cs
  alt : openD ars lb E n cs + r ≤ n ∨ ∀ k, k < n → FinalD ars lb E cs k
theorem RndI.next {cs : List Int} {r : Nat} (h : RndI ars lb E n r cs) (hf : ∀ a ∈ ars, Inn n a.from_) (ht : ∀ a ∈ ars, Inn n a.to_) : RndI ars lb E n (r + 1) (relTo ars lb cs ars.length) := by
  obtain ⟨i1, i2, _⟩ := h.inv.to hf ht ars.length (Nat.le_refl _)
  refine ⟨i1, ?_⟩
  rcases h.alt with h1 | h1
  · rcases h.inv.round hf ht with h2 | h2
    · exact .inl (by omega)
    · exact .inr fun k hk d hd => Int.le_trans (i2 k hk) (h2 k hk d hd)
  · exact .inr fun k hk d hd => Int.le_trans (i2 k hk) (h1 k hk d hd)
theorem RndI.end_ {cs : List Int} (h : RndI ars lb E n n cs) (hf : ∀ a ∈ ars, Inn n a.from_) (ht : ∀ a ∈ ars, Inn n a.to_) (hn2 : n ≤ 1073741824) {k : Nat} (hk : k < n) : (atI cs (k : Int) < 1073741824 ∧ distI ars lb E (k : Int) = atI cs (k : Int)) ∨ (1073741824 ≤ atI cs (k : Int) ∧ distI ars lb E (k : Int) = -1) := by
  have hfin : FinalD ars lb E cs k := by
    rcases h.alt with h1 | h1
    · have h2 : openD ars lb E n cs = 0 := by omega
      unfold openD at h2
      have h3 := List.eq_nil_of_length_eq_zero h2
      apply Classical.byContradiction
      intro h4
      have : k ∈ (List.range n).filter fun k => decide (¬ FinalD ars lb E cs k) := by simpa using ⟨hk, h4⟩
      rw [h3] at this
      simp at this
    · exact h1 k hk
  obtain ⟨hd, hlt⟩ := far_short (E := E) (lb := lb) hf ht hk
  have l := h.inv.low k hk
  rcases hd with ⟨g1, g2⟩ | ⟨d, g1, g2, g3⟩
  · right
    refine ⟨?_, g1⟩
    apply Classical.byContradiction
    intro h5
    exact g2 _ (h.inv.sound k hk (by omega))
  · left
    have h5 := hfin d g2
    have h6 := g3 _ (h.inv.sound k hk (by omega))
    exact ⟨by omega, by omega⟩
noncomputable def startR (E : Int → Prop) (n : Nat) : List Int := (List.range n).map fun (k : Nat) => if E (k : Int) then 0 else 1073741824
theorem startR_at {k : Nat} (hk : k < n) : atI (startR E n) (k : Int) = if E (k : Int) then 0 else 1073741824 := by
  unfold atI startR
  simp [List.getD_eq_getElem?_getD, hk]
theorem RndI.start : RndI ars lb E n 0 (startR E n) where
  inv := {
    len := by simp [startR]
    low := fun k hk => by rw [startR_at hk]; split <;> omega
    sound := fun k hk h => by
      rw [startR_at hk] at h ⊢
      split
      · rename_i e; exact .stop e
      · rename_i e; rw [if_neg e] at h; omega
    base := fun k hk hE => by rw [startR_at hk, if_pos hE] }
  alt := .inl (by
    have := List.length_filter_le (fun k => decide (¬ FinalD ars lb E (startR E n) k)) (List.range n)
    simp only [List.length_range] at this
    unfold openD
    omega)

/-! ### a table of where one can be -/
def prs (ars : List PArc) (K : Nat) : List (PArc × Nat) := ars.flatMap fun a => (List.range K).map fun k => (a, k)
def toK (lb : Int → Int) (a : PArc) (k : Nat) : Nat := if 0 < lb a.tran then k + 1 else k
def leadF (lb : Int → Int) (w : List Int) (p : List (List Bool) × Bool) (x : PArc × Nat) : List (List Bool) × Bool :=
  if at2 p.1 x.2 x.1.from_.toNat = some true ∧ toK lb x.1 x.2 < w.length + 1 ∧ (lb x.1.tran = 0 ∨ w[x.2]? = some (lb x.1.tran)) ∧ ¬ at2 p.1 (toK lb x.1 x.2) x.1.to_.toNat = some true
  then (p.1.set (toK lb x.1 x.2) (((p.1[toK lb x.1 x.2]?).getD []).set x.1.to_.toNat true), true) else p
structure LeadI (ars : List PArc) (lb : Int → Int) (w : List Int) (n : Nat) (M : List (List Bool)) : Prop where
  len : M.length = w.length + 1
  row : ∀ (k : Nat) (r : List Bool), M[k]? = some r → r.length = n
  sound : ∀ k m : Nat, k < w.length + 1 → at2 M k m = some true → Told ars lb w k (m : Int)
  base : at2 M 0 0 = some true
theorem at2_setS {M : List (List Bool)} {i j : Nat} {r : List Bool} (hr : M[i]? = some r) (hj : j < r.length) (k m : Nat) : at2 (M.set i (r.set j true)) k m = some true ↔ (k = i ∧ m = j) ∨ at2 M k m = some true := by
  unfold at2
  have hi := (List.getElem?_eq_some_iff.1 hr).1
  by_cases e : k = i
  · subst e
    rw [List.getElem?_set_self hi, hr]
    simp only [Option.bind_some]
    by_cases e2 : m = j
    · subst e2; simp [hj]
    · rw [List.getElem?_set_ne (fun h => e2 h.symm)]
      simp [e2]
  · rw [List.getElem?_set_ne (fun h => e h.symm)]
    simp [e]
theorem LeadI.mono {w : List Int} (hf : ∀ a ∈ ars, Inn n a.from_) (ht : ∀ a ∈ ars, Inn n a.to_) (hlb : ∀ a ∈ ars, 0 ≤ lb a.tran) : Mono (leadF lb w) (prs ars (w.length + 1)) (LeadI ars lb w n) cntF where
  step := fun p x hx hI => by
    obtain ⟨a, k⟩ := x
    have hx' : a ∈ ars ∧ k < w.length + 1 := by
      unfold prs at hx
      obtain ⟨b, hb, h2⟩ := List.mem_flatMap.1 hx
      obtain ⟨k', hk', h3⟩ := List.mem_map.1 h2
      injection h3 with h4 h5
      subst h4 h5
      exact ⟨hb, by simpa using hk'⟩
    obtain ⟨ha, hk⟩ := hx'
    obtain ⟨f, ef, hfn⟩ := natOf (hf a ha)
    obtain ⟨t, et, htn⟩ := natOf (ht a ha)
    have h0 := hlb a ha
    unfold leadF
    simp only
    rw [show a.from_.toNat = f by omega, show a.to_.toNat = t by omega]
    obtain ⟨j, hj⟩ : ∃ j, toK lb a k = j := ⟨_, rfl⟩
    rw [hj]
    split
    · rename_i h
      obtain ⟨h1, h2, h3, h4⟩ := h
      obtain ⟨r, hr⟩ : ∃ r, p.1[j]? = some r := ⟨_, List.getElem?_eq_getElem (by rw [hI.len]; exact h2)⟩
      have hrl := hI.row j r hr
      rw [hr]
      simp only [Option.getD_some]
      have hfalse : r[t]? = some false := by
        obtain ⟨b, hb⟩ : ∃ b, r[t]? = some b := ⟨_, List.getElem?_eq_getElem (by omega)⟩
        cases b
        · exact hb
        · exact absurd (by unfold at2; rw [hr]; exact hb) h4
      refine .inr ⟨by trivial, ⟨by simpa using hI.len, fun i x hx => ?_, fun i m hi hm => ?_, ?_⟩, ?_⟩
      · rw [List.getElem?_set] at hx
        split at hx
        · split at hx
          · injection hx with hx; subst hx; simpa using hrl
          · cases hx
        · exact hI.row i x hx
      · rcases (at2_setS hr (by omega) i m).1 hm with ⟨rfl, rfl⟩ | hm
        · have hs := hI.sound k f hk h1
          rw [← ef] at hs
          rw [← et]
          unfold toK at hj
          by_cases hl : 0 < lb a.tran
          · rw [if_pos hl] at hj
            rw [← hj]
            rcases h3 with h3 | h3
            · omega
            · exact .heard hs ha hl h3
          · rw [if_neg hl] at hj
            rw [← hj]
            exact .quiet hs ha (by omega)
        · exact hI.sound i m hi hm
      · exact (at2_setS hr (by omega) 0 0).2 (.inr hI.base)
      · have := cntF_put hr hfalse
        omega
    · exact .inl rfl
theorem LeadI.done {w : List Int} {M : List (List Bool)} (h : LeadI ars lb w n M) (hc : ∀ x ∈ prs ars (w.length + 1), leadF lb w (M, false) x = (M, false)) {k m : Nat} (hk : k < w.length + 1) : at2 M k m = some true ↔ Told ars lb w k (m : Int) := by
  refine ⟨h.sound k m hk, fun hT => ?_⟩
  have mem : ∀ a ∈ ars, ∀ k, k < w.length + 1 → (a, k) ∈ prs ars (w.length + 1) := fun a ha k hk => by
    unfold prs
    exact List.mem_flatMap.2 ⟨a, ha, List.mem_map.2 ⟨k, by simpa using hk, rfl⟩⟩
  have stp : ∀ a ∈ ars, ∀ k, k < w.length + 1 → at2 M k a.from_.toNat = some true → toK lb a k < w.length + 1 → (lb a.tran = 0 ∨ w[k]? = some (lb a.tran)) → at2 M (toK lb a k) a.to_.toNat = some true := fun a ha k hk h1 h2 h3 => by
    apply Classical.byContradiction
    intro h4
    have := hc _ (mem a ha k hk)
    unfold leadF at this
    rw [if_pos ⟨h1, h2, h3, h4⟩] at this
    injection this with _ this
    cases this
  have key : ∀ (k : Nat) (x : Int), Told ars lb w k x → k < w.length + 1 → at2 M k x.toNat = some true := fun k x hT => by
    induction hT with
    | start => exact fun _ => h.base
    | @quiet k a hT ha hl ih =>
      intro hk
      have e : toK lb a k = k := by unfold toK; rw [if_neg (by omega)]
      have := stp a ha k hk (ih hk) (by rw [e]; exact hk) (.inl hl)
      rwa [e] at this
    | @heard k a hT ha hl hw ih =>
      intro hk
      have e : toK lb a k = k + 1 := by unfold toK; rw [if_pos hl]
      have := stp a ha k (by omega) (ih (by omega)) (by rw [e]; exact hk) (.inr hw)
      rwa [e] at this
  have := key k m hT hk
  simpa using this
end
end Go.Proofs.Ytnfppolgaeibeaa
