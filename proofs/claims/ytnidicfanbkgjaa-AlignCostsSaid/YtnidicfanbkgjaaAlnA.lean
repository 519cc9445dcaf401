/- The plain law of alignments: ways that cost least, found spot by spot. No program in sight. | What the main loop of Align keeps, and the way back: the plain law. No program in sight. | The plain law of the reference's costs: round by round. No program in sight. -/
import Derived.Test.YtnidicfanbkgjaaTongA
namespace Go.Proofs.Ytnidicfanbkgjaa

abbrev Sp := Int × Int
/-- One goes from u to v at cost c. -/
def Ed (ars : List PArc) (lb : Int → Int) (tr : List Int) (u v : Sp) (c : Int) : Prop :=
  (u.1 < (tr.length : Int) ∧ v = (u.1 + 1, u.2) ∧ c = 1) ∨
  (∃ a ∈ ars, a.from_ = u.2 ∧ v = (u.1, a.to_) ∧ c = min (lb a.tran) 1) ∨
  (∃ a ∈ ars, a.from_ = u.2 ∧ u.1 < (tr.length : Int) ∧ 0 < lb a.tran ∧ tr[u.1.toNat]? = some (lb a.tran) ∧ v = (u.1 + 1, a.to_) ∧ c = 0)
inductive Wk (E : Sp → Sp → Int → Prop) : Sp → Int → Prop
  | nil : Wk E (0, 0) 0
  | step {u v : Sp} {c d : Int} : Wk E u c → E u v d → Wk E v (c + d)
def IsMin (E : Sp → Sp → Int → Prop) (g : Sp) (c : Int) : Prop := Wk E g c ∧ ∀ c', Wk E g c' → c ≤ c'
theorem IsMin.uniq {E : Sp → Sp → Int → Prop} {g : Sp} {c d : Int} (h : IsMin E g c) (h' : IsMin E g d) : c = d := by
  have := h.2 _ h'.1
  have := h'.2 _ h.1
  omega
/-- Where the spots are. -/
def InU (L n : Nat) (v : Sp) : Prop := (0 ≤ v.1 ∧ v.1 ≤ (L : Int)) ∧ 0 ≤ v.2 ∧ v.2 < (n : Int)
section
variable {ars : List PArc} {lb : Int → Int} {tr : List Int} {n : Nat}
theorem Ed.low (hlb : ∀ a ∈ ars, 0 ≤ lb a.tran) {u v : Sp} {c : Int} (h : Ed ars lb tr u v c) : 0 ≤ c ∧ c ≤ 1 := by
  rcases h with ⟨_, _, rfl⟩ | ⟨a, ha, _, _, rfl⟩ | ⟨a, _, _, _, _, _, _, rfl⟩
  · omega
  · have := hlb a ha
    omega
  · omega
theorem Ed.inU (ht : ∀ a ∈ ars, Inn n a.to_) {u v : Sp} {c : Int} (hu : InU tr.length n u) (h : Ed ars lb tr u v c) : InU tr.length n v := by
  obtain ⟨⟨h1, h2⟩, h3, h4⟩ := hu
  rcases h with ⟨hl, rfl, _⟩ | ⟨a, ha, _, rfl, _⟩ | ⟨a, ha, _, hl, _, _, rfl, _⟩
  · exact ⟨⟨by simp only; omega, by simp only; omega⟩, h3, h4⟩
  · exact ⟨⟨h1, h2⟩, (ht a ha).1, (ht a ha).2⟩
  · exact ⟨⟨by simp only; omega, by simp only; omega⟩, (ht a ha).1, (ht a ha).2⟩
theorem Wk.low {E : Sp → Sp → Int → Prop} (hE : ∀ u v c, E u v c → 0 ≤ c) {v : Sp} {c : Int} (h : Wk E v c) : 0 ≤ c := by
  induction h with
  | nil => omega
  | step _ e ih => have := hE _ _ _ e; omega
end

/-! ### the way of the program -/
structure PStp where
  cost : Int
  from_ : Sp
  kind : Int
  label : Int
  tran : Int
  done : Bool
abbrev SpM := Sp → Option PStp
def updM (f : SpM) (v : Sp) (x : PStp) : SpM := fun z => if z = v then some x else f z
def offerM (f : SpM) (v : Sp) (x : PStp) : SpM := match f v with
  | none => updM f v x
  | some y => if x.cost < y.cost then updM f v x else f
theorem updM_same (f : SpM) (v : Sp) (x : PStp) : updM f v x v = some x := by simp [updM]
theorem updM_ne {f : SpM} {v z : Sp} {x : PStp} (h : z ≠ v) : updM f v x z = f z := by simp [updM, h]
/-- At the head of each round. -/
structure DI (E : Sp → Sp → Int → Prop) (U : Sp → Prop) (f : SpM) (dn : List Sp) : Prop where
  s0 : ∃ x, f (0, 0) = some x ∧ x.cost = 0
  snd : ∀ v x, f v = some x → Wk E v x.cost ∧ U v
  rel : ∀ u x, f u = some x → x.done = true → ∀ v d, E u v d → ∃ y, f v = some y ∧ y.cost ≤ x.cost + d
  ord : ∀ u x v y, f u = some x → x.done = true → f v = some y → y.done = false → x.cost ≤ y.cost
  dnI : ∀ v, v ∈ dn ↔ ∃ x, f v = some x ∧ x.done = true
  nodup : dn.Nodup
  frm : ∀ v x, f v = some x → v ≠ (0, 0) → x.from_ ∈ dn ∧ ∀ p q, dn = p ++ v :: q → x.from_ ∈ q
/-- While one goes on from spot at; R has what was offered. -/
structure DL (E : Sp → Sp → Int → Prop) (U : Sp → Prop) (f : SpM) (dn : List Sp) (at_ : Sp) (c : Int) (R : Sp → Int → Prop) : Prop where
  s0 : ∃ x, f (0, 0) = some x ∧ x.cost = 0
  snd : ∀ v x, f v = some x → Wk E v x.cost ∧ U v
  rel : ∀ u x, f u = some x → x.done = true → u ≠ at_ → ∀ v d, E u v d → ∃ y, f v = some y ∧ y.cost ≤ x.cost + d
  now : ∃ x, f at_ = some x ∧ x.done = true ∧ x.cost = c
  off : ∀ v d, R v d → ∃ y, f v = some y ∧ y.cost ≤ c + d
  le : ∀ u x, f u = some x → x.done = true → x.cost ≤ c
  ge : ∀ v y, f v = some y → y.done = false → c ≤ y.cost
  dnI : ∀ v, v ∈ dn ↔ ∃ x, f v = some x ∧ x.done = true
  nodup : dn.Nodup
  frm : ∀ v x, f v = some x → v ≠ (0, 0) → x.from_ ∈ dn ∧ ∀ p q, dn = p ++ v :: q → x.from_ ∈ q
def startM : SpM := updM (fun _ => none) (0, 0) ⟨0, (0, 0), 0, 0, 0, false⟩
section
variable {E : Sp → Sp → Int → Prop} {U : Sp → Prop} {f : SpM} {dn : List Sp} {at_ : Sp} {c : Int} {R : Sp → Int → Prop}
theorem DI.start (hU : U (0, 0)) : DI E U startM [] := by
  have key : ∀ v x, startM v = some x → v = (0, 0) ∧ x = ⟨0, (0, 0), 0, 0, 0, false⟩ := fun v x h => by
    unfold startM updM at h
    split at h
    · rename_i e
      injection h with h
      exact ⟨e, h.symm⟩
    · cases h
  refine ⟨⟨_, updM_same _ _ _, rfl⟩, fun v x h => ?_, fun u x h hd => ?_, fun u x v y h hd => ?_, fun v => ?_, List.nodup_nil, fun v x h hne => ?_⟩
  · obtain ⟨rfl, rfl⟩ := key v x h
    exact ⟨.nil, hU⟩
  · obtain ⟨rfl, rfl⟩ := key u x h
    cases hd
  · obtain ⟨rfl, rfl⟩ := key u x h
    cases hd
  · constructor
    · intro h; cases h
    · rintro ⟨x, h, hd⟩
      obtain ⟨rfl, rfl⟩ := key v x h
      cases hd
  · exact absurd (key v x h).1 hne
/-- The nearest one is done now. -/
theorem DI.pop (h : DI E U f dn) {x : PStp} (hx : f at_ = some x) (hd : x.done = false) (hmin : ∀ v y, f v = some y → y.done = false → x.cost ≤ y.cost) : DL E U (updM f at_ { x with done := true }) (at_ :: dn) at_ x.cost (fun _ _ => False) := by
  have hnot : at_ ∉ dn := fun hm => by
    obtain ⟨y, h1, h2⟩ := (h.dnI at_).1 hm
    rw [hx] at h1
    injection h1 with h1
    subst h1
    rw [hd] at h2
    cases h2
  have key : ∀ v y, updM f at_ { x with done := true } v = some y → (v = at_ ∧ y = { x with done := true }) ∨ (v ≠ at_ ∧ f v = some y) := fun v y hv => by
    unfold updM at hv
    split at hv
    · rename_i e
      injection hv with hv
      exact .inl ⟨e, hv.symm⟩
    · rename_i e
      exact .inr ⟨e, hv⟩
  have low : ∀ v y, f v = some y → ∃ y', updM f at_ { x with done := true } v = some y' ∧ y'.cost = y.cost := fun v y hv => by
    by_cases e : v = at_
    · subst e
      rw [hx] at hv
      injection hv with hv
      subst hv
      exact ⟨_, updM_same _ _ _, rfl⟩
    · exact ⟨y, by rw [updM_ne e]; exact hv, rfl⟩
  refine ⟨?_, fun v y hv => ?_, fun u y hu hyd hne v d he => ?_, ⟨_, updM_same _ _ _, rfl, rfl⟩, fun v d hR => hR.elim, fun u y hu hyd => ?_, fun v y hv hyd => ?_, fun v => ?_, List.nodup_cons.2 ⟨hnot, h.nodup⟩, fun v y hv hne => ?_⟩
  · obtain ⟨y, h1, h2⟩ := h.s0
    obtain ⟨y', h3, h4⟩ := low _ _ h1
    exact ⟨y', h3, h4.trans h2⟩
  · rcases key v y hv with ⟨rfl, rfl⟩ | ⟨_, hv⟩
    · exact h.snd v x hx
    · exact h.snd _ _ hv
  · rcases key u y hu with ⟨rfl, _⟩ | ⟨_, hu⟩
    · exact absurd rfl hne
    · obtain ⟨z, h1, h2⟩ := h.rel u y hu hyd v d he
      obtain ⟨z', h3, h4⟩ := low _ _ h1
      exact ⟨z', h3, by omega⟩
  · rcases key u y hu with ⟨_, rfl⟩ | ⟨_, hu⟩
    · exact Int.le_refl _
    · exact h.ord u y at_ x hu hyd hx hd
  · rcases key v y hv with ⟨_, rfl⟩ | ⟨_, hv⟩
    · cases hyd
    · exact hmin v y hv hyd
  · rw [List.mem_cons, h.dnI]
    constructor
    · rintro (rfl | ⟨y, h1, h2⟩)
      · exact ⟨_, updM_same _ _ _, rfl⟩
      · have hne : v ≠ at_ := fun e => by
          subst e
          exact hnot ((h.dnI v).2 ⟨y, h1, h2⟩)
        exact ⟨y, by rw [updM_ne hne]; exact h1, h2⟩
    · rintro ⟨y, h1, h2⟩
      rcases key v y h1 with ⟨e, _⟩ | ⟨_, h1⟩
      · exact .inl e
      · exact .inr ⟨y, h1, h2⟩
  · have hf : ∃ z, f v = some z ∧ z.from_ = y.from_ := by
      rcases key v y hv with ⟨rfl, rfl⟩ | ⟨_, hv⟩
      · exact ⟨x, hx, rfl⟩
      · exact ⟨y, hv, rfl⟩
    obtain ⟨z, hz, ez⟩ := hf
    obtain ⟨g1, g2⟩ := h.frm v z hz hne
    rw [ez] at g1 g2
    refine ⟨List.mem_cons.2 (.inr g1), fun p q e => ?_⟩
    cases p with
    | nil =>
      simp only [List.nil_append, List.cons.injEq] at e
      rw [← e.2]; exact g1
    | cons a p =>
      simp only [List.cons_append, List.cons.injEq] at e
      exact g2 p q e.2
theorem offerM_at (f : SpM) (v : Sp) (x : PStp) : (offerM f v x = f ∧ ∃ y, f v = some y ∧ y.cost ≤ x.cost) ∨ (offerM f v x = updM f v x ∧ ∀ y, f v = some y → x.cost < y.cost) := by
  unfold offerM
  cases h : f v with
  | none => exact .inr ⟨rfl, fun y hy => by cases hy⟩
  | some y =>
    simp only
    split
    · rename_i hl
      exact .inr ⟨rfl, fun z hz => by injection hz with hz; subst hz; exact hl⟩
    · rename_i hl
      exact .inl ⟨rfl, y, rfl, by omega⟩
theorem DL.offer (h : DL E U f dn at_ c R) (hE : ∀ u v c, E u v c → 0 ≤ c) (hU : ∀ u v c, U u → E u v c → U v) {v : Sp} {d : Int} (he : E at_ v d) {x : PStp} (hc : x.cost = c + d) (hf : x.from_ = at_) (hd : x.done = false) :
    DL E U (offerM f v x) dn at_ c (fun z e => R z e ∨ (z = v ∧ e = d)) := by
  have hd0 := hE _ _ _ he
  obtain ⟨xa, ha, hda, hca⟩ := h.now
  rcases offerM_at f v x with ⟨e, y, hy, hle⟩ | ⟨e, hlt⟩
  · rw [e]
    exact ⟨h.s0, h.snd, h.rel, h.now, fun z d' hR => by
      rcases hR with hR | ⟨rfl, rfl⟩
      · exact h.off z d' hR
      · exact ⟨y, hy, by omega⟩, h.le, h.ge, h.dnI, h.nodup, h.frm⟩
  · rw [e]
    have hnd : ∀ y, f v = some y → y.done = false := fun y hy => by
      cases hyd : y.done
      · rfl
      · have := h.le v y hy hyd
        have := hlt y hy
        omega
    have hva : at_ ≠ v := fun e => by
      subst e
      have := hnd xa ha
      rw [hda] at this
      cases this
    have hvd : v ∉ dn := fun hm => by
      obtain ⟨y, h1, h2⟩ := (h.dnI v).1 hm
      rw [hnd y h1] at h2
      cases h2
    have key : ∀ z y, updM f v x z = some y → (z = v ∧ y = x) ∨ (z ≠ v ∧ f z = some y) := fun z y hz => by
      unfold updM at hz
      split at hz
      · rename_i e
        injection hz with hz
        exact .inl ⟨e, hz.symm⟩
      · rename_i e
        exact .inr ⟨e, hz⟩
    have low : ∀ z y, f z = some y → ∃ y', updM f v x z = some y' ∧ y'.cost ≤ y.cost := fun z y hz => by
      by_cases e : z = v
      · subst e
        exact ⟨x, updM_same _ _ _, by have := hlt y hz; omega⟩
      · exact ⟨y, by rw [updM_ne e]; exact hz, Int.le_refl _⟩
    refine ⟨?_, fun z y hz => ?_, fun u y hu hyd hne z d' he' => ?_, ⟨xa, by rw [updM_ne hva]; exact ha, hda, hca⟩, fun z d' hR => ?_, fun u y hu hyd => ?_, fun z y hz hyd => ?_, fun z => ?_, h.nodup, fun z y hz hne => ?_⟩
    · obtain ⟨y, h1, h2⟩ := h.s0
      have hne : ((0, 0) : Sp) ≠ v := fun e => by
        have := hlt y (by rw [← e]; exact h1)
        have := Wk.low hE (h.snd _ _ ha).1
        omega
      exact ⟨y, by rw [updM_ne hne]; exact h1, h2⟩
    · rcases key z y hz with ⟨rfl, rfl⟩ | ⟨_, hz⟩
      · rw [hc, ← hca]
        exact ⟨.step (h.snd _ _ ha).1 he, hU _ _ _ (h.snd _ _ ha).2 he⟩
      · exact h.snd _ _ hz
    · rcases key u y hu with ⟨rfl, rfl⟩ | ⟨_, hu⟩
      · rw [hd] at hyd; cases hyd
      · obtain ⟨y1, g1, g2⟩ := h.rel u y hu hyd hne z d' he'
        obtain ⟨y2, g3, g4⟩ := low _ _ g1
        exact ⟨y2, g3, by omega⟩
    · rcases hR with hR | ⟨rfl, rfl⟩
      · obtain ⟨y1, g1, g2⟩ := h.off z d' hR
        obtain ⟨y2, g3, g4⟩ := low _ _ g1
        exact ⟨y2, g3, by omega⟩
      · exact ⟨x, updM_same _ _ _, by omega⟩
    · rcases key u y hu with ⟨rfl, rfl⟩ | ⟨_, hu⟩
      · rw [hd] at hyd; cases hyd
      · exact h.le u y hu hyd
    · rcases key z y hz with ⟨rfl, rfl⟩ | ⟨_, hz⟩
      · omega
      · exact h.ge z y hz hyd
    · rw [h.dnI]
      constructor
      · rintro ⟨y, h1, h2⟩
        have hne : z ≠ v := fun e => by
          subst e
          rw [hnd y h1] at h2
          cases h2
        exact ⟨y, by rw [updM_ne hne]; exact h1, h2⟩
      · rintro ⟨y, h1, h2⟩
        rcases key z y h1 with ⟨_, rfl⟩ | ⟨_, h1⟩
        · rw [hd] at h2; cases h2
        · exact ⟨y, h1, h2⟩
    · rcases key z y hz with ⟨rfl, rfl⟩ | ⟨_, hz⟩
      · rw [hf]
        refine ⟨(h.dnI at_).2 ⟨xa, ha, hda⟩, fun p q e => absurd ?_ hvd⟩
        rw [e]; simp
      · exact h.frm z y hz hne
theorem DL.fin (h : DL E U f dn at_ c R) (hR : ∀ v d, E at_ v d → R v d) : DI E U f dn := by
  obtain ⟨xa, ha, hda, hca⟩ := h.now
  refine ⟨h.s0, h.snd, fun u x hu hd v d he => ?_, fun u x v y hu hd hv hy => by have := h.le u x hu hd; have := h.ge v y hv hy; omega, h.dnI, h.nodup, h.frm⟩
  by_cases e : u = at_
  · subst e
    rw [ha] at hu
    injection hu with hu
    subst hu
    rw [hca]
    exact h.off v d (hR v d he)
  · exact h.rel u x hu hd e v d he
theorem DL.imp (h : DL E U f dn at_ c R) {R' : Sp → Int → Prop} (hR : ∀ v d, R' v d → R v d) : DL E U f dn at_ c R' :=
  ⟨h.s0, h.snd, h.rel, h.now, fun v d hr => h.off v d (hR v d hr), h.le, h.ge, h.dnI, h.nodup, h.frm⟩
theorem DI.front (h : DI E U f dn) (hE : ∀ u v c, E u v c → 0 ≤ c) {v : Sp} {c : Int} (hw : Wk E v c) : (∃ x, f v = some x ∧ x.done = true ∧ x.cost ≤ c) ∨ ∃ u x, f u = some x ∧ x.done = false ∧ x.cost ≤ c := by
  have fin : ∀ (v : Sp) (c : Int) (y : PStp), f v = some y → y.cost ≤ c → (∃ x, f v = some x ∧ x.done = true ∧ x.cost ≤ c) ∨ ∃ u x, f u = some x ∧ x.done = false ∧ x.cost ≤ c := fun v c y hy hc => by
    cases hd : y.done
    · exact .inr ⟨v, y, hy, hd, hc⟩
    · exact .inl ⟨y, hy, hd, hc⟩
  induction hw with
  | nil =>
    obtain ⟨x, h1, h2⟩ := h.s0
    exact fin _ _ x h1 (by omega)
  | step hw he ih =>
    have h0 := hE _ _ _ he
    rcases ih with ⟨x, h1, h2, h3⟩ | ⟨u, x, h1, h2, h3⟩
    · obtain ⟨y, g1, g2⟩ := h.rel _ _ h1 h2 _ _ he
      exact fin _ _ y g1 (by omega)
    · exact .inr ⟨u, x, h1, h2, by omega⟩
/-- Nothing is left: then the goal is done. -/
theorem DI.none_left (h : DI E U f dn) (hE : ∀ u v c, E u v c → 0 ≤ c) {g : Sp} {c : Int} (hw : Wk E g c) (hg : g ∉ dn) : ∃ u x, f u = some x ∧ x.done = false := by
  rcases h.front hE hw with ⟨x, h1, h2, _⟩ | ⟨u, x, h1, h2, _⟩
  · exact absurd ((h.dnI g).2 ⟨x, h1, h2⟩) hg
  · exact ⟨u, x, h1, h2⟩
/-- The goal is the nearest one. -/
theorem DI.goal (h : DI E U f dn) (hE : ∀ u v c, E u v c → 0 ≤ c) {g : Sp} {x : PStp} (hx : f g = some x) (hd : x.done = false) (hmin : ∀ v y, f v = some y → y.done = false → x.cost ≤ y.cost) : IsMin E g x.cost := by
  refine ⟨(h.snd _ _ hx).1, fun c' hw => ?_⟩
  rcases h.front hE hw with ⟨y, h1, h2, h3⟩ | ⟨u, y, h1, h2, h3⟩
  · rw [hx] at h1
    injection h1 with h1
    subst h1
    rw [hd] at h2
    cases h2
  · have := hmin u y h1 h2
    omega
end

/-! ### how long it takes -/
def univ (L n : Nat) : List Sp := (List.range (L + 1)).flatMap fun k : Nat => (List.range n).map fun m : Nat => ((k : Int), (m : Int))
theorem mem_univ {L n : Nat} {v : Sp} (h : InU L n v) : v ∈ univ L n := by
  obtain ⟨⟨h1, h2⟩, h3, h4⟩ := h
  unfold univ
  rw [List.mem_flatMap]
  refine ⟨v.1.toNat, List.mem_range.2 (by omega), List.mem_map.2 ⟨v.2.toNat, List.mem_range.2 (by omega), ?_⟩⟩
  exact Prod.ext (by simp only; omega) (by simp only; omega)
theorem univ_len (L n : Nat) : (univ L n).length = (L + 1) * n := by
  have key : ∀ l : List Nat, (l.map fun _ => n).sum = l.length * n := fun l => by
    induction l with
    | nil => simp
    | cons a l ih => simp [ih, Nat.add_mul, Nat.add_comm]
  unfold univ
  rw [List.length_flatMap]
  simp only [List.length_map, List.length_range]
  rw [key, List.length_range]
def remU (L n : Nat) (dn : List Sp) : Nat := ((univ L n).filter fun v => !dn.contains v).length
theorem remU_nil (L n : Nat) : remU L n [] = (L + 1) * n := by
  unfold remU
  rw [List.filter_eq_self.2 (fun v _ => by simp), univ_len]
theorem remU_cons {L n : Nat} {dn : List Sp} {v : Sp} (h : InU L n v) (hv : v ∉ dn) : remU L n (v :: dn) < remU L n dn := by
  unfold remU
  refine filter_ltS _ (fun x _ hx => ?_) ⟨v, mem_univ h, by simpa using hv, by simp⟩
  simp only [Bool.not_eq_true', List.contains_eq_mem, decide_eq_false_iff_not, List.mem_cons, not_or] at hx ⊢
  exact hx.2

/-! ### the way back -/
/-- From spot v one comes back over those behind it in dn. -/
def Back (dn : List Sp) (v : Sp) (q : List Sp) : Prop := ∃ p, dn = p ++ v :: q
theorem Back.next {E : Sp → Sp → Int → Prop} {U : Sp → Prop} {f : SpM} {dn q : List Sp} {v : Sp} {at_ : Sp} {c : Int} {R : Sp → Int → Prop} (h : DL E U f dn at_ c R) (hb : Back dn v q) (hv : v ≠ (0, 0)) : ∃ x, f v = some x ∧ ∃ q', Back dn x.from_ q' ∧ q'.length < q.length := by
  obtain ⟨p, e⟩ := hb
  obtain ⟨x, hx, _⟩ := (h.dnI v).1 (by rw [e]; simp)
  refine ⟨x, hx, ?_⟩
  have hm := (h.frm v x hx hv).2 p q e
  obtain ⟨a, b, e2⟩ := List.append_of_mem hm
  refine ⟨b, ⟨p ++ v :: a, by rw [e, e2]; simp⟩, ?_⟩
  rw [e2]
  simp
  omega
end Go.Proofs.Ytnidicfanbkgjaa
namespace Go.Proofs.Ytnidicfanbkgjaa

section
variable {E : Sp → Sp → Int → Prop} {L n : Nat} {g : Sp} {f : SpM} {dn : List Sp} {q : Nat}
/-- At the head of a round: what is done, what it cost, how often the map was written. -/
structure AlI (E : Sp → Sp → Int → Prop) (L n : Nat) (g : Sp) (f : SpM) (dn : List Sp) (q : Nat) : Prop where
  di : DI E (InU L n) f dn
  ng : g ∉ dn
  cost : ∀ v x, f v = some x → x.cost ≤ (dn.length : Int)
  len : dn.length + remU L n dn ≤ 18300
  wr : q ≤ 1 + 20000 * dn.length
theorem AlI.start (hn : 0 < n) (hn3 : n ≤ 300) (hL : L ≤ 60) (hg : g ∉ ([] : List Sp)) : AlI E L n g startM [] 1 := by
  refine ⟨DI.start ⟨⟨by simp, by simp⟩, by simp, by simp only; omega⟩, hg, fun v x h => ?_, ?_, by simp⟩
  · unfold startM updM at h
    split at h
    · injection h with h
      subst h
      simp
    · cases h
  · rw [remU_nil]
    have : (L + 1) * n ≤ 61 * 300 := Nat.mul_le_mul (by omega) hn3
    simpa using this
/-- The nearest spot is done now. -/
structure AlP (E : Sp → Sp → Int → Prop) (L n : Nat) (g : Sp) (f : SpM) (dn : List Sp) (at_ : Sp) (c : Int) (q r : Nat) : Prop where
  dl : DL E (InU L n) f dn at_ c (fun _ _ => False)
  cost : ∀ v x, f v = some x → x.cost ≤ (dn.length : Int)
  c0 : 0 ≤ c ∧ c + 1 ≤ (dn.length : Int) ∧ c ≤ 1000000
  len : dn.length + remU L n dn ≤ 18300
  less : remU L n dn < r
  wr : q + 14401 ≤ 1 + 20000 * dn.length
  few : q ≤ 900000000
  ng : g = at_ ∨ g ∉ dn
  inU : InU L n at_
  head : ∃ dn', dn = at_ :: dn'
theorem AlI.pop (h : AlI E L n g f dn q) (hE : ∀ u v c, E u v c → 0 ≤ c) {at_ : Sp} {x : PStp} (hx : f at_ = some x) (hd : x.done = false) (hmin : ∀ v y, f v = some y → y.done = false → x.cost ≤ y.cost) :
    AlP E L n g (updM f at_ { x with done := true }) (at_ :: dn) at_ x.cost (q + 1) (remU L n dn) := by
  have hnot : at_ ∉ dn := fun hm => by
    obtain ⟨y, h1, h2⟩ := (h.di.dnI at_).1 hm
    rw [hx] at h1
    injection h1 with h1
    subst h1
    rw [hd] at h2
    cases h2
  have hin := (h.di.snd _ _ hx).2
  have hlow := Wk.low hE (h.di.snd _ _ hx).1
  have hc := h.cost _ _ hx
  have hr := remU_cons hin hnot
  have hl := h.len
  have hw := h.wr
  refine ⟨h.di.pop hx hd hmin, fun v y hv => ?_, ⟨hlow, by simp only [List.length_cons]; omega, by omega⟩, by simp only [List.length_cons]; omega, hr, by simp only [List.length_cons]; omega, by omega, ?_, hin, dn, rfl⟩
  · unfold updM at hv
    split at hv
    · injection hv with hv
      subst hv
      simp only [List.length_cons]
      omega
    · have := h.cost _ _ hv
      simp only [List.length_cons]
      omega
  · by_cases e : g = at_
    · exact .inl e
    · refine .inr (fun hm => ?_)
      rcases List.mem_cons.1 hm with hm | hm
      · exact e hm
      · exact h.ng hm
theorem AlP.next {at_ : Sp} {c : Int} {q r q' : Nat} {f' : SpM} {R : Sp → Int → Prop} (h : AlP E L n g f dn at_ c q r) (hne : g ≠ at_) (D : DL E (InU L n) f' dn at_ c R) (hR : ∀ v d, E at_ v d → R v d) (hq : q' ≤ q + 14401) (hc : ∀ v x, f' v = some x → x.cost ≤ (dn.length : Int)) : AlI E L n g f' dn q' :=
  ⟨D.fin hR, h.ng.resolve_left hne, hc, h.len, by have := h.wr; omega⟩
/-- On the way back: we are at v, moves were taken, the rest of the way is q. -/
structure AlB (E : Sp → Sp → Int → Prop) (L n : Nat) (f : SpM) (dn : List Sp) (v : Sp) (k r : Nat) : Prop where
  isIn : ∃ x, f v = some x
  rest : ∃ q, Back dn v q ∧ q.length = r
  few : k + r ≤ 18300
theorem AlP.back {at_ : Sp} {c : Int} {q r : Nat} (h : AlP E L n g f dn at_ c q r) : ∃ s, AlB E L n f dn at_ 0 s := by
  obtain ⟨dn', e⟩ := h.head
  obtain ⟨x, hx, _⟩ := h.dl.now
  refine ⟨dn'.length, ⟨x, hx⟩, ⟨dn', ⟨[], by simp [e]⟩, rfl⟩, ?_⟩
  have := h.len
  rw [e] at this
  simp only [List.length_cons] at this
  omega
theorem AlP.back_next {at_ : Sp} {c : Int} {q r : Nat} (h : AlP E L n g f dn at_ c q r) {v : Sp} {k s : Nat} (hb : AlB E L n f dn v k s) (hv : v ≠ (0, 0)) : ∃ x, f v = some x ∧ ∃ s', s' < s ∧ AlB E L n f dn x.from_ (k + 1) s' := by
  obtain ⟨qq, hq, rfl⟩ := hb.rest
  obtain ⟨x, hx, q', hq', hlt⟩ := hq.next h.dl hv
  refine ⟨x, hx, q'.length, hlt, ?_, ⟨q', hq', rfl⟩, by have := hb.few; omega⟩
  obtain ⟨p, e⟩ := hq'
  obtain ⟨y, hy, _⟩ := (h.dl.dnI x.from_).1 (by rw [e]; simp)
  exact ⟨y, hy⟩
theorem AlP.cost_at {at_ : Sp} {c : Int} {q r : Nat} (h : AlP E L n g f dn at_ c q r) : ∃ x, f at_ = some x ∧ x.cost = c := by
  obtain ⟨x, h1, _, h2⟩ := h.dl.now
  exact ⟨x, h1, h2⟩
end
end Go.Proofs.Ytnidicfanbkgjaa
namespace Go.Proofs.Ytnidicfanbkgjaa

def far : Int := 1073741824
def atT (T : List (List Int)) (k m : Nat) : Int := (((T[k]?).getD [])[m]?).getD 0
def setT (T : List (List Int)) (k m : Nat) (c : Int) : List (List Int) := T.set k (((T[k]?).getD []).set m c)
def betT (p : List (List Int) × Bool) (k m : Nat) (c : Int) : List (List Int) × Bool := if c < atT p.1 k m then (setT p.1 k m c, true) else p
structure PRel where
  k : Nat
  m : Nat
  k' : Nat
  m' : Nat
  d : Int
def relE (p : List (List Int) × Bool) (e : PRel) : List (List Int) × Bool := betT p e.k' e.m' (atT p.1 e.k e.m + e.d)
def hears (lb : Int → Int) (tr : List Int) (k : Nat) (a : PArc) : Bool := decide (k < tr.length) && decide (0 < lb a.tran) && decide (tr[k]? = some (lb a.tran))
def edA (lb : Int → Int) (tr : List Int) (k : Nat) (a : PArc) : List PRel :=
  ⟨k, a.from_.toNat, k, a.to_.toNat, min (lb a.tran) 1⟩ :: if hears lb tr k a = true then [⟨k, a.from_.toNat, k + 1, a.to_.toNat, 0⟩] else []
def edM (tr : List Int) (k m : Nat) : List PRel := if k < tr.length then [⟨k, m, k + 1, m, 1⟩] else []
def edK (ars : List PArc) (lb : Int → Int) (tr : List Int) (n k : Nat) : List PRel := (ars.flatMap (edA lb tr k)) ++ (List.range n).flatMap (edM tr k)
def edAll (ars : List PArc) (lb : Int → Int) (tr : List Int) (n : Nat) : List PRel := (List.range (tr.length + 1)).flatMap (edK ars lb tr n)

/-! ### sums -/
theorem sum_set : ∀ (l : List Nat) (i x y : Nat), l[i]? = some x → (l.set i y).sum + x = l.sum + y
  | [], i, x, y, h => by simp at h
  | a :: l, 0, x, y, h => by
    simp only [List.getElem?_cons_zero, Option.some.injEq] at h
    subst h
    simp only [List.set_cons_zero, List.sum_cons]
    omega
  | a :: l, i + 1, x, y, h => by
    simp only [List.getElem?_cons_succ] at h
    have := sum_set l i x y h
    simp only [List.set_cons_succ, List.sum_cons]
    omega
def sumR (r : List Int) : Nat := (r.map Int.toNat).sum
def sumT (T : List (List Int)) : Nat := (T.map sumR).sum
theorem sumR_set {r : List Int} {i : Nat} {x y : Int} (h : r[i]? = some x) : sumR (r.set i y) + x.toNat = sumR r + y.toNat := by
  unfold sumR
  rw [List.map_set]
  exact sum_set _ i _ _ (by rw [List.getElem?_map, h]; rfl)
theorem atT_eq {T : List (List Int)} {k m : Nat} {r : List Int} {x : Int} (hr : T[k]? = some r) (hx : r[m]? = some x) : atT T k m = x := by
  unfold atT
  rw [hr, Option.getD_some, hx]
  rfl
theorem setT_eq {T : List (List Int)} {k m : Nat} {r : List Int} {c : Int} (hr : T[k]? = some r) : setT T k m c = T.set k (r.set m c) := by
  unfold setT
  rw [hr, Option.getD_some]
theorem sumT_set {T : List (List Int)} {k m : Nat} {r : List Int} {x c : Int} (hr : T[k]? = some r) (hx : r[m]? = some x) (h0 : 0 ≤ c) (hlt : c < x) : sumT (setT T k m c) < sumT T := by
  have h1 := sumR_set (y := c) hx
  have h2 := sum_set (T.map sumR) k (sumR r) (sumR (r.set m c)) (by rw [List.getElem?_map, hr]; rfl)
  rw [setT_eq hr]
  unfold sumT
  rw [List.map_set]
  omega
theorem atT_set {T : List (List Int)} {k m : Nat} {r : List Int} {x c : Int} (hr : T[k]? = some r) (hx : r[m]? = some x) (i j : Nat) : atT (setT T k m c) i j = if i = k ∧ j = m then c else atT T i j := by
  have hk := (List.getElem?_eq_some_iff.1 hr).1
  have hm := (List.getElem?_eq_some_iff.1 hx).1
  rw [setT_eq hr]
  by_cases e : i = k
  · subst e
    have h1 : (T.set i (r.set m c))[i]? = some (r.set m c) := List.getElem?_set_self hk
    by_cases e2 : j = m
    · subst e2
      rw [if_pos ⟨rfl, rfl⟩]
      exact atT_eq h1 (List.getElem?_set_self hm)
    · rw [if_neg (fun h => e2 h.2)]
      unfold atT
      rw [h1, hr, Option.getD_some, Option.getD_some, List.getElem?_set_ne (fun h => e2 h.symm)]
  · rw [if_neg (fun h => e h.1)]
    unfold atT
    rw [List.getElem?_set_ne (fun h => e h.symm)]

/-! ### the table -/
structure CosI (E : Sp → Sp → Int → Prop) (L n : Nat) (T : List (List Int)) : Prop where
  len : T.length = L + 1
  row : ∀ (k : Nat) (r : List Int), T[k]? = some r → r.length = n
  low : ∀ k m : Nat, k < L + 1 → m < n → 0 ≤ atT T k m ∧ atT T k m ≤ far
  sound : ∀ k m : Nat, k < L + 1 → m < n → atT T k m < far → Wk E ((k : Int), (m : Int)) (atT T k m)
  base : atT T 0 0 = 0
theorem CosI.get {E : Sp → Sp → Int → Prop} {L n : Nat} {T : List (List Int)} (h : CosI E L n T) {k m : Nat} (hk : k < L + 1) (hm : m < n) : ∃ r, T[k]? = some r ∧ r.length = n ∧ r[m]? = some (atT T k m) := by
  have hr : T[k]? = some (T[k]'(by rw [h.len]; exact hk)) := List.getElem?_eq_getElem _
  have hl := h.row k _ hr
  have hx := List.getElem?_eq_getElem (l := T[k]'(by rw [h.len]; exact hk)) (i := m) (by rw [hl]; exact hm)
  exact ⟨_, hr, hl, by rw [hx]; exact congrArg some (atT_eq hr hx).symm⟩
/-- An edge of the list is one of the graph. -/
def ERight (E : Sp → Sp → Int → Prop) (L n : Nat) (e : PRel) : Prop := (e.k < L + 1 ∧ e.m < n) ∧ (e.k' < L + 1 ∧ e.m' < n) ∧ 0 ≤ e.d ∧ E ((e.k : Int), (e.m : Int)) ((e.k' : Int), (e.m' : Int)) e.d
theorem CosI.mono {E : Sp → Sp → Int → Prop} {L n : Nat} {l : List PRel} (hl : ∀ e ∈ l, ERight E L n e) : Mono relE l (CosI E L n) sumT where
  step := fun p e he hI => by
    obtain ⟨⟨hk, hm⟩, ⟨hk', hm'⟩, hd, hE⟩ := hl e he
    unfold relE betT
    split
    · rename_i hlt
      obtain ⟨r, hr, hrl, hx⟩ := hI.get hk' hm'
      have l1 := hI.low e.k e.m hk hm
      have l2 := hI.low e.k' e.m' hk' hm'
      refine .inr ⟨by trivial, ⟨?_, fun k q hq => ?_, fun k m hkk hmm => ?_, fun k m hkk hmm hf => ?_, ?_⟩, sumT_set hr hx (by omega) hlt⟩
      · simp only
        rw [setT_eq hr, List.length_set]; exact hI.len
      · simp only at hq
        rw [setT_eq hr, List.getElem?_set] at hq
        split at hq
        · split at hq
          · injection hq with hq; subst hq; simpa using hrl
          · cases hq
        · exact hI.row k q hq
      · simp only
        rw [atT_set hr hx]
        split
        · omega
        · exact hI.low k m hkk hmm
      · simp only at hf ⊢
        rw [atT_set hr hx] at hf ⊢
        split
        · rename_i e2
          obtain ⟨rfl, rfl⟩ := e2
          rw [if_pos ⟨rfl, rfl⟩] at hf
          exact .step (hI.sound e.k e.m hk hm (by omega)) hE
        · rename_i e2
          rw [if_neg e2] at hf
          exact hI.sound k m hkk hmm hf
      · simp only
        rw [atT_set hr hx]
        split
        · rename_i e2
          have := hI.base
          obtain ⟨e3, e4⟩ := e2
          rw [← e3, ← e4, hI.base] at hlt
          omega
        · exact hI.base
    · exact .inl rfl
section
variable {ars : List PArc} {lb : Int → Int} {tr : List Int} {n : Nat}
theorem mem_edAll {e : PRel} : e ∈ edAll ars lb tr n ↔ ∃ k, k < tr.length + 1 ∧ ((∃ a ∈ ars, e ∈ edA lb tr k a) ∨ ∃ m, m < n ∧ e ∈ edM tr k m) := by
  unfold edAll edK
  rw [List.mem_flatMap]
  constructor
  · rintro ⟨k, hk, h⟩
    refine ⟨k, List.mem_range.1 hk, ?_⟩
    rcases List.mem_append.1 h with h | h
    · obtain ⟨a, ha, h⟩ := List.mem_flatMap.1 h
      exact .inl ⟨a, ha, h⟩
    · obtain ⟨m, hm, h⟩ := List.mem_flatMap.1 h
      exact .inr ⟨m, List.mem_range.1 hm, h⟩
  · rintro ⟨k, hk, h⟩
    refine ⟨k, List.mem_range.2 hk, List.mem_append.2 ?_⟩
    rcases h with ⟨a, ha, h⟩ | ⟨m, hm, h⟩
    · exact .inl (List.mem_flatMap.2 ⟨a, ha, h⟩)
    · exact .inr (List.mem_flatMap.2 ⟨m, List.mem_range.2 hm, h⟩)
theorem hears_iff {k : Nat} {a : PArc} : hears lb tr k a = true ↔ k < tr.length ∧ 0 < lb a.tran ∧ tr[k]? = some (lb a.tran) := by
  unfold hears
  rw [Bool.and_eq_true, Bool.and_eq_true, decide_eq_true_eq, decide_eq_true_eq, decide_eq_true_eq, and_assoc]
theorem edAll_right (hf : ∀ a ∈ ars, Inn n a.from_) (ht : ∀ a ∈ ars, Inn n a.to_) (hlb : ∀ a ∈ ars, 0 ≤ lb a.tran) : ∀ e ∈ edAll ars lb tr n, ERight (Ed ars lb tr) tr.length n e := by
  intro e he
  obtain ⟨k, hk, ⟨a, ha, h⟩ | ⟨m, hm, h⟩⟩ := mem_edAll.1 he
  · obtain ⟨f, ef, hfn⟩ := natOf (hf a ha)
    obtain ⟨t, et, htn⟩ := natOf (ht a ha)
    have h0 := hlb a ha
    unfold edA at h
    rcases List.mem_cons.1 h with rfl | h
    · refine ⟨⟨hk, by simp only; omega⟩, ⟨hk, by simp only; omega⟩, by simp only; omega, .inr (.inl ⟨a, ha, ?_, ?_, rfl⟩)⟩
      · simp only; omega
      · simp only [Prod.mk.injEq, true_and]; omega
    · split at h
      · rename_i hh
        obtain ⟨g1, g2, g3⟩ := hears_iff.1 hh
        rw [List.mem_singleton] at h
        subst h
        refine ⟨⟨hk, by simp only; omega⟩, ⟨by simp only; omega, by simp only; omega⟩, by simp only; omega, .inr (.inr ⟨a, ha, ?_, ?_, g2, ?_, ?_, rfl⟩)⟩
        · simp only; omega
        · simp only; omega
        · simpa using g3
        · simp only [Prod.mk.injEq]; omega
      · cases h
  · unfold edM at h
    split at h
    · rename_i hh
      rw [List.mem_singleton] at h
      subst h
      refine ⟨⟨hk, hm⟩, ⟨by simp only; omega, hm⟩, by simp only; omega, .inl ⟨?_, ?_, rfl⟩⟩
      · simp only; omega
      · simp
    · cases h
/-- The edges of the graph are all in the list. -/
theorem edAll_all (ht : ∀ a ∈ ars, Inn n a.to_) {u v : Sp} {c : Int} (hu : InU tr.length n u) (h : Ed ars lb tr u v c) : ∃ k m k' m' : Nat, u = ((k : Int), (m : Int)) ∧ v = ((k' : Int), (m' : Int)) ∧ (⟨k, m, k', m', c⟩ : PRel) ∈ edAll ars lb tr n := by
  obtain ⟨⟨h1, h2⟩, h3, h4⟩ := hu
  obtain ⟨u1, u2⟩ := u
  simp only at h1 h2 h3 h4
  obtain ⟨k, rfl⟩ : ∃ k : Nat, u1 = (k : Int) := ⟨u1.toNat, by omega⟩
  obtain ⟨m, rfl⟩ : ∃ m : Nat, u2 = (m : Int) := ⟨u2.toNat, by omega⟩
  rcases h with ⟨hl, rfl, rfl⟩ | ⟨a, ha, e1, rfl, rfl⟩ | ⟨a, ha, e1, hl, h5, h6, rfl, rfl⟩
  · refine ⟨k, m, k + 1, m, rfl, by simp, mem_edAll.2 ⟨k, by omega, .inr ⟨m, by omega, ?_⟩⟩⟩
    unfold edM
    rw [if_pos (by simp only at hl; omega)]
    simp
  · obtain ⟨t, et, htn⟩ := natOf (ht a ha)
    refine ⟨k, m, k, t, rfl, by simp [et], mem_edAll.2 ⟨k, by omega, .inl ⟨a, ha, ?_⟩⟩⟩
    unfold edA
    simp only at e1
    rw [e1, et]
    simp
  · obtain ⟨t, et, htn⟩ := natOf (ht a ha)
    simp only at hl h6 e1
    refine ⟨k, m, k + 1, t, rfl, by simp [et], mem_edAll.2 ⟨k, by omega, .inl ⟨a, ha, ?_⟩⟩⟩
    unfold edA
    rw [if_pos (hears_iff.2 ⟨by omega, h5, by simpa using h6⟩), e1, et]
    simp
theorem CosI.least (ht : ∀ a ∈ ars, Inn n a.to_) (hn : 0 < n) {T : List (List Int)} (h : CosI (Ed ars lb tr) tr.length n T) (hc : ∀ e ∈ edAll ars lb tr n, relE (T, false) e = (T, false)) {k m : Nat} (hk : k < tr.length + 1) (hm : m < n) {c : Int} (hw : Wk (Ed ars lb tr) ((k : Int), (m : Int)) c) (hcf : c < far) : IsMin (Ed ars lb tr) ((k : Int), (m : Int)) (atT T k m) := by
  have low : ∀ v c, Wk (Ed ars lb tr) v c → InU tr.length n v ∧ atT T v.1.toNat v.2.toNat ≤ c := fun v c hw => by
    induction hw with
    | nil => exact ⟨⟨⟨by simp, by simp⟩, by simp, by simp; omega⟩, by simp only [Int.toNat_zero]; rw [h.base]; exact Int.le_refl _⟩
    | step hw he ih =>
      obtain ⟨i1, i2⟩ := ih
      obtain ⟨k, m, k', m', rfl, rfl, hmem⟩ := edAll_all ht i1 he
      refine ⟨he.inU ht i1, ?_⟩
      have := hc _ hmem
      unfold relE betT at this
      split at this
      · injection this with _ h2
        cases h2
      · rename_i hnl
        simp only [Int.toNat_natCast] at i2 hnl ⊢
        omega
  refine ⟨h.sound k m hk hm ?_, fun c' hw' => ?_⟩
  · have := (low _ _ hw).2
    simp only [Int.toNat_natCast] at this
    omega
  · have := (low _ _ hw').2
    simpa using this
end

/-! ### every mark is reached -/
theorem Wk.along {ars : List PArc} {lb : Int → Int} {tr : List Int} : ∀ k : Nat, k ≤ tr.length → Wk (Ed ars lb tr) ((k : Int), 0) (k : Int)
  | 0, _ => .nil
  | k + 1, h => by
    have := Wk.along (ars := ars) (lb := lb) (tr := tr) k (by omega)
    exact Wk.step this (.inl ⟨by simp only; omega, by simp, rfl⟩)
theorem Wk.marks {N : PNet} {most : Nat} {s : PSp} (h : SpOk N most s) {lb : Int → Int} {tr : List Int} (hlb : ∀ a ∈ s.arcs, 0 ≤ lb a.tran) : ∀ (q m : Nat), m ≤ q → m < s.marks.length → ∃ c, Wk (Ed s.arcs lb tr) ((tr.length : Int), (m : Int)) c ∧ c ≤ (tr.length : Int) + (m : Int) := by
  intro q
  induction q with
  | zero =>
    intro m hm _
    obtain rfl : m = 0 := by omega
    exact ⟨_, Wk.along tr.length (Nat.le_refl _), by omega⟩
  | succ q ih =>
    intro m hm hml
    by_cases h0 : m = 0
    · exact ih m (by omega) hml
    · obtain ⟨j, a, ha, ht, hlt, _⟩ := h.found m (by omega) hml
      have hmem := List.mem_of_getElem? ha
      have hfr := (h.ends a hmem).1
      obtain ⟨f, ef⟩ : ∃ f : Nat, a.from_ = (f : Int) := ⟨a.from_.toNat, by omega⟩
      obtain ⟨c, hw, hc⟩ := ih f (by omega) (by omega)
      have := hlb a hmem
      refine ⟨_, .step hw (.inr (.inl ⟨a, hmem, ef, by rw [ht], rfl⟩)), by omega⟩
end Go.Proofs.Ytnidicfanbkgjaa
