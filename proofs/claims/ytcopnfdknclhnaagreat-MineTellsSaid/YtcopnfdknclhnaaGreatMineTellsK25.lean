/- Texts melted into one: What is found in a log: the plain law. By fuel; what is found onto parts is found with less. No program in sight. | Blocks that a call makes: rows of blocks, appended to; mine's block, silent, step. Conditions: the kids are blocks of the call's own. -/
import Derived.Test.YtcopnfdknclhnaaGreatMineTellsK10
import Derived.Test.YtcopnfdknclhnaaGreatMineTellsK11
import Derived.Test.YtcopnfdknclhnaaGreatMineTellsK12
import Derived.Test.YtcopnfdknclhnaaGreatMineTellsK24
import Derived.Test.YtcopnfdknclhnaaGreatMineTellsK08
import Derived.Test.YtcopnfdknclhnaaGreatMineTellsK22
namespace Go.Proofs.YtcopnfdknclhnaaGreat

def emptyB (t : List Int) : Bool := decide (t.length = 0)
def fullL (log : List (List Int)) : List (List Int) := log.filter fun t => !emptyB t
noncomputable def showL (log : List (List Int)) : PPrints := open Classical in if h : ∃ p, ShowsP log p then Classical.choose h else emptyP
theorem showL_is {log : List (List Int)} {p : PPrints} (h : ShowsP log p) : showL log = p := by
  have he : ∃ p, ShowsP log p := ⟨p, h⟩
  unfold showL
  rw [dif_pos he]
  exact (Classical.choose_spec he).uniq h
def bhB (p : PPrints) (a b : Int) : Bool := p.behind.any fun q => decide ((a, b) = q)
def leadB (p : PPrints) : Int → Int → Bool := leadsP p.labels (bhB p) p.labels
def awayB (p : PPrints) (a b : Int) : Bool := !bhB p a b || !bhB p b a
def meetB (g l : List Int) : Bool := g.any fun a => inS l a
noncomputable def ordG (lds : Int → Int → Bool) (G : List (List Int)) : List (List Int) := open Classical in if h : ∃ M : List (List Int), M.Nodup ∧ M.Pairwise (ltG lds) ∧ ∀ x, x ∈ M ↔ x ∈ G then Classical.choose h else []
theorem ordG_is {lds : Int → Int → Bool} {ls : List Int} {G M : List (List Int)} (hG : IsGr (alikeB lds) ls G) (h1 : M.Nodup) (h2 : M.Pairwise (ltG lds)) (h3 : ∀ x, x ∈ M ↔ x ∈ G) : ordG lds G = M := by
  have he : ∃ M : List (List Int), M.Nodup ∧ M.Pairwise (ltG lds) ∧ ∀ x, x ∈ M ↔ x ∈ G := ⟨M, h1, h2, h3⟩
  unfold ordG
  rw [dif_pos he]
  obtain ⟨g1, g2, g3⟩ := Classical.choose_spec he
  exact order_uniq hG (fun x hx => (g3 x).1 hx) g1 h1 g2 h2 (fun x => (g3 x).trans (h3 x).symm)
def silentB : PBlk := .mk 1 0 []
def stepB (a : Int) : PBlk := .mk 2 a []
noncomputable def partB (rec : List (List Int) → PBlk) (full : List (List Int)) : PBlk :=
  if (showL full).labels.length = 1 then (if full.any (fun t => decide (1 < t.length)) = true then .mk 6 0 [stepB ((showL full).labels.headD 0), silentB] else stepB ((showL full).labels.headD 0))
  else if 2 ≤ (grpL (bhB (showL full)) (showL full).labels).length then .mk 4 0 ((grpL (bhB (showL full)) (showL full).labels).map fun g => rec (full.filter fun t => inS g (t.headD 0)))
  else if 2 ≤ (grpL (alikeB (leadB (showL full))) (showL full).labels).length then .mk 3 0 ((ordG (leadB (showL full)) (grpL (alikeB (leadB (showL full))) (showL full).labels)).map fun g => rec (ontoL full g))
  else if 2 ≤ (grpL (awayB (showL full)) (showL full).labels).length ∧ ((grpL (awayB (showL full)) (showL full).labels).all fun g => meetB g (showL full).first && meetB g (showL full).last) = true then .mk 5 0 ((grpL (awayB (showL full)) (showL full).labels).map fun g => rec (ontoL full g))
  else .mk 6 0 [silentB, .mk 4 0 ((showL full).labels.map stepB)]
noncomputable def findB : Nat → List (List Int) → PBlk
  | 0, _ => silentB
  | f + 1, log => if (fullL log).length = 0 then silentB else if (fullL log).length < log.length then .mk 4 0 [silentB, findB f (fullL log)] else partB (findB f) (fullL log)

/-! ### less and less -/
theorem asc_sub_len {xs ys : List Int} (h1 : xs.Pairwise (· < ·)) (h2 : ys.Pairwise (· < ·)) (h : ∀ x ∈ xs, x ∈ ys) : xs.length ≤ ys.length := by
  have e : xs = ys.filter fun y => decide (y ∈ xs) := asc_sameG h1 (h2.filter _) (fun x => by
    rw [List.mem_filter]
    simp only [decide_eq_true_eq]
    exact ⟨fun hx => ⟨h x hx, hx⟩, fun hx => hx.2⟩)
  rw [e]
  exact List.length_filter_le _ _
theorem asc_sub_lt {xs ys : List Int} (h1 : xs.Pairwise (· < ·)) (h2 : ys.Pairwise (· < ·)) (h : ∀ x ∈ xs, x ∈ ys) {y : Int} (hy : y ∈ ys) (hn : y ∉ xs) : xs.length < ys.length := by
  have e : xs = ys.filter fun y => decide (y ∈ xs) := asc_sameG h1 (h2.filter _) (fun x => by
    rw [List.mem_filter]
    simp only [decide_eq_true_eq]
    exact ⟨fun hx => ⟨h x hx, hx⟩, fun hx => hx.2⟩)
  rw [e]
  exact List.length_filter_lt_length_iff_exists.2 ⟨y, hy, by simpa using hn⟩
/-- Of two groups or more each is shorter than all. -/
theorem IsGr.lt {lk : Int → Int → Bool} {ls : List Int} {G : List (List Int)} (h : IsGr lk ls G) (hs : ls.Pairwise (· < ·)) (h2 : 2 ≤ G.length) {g : List Int} (hg : g ∈ G) : g.length < ls.length := by
  obtain ⟨g', hg', hne⟩ : ∃ g' ∈ G, g' ≠ g := by
    have hn := h.nodup
    match G, h2, hn with
    | a :: b :: r, _, hn =>
      by_cases e : a = g
      · subst e
        refine ⟨b, by simp, fun e => ?_⟩
        subst e
        have := (List.nodup_cons.1 hn).1
        simp at this
      · exact ⟨a, by simp, e⟩
  obtain ⟨y, hy⟩ : ∃ y, y ∈ g' := ⟨_, hdG_mem (h.ne g' hg')⟩
  exact asc_sub_lt (h.asc g hg) hs (h.sub g hg) (h.sub g' hg' y hy) (fun hy2 => hne (h.same hg' hg hy hy2))
/-- Enough fuel. -/
def Fuel (f : Nat) (log : List (List Int)) : Prop := wrongV log = 0 ∧ ∀ p, ShowsP log p → 2 * p.labels.length + (if ∃ t ∈ log, t.length = 0 then 1 else 0) < f
theorem wrongV_fine {log : List (List Int)} : wrongV log = 0 ↔ log.length ≤ 60 ∧ ∀ t ∈ log, badTr t = false := by
  unfold wrongV
  split
  · rename_i h
    exact ⟨fun h => (by cases h), fun h2 => (by omega)⟩
  · rename_i h
    split
    · rename_i h2
      obtain ⟨t, ht, hb⟩ := List.any_eq_true.1 h2
      exact ⟨fun h => (by cases h), fun h3 => (by rw [h3.2 t ht] at hb; cases hb)⟩
    · rename_i h2
      refine ⟨fun _ => ⟨by omega, fun t ht => ?_⟩, fun _ => rfl⟩
      cases hb : badTr t
      · rfl
      · exact absurd (List.any_eq_true.2 ⟨t, ht, hb⟩) h2
theorem badTr_fine {t : List Int} : badTr t = false ↔ t.length ≤ 60 ∧ ∀ a ∈ t, 1 ≤ a ∧ a ≤ 26 := by
  unfold badTr badL
  rw [Bool.or_eq_false_iff, decide_eq_false_iff_not]
  refine ⟨fun h => ⟨by omega, fun a ha => ?_⟩, fun h => ⟨by omega, ?_⟩⟩
  · have := h.2
    rw [List.any_eq_false] at this
    have := this a ha
    simp at this
    omega
  · rw [List.any_eq_false]
    intro a ha
    have := h.2 a ha
    simp
    omega
theorem ShowsP.lab {log : List (List Int)} {p : PPrints} (h : ShowsP log p) (h0 : wrongV log = 0) : ∀ a ∈ p.labels, 1 ≤ a ∧ a ≤ 26 := fun a ha => by
  obtain ⟨t, ht, hat⟩ := (h.1.2 a).1 ha
  exact (badTr_fine.1 ((wrongV_fine.1 h0).2 t ht)).2 a hat
theorem asc_count {l : List Int} (h : l.Pairwise (· < ·)) (hb : ∀ a ∈ l, 1 ≤ a ∧ a ≤ 26) : l.length ≤ 26 := by
  have := asc_sub_len h (ys := (List.range 26).map fun i : Nat => (i : Int) + 1) (by decide) (fun a ha => by
    obtain ⟨h1, h2⟩ := hb a ha
    rw [List.mem_map]
    exact ⟨(a - 1).toNat, by rw [List.mem_range]; omega, by omega⟩)
  simpa using this
theorem Fuel.start {log : List (List Int)} (h : wrongV log = 0) : Fuel 60 log := ⟨h, fun p hp => by
  have := asc_count hp.1.1 (hp.lab h)
  split <;> omega⟩
theorem mem_fullL {log : List (List Int)} {t : List Int} : t ∈ fullL log ↔ t ∈ log ∧ t.length ≠ 0 := by
  unfold fullL emptyB
  rw [List.mem_filter]
  simp
theorem shows_full {log : List (List Int)} {p : PPrints} (h : ShowsP (fullL log) p) : ShowsP log p := by
  have m : ∀ (P : List Int → Prop), (∀ t, P t → t.length ≠ 0) → ((∃ t ∈ fullL log, P t) ↔ ∃ t ∈ log, P t) := fun P hP =>
    ⟨fun ⟨t, h1, h2⟩ => ⟨t, (mem_fullL.1 h1).1, h2⟩, fun ⟨t, h1, h2⟩ => ⟨t, mem_fullL.2 ⟨h1, hP t h2⟩, h2⟩⟩
  refine ⟨⟨h.1.1, fun x => (h.1.2 x).trans (m _ (fun t ht e => ?_))⟩, ⟨h.2.1.1, fun x => (h.2.1.2 x).trans (m _ (fun t ht e => ?_))⟩, ⟨h.2.2.1.1, fun x => (h.2.2.1.2 x).trans (m _ (fun t ht e => ?_))⟩, ⟨h.2.2.2.1, fun x => (h.2.2.2.2 x).trans (m _ (fun t ht e => ?_))⟩⟩
  · rw [List.eq_nil_of_length_eq_zero e] at ht; cases ht
  · rw [List.eq_nil_of_length_eq_zero e] at ht; cases ht
  · rw [List.eq_nil_of_length_eq_zero e] at ht; cases ht
  · rw [List.eq_nil_of_length_eq_zero e] at ht
    obtain ⟨k, hk, _⟩ := ht
    simp at hk
theorem Fuel.full {f : Nat} {log : List (List Int)} (h : Fuel (f + 1) log) (hl : (fullL log).length < log.length) : Fuel f (fullL log) := by
  obtain ⟨h1, h2⟩ := h
  have hw := wrongV_fine.1 h1
  refine ⟨wrongV_fine.2 ⟨by omega, fun t ht => hw.2 t (mem_fullL.1 ht).1⟩, fun p hp => ?_⟩
  have := h2 p (shows_full hp)
  have he : ∃ t ∈ log, t.length = 0 := by
    obtain ⟨t, ht, h3⟩ := List.length_filter_lt_length_iff_exists.1 hl
    exact ⟨t, ht, by unfold emptyB at h3; simpa using h3⟩
  rw [if_pos he] at this
  rw [if_neg (fun ⟨t, ht, e⟩ => (mem_fullL.1 ht).2 e)]
  omega
theorem fullL_same {log : List (List Int)} (h : ¬ (fullL log).length < log.length) : fullL log = log := by
  unfold fullL at *
  refine List.filter_eq_self.2 (fun t ht => ?_)
  cases e : !emptyB t
  · exact absurd (List.length_filter_lt_length_iff_exists.2 ⟨t, ht, by simp [e]⟩) h
  · rfl
/-- A log of some labels of one group has less. -/
theorem Fuel.sub {f : Nat} {log sub : List (List Int)} {p : PPrints} {lk : Int → Int → Bool} {g : List Int} (h : Fuel (f + 1) log) (hp : ShowsP log p) (h2 : 2 ≤ (grpL lk p.labels).length) (hg : g ∈ grpL lk p.labels) (hw : wrongV sub = 0) (hs : ∀ t ∈ sub, ∀ a ∈ t, a ∈ g) : Fuel f sub := by
  refine ⟨hw, fun q hq => ?_⟩
  have hG := groupsH_is (lk := lk) hp.1.1
  have l1 := hG.lt hp.1.1 h2 hg
  have l2 := asc_sub_len hq.1.1 (hG.asc g hg) (fun x hx => by
    obtain ⟨t, ht, hx⟩ := (hq.1.2 x).1 hx
    exact hs t ht x hx)
  have := h.2 p hp
  split <;> split at this <;> omega
theorem wrongV_filter {log : List (List Int)} (h : wrongV log = 0) (q : List Int → Bool) : wrongV (log.filter q) = 0 := by
  have hw := wrongV_fine.1 h
  exact wrongV_fine.2 ⟨Nat.le_trans (List.length_filter_le _ _) hw.1, fun t ht => hw.2 t (List.mem_filter.1 ht).1⟩
theorem wrongV_onto {log : List (List Int)} (h : wrongV log = 0) (g : List Int) : wrongV (ontoL log g) = 0 := by
  have hw := wrongV_fine.1 h
  refine wrongV_fine.2 ⟨by unfold ontoL; rw [List.length_map]; exact hw.1, fun t ht => ?_⟩
  unfold ontoL at ht
  obtain ⟨u, hu, rfl⟩ := List.mem_map.1 ht
  have := badTr_fine.1 (hw.2 u hu)
  exact badTr_fine.2 ⟨Nat.le_trans (List.length_filter_le _ _) this.1, fun a ha => this.2 a (List.mem_filter.1 ha).1⟩
theorem inS_iffM {l : List Int} {a : Int} : inS l a = true ↔ a ∈ l := by
  unfold inS
  rw [List.any_eq_true]
  exact ⟨fun ⟨x, hx, e⟩ => by rw [beq_iff_eq] at e; rw [e]; exact hx, fun h => ⟨a, h, by simp⟩⟩
theorem Fuel.onto {f : Nat} {log : List (List Int)} {p : PPrints} {lk : Int → Int → Bool} {g : List Int} (h : Fuel (f + 1) log) (hp : ShowsP log p) (h2 : 2 ≤ (grpL lk p.labels).length) (hg : g ∈ grpL lk p.labels) : Fuel f (ontoL log g) :=
  h.sub hp h2 hg (wrongV_onto h.1 g) (fun t ht a ha => by
    unfold ontoL at ht
    obtain ⟨u, hu, rfl⟩ := List.mem_map.1 ht
    exact inS_iffM.1 (List.mem_filter.1 ha).2)
theorem bhB_iff {p : PPrints} {a b : Int} : bhB p a b = true ↔ (a, b) ∈ p.behind := by
  unfold bhB
  rw [List.any_eq_true]
  exact ⟨fun ⟨x, hx, e⟩ => by rw [decide_eq_true_eq] at e; rw [e]; exact hx, fun h => ⟨_, h, by simp⟩⟩
/-- The labels of one trace lie in one group. -/
theorem one_group {log : List (List Int)} {p : PPrints} (hp : ShowsP log p) {t : List Int} (ht : t ∈ log) {x : Int} (hx : t.head? = some x) {g : List Int} (hg : g ∈ grpL (bhB p) p.labels) (hxg : x ∈ g) : ∀ a ∈ t, a ∈ g := by
  have hG := groupsH_is (lk := bhB p) hp.1.1
  have lab : ∀ a ∈ t, a ∈ p.labels := fun a ha => (hp.1.2 a).2 ⟨t, ht, ha⟩
  have main : ∀ (k : Nat) (a : Int), t[k]? = some a → ConnG (bhB p) p.labels x a := by
    intro k
    induction k with
    | zero =>
      intro a ha
      have : t.head? = t[0]? := by cases t <;> rfl
      rw [← this, hx] at ha
      injection ha with ha
      rw [← ha]
      exact .refl (hG.sub g hg x hxg)
    | succ k ih =>
      intro a ha
      have hk : k < t.length := by have := (List.getElem?_eq_some_iff.1 ha).1; omega
      have hb : t[k]? = some t[k] := List.getElem?_eq_getElem hk
      refine .step (ih _ hb) (lab a (List.mem_of_getElem? ha)) ?_
      unfold lkB
      rw [bhB_iff.2 ((hp.2.2.2.2 _).2 ⟨t, ht, k, hb, ha⟩)]
      rfl
  intro a ha
  obtain ⟨k, hk, rfl⟩ := List.getElem_of_mem ha
  exact (hG.cls g hg x hxg _ (lab _ ha)).2 (main k _ (List.getElem?_eq_getElem hk))
theorem Fuel.choose {f : Nat} {log : List (List Int)} {p : PPrints} {g : List Int} (h : Fuel (f + 1) log) (hf : ∀ t ∈ log, t.length ≠ 0) (hp : ShowsP log p) (h2 : 2 ≤ (grpL (bhB p) p.labels).length) (hg : g ∈ grpL (bhB p) p.labels) : Fuel f (log.filter fun t => inS g (t.headD 0)) :=
  h.sub hp h2 hg (wrongV_filter h.1 _) (fun t ht => by
    obtain ⟨h1, h2⟩ := List.mem_filter.1 ht
    cases t with
    | nil => exact absurd rfl (hf _ h1)
    | cons x t => exact one_group hp h1 rfl hg (inS_iffM.1 h2))
/-- A trace is longer than one just if something is behind something. -/
theorem long_behind {log : List (List Int)} {p : PPrints} (hp : ShowsP log p) : (log.any fun t => decide (1 < t.length)) = true ↔ 0 < p.behind.length := by
  rw [List.any_eq_true]
  constructor
  · rintro ⟨t, ht, hl⟩
    rw [decide_eq_true_eq] at hl
    exact List.length_pos_of_mem ((hp.2.2.2.2 (t[0], t[1])).2 ⟨t, ht, 0, List.getElem?_eq_getElem (by omega), List.getElem?_eq_getElem (by omega)⟩)
  · intro h
    obtain ⟨q, hq⟩ : ∃ q, q ∈ p.behind := ⟨_, List.getElem_mem h⟩
    obtain ⟨t, ht, k, h1, h2⟩ := (hp.2.2.2.2 q).1 hq
    have := (List.getElem?_eq_some_iff.1 h2).1
    exact ⟨t, ht, by rw [decide_eq_true_eq]; omega⟩
/-! ### groups that are linked alike -/
theorem ConnG.like {lk lk' : Int → Int → Bool} {ls : List Int} (h : ∀ a b, lkB lk a b = lkB lk' a b) {a b : Int} (c : ConnG lk ls a b) : ConnG lk' ls a b := by
  induction c with
  | refl h1 => exact .refl h1
  | step _ hc hl ih => exact .step ih hc (by rw [← h]; exact hl)
theorem grpL_like {lk lk' : Int → Int → Bool} {ls : List Int} (hs : ls.Pairwise (· < ·)) (h : ∀ a b, lkB lk a b = lkB lk' a b) : grpL lk ls = grpL lk' ls := by
  have h1 := groupsH_is (lk := lk) hs
  have h2 := groupsH_is (lk := lk') hs
  refine IsGr.uniq (lk := lk') ⟨h1.asc, h1.ne, h1.sub, h1.all, fun g hg x hx y hy => ?_, h1.ord⟩ h2
  exact (h1.cls g hg x hx y hy).trans ⟨fun c => c.like h, fun c => c.like (fun a b => (h a b).symm)⟩
theorem grpL_both {lk : Int → Int → Bool} {ls : List Int} (hs : ls.Pairwise (· < ·)) : grpL (fun a b => lk a b || lk b a) ls = grpL lk ls :=
  grpL_like hs (fun a b => by
    show ((lk a b || lk b a) || (lk b a || lk a b)) = (lk a b || lk b a)
    cases lk a b <;> cases lk b a <;> rfl)
/-- What leads to what, by what is behind what. -/
theorem leadB_is {log : List (List Int)} {p : PPrints} (hp : ShowsP log p) (a b : Int) : leadB p a b = true ↔ Via (fun a b => (a, b) ∈ p.behind) p.labels a b := by
  refine leadsP_is (R := fun a b => (a, b) ∈ p.behind) (fun a b hab => ?_) (fun a b => bhB_iff) p.labels a b
  obtain ⟨t, ht, k, h1, h2⟩ := (hp.2.2.2.2 _).1 hab
  exact ⟨(hp.1.2 a).2 ⟨t, ht, List.mem_of_getElem? h1⟩, (hp.1.2 b).2 ⟨t, ht, List.mem_of_getElem? h2⟩⟩
theorem leadB_trans {log : List (List Int)} {p : PPrints} (hp : ShowsP log p) (a b c : Int) (hb : b ∈ p.labels) (h1 : leadB p a b = true) (h2 : leadB p b c = true) : leadB p a c = true :=
  (leadB_is hp a c).2 (((leadB_is hp a b).1 h1).trans hb ((leadB_is hp b c).1 h2))
end Go.Proofs.YtcopnfdknclhnaaGreat
namespace Go.Proofs.YtcopnfdknclhnaaGreat
open Go.RowKit

/-- A block whose rows lie in blocks that P allows. -/
def BlkQ (P : Nat → Prop) : Nat → World → (Nat → Value) → PBlk → Prop
  | 0 => fun _ _ _ => False
  | d + 1 => fun w vs b => vs 0 = .int .i64 b.kind ∧ vs 1 = .int .i64 b.label ∧ ∃ A n c, vs 2 = .slice A n c ∧ Sl (BlkQ P d) 3 w A n c b.kids ∧ (0 < n → ∀ a, A = some a → P a.block)
theorem BlkQ.kept (P : Nat → Prop) : ∀ d, Kept (BlkQ P d)
  | 0 => fun _ _ _ _ _ h => h
  | d + 1 => fun _ _ _ _ hb h => by
    obtain ⟨h0, h1, A, n, c, h2, h3, h4⟩ := h
    exact ⟨h0, h1, A, n, c, h2, h3.keep (BlkQ.kept P d) hb, h4⟩
theorem Sl.imp {α : Type} {R Q : World → (Nat → Value) → α → Prop} {sz : Nat} {w : World} {A : Option Addr} {n c : Nat} {xs : List α} (h : Sl R sz w A n c xs) (hq : ∀ vs x, R w vs x → Q w vs x) : Sl Q sz w A n c xs :=
  ⟨h.len, h.le, h.cap, h.small, h.nul, fun hn => by
    obtain ⟨b, off, e, hb, hx⟩ := h.cells hn
    exact ⟨b, off, e, hb, fun i x hi => by obtain ⟨vs, a, r⟩ := hx i x hi; exact ⟨vs, a, hq _ _ r⟩⟩⟩
theorem BlkQ.toD {P : Nat → Prop} : ∀ (d : Nat) {w : World} {vs : Nat → Value} {b : PBlk}, BlkQ P d w vs b → BlkD d w vs b
  | 0, _, _, _, h => h
  | d + 1, _, _, _, h => by
    obtain ⟨h0, h1, A, n, c, h2, h3, h4⟩ := h
    exact ⟨h0, h1, A, n, c, h2, h3.imp (fun _ _ r => BlkQ.toD d r)⟩
theorem BlkQ.wide {P Q : Nat → Prop} {w : World} (hp : ∀ k, k < w.heap.size → P k → Q k) : ∀ (d : Nat) {vs : Nat → Value} {b : PBlk}, BlkQ P d w vs b → BlkQ Q d w vs b
  | 0, _, _, h => h
  | d + 1, _, _, h => by
    obtain ⟨h0, h1, A, n, c, h2, h3, h4⟩ := h
    refine ⟨h0, h1, A, n, c, h2, h3.imp (fun _ _ r => BlkQ.wide hp d r), fun hn a ha => hp _ ?_ (h4 hn a ha)⟩
    obtain ⟨b, off, e, hb, _⟩ := h3.cells hn
    rw [e] at ha
    injection ha with ha
    rw [← ha]
    exact hb
theorem Sl.far {α : Type} {R Q : World → (Nat → Value) → α → Prop} {sz : Nat} {w w' : World} {A : Option Addr} {n c : Nat} {xs : List α} (h : Sl R sz w A n c xs) (hs : w.heap.size ≤ w'.heap.size) (hb : 0 < n → ∀ a, A = some a → w'.heap[a.block]? = w.heap[a.block]?) (hq : ∀ vs x, R w vs x → Q w' vs x) : Sl Q sz w' A n c xs :=
  ⟨h.len, h.le, h.cap, h.small, h.nul, fun hn => by
    obtain ⟨b, off, e, hbl, hx⟩ := h.cells hn
    exact ⟨b, off, e, Nat.lt_of_lt_of_le hbl hs, fun i x hi => by
      obtain ⟨vs, a, r⟩ := hx i x hi
      refine ⟨vs, fun j hj => ?_, hq _ _ r⟩
      rw [← a j hj]
      have := hb hn _ e
      simp only [World.cell?]
      rw [this]⟩⟩
theorem BlkQ.grown {P : Nat → Prop} {w w' : World} {row : Option Nat} (hg : w.grownBy w' row) (hne : ∀ k, row = some k → ¬ P k) : ∀ (d : Nat) {vs : Nat → Value} {b : PBlk}, BlkQ P d w vs b → BlkQ P d w' vs b
  | 0, _, _, h => h
  | d + 1, _, _, h => by
    obtain ⟨h0, h1, A, n, c, h2, h3, h4⟩ := h
    refine ⟨h0, h1, A, n, c, h2, h3.far hg.size (fun hn a ha => ?_) (fun _ _ r => BlkQ.grown hg hne d r), h4⟩
    obtain ⟨b, off, e, hb, _⟩ := h3.cells hn
    have hp := h4 hn a ha
    rw [e] at ha
    injection ha with ha
    subst ha
    exact hg.block b hb (fun e => hne b e.symm hp)
/-- The block that the value v is. -/
def BlkA (P : Nat → Prop) (d : Nat) (w : World) (v : Value) (T : PBlk) : Prop := ∃ A n c, v = .agg #[.int .i64 T.kind, .int .i64 T.label, .slice A n c] ∧ Sl (BlkQ P d) 3 w A n c T.kids ∧ (0 < n → ∀ a, A = some a → P a.block)
def AnsBlk (d : Nat) (T : PBlk) (w : World) (e : Ending) (w' : World) : Prop := ∃ v, e = .returned v ∧ BlkA (fun k => w.heap.size ≤ k) d w' v T ∧ Below w.heap.size w w'
def vs3 (a b c : Value) : Nat → Value
  | 0 => a
  | 1 => b
  | _ => c
theorem BlkA.keep {P : Nat → Prop} {d : Nat} {w w' : World} {v : Value} {T : PBlk} (h : BlkA P d w v T) (hb : Below w.heap.size w w') : BlkA P d w' v T := by
  obtain ⟨A, n, c, e, s, p⟩ := h
  exact ⟨A, n, c, e, s.keep (BlkQ.kept P d) hb, p⟩
theorem BlkA.wide {P Q : Nat → Prop} {d : Nat} {w : World} {v : Value} {T : PBlk} (hp : ∀ k, k < w.heap.size → P k → Q k) (h : BlkA P d w v T) : BlkA Q d w v T := by
  obtain ⟨A, n, c, e, s, p⟩ := h
  refine ⟨A, n, c, e, s.imp (fun _ _ r => r.wide hp d), fun hn a ha => hp _ ?_ (p hn a ha)⟩
  obtain ⟨b, off, e, hb, _⟩ := s.cells hn
  rw [e] at ha
  injection ha with ha
  rw [← ha]
  exact hb
theorem BlkA.grown {P : Nat → Prop} {d : Nat} {w w' : World} {v : Value} {T : PBlk} {row : Option Nat} (hg : w.grownBy w' row) (hne : ∀ k, row = some k → ¬ P k) (h : BlkA P d w v T) : BlkA P d w' v T := by
  obtain ⟨A, n, c, e, s, p⟩ := h
  have q : BlkQ P (d + 1) w (vs3 (.int .i64 T.kind) (.int .i64 T.label) (.slice A n c)) T := ⟨rfl, rfl, A, n, c, rfl, s, p⟩
  obtain ⟨_, _, A2, n2, c2, e2, s2, p2⟩ := q.grown hg hne
  injection e2 with e21 e22 e23
  subst e21 e22 e23
  exact ⟨A, n, c, e, s2, p2⟩
theorem tyBlks : SlTy 23 25 3 40 := SlTy.mk' (z := .agg #[.int .i64 0, .int .i64 0, .slice none 0 0]) Tryz.underlying23 (by kernel_rfl) rfl (by decide)
theorem Reads.blk {P : Nat → Prop} {d : Nat} {w : World} {A : Option Addr} {n c : Nat} {T : PBlk} {kd lb : Int} (hk : kd = T.kind) (hl : lb = T.label) (s : Sl (BlkQ P d) 3 w A n c T.kids) (p : 0 < n → ∀ a, A = some a → P a.block) : Reads (BlkQ P (d + 1)) 3 w [.int .i64 kd, .int .i64 lb, .slice A n c] [T] :=
  Reads.one (vs := vs3 (.int .i64 kd) (.int .i64 lb) (.slice A n c)) ⟨by rw [← hk]; rfl, by rw [← hl]; rfl, A, n, c, rfl, s, p⟩ rfl (fun j hj => by
    match j, hj with
    | 0, _ => rfl
    | 1, _ => rfl
    | 2, _ => rfl)
/-- A row of blocks of the call's own, whose blocks' rows lie elsewhere. -/
abbrev OwnBlk (w : World) (B d : Nat) (v : Value) (n : Nat) (ks : List PBlk) : Prop := OwnSl (BlkQ (fun k => B ≤ k ∧ v.ownBlock ≠ some k) d) 3 w B 25 v n ks
theorem OwnBlk.keep {w w' : World} {B d n : Nat} {v : Value} {ks : List PBlk} (h : OwnBlk w B d v n ks) (hb : Below w.heap.size w w') : OwnBlk w' B d v n ks := OwnSl.keep (BlkQ.kept _ d) h hb
theorem OwnSl.imp {α : Type} {R Q : World → (Nat → Value) → α → Prop} {sz B e : Nat} {w : World} {v : Value} {n : Nat} {xs : List α} (h : OwnSl R sz w B e v n xs) (hq : ∀ vs x, R w vs x → Q w vs x) : OwnSl Q sz w B e v n xs := by
  obtain ⟨cells, h1, h2, h3⟩ := h
  exact ⟨cells, h1, ⟨h2.1, fun i x hx => by obtain ⟨vs, a, b⟩ := h2.2 i x hx; exact ⟨vs, a, hq _ _ b⟩⟩, h3⟩
theorem wpList_appBlk {ops : Array Oper} {rest : List Oper} {o : Oper} {a : Act} {Q : Exit → Act → World → Prop} (hgd : o.guard = none) (s x : Operand)
    (ho : o.op = .call { callee := .builtin .append, args := #[s, x], argTypes := #[23, 23] })
    {w : World} {B d n H m c : Nat} {v : Value} {ks : List PBlk} {A : Option Addr} {T : PBlk} {kd lb : Int} (hs : a.eval s = v) (hx : a.eval x = .slice (some ⟨H, 0, none⟩) 1 1) (hH : H = w.heap.size)
    (own : OwnBlk w B (d + 1) v n ks) (hk : kd = T.kind) (hl : lb = T.label) (t : Sl (BlkQ (fun k => B ≤ k ∧ v.ownBlock ≠ some k) d) 3 w A m c T.kids) (p : 0 < m → ∀ a, A = some a → B ≤ a.block ∧ v.ownBlock ≠ some a.block) (hB : B ≤ w.heap.size) (hn : n ≤ 100)
    (K : ∀ v' w', OwnBlk w' B (d + 1) v' (n + 1) (ks ++ [T]) → w.grownBy w' v.ownBlock → wpList Tryz.prog ops Q rest (a.put o.dst v') w') :
    wpList Tryz.prog ops Q (o :: rest) a (w.alloc (.cells #[.int .i64 kd, .int .i64 lb, .slice A m c] 25)) := by
  have hlt : ∀ k, k < w.heap.size → (B ≤ k ∧ v.ownBlock ≠ some k) → (k < w.heap.size ∧ B ≤ k ∧ v.ownBlock ≠ some k) := fun k hk hp => ⟨hk, hp⟩
  have rd : Reads (BlkQ (fun k => k < w.heap.size ∧ B ≤ k ∧ v.ownBlock ≠ some k) (d + 1)) 3 w [.int .i64 kd, .int .i64 lb, .slice A m c] [T] := Reads.blk hk hl (t.imp (fun _ _ r => r.wide hlt d)) (fun hn a ha => by
    obtain ⟨b, off, e, hb, _⟩ := t.cells hn
    have := p hn a ha
    rw [e] at ha
    injection ha with ha
    subst ha
    exact ⟨hb, this⟩)
  refine wpList_appNewAt (v := v) tyBlks hgd s x ho [T] #[.int .i64 kd, .int .i64 lb, .slice A m c] hs hx hH rfl (by simp [Value.oneCell']) (own.imp (fun _ _ r => r.wide hlt (d + 1))) rd rfl hB (by omega) (by omega) (fun w' hg vs y hy => hy.grown hg (fun k hk hp => hp.2.2 hk) (d + 1)) (fun v' w' o1 o2 o3 => K v' w' (o1.imp (fun _ _ r => r.wide (fun k _ hp => ⟨hp.2.1, ?_⟩) (d + 1))) o2)
  rcases o3 with e | e
  · rw [e]; exact hp.2.2
  · rw [e]; intro e2; injection e2 with e2; omega

set_option maxRecDepth 100000 in
theorem silent_calls (w : World) (d : Nat) : Calls Tryz.prog 19 #[] w (AnsBlk d silentB w) := by
  have B0 := hide2 (boxBelow w (.cells #[.int .i64 1, .int .i64 0, .slice none 0 0] 25))
  go_enter Tryz.func19, Tryz.ntmps19
  go_wp2
  have X0 := hide2 (Box.new w #[.int .i64 1, .int .i64 0, .slice none 0 0] 25)
  generalize w.alloc (.cells #[.int .i64 1, .int .i64 0, .slice none 0 0] 25) = w1 at *
  obtain ⟨z0, z1, z2⟩ := X0.out.three
  exact bodyPost_ret (v := .agg #[.int .i64 1, .int .i64 0, .slice none 0 0]) (by simp [results, Tryz.results19, go_sem, z0, z1, z2]) rfl ⟨_, rfl, ⟨none, 0, 0, rfl, Sl.nil0, fun h => absurd h (by omega)⟩, B0.out⟩
set_option maxRecDepth 100000 in
theorem step_calls (w : World) (d : Nat) (a : Int) : Calls Tryz.prog 22 #[.int .i64 a] w (AnsBlk d (stepB a) w) := by
  have B0 := hide2 (boxBelow w (.cells #[.int .i64 2, .int .i64 a, .slice none 0 0] 25))
  go_enter Tryz.func22, Tryz.ntmps22
  go_wp2
  have X0 := hide2 (Box.new w #[.int .i64 2, .int .i64 a, .slice none 0 0] 25)
  generalize w.alloc (.cells #[.int .i64 2, .int .i64 a, .slice none 0 0] 25) = w1 at *
  obtain ⟨z0, z1, z2⟩ := X0.out.three
  exact bodyPost_ret (v := .agg #[.int .i64 2, .int .i64 a, .slice none 0 0]) (by simp [results, Tryz.results22, go_sem, z0, z1, z2]) rfl ⟨_, rfl, ⟨none, 0, 0, rfl, Sl.nil0, fun h => absurd h (by omega)⟩, B0.out⟩
set_option maxRecDepth 100000 in
theorem block_calls {w0 w : World} {d n c : Nat} {A : Option Addr} {ks : List PBlk} (kd : Int) (h : Sl (BlkQ (fun k => w0.heap.size ≤ k) d) 3 w A n c ks) (hp : 0 < n → ∀ a, A = some a → w0.heap.size ≤ a.block) (hb : Below w0.heap.size w0 w) : Calls Tryz.prog 20 #[.int .i64 kd, .slice A n c] w fun e w' => AnsBlk d (.mk kd 0 ks) w0 e w' ∧ Below w.heap.size w w' := by
  have B0 := hide2 (boxBelow w (.cells #[.int .i64 kd, .int .i64 0, .slice A n c] 25))
  have BB := hide2 hb
  have PP := hide2 hp
  have H := hide2 (h.keep (BlkQ.kept _ d) B0.out)
  clear h hp hb
  go_enter Tryz.func20, Tryz.ntmps20
  go_wp2
  have X0 := hide2 (Box.new w #[.int .i64 kd, .int .i64 0, .slice A n c] 25)
  generalize w.alloc (.cells #[.int .i64 kd, .int .i64 0, .slice A n c] 25) = w1 at *
  obtain ⟨z0, z1, z2⟩ := X0.out.three
  exact bodyPost_ret (v := .agg #[.int .i64 kd, .int .i64 0, .slice A n c]) (by simp [results, Tryz.results20, go_sem, z0, z1, z2]) rfl ⟨⟨_, rfl, ⟨A, n, c, rfl, H.out, PP.out⟩, BB.out.trans (B0.out.mono BB.out.size)⟩, B0.out⟩
end Go.Proofs.YtcopnfdknclhnaaGreat
