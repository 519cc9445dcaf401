/- Texts melted into one: The plain law of what leads to what: closed by going over all triples (the program), or by going on from what was found (the reference). No program in sight. | The plain law of groups in order: of two groups exactly one leads to the other; what stands in order is told by that; the reference's passes. No program in sight. -/
import Derived.Test.YtcopnfdknclhnaaGreatMineTellsK09
namespace Go.Proofs.YtcopnfdknclhnaaGreat

/-- From a to b, only over those of K in between. -/
inductive Via (R : Int → Int → Prop) (K : List Int) : Int → Int → Prop
  | one {a b : Int} (h : R a b) : Via R K a b
  | step {a c b : Int} (h : Via R K a c) (hc : c ∈ K) (hr : R c b) : Via R K a b
section
variable {R : Int → Int → Prop} {K : List Int}
theorem Via.trans {a c b : Int} (h : Via R K a c) (hc : c ∈ K) (g : Via R K c b) : Via R K a b := by
  induction g with
  | one hr => exact .step h hc hr
  | step _ hm hr ih => exact .step ih hm hr
theorem Via.more {L : List Int} (hs : ∀ x ∈ K, x ∈ L) {a b : Int} (h : Via R K a b) : Via R L a b := by
  induction h with
  | one hr => exact .one hr
  | step _ hm hr ih => exact .step ih (hs _ hm) hr
/-- Over one more: it is met, or it is not. -/
theorem Via.split {k a b : Int} (h : Via R (K ++ [k]) a b) : Via R K a b ∨ (Via R K a k ∧ Via R K k b) := by
  induction h with
  | one hr => exact .inl (.one hr)
  | @step c b h hm hr ih =>
    rcases List.mem_append.1 hm with hm | hm
    · rcases ih with ih | ⟨i1, i2⟩
      · exact .inl (.step ih hm hr)
      · exact .inr ⟨i1, .step i2 hm hr⟩
    · have e := List.mem_singleton.1 hm
      subst e
      rcases ih with ih | ⟨i1, _⟩
      · exact .inr ⟨ih, .one hr⟩
      · exact .inr ⟨i1, .one hr⟩
theorem Via.join {k a b : Int} (h : Via R K a k) (g : Via R K k b) : Via R (K ++ [k]) a b :=
  (h.more (fun x hx => by simp [hx])).trans (by simp) (g.more (fun x hx => by simp [hx]))
end
/-! ### all triples -/
/-- Pairs that are on, as a list without order. -/
def triF (S : Int → Int → Bool) (t : Int × Int × Int) : Int → Int → Bool := if S t.2.1 t.1 = true ∧ S t.1 t.2.2 = true then fun a b => (decide (a = t.2.1 ∧ b = t.2.2)) || S a b else S
section
variable {R : Int → Int → Prop} {ls K : List Int} {k : Int}
/-- While one goes over the pairs with k between. -/
structure TriI (R : Int → Int → Prop) (K : List Int) (k : Int) (S : Int → Int → Bool) : Prop where
  snd : ∀ a b, S a b = true → Via R (K ++ [k]) a b
  old : ∀ a b, Via R K a b → S a b = true
theorem TriI.start {S : Int → Int → Bool} (h : ∀ a b, S a b = true ↔ Via R K a b) : TriI R K k S := ⟨fun a b hs => ((h a b).1 hs).more (fun x hx => by simp [hx]), fun a b hv => (h a b).2 hv⟩
theorem TriI.next {S : Int → Int → Bool} (h : TriI R K k S) (a b : Int) : TriI R K k (triF S (k, a, b)) ∧ (∀ x y, S x y = true → triF S (k, a, b) x y = true) ∧ (Via R K a k → Via R K k b → triF S (k, a, b) a b = true) := by
  have grow : ∀ x y, S x y = true → triF S (k, a, b) x y = true := fun x y hs => by
    unfold triF
    split
    · simp [hs]
    · exact hs
  refine ⟨⟨fun x y hs => ?_, fun x y hv => grow x y (h.old x y hv)⟩, grow, fun h1 h2 => ?_⟩
  · unfold triF at hs
    split at hs
    · rename_i hc
      simp only [Bool.or_eq_true, decide_eq_true_eq] at hs
      rcases hs with ⟨rfl, rfl⟩ | hs
      · exact (h.snd _ _ hc.1).trans (by simp) (h.snd _ _ hc.2)
      · exact h.snd x y hs
    · exact h.snd x y hs
  · unfold triF
    rw [if_pos ⟨h.old _ _ h1, h.old _ _ h2⟩]
    simp
theorem TriI.all : ∀ (l : List (Int × Int)) {S : Int → Int → Bool}, TriI R K k S → TriI R K k (l.foldl (fun S p => triF S (k, p.1, p.2)) S) ∧ (∀ x y, S x y = true → l.foldl (fun S p => triF S (k, p.1, p.2)) S x y = true) ∧ ∀ p ∈ l, Via R K p.1 k → Via R K k p.2 → l.foldl (fun S p => triF S (k, p.1, p.2)) S p.1 p.2 = true
  | [], S, h => ⟨h, fun x y hs => hs, fun p hp => by simp at hp⟩
  | q :: l, S, h => by
    obtain ⟨n1, n2, n3⟩ := h.next q.1 q.2
    obtain ⟨a1, a2, a3⟩ := TriI.all l n1
    rw [List.foldl_cons]
    refine ⟨a1, fun x y hs => a2 x y (n2 x y hs), fun p hp h1 h2 => ?_⟩
    rcases List.mem_cons.1 hp with rfl | hp
    · exact a2 _ _ (n3 h1 h2)
    · exact a3 p hp h1 h2
/-- One more between: all pairs of labels were gone over. -/
theorem TriI.phase {S : Int → Int → Bool} (hR : ∀ a b, R a b → a ∈ ls ∧ b ∈ ls) (h : ∀ a b, S a b = true ↔ Via R K a b) (a b : Int) : (prsG ls).foldl (fun S p => triF S (k, p.1, p.2)) S a b = true ↔ Via R (K ++ [k]) a b := by
  obtain ⟨a1, a2, a3⟩ := TriI.all (prsG ls) (TriI.start (k := k) h)
  refine ⟨a1.snd a b, fun hv => ?_⟩
  rcases hv.split with h1 | ⟨h1, h2⟩
  · exact a1.old a b h1
  · have la : ∀ {x y : Int}, Via R K x y → x ∈ ls ∧ y ∈ ls := fun {x y} hv => by
      induction hv with
      | one hr => exact hR _ _ hr
      | step _ _ hr ih => exact ⟨ih.1, (hR _ _ hr).2⟩
    exact a3 (a, b) (mem_prsG.2 ⟨(la h1).1, (la h2).2⟩) h1 h2
def leadsP (ls : List Int) (S : Int → Int → Bool) (K : List Int) : Int → Int → Bool := K.foldl (fun S k => (prsG ls).foldl (fun S p => triF S (k, p.1, p.2)) S) S
theorem leadsP_is {S : Int → Int → Bool} (hR : ∀ a b, R a b → a ∈ ls ∧ b ∈ ls) (h : ∀ a b, S a b = true ↔ R a b) : ∀ K : List Int, ∀ a b, leadsP ls S K a b = true ↔ Via R K a b := by
  have h0 : ∀ a b, S a b = true ↔ Via R [] a b := fun a b => (h a b).trans ⟨fun hr => .one hr, fun hv => by
    cases hv with
    | one hr => exact hr
    | step _ hm _ => simp at hm⟩
  have key : ∀ (K' K : List Int) (S : Int → Int → Bool), (∀ a b, S a b = true ↔ Via R K a b) → ∀ a b, leadsP ls S K' a b = true ↔ Via R (K ++ K') a b := fun K' => by
    induction K' with
    | nil => intro K S hs a b; simpa [leadsP] using hs a b
    | cons k K' ih =>
      intro K S hs a b
      have := ih (K ++ [k]) _ (TriI.phase (k := k) hR hs) a b
      simpa [leadsP] using this
  intro K a b
  simpa using key K [] S h0 a b
end
/-! ### on from what was found -/
/-- What was found from a; of these, todo are not yet gone on from. -/
structure BfI (R : Int → Int → Prop) (ls : List Int) (a : Int) (out todo : List Int) : Prop where
  snd : ∀ y ∈ out, Via R ls a y
  nd : out.Nodup
  sub : ∀ x ∈ todo, x = a ∨ x ∈ out
  done : ∀ x, x = a ∨ x ∈ out → x ∈ todo ∨ ∀ y, R x y → y ∈ out
section
variable {R : Int → Int → Prop} {ls : List Int} {a : Int} {out todo : List Int}
theorem BfI.start : BfI R ls a [] [a] where
  snd := fun y hy => by simp at hy
  nd := .nil
  sub := fun x hx => .inl (List.mem_singleton.1 hx)
  done := fun x hx => .inl (by rcases hx with rfl | hx <;> simp_all)
/-- While one goes on from x: the pairs P were looked at. -/
structure BxI (R : Int → Int → Prop) (ls : List Int) (a x : Int) (P : List (Int × Int)) (out rest : List Int) : Prop where
  snd : ∀ y ∈ out, Via R ls a y
  nd : out.Nodup
  at_ : x = a ∨ x ∈ out
  sub : ∀ z ∈ rest, z = a ∨ z ∈ out
  done : ∀ z, z = a ∨ z ∈ out → z ∈ rest ∨ z = x ∨ ∀ y, R z y → y ∈ out
  new : ∀ p ∈ P, p.1 = x → p.2 ∈ out
theorem BfI.open_ {x : Int} {rest : List Int} (h : BfI R ls a out (x :: rest)) : BxI R ls a x [] out rest where
  snd := h.snd
  nd := h.nd
  at_ := h.sub x (by simp)
  sub := fun z hz => h.sub z (by simp [hz])
  done := fun z hz => by
    rcases h.done z hz with h1 | h1
    · rcases List.mem_cons.1 h1 with e | h1
      · exact .inr (.inl e)
      · exact .inl h1
    · exact .inr (.inr h1)
  new := fun p hp => by simp at hp
theorem BxI.skip {x : Int} {P : List (Int × Int)} {p : Int × Int} {rest : List Int} (h : BxI R ls a x P out rest) (hp : p.1 ≠ x ∨ p.2 ∈ out) : BxI R ls a x (P ++ [p]) out rest where
  snd := h.snd
  nd := h.nd
  at_ := h.at_
  sub := h.sub
  done := h.done
  new := fun q hq e => by
    rcases List.mem_append.1 hq with hq | hq
    · exact h.new q hq e
    · rw [List.mem_singleton.1 hq] at e ⊢
      exact hp.resolve_left (fun hne => hne e)
theorem BxI.take {x : Int} {P : List (Int × Int)} {p : Int × Int} {rest : List Int} (h : BxI R ls a x P out rest) (hp : p.1 = x) (hn : p.2 ∉ out) (hr : R p.1 p.2) (hl : ∀ u v, R u v → u ∈ ls ∧ v ∈ ls) : BxI R ls a x (P ++ [p]) (out ++ [p.2]) (rest ++ [p.2]) where
  snd := fun y hy => by
    rcases List.mem_append.1 hy with hy | hy
    · exact h.snd y hy
    · rw [List.mem_singleton.1 hy]
      rw [hp] at hr
      rcases h.at_ with e | hx
      · rw [← e]; exact .one hr
      · exact .step (h.snd x hx) (hl _ _ hr).1 hr
  nd := List.nodup_append.2 ⟨h.nd, by simp, fun y hy z hz e => hn (by rw [← List.mem_singleton.1 hz, ← e]; exact hy)⟩
  at_ := h.at_.imp id (fun hx => by simp [hx])
  sub := fun z hz => by
    rcases List.mem_append.1 hz with hz | hz
    · exact (h.sub z hz).imp id (fun h => by simp [h])
    · exact .inr (by simp [List.mem_singleton.1 hz])
  done := fun z hz => by
    rcases hz with e | hz
    · rcases h.done z (.inl e) with h1 | h1 | h1
      · exact .inl (by simp [h1])
      · exact .inr (.inl h1)
      · exact .inr (.inr (fun y hy => by simp [h1 y hy]))
    · rcases List.mem_append.1 hz with hz | hz
      · rcases h.done z (.inr hz) with h1 | h1 | h1
        · exact .inl (by simp [h1])
        · exact .inr (.inl h1)
        · exact .inr (.inr (fun y hy => by simp [h1 y hy]))
      · exact .inl (by simp [List.mem_singleton.1 hz])
  new := fun q hq e => by
    rcases List.mem_append.1 hq with hq | hq
    · simp [h.new q hq e]
    · simp [List.mem_singleton.1 hq]
theorem BxI.close {x : Int} {P : List (Int × Int)} {rest : List Int} (h : BxI R ls a x P out rest) (hP : ∀ u v, R u v → (u, v) ∈ P) : BfI R ls a out rest where
  snd := h.snd
  nd := h.nd
  sub := h.sub
  done := fun z hz => by
    rcases h.done z hz with h1 | h1 | h1
    · exact .inl h1
    · exact .inr (fun y hy => h.new (z, y) (hP z y hy) h1)
    · exact .inr h1
theorem BfI.fin (h : BfI R ls a out []) (y : Int) : y ∈ out ↔ Via R ls a y := by
  refine ⟨h.snd y, fun hv => ?_⟩
  induction hv with
  | one hr => exact ((h.done a (.inl rfl)).resolve_left (by simp)) _ hr
  | step _ _ hr ih => exact ((h.done _ (.inr ih)).resolve_left (by simp)) _ hr
end
end Go.Proofs.YtcopnfdknclhnaaGreat
namespace Go.Proofs.YtcopnfdknclhnaaGreat

def hdG (g : List Int) : Int := g.headD 0
section
variable {lk : Int → Int → Bool} {ls : List Int} {G : List (List Int)}
theorem hdG_mem {g : List Int} (h : g ≠ []) : hdG g ∈ g := by
  cases g with
  | nil => exact absurd rfl h
  | cons a g => simp [hdG]
theorem IsGr.same (h : IsGr lk ls G) {g g' : List Int} (hg : g ∈ G) (hg' : g' ∈ G) {y : Int} (h1 : y ∈ g) (h2 : y ∈ g') : g = g' :=
  asc_sameG (h.asc g hg) (h.asc g' hg') (fun z => ⟨fun hz => (h.cls g' hg' y h2 z (h.sub g hg z hz)).2 ((h.cls g hg y h1 z (h.sub g hg z hz)).1 hz), fun hz => (h.cls g hg y h1 z (h.sub g' hg' z hz)).2 ((h.cls g' hg' y h2 z (h.sub g' hg' z hz)).1 hz)⟩)
theorem IsGr.nodup (h : IsGr lk ls G) : G.Nodup := by
  refine h.ord.imp (fun {a b} hab e => ?_)
  subst e
  obtain ⟨x, y, e1, e2, hlt⟩ := hab
  rw [e1] at e2
  injection e2 with e2
  omega
end
section
variable {lds : Int → Int → Bool} {ls : List Int} {G : List (List Int)}
/-- Alike: each leads to the other, or neither does. -/
def alikeB (lds : Int → Int → Bool) (a b : Int) : Bool := lds a b == lds b a
theorem lk_alike (a b : Int) : lkB (alikeB lds) a b = true ↔ lds a b = lds b a := by
  unfold lkB alikeB
  rw [Bool.or_eq_true, beq_iff_eq, beq_iff_eq]
  exact ⟨fun h => h.elim id Eq.symm, .inl⟩
theorem apartG (h : IsGr (alikeB lds) ls G) {g g' : List Int} (hg : g ∈ G) (hg' : g' ∈ G) (hne : g ≠ g') {x y : Int} (hx : x ∈ g) (hy : y ∈ g') : lds x y = !lds y x := by
  have : lds x y ≠ lds y x := fun e => hne (h.same hg hg' ((h.cls g hg x hx y (h.sub g' hg' y hy)).2 (.step (.refl (h.sub g hg x hx)) (h.sub g' hg' y hy) ((lk_alike x y).2 e))) hy)
  cases e1 : lds x y <;> cases e2 : lds y x <;> simp_all
/-- One group leads to another one. -/
def ltG (lds : Int → Int → Bool) (g g' : List Int) : Prop := lds (hdG g) (hdG g') = true
theorem ltG_one (h : IsGr (alikeB lds) ls G) {g g' : List Int} (hg : g ∈ G) (hg' : g' ∈ G) (hne : g ≠ g') : ltG lds g g' ↔ ¬ ltG lds g' g := by
  unfold ltG
  rw [apartG h hg hg' hne (hdG_mem (h.ne g hg)) (hdG_mem (h.ne g' hg'))]
  cases lds (hdG g') (hdG g) <;> simp
theorem ltG_trans (ht : ∀ a b c, a ∈ ls → b ∈ ls → c ∈ ls → lds a b = true → lds b c = true → lds a c = true) (h : IsGr (alikeB lds) ls G) {a b c : List Int} (ha : a ∈ G) (hb : b ∈ G) (hc : c ∈ G) (h1 : ltG lds a b) (h2 : ltG lds b c) : ltG lds a c :=
  ht _ _ _ (h.sub a ha _ (hdG_mem (h.ne a ha))) (h.sub b hb _ (hdG_mem (h.ne b hb))) (h.sub c hc _ (hdG_mem (h.ne c hc))) h1 h2
/-- In order: told by who leads to whom. -/
theorem order_uniq (h : IsGr (alikeB lds) ls G) : ∀ {M N : List (List Int)}, (∀ x ∈ M, x ∈ G) → M.Nodup → N.Nodup → M.Pairwise (ltG lds) → N.Pairwise (ltG lds) → (∀ x, x ∈ M ↔ x ∈ N) → M = N
  | [], [], _, _, _, _, _, _ => rfl
  | [], y :: N, _, _, _, _, _, hm => by have := (hm y).2 (by simp); simp at this
  | x :: M, [], _, _, _, _, _, hm => by have := (hm x).1 (by simp); simp at this
  | x :: M, y :: N, hs, dM, dN, hM, hN, hm => by
    obtain ⟨m1, m2⟩ := List.pairwise_cons.1 hM
    obtain ⟨n1, n2⟩ := List.pairwise_cons.1 hN
    obtain ⟨d1, d2⟩ := List.nodup_cons.1 dM
    obtain ⟨d3, d4⟩ := List.nodup_cons.1 dN
    have e : x = y := by
      refine Classical.byContradiction (fun hne => ?_)
      have hx : x ∈ N := (List.mem_cons.1 ((hm x).1 (by simp))).resolve_left hne
      have hy : y ∈ M := (List.mem_cons.1 ((hm y).2 (by simp))).resolve_left (fun e => hne e.symm)
      exact (ltG_one h (hs x (by simp)) (hs y (by simp [hy])) hne).1 (m1 y hy) (n1 x hx)
    subst e
    rw [order_uniq h (fun z hz => hs z (by simp [hz])) d2 d4 m2 n2 (fun z => ⟨fun hz => ((List.mem_cons.1 ((hm z).1 (by simp [hz])))).resolve_left (fun e => d1 (e ▸ hz)), fun hz => ((List.mem_cons.1 ((hm z).2 (by simp [hz])))).resolve_left (fun e => d3 (e ▸ hz))⟩)]

/-! ### the reference's passes -/
/-- Those in: in order, and all that lead to one of them are in. -/
structure InI (lds : Int → Int → Bool) (G inn : List (List Int)) : Prop where
  sub : ∀ x ∈ inn, x ∈ G
  nd : inn.Nodup
  ord : inn.Pairwise (ltG lds)
  clo : ∀ x ∈ inn, ∀ g ∈ G, g ≠ x → ltG lds g x → g ∈ inn
theorem InI.nil : InI lds G [] := ⟨fun x hx => by simp at hx, .nil, .nil, fun x hx => by simp at hx⟩
theorem InI.add (h : IsGr (alikeB lds) ls G) {inn : List (List Int)} (I : InI lds G inn) {g : List Int} (hg : g ∈ G) (hn : g ∉ inn) (hw : ∀ k ∈ G, k ≠ g → ltG lds k g → k ∈ inn) : InI lds G (inn ++ [g]) where
  sub := fun x hx => by
    rcases List.mem_append.1 hx with hx | hx
    · exact I.sub x hx
    · rw [List.mem_singleton.1 hx]; exact hg
  nd := List.nodup_append.2 ⟨I.nd, by simp, fun y hy z hz e => hn (by rw [← List.mem_singleton.1 hz, ← e]; exact hy)⟩
  ord := List.pairwise_append.2 ⟨I.ord, by simp, fun x hx y hy => by
    rw [List.mem_singleton.1 hy]
    have hne : x ≠ g := fun e => hn (e ▸ hx)
    refine (ltG_one h (I.sub x hx) hg hne).2 (fun hgx => hn (I.clo x hx g hg (fun e => hne e.symm) hgx))⟩
  clo := fun x hx k hk hne hl => by
    rcases List.mem_append.1 hx with hx | hx
    · exact List.mem_append.2 (.inl (I.clo x hx k hk hne hl))
    · rw [List.mem_singleton.1 hx] at hne hl
      exact List.mem_append.2 (.inl (hw k hk hne hl))
/-- Of those not yet in, one waits for none of the others. -/
theorem InI.next (ht : ∀ a b c, a ∈ ls → b ∈ ls → c ∈ ls → lds a b = true → lds b c = true → lds a c = true) (h : IsGr (alikeB lds) ls G) {inn : List (List Int)} (hno : ∃ g ∈ G, g ∉ inn) : ∃ g ∈ G, g ∉ inn ∧ ∀ k ∈ G, k ≠ g → ltG lds k g → k ∈ inn := by
  have key : ∀ l : List (List Int), (∀ x ∈ l, x ∈ G) → (∃ g ∈ l, g ∉ inn) → ∃ g ∈ l, g ∉ inn ∧ ∀ k ∈ l, k ≠ g → ltG lds k g → k ∈ inn := fun l => by
    induction l with
    | nil => rintro _ ⟨g, hg, _⟩; simp at hg
    | cons a l ih =>
      intro hs hex
      by_cases hl : ∃ g ∈ l, g ∉ inn
      · obtain ⟨g, hg, hgn, hm⟩ := ih (fun x hx => hs x (by simp [hx])) hl
        by_cases ha : a ∉ inn ∧ a ≠ g ∧ ltG lds a g
        · obtain ⟨h1, h2, h3⟩ := ha
          refine ⟨a, by simp, h1, fun k hk hne hka => ?_⟩
          rcases List.mem_cons.1 hk with e | hk
          · exact absurd e hne
          · by_cases e : k = g
            · subst e
              exact absurd h3 ((ltG_one h (hs k (by simp [hk])) (hs a (by simp)) hne).1 hka)
            · exact hm k hk e (ltG_trans ht h (hs k (by simp [hk])) (hs a (by simp)) (hs g (by simp [hg])) hka h3)
        · refine ⟨g, by simp [hg], hgn, fun k hk hne hkg => ?_⟩
          rcases List.mem_cons.1 hk with e | hk
          · subst e
            refine Classical.byContradiction (fun hkn => ha ⟨hkn, hne, hkg⟩)
          · exact hm k hk hne hkg
      · obtain ⟨g, hg, hgn⟩ := hex
        rcases List.mem_cons.1 hg with e | hg
        · subst e
          refine ⟨g, by simp, hgn, fun k hk hne _ => ?_⟩
          rcases List.mem_cons.1 hk with e | hk
          · exact absurd e hne
          · exact Classical.byContradiction (fun hkn => hl ⟨k, hk, hkn⟩)
        · exact absurd ⟨g, hg, hgn⟩ hl
  exact key G (fun _ hx => hx) hno
end
end Go.Proofs.YtcopnfdknclhnaaGreat
