/- The plain law of growing: the net of a block, place by place and link by link. No program in sight. -/
import Derived.Test.YtnfppolgaeibeaaBlkA
namespace Go.Proofs.Ytnfppolgaeibeaa

structure KSt where
  places : Nat
  links : List PTran
def lnk (g : KSt) (l : Int) (a b : List Int) : KSt := ⟨g.places, g.links ++ [⟨l, a, b⟩]⟩
def more (g : KSt) (k : Nat) : KSt := ⟨g.places + k, g.links⟩
abbrev GRec := PBlk → Int → Int → KSt → KSt
def seqF (r : GRec) (n : Nat) (q : Int) (s : KSt × Int) (x : PBlk × Nat) : KSt × Int :=
  if x.2 + 1 < n then (r x.1 s.2 (s.1.places : Int) (more s.1 1), (s.1.places : Int)) else (r x.1 s.2 q s.1, q)
def altF (r : GRec) (p q : Int) (g : KSt) (k : PBlk) : KSt := r k p q g
def bothF (r : GRec) (pl : Nat) (g : KSt) (x : PBlk × Nat) : KSt := r x.1 ((pl + 2 * x.2 : Nat) : Int) ((pl + 2 * x.2 + 1 : Nat) : Int) g
def insL (pl n : Nat) : List Int := (List.range n).map fun i => ((pl + 2 * i : Nat) : Int)
def outsL (pl n : Nat) : List Int := (List.range n).map fun i => ((pl + 2 * i + 1 : Nat) : Int)
theorem insL_succ (pl n : Nat) : insL pl (n + 1) = insL pl n ++ [((pl + 2 * n : Nat) : Int)] := by simp [insL, List.range_succ]
theorem outsL_succ (pl n : Nat) : outsL pl (n + 1) = outsL pl n ++ [((pl + 2 * n + 1 : Nat) : Int)] := by simp [outsL, List.range_succ]
theorem insL_len (pl n : Nat) : (insL pl n).length = n := by simp [insL]
theorem outsL_len (pl n : Nat) : (outsL pl n).length = n := by simp [outsL]
def noB : PBlk := .mk 0 0 []
def kbB : Nat → PBlk → Int → Int → KSt → KSt
  | 0, _, _, _, g => g
  | f + 1, b, p, q, g =>
    if b.kind = 1 then lnk g 0 [p] [q] else if b.kind = 2 then lnk g b.label [p] [q]
    else if b.kind = 3 then (b.kids.zipIdx.foldl (seqF (kbB f) b.kids.length q) (g, p)).1
    else if b.kind = 4 then b.kids.foldl (altF (kbB f) p q) g
    else if b.kind = 5 then lnk (b.kids.zipIdx.foldl (bothF (kbB f) g.places) (lnk (more g (2 * b.kids.length)) 0 [p] (insL g.places b.kids.length))) 0 (outsL g.places b.kids.length) [q]
    else lnk (kbB f (b.kids.getD 1 noB) ((g.places + 1 : Nat) : Int) (g.places : Int) (kbB f (b.kids.getD 0 noB) (g.places : Int) ((g.places + 1 : Nat) : Int) (lnk (more g 2) 0 [p] [(g.places : Int)]))) 0 [((g.places + 1 : Nat) : Int)] [q]
/-- From a to b it has grown, by no more than k blocks bring. -/
structure Gr (a b : KSt) (k : Nat) : Prop where
  up : a.places ≤ b.places
  few : b.places ≤ a.places + 4 * k
  pre : a.links <+: b.links
  short : b.links.length ≤ a.links.length + 2 * k
theorem Gr.refl (a : KSt) (k : Nat) : Gr a a k := ⟨Nat.le_refl _, by omega, List.prefix_rfl, by omega⟩
theorem Gr.trans {a b c : KSt} {k l : Nat} (h : Gr a b k) (g : Gr b c l) : Gr a c (k + l) := ⟨Nat.le_trans h.up g.up, by have := h.few; have := g.few; omega, h.pre.trans g.pre, by have := h.short; have := g.short; omega⟩
theorem Gr.lnk {a b : KSt} {k : Nat} (h : Gr a b k) (hs : b.links.length + 1 ≤ a.links.length + 2 * k) (l : Int) (x y : List Int) : Gr a (lnk b l x y) k := ⟨h.up, h.few, h.pre.trans (List.prefix_append _ _), by simpa [Go.Proofs.Ytnfppolgaeibeaa.lnk] using hs⟩
/-- One call: two places fewer than its blocks would let. -/
def Gr1 (a b : KSt) (k : Nat) : Prop := Gr a b k ∧ b.places + 2 ≤ a.places + 4 * k
theorem zip_take {α : Type} {l : List α} {i : Nat} {x : α} (h : l[i]? = some x) : (l.take (i + 1)).zipIdx = (l.take i).zipIdx ++ [(x, i)] := by
  have hi := (List.getElem?_eq_some_iff.1 h).1
  rw [List.take_add_one, h, Option.toList_some, List.zipIdx_append]
  simp [List.length_take, Nat.min_eq_left (Nat.le_of_lt hi)]
/-- The same with a fold over all: kid after kid. -/
theorem fold_gr {σ : Type} {f : Nat} (view : σ → KSt) (F : σ → PBlk × Nat → σ) (hF : ∀ (s : σ) (x : PBlk × Nat) (hd : Nat), (chkB f x.1 hd).2 = 0 → Gr (view s) (view (F s x)) ((chkB f x.1 hd).1 - hd)) :
    ∀ (l : List PBlk) (j hd h' : Nat) (s : σ), l.foldl (stepC (chkB f)) (hd, 0) = (h', 0) → Gr (view s) (view ((l.zipIdx j).foldl F s)) (h' - hd) ∧ hd + l.length ≤ h'
  | [], j, hd, h', s, h => by
    simp only [List.foldl_nil, Prod.mk.injEq, and_true] at h
    subst h
    exact ⟨Gr.refl _ _, by simp⟩
  | k :: l, j, hd, h', s, h => by
    rw [List.foldl_cons, stepC, if_pos rfl] at h
    have h2 : (chkB f k hd).2 = 0 := by
      apply Classical.byContradiction
      intro hne
      rw [stepC_stay hne] at h
      rw [h] at hne
      exact hne rfl
    obtain ⟨e1, e2⟩ := chkB_ok f k hd h2
    have hpair : chkB f k hd = ((chkB f k hd).1, 0) := by rw [← h2]
    rw [hpair] at h
    obtain ⟨g1, g2⟩ := fold_gr view F hF l (j + 1) _ h' (F s (k, j)) h
    have g0 := hF s (k, j) hd h2
    simp only [List.zipIdx_cons, List.foldl_cons, List.length_cons]
    refine ⟨?_, by omega⟩
    have := g0.trans g1
    rwa [show (chkB f k hd).1 - hd + (h' - (chkB f k hd).1) = h' - hd by omega] at this
theorem headB_ok {k l : Int} {n : Nat} (h : headB k l n = 0) : 1 ≤ k ∧ k ≤ 6 ∧ (k = 6 → n = 2) ∧ (3 ≤ k → 0 < n) := by
  unfold headB at h
  split at h
  · cases h
  · rename_i h1
    split at h
    · cases h
    · split at h
      · cases h
      · rename_i h3
        have h4 : ¬ (k < 1 ∨ 6 < k) := h1
        refine ⟨by omega, by omega, fun e => ?_, fun e => ?_⟩
        · apply Classical.byContradiction; intro h5; exact h3 (.inr (.inr ⟨e, h5⟩))
        · apply Classical.byContradiction; intro h5; exact h3 (.inr (.inl ⟨e, by omega⟩))
theorem chkB_inv {f : Nat} {b : PBlk} {had : Nat} (h : (chkB (f + 1) b had).2 = 0) : had + 1 ≤ 40 ∧ headB b.kind b.label b.kids.length = 0 ∧ ∃ h', chkB (f + 1) b had = (h', 0) ∧ b.kids.foldl (stepC (chkB f)) (had + 1, 0) = (h', 0) := by
  rw [chkB] at h ⊢
  split at h
  · cases h
  · rename_i h1
    rw [if_neg h1]
    split at h
    · rename_i h2; exact absurd h h2
    · rename_i h2
      rw [if_neg h2]
      have e : b.kids.foldl (stepC (chkB f)) (had + 1, 0) = ((b.kids.foldl (stepC (chkB f)) (had + 1, 0)).1, 0) := Prod.ext rfl h
      exact ⟨by omega, by simpa using h2, _, e, e⟩
theorem kbB_gr : ∀ (f : Nat) (b : PBlk) (had : Nat) (p q : Int) (g : KSt), (chkB f b had).2 = 0 → Gr1 g (kbB f b p q g) ((chkB f b had).1 - had)
  | 0, b, had, p, q, g, h => by rw [chkB] at h; cases h
  | f + 1, b, had, p, q, g, h => by
    obtain ⟨h1, h2, h', e1, e2⟩ := chkB_inv h
    obtain ⟨k1, k6, k62, k30⟩ := headB_ok h2
    rw [e1]
    simp only
    have hle : had + 1 + b.kids.length ≤ h' := (fold_gr (f := f) (fun g : KSt => g) (fun s x => s) (fun s x hd _ => Gr.refl _ _) b.kids 0 _ _ g e2).2
    unfold kbB
    split
    · refine ⟨⟨Nat.le_refl _, by simp [lnk], List.prefix_append _ _, by simp [lnk]; omega⟩, by simp only [lnk]; omega⟩
    · split
      · refine ⟨⟨Nat.le_refl _, by simp [lnk], List.prefix_append _ _, by simp [lnk]; omega⟩, by simp only [lnk]; omega⟩
      · split
        · have := (fold_gr (f := f) (fun s : KSt × Int => s.1) (seqF (kbB f) b.kids.length q) (fun s x hd hx => by
            unfold seqF
            split
            · have := kbB_gr f x.1 hd s.2 (s.1.places : Int) (more s.1 1) hx
              refine ⟨by have := this.1.up; simp only [more] at this ⊢; omega, by have := this.2; simp only [more] at this ⊢; omega, this.1.pre, this.1.short⟩
            · exact (kbB_gr f x.1 hd s.2 q s.1 hx).1) b.kids 0 _ _ (g, p) e2).1
          refine ⟨⟨this.up, by have := this.few; simp only at this; omega, this.pre, by have := this.short; simp only at this; omega⟩, by have := this.few; simp only at this; omega⟩
        · split
          · have key := (fold_gr (f := f) (fun g : KSt => g) (fun s x => altF (kbB f) p q s x.1) (fun s x hd hx => (kbB_gr f x.1 hd p q s hx).1) b.kids 0 _ _ g e2).1
            have ez : ∀ (l : List PBlk) (j : Nat) (g : KSt), (l.zipIdx j).foldl (fun s x => altF (kbB f) p q s x.1) g = l.foldl (altF (kbB f) p q) g := fun l => by
              induction l with
              | nil => intro j g; rfl
              | cons a l ih => intro j g; simp only [List.zipIdx_cons, List.foldl_cons]; exact ih _ _
            rw [ez] at key
            refine ⟨⟨key.up, by have := key.few; omega, key.pre, by have := key.short; omega⟩, by have := key.few; omega⟩
          · split
            · obtain ⟨g1, hg1⟩ : ∃ g1, lnk (more g (2 * b.kids.length)) 0 [p] (insL g.places b.kids.length) = g1 := ⟨_, rfl⟩
              have hp1 : g1.places = g.places + 2 * b.kids.length := by rw [← hg1]; rfl
              have hl1 : g1.links.length = g.links.length + 1 := by rw [← hg1]; simp [lnk, more]
              have hx1 : g.links <+: g1.links := by rw [← hg1]; exact List.prefix_append _ _
              rw [hg1]
              -- each call brings two fewer than its blocks would let, so the places told ahead are paid
              have key : ∀ (l : List PBlk) (j hd h' : Nat) (s : KSt), l.foldl (stepC (chkB f)) (hd, 0) = (h', 0) → Gr s ((l.zipIdx j).foldl (bothF (kbB f) g.places) s) (h' - hd) ∧ ((l.zipIdx j).foldl (bothF (kbB f) g.places) s).places + 2 * l.length ≤ s.places + 4 * (h' - hd) := fun l => by
                induction l with
                | nil =>
                  intro j hd h' s hh
                  exact ⟨Gr.refl _ _, by simp⟩
                | cons k l ih =>
                  intro j hd h' s hh
                  rw [List.foldl_cons, stepC, if_pos rfl] at hh
                  have hk : (chkB f k hd).2 = 0 := by
                    apply Classical.byContradiction
                    intro hne
                    rw [stepC_stay hne] at hh
                    rw [hh] at hne
                    exact hne rfl
                  obtain ⟨o1, _⟩ := chkB_ok f k hd hk
                  have hpair : chkB f k hd = ((chkB f k hd).1, 0) := by rw [← hk]
                  rw [hpair] at hh
                  have hge := (fold_gr (f := f) (fun g : KSt => g) (fun s x => s) (fun s x hd _ => Gr.refl _ _) l 0 _ _ s hh).2
                  obtain ⟨i1, i2⟩ := ih (j + 1) _ h' (bothF (kbB f) g.places s (k, j)) hh
                  obtain ⟨c1, c2⟩ := kbB_gr f k hd ((g.places + 2 * j : Nat) : Int) ((g.places + 2 * j + 1 : Nat) : Int) s hk
                  have c1' : Gr s (bothF (kbB f) g.places s (k, j)) ((chkB f k hd).1 - hd) := c1
                  have c2' : (bothF (kbB f) g.places s (k, j)).places + 2 ≤ s.places + 4 * ((chkB f k hd).1 - hd) := c2
                  simp only [List.zipIdx_cons, List.foldl_cons, List.length_cons]
                  have := c1'.trans i1
                  rw [show (chkB f k hd).1 - hd + (h' - (chkB f k hd).1) = h' - hd by omega] at this
                  exact ⟨this, by omega⟩
              obtain ⟨f1, f2⟩ := key b.kids 0 _ _ g1 e2
              have f1u := f1.up
              have f1s := f1.short
              refine ⟨⟨by simp only [lnk]; omega, by simp only [lnk]; omega, (hx1.trans f1.pre).trans (List.prefix_append _ _), by simp [lnk]; omega⟩, by simp only [lnk]; omega⟩
            · have hk6 : b.kind = 6 := by omega
              have hn := k62 hk6
              obtain ⟨a0, a1, ha⟩ : ∃ a0 a1, b.kids = [a0, a1] := by
                match hb : b.kids, hn with
                | [a0, a1], _ => exact ⟨a0, a1, rfl⟩
              rw [ha] at e2 ⊢
              simp only [List.foldl_cons, List.foldl_nil] at e2
              rw [stepC, stepC, if_pos rfl] at e2
              have c0 : (chkB f a0 (had + 1)).2 = 0 := by
                apply Classical.byContradiction
                intro hne
                rw [if_neg hne] at e2
                rw [e2] at hne
                exact hne rfl
              rw [if_pos c0] at e2
              obtain ⟨o1, _⟩ := chkB_ok f a0 (had + 1) c0
              have c1 : (chkB f a1 (chkB f a0 (had + 1)).1).2 = 0 := by rw [e2]
              obtain ⟨o2, _⟩ := chkB_ok f a1 _ c1
              rw [e2] at o2
              simp only at o2
              simp only [List.getD_cons_zero, List.getD_cons_succ]
              obtain ⟨g1, hg1⟩ : ∃ g1, lnk (more g 2) 0 [p] [(g.places : Int)] = g1 := ⟨_, rfl⟩
              have hp1 : g1.places = g.places + 2 := by rw [← hg1]; rfl
              have hl1 : g1.links.length = g.links.length + 1 := by rw [← hg1]; simp [lnk, more]
              have hx1 : g.links <+: g1.links := by rw [← hg1]; exact List.prefix_append _ _
              rw [hg1]
              obtain ⟨u1, u2⟩ := kbB_gr f a0 (had + 1) (g.places : Int) ((g.places + 1 : Nat) : Int) g1 c0
              obtain ⟨g2, hg2⟩ : ∃ g2, kbB f a0 (g.places : Int) ((g.places + 1 : Nat) : Int) g1 = g2 := ⟨_, rfl⟩
              rw [hg2] at u1 u2 ⊢
              obtain ⟨v1, v2⟩ := kbB_gr f a1 _ ((g.places + 1 : Nat) : Int) (g.places : Int) g2 c1
              rw [e2] at v1 v2
              simp only at v1 v2
              obtain ⟨g3, hg3⟩ : ∃ g3, kbB f a1 ((g.places + 1 : Nat) : Int) (g.places : Int) g2 = g3 := ⟨_, rfl⟩
              rw [hg3] at v1 v2 ⊢
              have a1' := u1.up
              have a2' := u1.short
              have a3' := v1.up
              have a4' := v1.short
              refine ⟨⟨by simp only [lnk]; omega, by simp only [lnk]; omega, ((hx1.trans u1.pre).trans v1.pre).trans (List.prefix_append _ _), by simp [lnk]; omega⟩, by simp only [lnk]; omega⟩
theorem pre_okC {f hd0 h' : Nat} {l : List PBlk} (h : l.foldl (stepC (chkB f)) (hd0, 0) = (h', 0)) (i : Nat) : ∃ hd, (l.take i).foldl (stepC (chkB f)) (hd0, 0) = (hd, 0) := by
  refine ⟨((l.take i).foldl (stepC (chkB f)) (hd0, 0)).1, Prod.ext rfl ?_⟩
  apply Classical.byContradiction
  intro hne
  have := foldC_bad hne
  rw [h] at this
  rw [← this] at hne
  exact hne rfl
theorem next_okC {f hd0 h' hd i : Nat} {l : List PBlk} {x : PBlk} (h : l.foldl (stepC (chkB f)) (hd0, 0) = (h', 0)) (hx : l[i]? = some x) (hp : (l.take i).foldl (stepC (chkB f)) (hd0, 0) = (hd, 0)) : ∃ hd', chkB f x hd = (hd', 0) ∧ (l.take (i + 1)).foldl (stepC (chkB f)) (hd0, 0) = (hd', 0) := by
  obtain ⟨hd', h1⟩ := pre_okC h (i + 1)
  have h2 := foldC_take (g := chkB f) (s := (hd0, 0)) hx
  rw [hp, stepC, if_pos rfl] at h2
  exact ⟨hd', h2.symm.trans h1, h1⟩
theorem zip_step {σ : Type} {F : σ → PBlk × Nat → σ} {s : σ} {l : List PBlk} {i : Nat} {x : PBlk} (h : l[i]? = some x) : (l.take (i + 1)).zipIdx.foldl F s = F ((l.take i).zipIdx.foldl F s) (x, i) := by
  rw [zip_take h, List.foldl_append]; rfl
theorem zip_all {σ : Type} {F : σ → PBlk × Nat → σ} {s : σ} {l : List PBlk} {i : Nat} (h : l.length ≤ i) : (l.take i).zipIdx.foldl F s = l.zipIdx.foldl F s := by rw [List.take_of_length_le h]
theorem tail_gr {σ : Type} {f : Nat} (view : σ → KSt) (F : σ → PBlk × Nat → σ) (hF : ∀ (s : σ) (x : PBlk × Nat) (hd : Nat), (chkB f x.1 hd).2 = 0 → Gr (view s) (view (F s x)) ((chkB f x.1 hd).1 - hd)) {l : List PBlk} {i hd0 hd h' : Nat} {s0 : σ} (h1 : (l.take i).foldl (stepC (chkB f)) (hd0, 0) = (hd, 0)) (h2 : l.foldl (stepC (chkB f)) (hd0, 0) = (h', 0)) :
    Gr (view ((l.take i).zipIdx.foldl F s0)) (view (l.zipIdx.foldl F s0)) (h' - hd) := by
  have e := List.take_append_drop i l
  have e2 : l.zipIdx.foldl F s0 = ((l.drop i).zipIdx (0 + (l.take i).length)).foldl F ((l.take i).zipIdx.foldl F s0) := by
    rw [← List.foldl_append, ← List.zipIdx_append, e]
  rw [e2]
  refine (fold_gr view F hF (l.drop i) _ hd h' _ ?_).1
  rw [← h1, ← List.foldl_append, e]; exact h2
theorem zip_alt (r : GRec) (p q : Int) : ∀ (l : List PBlk) (j : Nat) (g : KSt), (l.zipIdx j).foldl (fun s x => altF r p q s x.1) g = l.foldl (altF r p q) g := fun l => by
  induction l with
  | nil => intro j g; rfl
  | cons a l ih => intro j g; simp only [List.zipIdx_cons, List.foldl_cons]; exact ih _ _
theorem alt_step {f : Nat} {p q : Int} (s : KSt) (x : PBlk × Nat) (hd : Nat) (hx : (chkB f x.1 hd).2 = 0) : Gr s (altF (kbB f) p q s x.1) ((chkB f x.1 hd).1 - hd) := (kbB_gr f x.1 hd p q s hx).1
theorem seq_step {f n : Nat} {q : Int} (s : KSt × Int) (x : PBlk × Nat) (hd : Nat) (hx : (chkB f x.1 hd).2 = 0) : Gr s.1 (seqF (kbB f) n q s x).1 ((chkB f x.1 hd).1 - hd) := by
  unfold seqF
  split
  · have := kbB_gr f x.1 hd s.2 (s.1.places : Int) (more s.1 1) hx
    exact ⟨by have := this.1.up; simp only [more] at this ⊢; omega, by have := this.2; simp only [more] at this ⊢; omega, this.1.pre, this.1.short⟩
  · exact (kbB_gr f x.1 hd s.2 q s.1 hx).1
theorem both_step {f pl : Nat} (s : KSt) (x : PBlk × Nat) (hd : Nat) (hx : (chkB f x.1 hd).2 = 0) : Gr s (bothF (kbB f) pl s x) ((chkB f x.1 hd).1 - hd) := (kbB_gr f x.1 hd _ _ s hx).1
section
variable {f : Nat} {lb p q : Int} {ks : List PBlk} {g : KSt}
theorem kbB_1 : kbB (f + 1) (.mk 1 lb ks) p q g = lnk g 0 [p] [q] := by simp [kbB, PBlk.kind]
theorem kbB_2 : kbB (f + 1) (.mk 2 lb ks) p q g = lnk g lb [p] [q] := by simp [kbB, PBlk.kind, PBlk.label]
theorem kbB_3 : kbB (f + 1) (.mk 3 lb ks) p q g = (ks.zipIdx.foldl (seqF (kbB f) ks.length q) (g, p)).1 := by simp [kbB, PBlk.kind, PBlk.kids]
theorem kbB_4 : kbB (f + 1) (.mk 4 lb ks) p q g = ks.foldl (altF (kbB f) p q) g := by simp [kbB, PBlk.kind, PBlk.kids]
theorem kbB_5 : kbB (f + 1) (.mk 5 lb ks) p q g = lnk (ks.zipIdx.foldl (bothF (kbB f) g.places) (lnk (more g (2 * ks.length)) 0 [p] (insL g.places ks.length))) 0 (outsL g.places ks.length) [q] := by simp [kbB, PBlk.kind, PBlk.kids]
theorem kbB_6 {a0 a1 : PBlk} : kbB (f + 1) (.mk 6 lb [a0, a1]) p q g = lnk (kbB f a1 ((g.places + 1 : Nat) : Int) (g.places : Int) (kbB f a0 (g.places : Int) ((g.places + 1 : Nat) : Int) (lnk (more g 2) 0 [p] [(g.places : Int)]))) 0 [((g.places + 1 : Nat) : Int)] [q] := by simp [kbB, PBlk.kind, PBlk.kids]
end
/-- There is room. -/
def fitsK (g : KSt) : Prop := g.places ≤ 16 ∧ g.links.length ≤ 24
theorem Gr.fits {a b : KSt} {k : Nat} (h : Gr a b k) (hb : fitsK b) : fitsK a := ⟨Nat.le_trans h.up hb.1, Nat.le_trans h.pre.length_le hb.2⟩
end Go.Proofs.Ytnfppolgaeibeaa
