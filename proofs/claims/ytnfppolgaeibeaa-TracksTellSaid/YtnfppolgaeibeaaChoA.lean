/- The plain law of choices: who shares, the clusters. No program in sight. -/
import Derived.Test.YtnfppolgaeibeaaPlainA
import Derived.Test.YtnfppolgaeibeaaSipA
namespace Go.Proofs.Ytnfppolgaeibeaa

/-! ### who shares -/
def shP (a b : PTran) (p : Nat) : Bool := decide (0 < a.pre.getD p 0) && decide (0 < b.pre.getD p 0)
def shareT (a b : PTran) : Bool := (List.range a.pre.length).any (shP a b)
theorem shareT_iff (a b : PTran) : shareT a b = true ↔ ∃ p, 0 < a.pre.getD p 0 ∧ 0 < b.pre.getD p 0 := by
  unfold shareT shP
  rw [List.any_eq_true]
  constructor
  · rintro ⟨p, _, h⟩
    simp only [Bool.and_eq_true, decide_eq_true_eq] at h
    exact ⟨p, h⟩
  · rintro ⟨p, h1, h2⟩
    refine ⟨p, List.mem_range.2 ?_, by simp only [Bool.and_eq_true, decide_eq_true_eq]; exact ⟨h1, h2⟩⟩
    apply Classical.byContradiction
    intro hge
    rw [List.getD_eq_getElem?_getD, List.getElem?_eq_none (by omega)] at h1
    simp at h1
theorem shareT_symm (a b : PTran) : shareT a b = shareT b a := by
  rw [Bool.eq_iff_iff, shareT_iff, shareT_iff]
  constructor
  · rintro ⟨p, h1, h2⟩; exact ⟨p, h2, h1⟩
  · rintro ⟨p, h1, h2⟩; exact ⟨p, h2, h1⟩
theorem shareT_false {a b : PTran} (h : ∀ p, p < a.pre.length → shP a b p = false) : shareT a b = false := by
  unfold shareT
  rw [List.any_eq_false]
  intro p hp
  rw [h p (List.mem_range.1 hp)]
  simp
theorem shareT_true {a b : PTran} {p : Nat} (hp : p < a.pre.length) (h : shP a b p = true) : shareT a b = true :=
  List.any_eq_true.2 ⟨p, List.mem_range.2 hp, h⟩
/-- The pair offends. -/
def offT (a b : PTran) : Bool := shareT a b && !(a.pre == b.pre)
theorem offT_symm (a b : PTran) : offT a b = offT b a := by
  unfold offT
  rw [shareT_symm]
  congr 2
  rw [Bool.eq_iff_iff, beq_iff_eq, beq_iff_eq]
  exact eq_comm
theorem offT_self (a : PTran) : offT a a = false := by unfold offT; simp
def freeB (N : PNet) : Bool := netOk N && N.trans.all fun a => N.trans.all fun b => !offT a b
theorem freeB_true {N : PNet} (hok : netOk N = true) (h : ∀ (i j : Nat) (a b : PTran), N.trans[i]? = some a → N.trans[j]? = some b → offT a b = false) : freeB N = true := by
  unfold freeB
  rw [hok, Bool.true_and, List.all_eq_true]
  intro a ha
  rw [List.all_eq_true]
  intro b hb
  obtain ⟨i, hi⟩ := List.mem_iff_getElem?.1 ha
  obtain ⟨j, hj⟩ := List.mem_iff_getElem?.1 hb
  rw [h i j a b hi hj]; rfl
theorem freeB_half {N : PNet} (hok : netOk N = true) (h : ∀ (i j : Nat) (a b : PTran), j < i → N.trans[i]? = some a → N.trans[j]? = some b → offT a b = false) : freeB N = true := by
  refine freeB_true hok (fun i j a b hi hj => ?_)
  rcases Nat.lt_trichotomy j i with hlt | rfl | hgt
  · exact h i j a b hlt hi hj
  · rw [hi] at hj
    injection hj with hj
    subst hj
    exact offT_self a
  · rw [offT_symm]
    exact h j i b a hgt hj hi
theorem freeB_false {N : PNet} {i j : Nat} {a b : PTran} (hi : N.trans[i]? = some a) (hj : N.trans[j]? = some b) (h : offT a b = true) : freeB N = false := by
  cases hf : freeB N
  · rfl
  · unfold freeB at hf
    rw [Bool.and_eq_true, List.all_eq_true] at hf
    have := hf.2 a (List.mem_of_getElem? hi)
    rw [List.all_eq_true] at this
    have := this b (List.mem_of_getElem? hj)
    rw [h] at this
    cases this
theorem freeB_bad {N : PNet} (hok : netOk N = false) : freeB N = false := by unfold freeB; rw [hok]; rfl

/-! ### clusters -/
section
variable {sh : Nat → Nat → Bool} {n : Nat}
inductive Conn (sh : Nat → Nat → Bool) (n : Nat) : Nat → Nat → Prop
  | refl (i : Nat) : Conn sh n i i
  | step {i j k : Nat} : Conn sh n i j → j < n → k < n → sh j k = true → Conn sh n i k
theorem Conn.trans {i j k : Nat} (h : Conn sh n i j) (g : Conn sh n j k) : Conn sh n i k := by
  induction g with
  | refl => exact h
  | step _ h1 h2 h3 ih => exact .step ih h1 h2 h3
theorem Conn.one {i j : Nat} (hi : i < n) (hj : j < n) (h : sh i j = true) : Conn sh n i j := .step (.refl i) hi hj h
theorem Conn.symm (hs : ∀ i j, sh i j = sh j i) {i j : Nat} (h : Conn sh n i j) : Conn sh n j i := by
  induction h with
  | refl => exact .refl _
  | step _ h1 h2 h3 ih => exact (Conn.one h2 h1 (by rw [hs]; exact h3)).trans ih
theorem Conn.lt {i j : Nat} (h : Conn sh n i j) (hi : i < n) : j < n := by
  induction h with
  | refl => exact hi
  | step _ _ h2 _ _ => exact h2
/-- On a way from one that has it to one that has not, it ends somewhere. -/
theorem Conn.edge {P : Nat → Prop} {i j : Nat} (h : Conn sh n i j) (hi : P i) (hj : ¬ P j) : ∃ u v, u < n ∧ v < n ∧ sh u v = true ∧ Conn sh n i u ∧ P u ∧ ¬ P v := by
  induction h with
  | refl => exact absurd hi hj
  | @step j k h0 h1 h2 h3 ih =>
    by_cases hp : P j
    · exact ⟨j, k, h1, h2, h3, h0, hp, hj⟩
    · exact ih hp
/-- The clusters, in order. -/
structure IsCl (sh : Nat → Nat → Bool) (n : Nat) (L : List (List Int)) : Prop where
  asc : ∀ l ∈ L, l.Pairwise (· < ·)
  rng : ∀ l ∈ L, ∀ x ∈ l, 0 ≤ x ∧ x < (n : Int)
  all : ∀ i : Nat, i < n → ∃ l ∈ L, (i : Int) ∈ l
  cls : ∀ l ∈ L, ∀ x ∈ l, ∀ j : Nat, j < n → ((j : Int) ∈ l ↔ Conn sh n x.toNat j)
  ord : L.Pairwise (fun a b => ∃ x y, a.head? = some x ∧ b.head? = some y ∧ x < y)
  ne : ∀ l ∈ L, l ≠ []
theorem ord_same : ∀ {xs ys : List (List Int)}, xs.Pairwise (fun a b => ∃ x y, a.head? = some x ∧ b.head? = some y ∧ x < y) → ys.Pairwise (fun a b => ∃ x y, a.head? = some x ∧ b.head? = some y ∧ x < y) → (∀ x, x ∈ xs ↔ x ∈ ys) → xs = ys
  | [], [], _, _, _ => rfl
  | [], y :: ys, _, _, h => by have := (h y).2 (by simp); simp at this
  | x :: xs, [], _, _, h => by have := (h x).1 (by simp); simp at this
  | x :: xs, y :: ys, hx, hy, h => by
    obtain ⟨hx1, hx2⟩ := List.pairwise_cons.1 hx
    obtain ⟨hy1, hy2⟩ := List.pairwise_cons.1 hy
    have irr : ∀ (a b : List Int), (∃ x y, a.head? = some x ∧ b.head? = some y ∧ x < y) → (∃ x y, b.head? = some x ∧ a.head? = some y ∧ x < y) → False := by
      rintro a b ⟨u, v, h1, h2, h3⟩ ⟨u', v', g1, g2, g3⟩
      rw [h1] at g2
      rw [h2] at g1
      injection g2 with g2
      injection g1 with g1
      omega
    have e : x = y := by
      rcases List.mem_cons.1 ((h x).1 (by simp)) with e | e
      · exact e
      · rcases List.mem_cons.1 ((h y).2 (by simp)) with e' | e'
        · exact e'.symm
        · exact (irr _ _ (hy1 x e) (hx1 y e')).elim
    subst e
    rw [ord_same hx2 hy2 (fun z => ?_)]
    constructor
    · intro hz
      rcases List.mem_cons.1 ((h z).1 (by simp [hz])) with e | e
      · subst e
        exact (irr _ _ (hx1 z hz) (hx1 z hz)).elim
      · exact e
    · intro hz
      rcases List.mem_cons.1 ((h z).2 (by simp [hz])) with e | e
      · subst e
        exact (irr _ _ (hy1 z hz) (hy1 z hz)).elim
      · exact e
theorem IsCl.sub {L M : List (List Int)} (h : IsCl sh n L) (g : IsCl sh n M) : ∀ l, l ∈ L → l ∈ M := by
  intro l hl
  obtain ⟨x, hx⟩ := List.exists_mem_of_ne_nil l (h.ne l hl)
  obtain ⟨x0, xn⟩ := h.rng l hl x hx
  obtain ⟨m, hm, hxm⟩ := g.all x.toNat (by omega)
  have ex : ((x.toNat : Nat) : Int) = x := by omega
  rw [ex] at hxm
  have : l = m := by
    refine asc_same (h.asc l hl) (g.asc m hm) (fun y => ⟨fun hy => ?_, fun hy => ?_⟩)
    · obtain ⟨y0, yn⟩ := h.rng l hl y hy
      have ey : ((y.toNat : Nat) : Int) = y := by omega
      rw [← ey] at hy ⊢
      exact (g.cls m hm x hxm y.toNat (by omega)).2 ((h.cls l hl x hx y.toNat (by omega)).1 hy)
    · obtain ⟨y0, yn⟩ := g.rng m hm y hy
      have ey : ((y.toNat : Nat) : Int) = y := by omega
      rw [← ey] at hy ⊢
      exact (h.cls l hl x hx y.toNat (by omega)).2 ((g.cls m hm x hxm y.toNat (by omega)).1 hy)
  rw [this]; exact hm
theorem IsCl.uniq {L M : List (List Int)} (h : IsCl sh n L) (g : IsCl sh n M) : L = M :=
  ord_same h.ord g.ord (fun l => ⟨h.sub g l, g.sub h l⟩)

/-! ### the program: one by one -/
def touch (sh : Nat → Nat → Bool) (k : Nat) (l : List Int) : Bool := l.any fun j => sh k j.toNat
def mineL (sh : Nat → Nat → Bool) (k : Nat) (L : List (List Int)) : List Int := (k : Int) :: (L.filter (touch sh k)).flatten
def restL (sh : Nat → Nat → Bool) (k : Nat) (L : List (List Int)) : List (List Int) := L.filter fun l => !touch sh k l
def sortL (l : List Int) : List Int := l.mergeSort fun x y => decide (x ≤ y)
def stepCl (sh : Nat → Nat → Bool) (k : Nat) (L : List (List Int)) : List (List Int) := restL sh k L ++ [sortL (mineL sh k L)]
/-- The first k are dealt with. -/
structure PI (sh : Nat → Nat → Bool) (n k : Nat) (L : List (List Int)) : Prop where
  asc : ∀ l ∈ L, l.Pairwise (· < ·)
  ne : ∀ l ∈ L, l ≠ []
  rng : ∀ l ∈ L, ∀ x ∈ l, 0 ≤ x ∧ x < (k : Int)
  all : ∀ i : Nat, i < k → ∃ l ∈ L, (i : Int) ∈ l
  dis : L.Pairwise (fun a b => ∀ x, x ∈ a → x ∉ b)
  con : ∀ l ∈ L, ∀ x ∈ l, ∀ y ∈ l, Conn sh n x.toNat y.toNat
  clo : ∀ l ∈ L, ∀ x ∈ l, ∀ j : Nat, j < k → sh x.toNat j = true → (j : Int) ∈ l
theorem PI.nil : PI sh n 0 [] := by
  refine ⟨?_, ?_, ?_, ?_, .nil, ?_, ?_⟩
  · intro l h; cases h
  · intro l h; cases h
  · intro l h; cases h
  · intro i h; omega
  · intro l h; cases h
  · intro l h; cases h
theorem sortL_mem (l : List Int) (x : Int) : x ∈ sortL l ↔ x ∈ l := (List.mergeSort_perm l _).mem_iff
theorem sortL_len (l : List Int) : (sortL l).length = l.length := List.length_mergeSort l
theorem sortL_asc {l : List Int} (h : l.Nodup) : (sortL l).Pairwise (· < ·) := by
  have hs : (sortL l).Pairwise (· ≤ ·) :=
    (List.pairwise_mergeSort (le := fun x y : Int => decide (x ≤ y)) (fun a b c h1 h2 => decide_eq_true (Int.le_trans (of_decide_eq_true h1) (of_decide_eq_true h2))) (fun a b => by simp; omega) l).imp (fun h => of_decide_eq_true h)
  have hn : (sortL l).Nodup := (List.mergeSort_perm l _).nodup_iff.2 h
  exact (List.Pairwise.and hs hn).imp (fun {a b} ⟨h1, h2⟩ => by omega)
theorem nodup_flat {L : List (List Int)} (h1 : ∀ l ∈ L, l.Pairwise (· < ·)) (h2 : L.Pairwise (fun a b => ∀ x, x ∈ a → x ∉ b)) : L.flatten.Nodup := by
  induction L with
  | nil => simp
  | cons a L ih =>
    obtain ⟨p1, p2⟩ := List.pairwise_cons.1 h2
    rw [List.flatten_cons, List.nodup_append]
    refine ⟨(h1 a (by simp)).imp (fun {x y} h => by omega), ih (fun l hl => h1 l (by simp [hl])) p2, fun x hx y hy e => ?_⟩
    subst e
    obtain ⟨l, hl, hxl⟩ := List.mem_flatten.1 hy
    exact p1 l hl x hx hxl
theorem mine_mem {k : Nat} {L : List (List Int)} {x : Int} : x ∈ mineL sh k L ↔ x = (k : Int) ∨ ∃ l ∈ L, touch sh k l = true ∧ x ∈ l := by
  unfold mineL
  rw [List.mem_cons, List.mem_flatten]
  constructor
  · rintro (h | ⟨l, hl, hx⟩)
    · exact .inl h
    · exact .inr ⟨l, (List.mem_filter.1 hl).1, (List.mem_filter.1 hl).2, hx⟩
  · rintro (h | ⟨l, hl, ht, hx⟩)
    · exact .inl h
    · exact .inr ⟨l, List.mem_filter.2 ⟨hl, ht⟩, hx⟩
theorem PI.step (hs : ∀ i j, sh i j = sh j i) {k : Nat} {L : List (List Int)} (h : PI sh n k L) (hk : k < n) : PI sh n (k + 1) (stepCl sh k L) := by
  have nod : (mineL sh k L).Nodup := by
    unfold mineL
    rw [List.nodup_cons]
    refine ⟨fun hin => ?_, nodup_flat (fun l hl => h.asc l (List.mem_filter.1 hl).1) (h.dis.filter _)⟩
    obtain ⟨l, hl, hx⟩ := List.mem_flatten.1 hin
    have := (h.rng l (List.mem_filter.1 hl).1 _ hx).2
    omega
  have hmem : ∀ l, l ∈ stepCl sh k L ↔ (l ∈ L ∧ touch sh k l = false) ∨ l = sortL (mineL sh k L) := by
    intro l
    unfold stepCl restL
    rw [List.mem_append, List.mem_filter, List.mem_singleton, Bool.not_eq_true']
  have mrng : ∀ x ∈ mineL sh k L, 0 ≤ x ∧ x < ((k + 1 : Nat) : Int) := by
    intro x hx
    rcases mine_mem.1 hx with rfl | ⟨l, hl, _, hxl⟩
    · omega
    · have := h.rng l hl x hxl; omega
  have kcon : ∀ x ∈ mineL sh k L, Conn sh n k x.toNat := by
    intro x hx
    rcases mine_mem.1 hx with rfl | ⟨l, hl, ht, hxl⟩
    · rw [Int.toNat_natCast]; exact .refl k
    · obtain ⟨j, hj, hsh⟩ := List.any_eq_true.1 ht
      have hjr := h.rng l hl j hj
      exact (Conn.one hk (by omega) hsh).trans (h.con l hl j hj x hxl)
  refine ⟨fun l hl => ?_, fun l hl => ?_, fun l hl x hx => ?_, fun i hi => ?_, ?_, fun l hl x hx y hy => ?_, fun l hl x hx j hj hsh => ?_⟩
  · rcases (hmem l).1 hl with ⟨hl', _⟩ | rfl
    · exact h.asc l hl'
    · exact sortL_asc nod
  · rcases (hmem l).1 hl with ⟨hl', _⟩ | rfl
    · exact h.ne l hl'
    · intro e
      have := (sortL_mem (mineL sh k L) (k : Int)).2 (by simp [mineL])
      rw [e] at this
      cases this
  · rcases (hmem l).1 hl with ⟨hl', _⟩ | rfl
    · have := h.rng l hl' x hx; omega
    · exact mrng x ((sortL_mem _ _).1 hx)
  · by_cases hik : i = k
    · subst hik
      exact ⟨_, (hmem _).2 (.inr rfl), (sortL_mem _ _).2 (by simp [mineL])⟩
    · obtain ⟨l, hl, hx⟩ := h.all i (by omega)
      cases ht : touch sh k l
      · exact ⟨l, (hmem l).2 (.inl ⟨hl, ht⟩), hx⟩
      · exact ⟨_, (hmem _).2 (.inr rfl), (sortL_mem _ _).2 (mine_mem.2 (.inr ⟨l, hl, ht, hx⟩))⟩
  · unfold stepCl restL
    rw [List.pairwise_append]
    refine ⟨h.dis.filter _, by simp, fun a ha b hb x hxa hxb => ?_⟩
    rw [List.mem_singleton.1 hb] at hxb
    obtain ⟨ha1, ha2⟩ := List.mem_filter.1 ha
    rcases mine_mem.1 ((sortL_mem _ _).1 hxb) with rfl | ⟨l, hl, ht, hxl⟩
    · have := (h.rng a ha1 _ hxa).2; omega
    · have hne : a ≠ l := fun e => by rw [e, ht] at ha2; cases ha2
      obtain ⟨i, hi⟩ := List.mem_iff_getElem?.1 ha1
      obtain ⟨j, hj⟩ := List.mem_iff_getElem?.1 hl
      obtain ⟨hi', ei⟩ := List.getElem?_eq_some_iff.1 hi
      obtain ⟨hj', ej⟩ := List.getElem?_eq_some_iff.1 hj
      rcases Nat.lt_trichotomy i j with hlt | rfl | hgt
      · exact (ei ▸ ej ▸ List.pairwise_iff_getElem.1 h.dis i j hi' hj' hlt) x hxa hxl
      · exact hne (ei.symm.trans ej)
      · exact (ei ▸ ej ▸ List.pairwise_iff_getElem.1 h.dis j i hj' hi' hgt) x hxl hxa
  · rcases (hmem l).1 hl with ⟨hl', _⟩ | rfl
    · exact h.con l hl' x hx y hy
    · exact ((kcon x ((sortL_mem _ _).1 hx)).symm hs).trans (kcon y ((sortL_mem _ _).1 hy))
  · rcases (hmem l).1 hl with ⟨hl', ht⟩ | rfl
    · by_cases hjk : j = k
      · subst hjk
        unfold touch at ht
        rw [List.any_eq_false] at ht
        have := ht x hx
        rw [hs] at this
        exact absurd hsh this
      · exact h.clo l hl' x hx j (by omega) hsh
    · by_cases hjk : j = k
      · subst hjk
        exact (sortL_mem _ _).2 (by simp [mineL])
      · refine (sortL_mem _ _).2 (mine_mem.2 (.inr ?_))
        rcases mine_mem.1 ((sortL_mem _ _).1 hx) with rfl | ⟨l, hl2, ht, hxl⟩
        · rw [Int.toNat_natCast] at hsh
          obtain ⟨l, hl2, hjl⟩ := h.all j (by omega)
          exact ⟨l, hl2, List.any_eq_true.2 ⟨(j : Int), hjl, by rw [Int.toNat_natCast]; exact hsh⟩, hjl⟩
        · exact ⟨l, hl2, ht, h.clo l hl2 x hxl j (by omega) hsh⟩
theorem PI.cls {L : List (List Int)} (h : PI sh n n L) : ∀ l ∈ L, ∀ x ∈ l, ∀ j : Nat, j < n → ((j : Int) ∈ l ↔ Conn sh n x.toNat j) := by
  intro l hl x hx j hj
  constructor
  · intro hjl
    have := h.con l hl x hx (j : Int) hjl
    rwa [Int.toNat_natCast] at this
  · intro hc
    have key : ∀ i k, Conn sh n i k → (i : Int) ∈ l → k < n → (k : Int) ∈ l := by
      intro i k hc
      induction hc with
      | refl => intro h _; exact h
      | step _ h1 h2 h3 ih =>
        intro hi _
        exact h.clo l hl _ (ih hi h1) _ h2 (by rw [Int.toNat_natCast]; exact h3)
    have hx0 := (h.rng l hl x hx).1
    exact key x.toNat j hc (by rw [show ((x.toNat : Nat) : Int) = x by omega]; exact hx) hj

/-- Lists side by side, as slices.Compare has it. -/
def cmpL : List Int → List Int → Int
  | [], [] => 0
  | [], _ :: _ => -1
  | _ :: _, [] => 1
  | x :: xs, y :: ys => if x < y then -1 else if y < x then 1 else cmpL xs ys
theorem PI.sorted {L M : List (List Int)} (h : PI sh n n L) (hp : M.Perm L) (ho : M.Pairwise (fun a b => ¬ cmpL b a < 0)) : IsCl sh n M := by
  have hd : M.Pairwise (fun a b => ∀ x, x ∈ a → x ∉ b) := hp.symm.pairwise h.dis (fun {a b} hab x hb ha => hab x ha hb)
  refine ⟨fun l hl => h.asc l (hp.mem_iff.1 hl), fun l hl => h.rng l (hp.mem_iff.1 hl), fun i hi => ?_, fun l hl => h.cls l (hp.mem_iff.1 hl), ?_, fun l hl => h.ne l (hp.mem_iff.1 hl)⟩
  · obtain ⟨l, hl, hx⟩ := h.all i hi
    exact ⟨l, hp.mem_iff.2 hl, hx⟩
  · refine List.Pairwise.imp_of_mem (fun {a b} ha hb hab => ?_) (List.Pairwise.and hd ho)
    obtain ⟨h1, h2⟩ := hab
    have ea := h.ne a (hp.mem_iff.1 ha)
    have eb := h.ne b (hp.mem_iff.1 hb)
    match a, b, ea, eb, h1, h2 with
    | x :: xs, y :: ys, _, _, h1, h2 =>
      refine ⟨x, y, rfl, rfl, ?_⟩
      have hne : x ≠ y := fun e => h1 x (by simp) (by rw [e]; simp)
      have hny : ¬ y < x := fun hlt => h2 (by rw [cmpL, if_pos hlt]; omega)
      omega
end
end Go.Proofs.Ytnfppolgaeibeaa
