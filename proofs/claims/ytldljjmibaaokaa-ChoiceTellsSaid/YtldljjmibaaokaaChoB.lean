/- The plain law of the reference's clusters: each takes the least head of those it shares with, as many rounds as there are transitions. No program in sight. -/
import Derived.Test.YtldljjmibaaokaaChoA
namespace Go.Proofs.Ytldljjmibaaokaa
section
variable {sh : Nat → Nat → Bool} {n : Nat}
/-- The head of one. -/
def hdA (hd : List Int) (i : Nat) : Int := hd.getD i 0
structure HInv (sh : Nat → Nat → Bool) (n : Nat) (hd : List Int) : Prop where
  len : hd.length = n
  ok : ∀ i, i < n → ∃ m : Nat, hdA hd i = (m : Int) ∧ m ≤ i ∧ Conn sh n i m
/-- Within a round that began at hd: the pairs before (i0, j0) are dealt with. -/
structure RndP (sh : Nat → Nat → Bool) (n : Nat) (hd : List Int) (i0 j0 : Nat) (cur : List Int) : Prop where
  inv : HInv sh n cur
  le : ∀ i, i < n → hdA cur i ≤ hdA hd i
  done : ∀ i j, (i < i0 ∨ (i = i0 ∧ j < j0)) → i < n → j < n → sh i j = true → hdA cur i ≤ hdA hd j
theorem RndP.start {hd : List Int} (h : HInv sh n hd) : RndP sh n hd 0 0 hd := ⟨h, fun _ _ => Int.le_refl _, fun i j hij => by omega⟩
theorem RndP.next {hd cur : List Int} {i0 : Nat} (h : RndP sh n hd i0 n cur) : RndP sh n hd (i0 + 1) 0 cur := ⟨h.inv, h.le, fun i j hij hi hj hs => by
  refine h.done i j ?_ hi hj hs
  omega⟩
theorem RndP.pass {hd cur : List Int} {i0 j0 : Nat} (h : RndP sh n hd i0 j0 cur) (hs : sh i0 j0 = false) : RndP sh n hd i0 (j0 + 1) cur := ⟨h.inv, h.le, fun i j hij hi hj hsh => by
  by_cases e : i = i0 ∧ j = j0
  · rw [e.1, e.2, hs] at hsh; cases hsh
  · exact h.done i j (by omega) hi hj hsh⟩
theorem hdA_set {cur : List Int} {i j : Nat} {y : Int} (hi : i < cur.length) : hdA (cur.set i y) j = if j = i then y else hdA cur j := by
  unfold hdA
  rw [List.getD_eq_getElem?_getD, List.getD_eq_getElem?_getD]
  split
  · rename_i e
    subst e
    rw [List.getElem?_set_self hi]; rfl
  · rename_i e
    rw [List.getElem?_set_ne (fun e2 => e e2.symm)]
theorem RndP.take {hd cur : List Int} {i0 j0 : Nat} (h : RndP sh n hd i0 j0 cur) (hi : i0 < n) (hj : j0 < n) (hs : sh i0 j0 = true) {y : Int} (hy : y = min (hdA cur i0) (hdA cur j0)) : RndP sh n hd i0 (j0 + 1) (cur.set i0 y) := by
  have hl : i0 < cur.length := by rw [h.inv.len]; exact hi
  obtain ⟨m1, e1, l1, c1⟩ := h.inv.ok i0 hi
  obtain ⟨m2, e2, l2, c2⟩ := h.inv.ok j0 hj
  have g1 := h.le i0 hi
  have g2 := h.le j0 hj
  refine ⟨⟨by rw [List.length_set]; exact h.inv.len, fun i hin => ?_⟩, fun i hin => ?_, fun i j hij hin hjn hsh => ?_⟩
  · rw [hdA_set hl]
    split
    · rename_i e
      subst e
      by_cases hm : m1 ≤ m2
      · exact ⟨m1, by omega, l1, c1⟩
      · exact ⟨m2, by omega, by omega, (Conn.one hi hj hs).trans c2⟩
    · exact h.inv.ok i hin
  · rw [hdA_set hl]
    split
    · rename_i e; subst e; omega
    · exact h.le i hin
  · rw [hdA_set hl]
    split
    · rename_i e
      subst e
      by_cases ej : j = j0
      · subst ej; omega
      · have := h.done i j (by omega) hin hjn hsh
        omega
    · exact h.done i j (by omega) hin hjn hsh

def cntH (n : Nat) (m : Nat) (hd : List Int) : Nat := ((List.range n).filter fun i => hdA hd i == (m : Int)).length
def LeastC (sh : Nat → Nat → Bool) (n m : Nat) : Prop := m < n ∧ ∀ j, j < n → Conn sh n m j → m ≤ j
def GoodR (sh : Nat → Nat → Bool) (n r : Nat) (hd : List Int) : Prop :=
  HInv sh n hd ∧ ∀ m, LeastC sh n m → (∀ j, j < n → Conn sh n m j → hdA hd j = (m : Int)) ∨ r + 1 ≤ cntH n m hd
def iniH (n : Nat) : List Int := (List.range n).map fun i : Nat => (i : Int)
theorem hdA_ini {i : Nat} (h : i < n) : hdA (iniH n) i = (i : Int) := by
  unfold hdA iniH
  rw [List.getD_eq_getElem?_getD, List.getElem?_map, List.getElem?_range h]; rfl
theorem HInv.ini : HInv sh n (iniH n) := ⟨by simp [iniH], fun i hi => ⟨i, hdA_ini hi, Nat.le_refl _, .refl i⟩⟩
theorem GoodR.ini : GoodR sh n 0 (iniH n) := by
  refine ⟨HInv.ini, fun m hm => .inr ?_⟩
  unfold cntH
  have : m ∈ (List.range n).filter fun i => hdA (iniH n) i == (m : Int) := List.mem_filter.2 ⟨List.mem_range.2 hm.1, by rw [hdA_ini hm.1]; simp⟩
  exact List.length_pos_of_mem this
theorem filter_more {α : Type} {p q : α → Bool} : ∀ (l : List α), (∀ x ∈ l, p x = true → q x = true) → (∃ x ∈ l, p x = false ∧ q x = true) → (l.filter p).length + 1 ≤ (l.filter q).length
  | [], _, ⟨x, hx, _⟩ => by cases hx
  | a :: l, h1, h2 => by
    have mono : ∀ (l : List α), (∀ x ∈ l, p x = true → q x = true) → (l.filter p).length ≤ (l.filter q).length := by
      intro l
      induction l with
      | nil => intro _; simp
      | cons b l ih =>
        intro h
        have := ih (fun x hx => h x (by simp [hx]))
        cases hp : p b
        · rw [List.filter_cons_of_neg (by simp [hp])]
          cases hq : q b
          · rw [List.filter_cons_of_neg (by simp [hq])]; exact this
          · rw [List.filter_cons_of_pos hq]; simp; omega
        · rw [List.filter_cons_of_pos hp, List.filter_cons_of_pos (h b (by simp) hp)]; simp; exact this
    have hm := mono l (fun x hx => h1 x (by simp [hx]))
    cases hp : p a
    · rw [List.filter_cons_of_neg (by simp [hp])]
      cases hq : q a
      · rw [List.filter_cons_of_neg (by simp [hq])]
        obtain ⟨x, hx, e1, e2⟩ := h2
        rcases List.mem_cons.1 hx with rfl | hx
        · rw [hq] at e2; cases e2
        · exact filter_more l (fun x hx => h1 x (by simp [hx])) ⟨x, hx, e1, e2⟩
      · rw [List.filter_cons_of_pos hq]; simp; omega
    · rw [List.filter_cons_of_pos hp, List.filter_cons_of_pos (h1 a (by simp) hp)]
      obtain ⟨x, hx, e1, e2⟩ := h2
      rcases List.mem_cons.1 hx with rfl | hx
      · rw [hp] at e1; cases e1
      · have := filter_more l (fun x hx => h1 x (by simp [hx])) ⟨x, hx, e1, e2⟩
        simp; omega
theorem HInv.least {hd : List Int} (h : HInv sh n hd) {m : Nat} (hm : LeastC sh n m) {j : Nat} (hj : j < n) (hc : Conn sh n m j) : (m : Int) ≤ hdA hd j := by
  obtain ⟨q, e, hq, c⟩ := h.ok j hj
  have := hm.2 q (by omega) (hc.trans c)
  omega
theorem GoodR.step (hs : ∀ i j, sh i j = sh j i) {r : Nat} {hd cur : List Int} (h : GoodR sh n r hd) (g : RndP sh n hd n 0 cur) : GoodR sh n (r + 1) cur := by
  obtain ⟨hi, hg⟩ := h
  refine ⟨g.inv, fun m hm => ?_⟩
  have keep : ∀ i, i < n → hdA hd i = (m : Int) → hdA cur i = (m : Int) := by
    intro i hin e
    obtain ⟨q, e1, _, c1⟩ := hi.ok i hin
    have hc : Conn sh n m i := by
      have : q = m := by omega
      rw [this] at c1
      exact c1.symm hs
    have a := g.inv.least hm hin hc
    have b := g.le i hin
    omega
  rcases hg m hm with hall | hcnt
  · refine .inl (fun j hj hc => keep j hj (hall j hj hc))
  · by_cases hall : ∀ j, j < n → Conn sh n m j → hdA hd j = (m : Int)
    · exact .inl (fun j hj hc => keep j hj (hall j hj hc))
    · right
      simp only [Classical.not_forall] at hall
      obtain ⟨j, hj, hc, hne⟩ := hall
      have hmm : hdA hd m = (m : Int) := by
        have hmn : m < n := hm.1
        obtain ⟨q, e, hq, c⟩ := hi.ok m hm.1
        have := hm.2 q (by omega) c
        omega
      obtain ⟨u, v, hu, hv, huv, hmu, pu, pv⟩ := hc.edge (P := fun i => hdA hd i = (m : Int)) hmm hne
      have hcv : hdA cur v = (m : Int) := by
        have a := g.done v u (.inl hv) hv hu (by rw [hs]; exact huv)
        have b := g.inv.least hm hv (.step hmu hu hv huv)
        omega
      have := filter_more (p := fun i => hdA hd i == (m : Int)) (q := fun i => hdA cur i == (m : Int)) (List.range n) (fun x hx hp => by
        rw [beq_iff_eq] at hp ⊢
        exact keep x (List.mem_range.1 hx) hp) ⟨v, List.mem_range.2 hv, by rw [beq_eq_false_iff_ne]; exact pv, by rw [beq_iff_eq]; exact hcv⟩
      unfold cntH at hcnt ⊢
      omega
theorem least_ex (i : Nat) : ∀ k, k ≤ i → k < n → ∃ m, m ≤ k ∧ Conn sh n k m ∧ LeastC sh n m := by
  intro k
  induction k using Nat.strongRecOn with
  | _ k ih =>
    intro hk hn
    by_cases h : ∃ j, j < k ∧ Conn sh n k j
    · obtain ⟨j, hj, hc⟩ := h
      obtain ⟨m, h1, h2, h3⟩ := ih j hj (by omega) (by omega)
      exact ⟨m, by omega, hc.trans h2, h3⟩
    · refine ⟨k, Nat.le_refl _, .refl k, hn, fun j hj hc => ?_⟩
      apply Classical.byContradiction
      intro hlt
      exact h ⟨j, by omega, hc⟩
/-- Behind all rounds: the head is the least of the cluster. -/
def FinH (sh : Nat → Nat → Bool) (n : Nat) (hd : List Int) : Prop := hd.length = n ∧ ∀ i, i < n → ∃ m : Nat, hdA hd i = (m : Int) ∧ m ≤ i ∧ Conn sh n i m ∧ LeastC sh n m
theorem GoodR.fin (hs : ∀ i j, sh i j = sh j i) {hd : List Int} (h : GoodR sh n n hd) : FinH sh n hd := by
  refine ⟨h.1.len, fun i hi => ?_⟩
  obtain ⟨m, h1, h2, h3⟩ := least_ex (sh := sh) (n := n) i i (Nat.le_refl _) hi
  rcases h.2 m h3 with hall | hcnt
  · exact ⟨m, hall i hi (h2.symm hs), h1, h2, h3⟩
  · unfold cntH at hcnt
    have := List.length_filter_le (fun i => hdA hd i == (m : Int)) (List.range n)
    rw [List.length_range] at this
    omega
def grpL (n : Nat) (hd : List Int) (h : Nat) : List Int := ((List.range n).filter fun i => hdA hd i == (h : Int)).map fun i : Nat => (i : Int)
def groups (n : Nat) (hd : List Int) : List (List Int) := ((List.range n).map (grpL n hd)).filter fun l => !l.isEmpty
theorem grp_mem {hd : List Int} {h i : Nat} : (i : Int) ∈ grpL n hd h ↔ i < n ∧ hdA hd i = (h : Int) := by
  unfold grpL
  rw [List.mem_map]
  constructor
  · rintro ⟨j, hj, e⟩
    obtain rfl : j = i := by omega
    have := List.mem_filter.1 hj
    exact ⟨List.mem_range.1 this.1, by simpa using this.2⟩
  · rintro ⟨h1, h2⟩
    exact ⟨i, List.mem_filter.2 ⟨List.mem_range.2 h1, by rw [h2]; simp⟩, rfl⟩
theorem grp_int {hd : List Int} {h : Nat} {x : Int} (hx : x ∈ grpL n hd h) : ∃ i : Nat, x = (i : Int) := by
  unfold grpL at hx
  obtain ⟨i, _, e⟩ := List.mem_map.1 hx
  exact ⟨i, e.symm⟩
theorem grp_asc (hd : List Int) (h : Nat) : (grpL n hd h).Pairwise (· < ·) := by
  unfold grpL
  rw [List.pairwise_map]
  exact (List.Pairwise.filter _ List.pairwise_lt_range).imp (fun h => by omega)
theorem grp_head {hd : List Int} (hf : FinH sh n hd) {h : Nat} (hh : h < n) (hne : grpL n hd h ≠ []) : (grpL n hd h).head? = some (h : Int) := by
  obtain ⟨x, hx⟩ := List.exists_mem_of_ne_nil _ hne
  obtain ⟨i, rfl⟩ := grp_int hx
  obtain ⟨hi, e⟩ := grp_mem.1 hx
  obtain ⟨m, e1, _, c1, l1⟩ := hf.2 i hi
  obtain rfl : m = h := by omega
  obtain ⟨q, e2, hq, c2, l2⟩ := hf.2 m hh
  have := l1.2 q l2.1 c2
  have hm : (m : Int) ∈ grpL n hd m := grp_mem.2 ⟨hh, by omega⟩
  have ha := grp_asc (n := n) hd m
  cases hl : grpL n hd m with
  | nil => exact absurd hl hne
  | cons y ys =>
    rw [hl] at hm ha
    rcases List.mem_cons.1 hm with e3 | e3
    · rw [e3]; rfl
    · have h1 := (List.pairwise_cons.1 ha).1 _ e3
      have hy : y ∈ grpL n hd m := by rw [hl]; simp
      obtain ⟨j, rfl⟩ := grp_int hy
      obtain ⟨hj, ej⟩ := grp_mem.1 hy
      obtain ⟨m', e4, hle, _⟩ := hf.2 j hj
      omega
theorem groups_cl (hs : ∀ i j, sh i j = sh j i) {hd : List Int} (hf : FinH sh n hd) : IsCl sh n (groups n hd) := by
  have hmem : ∀ l, l ∈ groups n hd ↔ ∃ h, h < n ∧ l = grpL n hd h ∧ l ≠ [] := by
    intro l
    unfold groups
    rw [List.mem_filter, List.mem_map]
    constructor
    · rintro ⟨⟨h, hh, rfl⟩, e⟩
      exact ⟨h, List.mem_range.1 hh, rfl, by intro e2; rw [e2] at e; cases e⟩
    · rintro ⟨h, hh, rfl, e⟩
      refine ⟨⟨h, List.mem_range.2 hh, rfl⟩, ?_⟩
      cases hl : grpL n hd h
      · exact absurd hl e
      · rfl
  refine ⟨fun l hl => ?_, fun l hl x hx => ?_, fun i hi => ?_, fun l hl x hx j hj => ?_, ?_, fun l hl => ?_⟩
  · obtain ⟨h, _, rfl, _⟩ := (hmem l).1 hl
    exact grp_asc hd h
  · obtain ⟨h, _, rfl, _⟩ := (hmem l).1 hl
    obtain ⟨i, rfl⟩ := grp_int hx
    have := (grp_mem.1 hx).1
    omega
  · obtain ⟨m, e, hle, _, _⟩ := hf.2 i hi
    have : (i : Int) ∈ grpL n hd m := grp_mem.2 ⟨hi, e⟩
    exact ⟨grpL n hd m, (hmem _).2 ⟨m, by omega, rfl, fun e => by rw [e] at this; cases this⟩, this⟩
  · obtain ⟨h, _, rfl, _⟩ := (hmem l).1 hl
    obtain ⟨i, rfl⟩ := grp_int hx
    rw [Int.toNat_natCast]
    obtain ⟨hi, ei⟩ := grp_mem.1 hx
    obtain ⟨m, e1, _, c1, l1⟩ := hf.2 i hi
    obtain ⟨q, e2, _, c2, l2⟩ := hf.2 j hj
    constructor
    · intro hjl
      obtain ⟨_, ej⟩ := grp_mem.1 hjl
      obtain rfl : q = m := by omega
      exact c1.trans (c2.symm hs)
    · intro hc
      refine grp_mem.2 ⟨hj, ?_⟩
      have h1 := l1.2 q l2.1 (((c1.symm hs).trans hc).trans c2)
      have h2 := l2.2 m l1.1 (((c2.symm hs).trans (hc.symm hs)).trans c1)
      omega
  · unfold groups
    have key : ∀ (hs : List Nat), hs.Pairwise (· < ·) → (∀ h ∈ hs, h < n) → ((hs.map (grpL n hd)).filter fun l => !l.isEmpty).Pairwise (fun a b => ∃ x y, a.head? = some x ∧ b.head? = some y ∧ x < y) := by
      intro hs
      induction hs with
      | nil => intro _ _; simp
      | cons h hs ih =>
        intro hp hr
        obtain ⟨p1, p2⟩ := List.pairwise_cons.1 hp
        have := ih p2 (fun x hx => hr x (by simp [hx]))
        rw [List.map_cons]
        cases he : (grpL n hd h).isEmpty
        · rw [List.filter_cons_of_pos (by rw [he]; rfl), List.pairwise_cons]
          refine ⟨fun b hb => ?_, this⟩
          obtain ⟨hb1, hb2⟩ := List.mem_filter.1 hb
          obtain ⟨h', hh', rfl⟩ := List.mem_map.1 hb1
          have ne1 : grpL n hd h ≠ [] := fun e => by rw [e] at he; cases he
          have ne2 : grpL n hd h' ≠ [] := fun e => by rw [e] at hb2; cases hb2
          have := p1 h' hh'
          exact ⟨(h : Int), (h' : Int), grp_head hf (hr h (by simp)) ne1, grp_head hf (hr h' (by simp [hh'])) ne2, by omega⟩
        · rw [List.filter_cons_of_neg (by rw [he]; simp)]
          exact this
    exact key (List.range n) List.pairwise_lt_range (fun h hh => List.mem_range.1 hh)
  · obtain ⟨h, _, _, e⟩ := (hmem l).1 hl
    exact e
end
end Go.Proofs.Ytldljjmibaaokaa
