/- What chapter 8 says of a net that goes from one place to another, in plain Lean: places and transitions behind a place, round by round, and by looking deeper. Conditions: none. -/
import Derived.Test.YtpagenlealddhaaPlainH
namespace Go.Proofs.Ytpagenlealddhaa

/-! ### nodes -/
/-- Which of the first so many weights are above nothing. -/
def posN (xs : List Int) (j : Nat) : List Nat := (List.range j).filter fun p => decide (0 < atL xs p)
theorem posN_succ (xs : List Int) (j : Nat) : posN xs (j + 1) = posN xs j ++ (if 0 < atL xs j then [j] else []) := by
  unfold posN
  rw [List.range_succ, List.filter_append]
  congr 1
  by_cases h : 0 < atL xs j <;> simp [h]
def preN (ts : List PTran) (p j : Nat) : List Nat := (List.range j).filter fun k => decide (0 < atL ((ts[k]?).getD ⟨0, [], []⟩).pre p)
theorem preN_succ (ts : List PTran) (p j : Nat) {t : PTran} (h : ts[j]? = some t) : preN ts p (j + 1) = preN ts p j ++ (if 0 < atL t.pre p then [j] else []) := by
  unfold preN
  rw [List.range_succ, List.filter_append]
  congr 1
  by_cases h' : 0 < atL t.pre p <;> simp [h, h']
abbrev PNode := Bool × Nat
def nodeS (N : PNet) : PNode → List PNode
  | (true, k) => match N.trans[k]? with
    | none => []
    | some t => (posN t.post t.post.length).map fun p => (false, p)
  | (false, p) => (preN N.trans p N.trans.length).map fun k => (true, k)
def nodes (N : PNet) : List PNode := (List.range N.places.toNat).map (fun p => (false, p)) ++ (List.range N.trans.length).map fun k => (true, k)
theorem nodes_length (N : PNet) : (nodes N).length = N.places.toNat + N.trans.length := by simp [nodes]
theorem mem_nodes_place {N : PNet} {p : Nat} : ((false, p) : PNode) ∈ nodes N ↔ p < N.places.toNat := by simp [nodes]
theorem mem_nodes_tran {N : PNet} {k : Nat} : ((true, k) : PNode) ∈ nodes N ↔ k < N.trans.length := by simp [nodes]
theorem nodes_nodup (N : PNet) : (nodes N).Nodup := by
  unfold nodes
  rw [List.nodup_append]
  refine ⟨?_, ?_, ?_⟩
  · exact List.Pairwise.map _ (fun a b h e => h (by simpa using e)) List.nodup_range
  · exact List.Pairwise.map _ (fun a b h e => h (by simpa using e)) List.nodup_range
  · intro a ha b hb
    simp only [List.mem_map] at ha hb
    obtain ⟨p, _, rfl⟩ := ha
    obtain ⟨k, _, rfl⟩ := hb
    simp
theorem nodes_closed {N : PNet} (h : netOk N = true) : ∀ x ∈ nodes N, ∀ y ∈ nodeS N x, y ∈ nodes N := by
  intro x hx y hy
  rcases x with ⟨b, k⟩
  cases b
  · simp only [nodeS, preN, List.mem_map, List.mem_filter, List.mem_range] at hy
    obtain ⟨j, ⟨hj, _⟩, rfl⟩ := hy
    exact mem_nodes_tran.2 hj
  · simp only [nodeS] at hy
    cases ht : N.trans[k]? with
    | none => rw [ht] at hy; simp at hy
    | some t =>
      rw [ht] at hy
      simp only [posN, List.mem_map, List.mem_filter, List.mem_range] at hy
      obtain ⟨j, ⟨hj, _⟩, rfl⟩ := hy
      refine mem_nodes_place.2 ?_
      have := (netOk_tran h ht).2.2.2.1
      omega

/-! ### round by round -/
/-- Which places, and which transitions, are behind. -/
structure Ways where
  ps : List Bool
  ts : List Bool
def orT (ps : List Bool) (pre : List Int) (b : Bool) (j : Nat) : Bool := b || (List.range j).any fun p => ps.getD p false && decide (0 < atL pre p)
theorem orT_succ (ps : List Bool) (pre : List Int) (b : Bool) (j : Nat) : orT ps pre b (j + 1) = (orT ps pre b j || ps.getD j false && decide (0 < atL pre j)) := by
  unfold orT
  rw [List.range_succ, List.any_append]
  simp [Bool.or_assoc]
def orP (ps : List Bool) (b : Bool) (post : List Int) (j : Nat) : List Bool := (List.range ps.length).map fun p => ps.getD p false || (decide (p < j) && (b && decide (0 < atL post p)))
theorem orP_length (ps : List Bool) (b : Bool) (post : List Int) (j : Nat) : (orP ps b post j).length = ps.length := by simp [orP]
theorem orP_get (ps : List Bool) (b : Bool) (post : List Int) (j p : Nat) (h : p < ps.length) : (orP ps b post j).getD p false = (ps.getD p false || (decide (p < j) && (b && decide (0 < atL post p)))) := by
  simp [orP, h]
theorem orP_zero (ps : List Bool) (b : Bool) (post : List Int) : orP ps b post 0 = ps := by
  apply List.ext_getElem?
  intro i
  by_cases hi : i < ps.length
  · simp [orP, hi]
  · simp [orP, hi]
theorem orP_succ (ps : List Bool) (b : Bool) (post : List Int) (j : Nat) (h : j < ps.length) : (orP ps b post j).set j ((orP ps b post j).getD j false || b && decide (0 < atL post j)) = orP ps b post (j + 1) := by
  apply List.ext_getElem?
  intro i
  by_cases hi : i < ps.length
  · rw [List.getElem?_set]
    by_cases hij : j = i
    · subst hij
      rw [if_pos rfl, if_pos (by simpa [orP] using h), orP_get _ _ _ _ _ h]
      simp [orP, h]
    · rw [if_neg hij]
      have : decide (i < j + 1) = decide (i < j) := by by_cases h1 : i < j <;> simp [h1] <;> omega
      simp [orP, hi, this]
  · rw [List.getElem?_eq_none (by simp [orP]; omega), List.getElem?_eq_none (by simp [orP]; omega)]
def wayT (t : PTran) (k : Nat) (s : Ways) : Ways := ⟨orP s.ps (orT s.ps t.pre (s.ts.getD k false) s.ps.length) t.post s.ps.length, s.ts.set k (orT s.ps t.pre (s.ts.getD k false) s.ps.length)⟩
def wayN (ts : List PTran) (j : Nat) (s : Ways) : Ways := (List.range j).foldl (fun s k => wayT ((ts[k]?).getD ⟨0, [], []⟩) k s) s
theorem wayN_succ (ts : List PTran) (j : Nat) (s : Ways) {t : PTran} (h : ts[j]? = some t) : wayN ts (j + 1) s = wayT t j (wayN ts j s) := by
  unfold wayN
  rw [List.range_succ, List.foldl_append]
  simp [h]
def rounds (ts : List PTran) : Nat → Ways → Ways
  | 0, s => s
  | n + 1, s => wayN ts ts.length (rounds ts n s)
def ways0 (N : PNet) (i : Nat) : Ways := ⟨(List.replicate N.places.toNat false).set i true, List.replicate N.trans.length false⟩
def waysL (N : PNet) (i : Nat) : Ways := rounds N.trans (N.places.toNat + N.trans.length) (ways0 N i)

/-! ### both find the same -/
def Ways.at (s : Ways) : PNode → Bool
  | (false, p) => s.ps.getD p false
  | (true, k) => s.ts.getD k false
def Ways.le (s s' : Ways) : Prop := s.ps.length = s'.ps.length ∧ s.ts.length = s'.ts.length ∧ ∀ x, s.at x = true → s'.at x = true
theorem Ways.le.refl (s : Ways) : s.le s := ⟨rfl, rfl, fun _ h => h⟩
theorem Ways.le.trans {a b c : Ways} (h : a.le b) (g : b.le c) : a.le c := ⟨h.1.trans g.1, h.2.1.trans g.2.1, fun x hx => g.2.2 x (h.2.2 x hx)⟩
theorem Ways.ext' {s s' : Ways} (h1 : s.ps.length = s'.ps.length) (h2 : s.ts.length = s'.ts.length) (h : ∀ x, s.at x = s'.at x) : s = s' := by
  rcases s with ⟨ps, ts⟩
  rcases s' with ⟨ps', ts'⟩
  simp only at h1 h2
  congr 1
  · apply List.ext_getElem h1
    intro i a b
    have := h (false, i)
    simpa [Ways.at, a, b] using this
  · apply List.ext_getElem h2
    intro i a b
    have := h (true, i)
    simpa [Ways.at, a, b] using this
theorem Ways.le.antisymm {a b : Ways} (h : a.le b) (g : b.le a) : a = b := by
  refine Ways.ext' h.1 h.2.1 fun x => ?_
  cases ha : a.at x with
  | true => exact (h.2.2 x ha).symm
  | false =>
    cases hb : b.at x with
    | false => rfl
    | true => have := g.2.2 x hb; rw [ha] at this; cases this
theorem wayT_le (t : PTran) (k : Nat) (s : Ways) : s.le (wayT t k s) := by
  refine ⟨by simp [wayT, orP_length], by simp [wayT], fun x hx => ?_⟩
  rcases x with ⟨b, p⟩
  cases b
  · simp only [Ways.at] at hx ⊢
    have hp : p < s.ps.length := by
      by_cases h : p < s.ps.length
      · exact h
      · rw [List.getD_eq_getElem?_getD, List.getElem?_eq_none (by omega)] at hx; simp at hx
    simp only [wayT]
    rw [orP_get _ _ _ _ _ hp, hx]; rfl
  · simp only [Ways.at] at hx ⊢
    simp only [wayT]
    by_cases hkp : k = p
    · subst hkp
      have hk : k < s.ts.length := by
        by_cases h : k < s.ts.length
        · exact h
        · rw [List.getD_eq_getElem?_getD, List.getElem?_eq_none (by omega)] at hx; simp at hx
      rw [List.getD_eq_getElem?_getD, List.getElem?_set_self hk, hx]
      simp [orT]
    · rw [List.getD_eq_getElem?_getD, List.getElem?_set_ne hkp, ← List.getD_eq_getElem?_getD]; exact hx
theorem wayN_le (ts : List PTran) (s : Ways) : ∀ j, s.le (wayN ts j s)
  | 0 => Ways.le.refl s
  | j + 1 => by
    refine (wayN_le ts s j).trans ?_
    unfold wayN
    rw [List.range_succ, List.foldl_append]
    exact wayT_le _ _ _
theorem wayN_mid (ts : List PTran) (s : Ways) : ∀ {i j : Nat}, i ≤ j → (wayN ts i s).le (wayN ts j s) := by
  intro i j h
  induction h with
  | refl => exact Ways.le.refl _
  | @step m _ ih =>
    refine ih.trans ?_
    conv => rhs; unfold wayN
    rw [List.range_succ, List.foldl_append]
    exact wayT_le _ _ _
/-- Where a round turns nothing, no arc leads out. -/
theorem still_closed {N : PNet} (hok : netOk N = true) {s : Ways} (hp : s.ps.length = N.places.toNat) (ht : s.ts.length = N.trans.length) (hs : wayN N.trans N.trans.length s = s) :
    ∀ x, s.at x = true → ∀ y ∈ nodeS N x, s.at y = true := by
  have each : ∀ j (t : PTran), N.trans[j]? = some t → wayT t j s = s := by
    intro j t hj
    have hlt : j < N.trans.length := (List.getElem?_eq_some_iff.1 hj).1
    have a1 : wayN N.trans j s = s := by
      refine Ways.le.antisymm ?_ (wayN_le _ _ _)
      have := wayN_mid N.trans s (Nat.le_of_lt hlt)
      rwa [hs] at this
    have a2 : wayN N.trans (j + 1) s = s := by
      refine Ways.le.antisymm ?_ (wayN_le _ _ _)
      have := wayN_mid N.trans s (show j + 1 ≤ N.trans.length from hlt)
      rwa [hs] at this
    rw [wayN_succ _ _ _ hj, a1] at a2
    exact a2
  intro x hx y hy
  rcases x with ⟨b, k⟩
  cases b
  · simp only [nodeS, preN, List.mem_map, List.mem_filter, List.mem_range, decide_eq_true_eq] at hy
    obtain ⟨j, ⟨hj, hw⟩, rfl⟩ := hy
    have hg := List.getElem?_eq_getElem hj
    rw [hg] at hw
    have e := congrArg Ways.ts (each j _ hg)
    simp only [wayT] at e
    have e2 : s.ts.getD j false = orT s.ps N.trans[j].pre (s.ts.getD j false) s.ps.length := by
      conv => lhs; rw [← e]
      rw [List.getD_eq_getElem?_getD, List.getElem?_set_self (by omega)]; rfl
    simp only [Ways.at] at hx ⊢
    rw [e2]
    unfold orT
    have hk : k < s.ps.length := by
      by_cases h : k < s.ps.length
      · exact h
      · rw [List.getD_eq_getElem?_getD, List.getElem?_eq_none (by omega)] at hx; simp at hx
    simp only [Bool.or_eq_true, List.any_eq_true, List.mem_range, Bool.and_eq_true, decide_eq_true_eq]
    exact .inr ⟨k, hk, hx, hw⟩
  · simp only [nodeS] at hy
    cases hg : N.trans[k]? with
    | none => rw [hg] at hy; simp at hy
    | some t =>
      rw [hg] at hy
      simp only [posN, List.mem_map, List.mem_filter, List.mem_range, decide_eq_true_eq] at hy
      obtain ⟨p, ⟨hpl, hw⟩, rfl⟩ := hy
      have hpp : p < s.ps.length := by have := (netOk_tran hok hg).2.2.2.1; omega
      have e := congrArg Ways.ps (each k t hg)
      simp only [wayT] at e
      simp only [Ways.at] at hx ⊢
      rw [← e, orP_get _ _ _ _ _ hpp, hx]
      simp [orT, hw, hpp]
/-- Nothing is found that is not reached. -/
theorem wayT_sound {N : PNet} {Q : PNode → Prop} (hQ : ∀ x, Q x → ∀ y ∈ nodeS N x, Q y) {k : Nat} {t : PTran} (hk : N.trans[k]? = some t) (hl : t.post.length = N.places.toNat) {s : Ways} (hp : s.ps.length = N.places.toNat) (h : ∀ x, s.at x = true → Q x) : ∀ x, (wayT t k s).at x = true → Q x := by
  have hT : orT s.ps t.pre (s.ts.getD k false) s.ps.length = true → Q (true, k) := by
    intro e
    simp only [orT, Bool.or_eq_true, List.any_eq_true, List.mem_range, Bool.and_eq_true, decide_eq_true_eq] at e
    rcases e with e | ⟨p, hpl, e1, e2⟩
    · exact h (true, k) e
    · refine hQ (false, p) (h (false, p) e1) _ ?_
      simp only [nodeS, preN, List.mem_map, List.mem_filter, List.mem_range, decide_eq_true_eq]
      exact ⟨k, ⟨(List.getElem?_eq_some_iff.1 hk).1, by rw [hk]; exact e2⟩, rfl⟩
  intro x hx
  rcases x with ⟨b, p⟩
  cases b
  · simp only [Ways.at, wayT] at hx
    have hpl : p < s.ps.length := by
      by_cases h : p < s.ps.length
      · exact h
      · rw [List.getD_eq_getElem?_getD, List.getElem?_eq_none (by rw [orP_length]; omega)] at hx; simp at hx
    rw [orP_get _ _ _ _ _ hpl] at hx
    simp only [Bool.or_eq_true, Bool.and_eq_true, decide_eq_true_eq] at hx
    rcases hx with hx | ⟨_, h1, h2⟩
    · exact h (false, p) hx
    · refine hQ (true, k) (hT h1) _ ?_
      simp only [nodeS, hk, posN, List.mem_map, List.mem_filter, List.mem_range, decide_eq_true_eq]
      exact ⟨p, ⟨by omega, h2⟩, rfl⟩
  · simp only [Ways.at, wayT] at hx
    by_cases hkp : k = p
    · subst hkp
      rw [List.getD_eq_getElem?_getD, List.getElem?_set] at hx
      by_cases hkl : k < s.ts.length
      · rw [if_pos rfl, if_pos hkl] at hx
        exact hT hx
      · rw [if_pos rfl, if_neg hkl] at hx; simp at hx
    · rw [List.getD_eq_getElem?_getD, List.getElem?_set_ne hkp, ← List.getD_eq_getElem?_getD] at hx
      exact h (true, p) hx
theorem wayN_sound {N : PNet} (hok : netOk N = true) {Q : PNode → Prop} (hQ : ∀ x, Q x → ∀ y ∈ nodeS N x, Q y) {s : Ways} (hp : s.ps.length = N.places.toNat) (h : ∀ x, s.at x = true → Q x) : ∀ j, j ≤ N.trans.length → ∀ x, (wayN N.trans j s).at x = true → Q x
  | 0, _ => h
  | j + 1, hj => by
    have hg := List.getElem?_eq_getElem (show j < N.trans.length by omega)
    rw [wayN_succ _ _ _ hg]
    exact wayT_sound hQ hg (by have := (netOk_tran hok hg).2.2.2.1; omega) (by rw [← (wayN_le N.trans s j).1]; exact hp) (wayN_sound hok hQ hp h j (by omega))
/-- How many were found. -/
def Ways.cnt (s : Ways) (N : PNet) : Nat := ((nodes N).filter s.at).length
theorem filter_le {α : Type} {p q : α → Bool} (h : ∀ x, p x = true → q x = true) : ∀ l : List α, (l.filter p).length ≤ (l.filter q).length
  | [] => by simp
  | a :: l => by
    have := filter_le h l
    cases hp : p a with
    | true => rw [List.filter_cons_of_pos hp, List.filter_cons_of_pos (h a hp)]; simp; omega
    | false =>
      rw [List.filter_cons_of_neg (by simp [hp])]
      cases hq : q a with
      | true => rw [List.filter_cons_of_pos hq]; simp; omega
      | false => rw [List.filter_cons_of_neg (by simp [hq])]; exact this
theorem filter_lt {α : Type} {p q : α → Bool} (h : ∀ x, p x = true → q x = true) : ∀ {l : List α} {a : α}, a ∈ l → p a = false → q a = true → (l.filter p).length < (l.filter q).length
  | b :: l, a, ha, hp, hq => by
    rcases List.mem_cons.1 ha with rfl | ha
    · rw [List.filter_cons_of_neg (by simp [hp]), List.filter_cons_of_pos hq]
      have := filter_le h l
      simp; omega
    · have := filter_lt h ha hp hq
      cases hpb : p b with
      | true => rw [List.filter_cons_of_pos hpb, List.filter_cons_of_pos (h b hpb)]; simp; omega
      | false =>
        rw [List.filter_cons_of_neg (by simp [hpb])]
        cases hqb : q b with
        | true => rw [List.filter_cons_of_pos hqb]; simp; omega
        | false => rw [List.filter_cons_of_neg (by simp [hqb])]; exact this
theorem at_mem {N : PNet} {s : Ways} (hp : s.ps.length = N.places.toNat) (ht : s.ts.length = N.trans.length) {x : PNode} (h : s.at x = true) : x ∈ nodes N := by
  rcases x with ⟨b, k⟩
  cases b
  · refine mem_nodes_place.2 ?_
    by_cases hk : k < s.ps.length
    · omega
    · simp only [Ways.at] at h
      rw [List.getD_eq_getElem?_getD, List.getElem?_eq_none (by omega)] at h; simp at h
  · refine mem_nodes_tran.2 ?_
    by_cases hk : k < s.ts.length
    · omega
    · simp only [Ways.at] at h
      rw [List.getD_eq_getElem?_getD, List.getElem?_eq_none (by omega)] at h; simp at h
theorem cnt_turn {N : PNet} {s s' : Ways} (h : s.le s') (hne : s ≠ s') (hp : s'.ps.length = N.places.toNat) (ht : s'.ts.length = N.trans.length) : s.cnt N < s'.cnt N := by
  have : ∃ x, s'.at x = true ∧ s.at x = false := by
    refine Classical.byContradiction fun hn => hne (h.antisymm ⟨h.1.symm, h.2.1.symm, fun x hx => ?_⟩)
    cases hs : s.at x with
    | true => rfl
    | false => exact absurd ⟨x, hx, hs⟩ hn
  obtain ⟨x, h1, h2⟩ := this
  exact filter_lt h.2.2 (at_mem hp ht h1) h2 h1
theorem rounds_lens (ts : List PTran) (s : Ways) : ∀ n, (rounds ts n s).ps.length = s.ps.length ∧ (rounds ts n s).ts.length = s.ts.length
  | 0 => ⟨rfl, rfl⟩
  | n + 1 => by
    have := wayN_le ts (rounds ts n s) ts.length
    exact ⟨this.1.symm.trans (rounds_lens ts s n).1, this.2.1.symm.trans (rounds_lens ts s n).2⟩
theorem rounds_grow (N : PNet) {s : Ways} (hp : s.ps.length = N.places.toNat) (ht : s.ts.length = N.trans.length) : ∀ n, wayN N.trans N.trans.length (rounds N.trans n s) = rounds N.trans n s ∨ n + s.cnt N ≤ (rounds N.trans n s).cnt N
  | 0 => .inr (by simp [rounds])
  | n + 1 => by
    rcases rounds_grow N hp ht n with h | h
    · left; rw [rounds, h, h]
    · by_cases e : wayN N.trans N.trans.length (rounds N.trans n s) = rounds N.trans n s
      · left; rw [rounds, e, e]
      · right
        have hl := rounds_lens N.trans s (n + 1)
        have := cnt_turn (N := N) (wayN_le N.trans (rounds N.trans n s) N.trans.length) (fun h => e h.symm) (by rw [rounds] at hl; omega) (by rw [rounds] at hl; omega)
        rw [rounds]
        omega
theorem ways_at {N : PNet} (hok : netOk N = true) {i : Nat} (hi : i < N.places.toNat) (x : PNode) : (waysL N i).at x = true ↔ Reach (nodeS N) (false, i) x := by
  have l1 : (ways0 N i).ps.length = N.places.toNat := by simp [ways0]
  have l2 : (ways0 N i).ts.length = N.trans.length := by simp [ways0]
  have a0 : (ways0 N i).at (false, i) = true := by simp [ways0, Ways.at, hi]
  have c0 : 0 < (ways0 N i).cnt N := List.length_pos_of_mem (List.mem_filter.2 ⟨mem_nodes_place.2 hi, a0⟩)
  have hl := rounds_lens N.trans (ways0 N i) (N.places.toNat + N.trans.length)
  have still : wayN N.trans N.trans.length (waysL N i) = waysL N i := by
    rcases rounds_grow N l1 l2 (N.places.toNat + N.trans.length) with h | h
    · exact h
    · exfalso
      have : (rounds N.trans (N.places.toNat + N.trans.length) (ways0 N i)).cnt N ≤ N.places.toNat + N.trans.length := by
        rw [← nodes_length]; exact List.length_filter_le _ _
      omega
  have mono : ∀ n, (ways0 N i).le (rounds N.trans n (ways0 N i)) := by
    intro n
    induction n with
    | zero => exact Ways.le.refl _
    | succ n ih => exact ih.trans (wayN_le _ _ _)
  constructor
  · intro h
    have sound : ∀ n, ∀ x, (rounds N.trans n (ways0 N i)).at x = true → Reach (nodeS N) (false, i) x := by
      intro n
      induction n with
      | zero =>
        intro x hx
        rcases x with ⟨b, k⟩
        cases b
        · have : k = i := by
            simp only [rounds, ways0, Ways.at, List.getD_eq_getElem?_getD, List.getElem?_set] at hx
            by_cases e : i = k
            · exact e.symm
            · rw [if_neg e, List.getElem?_replicate] at hx
              split at hx <;> simp at hx
          subst this
          exact .refl _
        · simp only [rounds, ways0, Ways.at, List.getD_eq_getElem?_getD, List.getElem?_replicate] at hx
          split at hx <;> simp at hx
      | succ n ih =>
        exact wayN_sound hok (Q := Reach (nodeS N) (false, i)) (fun x hx y hy => hx.last hy) (by have := rounds_lens N.trans (ways0 N i) n; omega) ih _ (Nat.le_refl _)
    exact sound _ x h
  · intro h
    exact h.closedP (R := fun x => (waysL N i).at x = true) (still_closed hok (by rw [waysL]; omega) (by rw [waysL]; omega) still) ((mono _).2.2 _ a0)

/-- Is all behind place i? -/
def allWays (N : PNet) (i : Nat) : Bool := (waysL N i).ps.all id && (waysL N i).ts.all id
theorem allWays_iff {N : PNet} (hok : netOk N = true) {i : Nat} (hi : i < N.places.toNat) : allWays N i = true ↔ ∀ x ∈ nodes N, Reach (nodeS N) (false, i) x := by
  have hl := rounds_lens N.trans (ways0 N i) (N.places.toNat + N.trans.length)
  have l1 : (waysL N i).ps.length = N.places.toNat := by rw [waysL, hl.1]; simp [ways0]
  have l2 : (waysL N i).ts.length = N.trans.length := by rw [waysL, hl.2]; simp [ways0]
  unfold allWays
  simp only [Bool.and_eq_true, List.all_eq_true, id_eq]
  constructor
  · rintro ⟨h1, h2⟩ x hx
    refine (ways_at hok hi x).1 ?_
    rcases x with ⟨b, k⟩
    cases b
    · have hk := mem_nodes_place.1 hx
      simp only [Ways.at]
      rw [List.getD_eq_getElem?_getD, List.getElem?_eq_getElem (by omega)]
      exact h1 _ (List.getElem_mem _)
    · have hk := mem_nodes_tran.1 hx
      simp only [Ways.at]
      rw [List.getD_eq_getElem?_getD, List.getElem?_eq_getElem (by omega)]
      exact h2 _ (List.getElem_mem _)
  · intro h
    refine ⟨fun x hx => ?_, fun x hx => ?_⟩
    · obtain ⟨k, hk, rfl⟩ := List.getElem_of_mem hx
      have := (ways_at hok hi (false, k)).2 (h _ (mem_nodes_place.2 (by omega)))
      simpa [Ways.at, hk] using this
    · obtain ⟨k, hk, rfl⟩ := List.getElem_of_mem hx
      have := (ways_at hok hi (true, k)).2 (h _ (mem_nodes_tran.2 (by omega)))
      simpa [Ways.at, hk] using this
/-- What looking deeper finds. -/
def walkL (N : PNet) (i : Nat) : List PNode := dfs (nodeS N) (N.places.toNat + N.trans.length) [] (false, i)
theorem walkL_all {N : PNet} (hok : netOk N = true) {i : Nat} (hi : i < N.places.toNat) : N.places.toNat + N.trans.length ≤ (walkL N i).length ↔ allWays N i = true := by
  rw [allWays_iff hok hi, ← dfs_all (nodes_closed hok) (nodes_nodup N) (false, i) (mem_nodes_place.2 hi) _ (Nat.le_of_eq (nodes_length N)), nodes_length]
  rfl

/-! ### what is wrong -/
/-- Is there an arc to the beginning, or out of the end? -/
def backT (i o : Nat) (t : PTran) : Bool := decide (0 < atL t.post i) || decide (0 < atL t.pre o)
def inB (N : PNet) (i o : Int) : Bool := decide (0 ≤ i) && decide (0 ≤ o) && decide (i < N.places) && decide (o < N.places) && decide (i ≠ o)
def shapeL (N : PNet) (i o : Int) : Int :=
  if netOk N = true then (if inB N i o = true then (if N.trans.any (backT i.toNat o.toNat) = true then 1 else if allWays N i.toNat = true ∧ allWays (turned N) o.toNat = true then 0 else 1) else 1) else 2
def closeL (N : PNet) (i o : Int) : PNet × Int :=
  if shapeL N i o = 0 then (if N.trans.length = 24 then (⟨0, []⟩, 4) else (⟨N.places, N.trans ++ [⟨0, oneL N.places.toNat o, oneL N.places.toNat i⟩]⟩, 0)) else (⟨0, []⟩, shapeL N i o)
end Go.Proofs.Ytpagenlealddhaa
