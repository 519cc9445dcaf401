/- What can be reached in a finite graph: by looking deeper and deeper, each node once; in plain Lean. Conditions: none. | What chapter 8 says of a net that goes from one place to another, in plain Lean: places and transitions behind a place, round by round, and by looking deeper. Conditions: none. | m[k]++ where the look-up and the entry come up in any order. Conditions: the map's key is of a kind that can be looked up. | The set of nodes that shape.walk fills, and its closure's contract. Conditions: the net is right; the node is one of it. | The contract of the closure visit of shape.walk. Conditions: the net is right; the node is one of it. | The contracts of shape.walk, of the library's IndexFunc and ContainsFunc on transitions, and of the test of shape.Wrong. Conditions: the net is right; the numbers are places of it. | The contract of shape.walk. Conditions: the net is right; the place is one of it. | The contract of shape.Wrong. Conditions: the net reads as a list. | The contract of hways: which places and which transitions are behind a place. Conditions: the net is right; the place is one of it. | The contract of HWrong. Conditions: the net reads as a list. -/
import Derived.Test.YtnfppolgaeibeaaPlainC
import Derived.Test.YtnfppolgaeibeaaHeld
import Derived.Maps.OwnSet
import Derived.Maps.OwnOps
import Derived.WideKeyEntry
import Derived.Test.YtnfppolgaeibeaaFacts
import Derived.Test.YtnfppolgaeibeaaBox
import Derived.DeepKeys4
import Derived.Test.YtnfppolgaeibeaaNetJ
import Derived.Deep.DeepCutAuto
import Derived.Laws.EntriesVeiled
namespace Go.Proofs.Ytnfppolgaeibeaa

section
variable {α : Type} [DecidableEq α]
theorem nodup_len : ∀ (l all : List α), l.Nodup → (∀ x ∈ l, x ∈ all) → l.length ≤ all.length
  | [], _, _, _ => by simp
  | a :: l, all, hn, hs => by
    have ha : a ∈ all := hs a (by simp)
    have hal : a ∉ l := (List.nodup_cons.1 hn).1
    have := nodup_len l (all.erase a) (List.nodup_cons.1 hn).2 (fun x hx => (List.mem_erase_of_ne (a := x) (b := a) (by intro e; subst e; exact hal hx)).2 (hs x (by simp [hx])))
    rw [List.length_erase_of_mem ha] at this
    have : 0 < all.length := List.length_pos_of_mem ha
    simp only [List.length_cons]
    omega
theorem nodup_full {l all : List α} (hn : l.Nodup) (hs : ∀ x ∈ l, x ∈ all) (hl : all.length ≤ l.length) {x : α} (hx : x ∈ all) : x ∈ l := by
  by_cases h : x ∈ l
  · exact h
  · exfalso
    have := nodup_len (x :: l) all (List.nodup_cons.2 ⟨h, hn⟩) (fun y hy => by
      rcases List.mem_cons.1 hy with rfl | hy
      · exact hx
      · exact hs y hy)
    simp only [List.length_cons] at this
    omega

inductive Reach (s : α → List α) : α → α → Prop
  | refl (x : α) : Reach s x x
  | step {x y z : α} (h : y ∈ s x) (g : Reach s y z) : Reach s x z
omit [DecidableEq α] in
theorem Reach.last {s : α → List α} {x y z : α} (h : Reach s x y) (g : z ∈ s y) : Reach s x z := by
  induction h with
  | refl x => exact .step g (.refl _)
  | step a _ ih => exact .step a (ih g)
omit [DecidableEq α] in
theorem Reach.closed {s : α → List α} {R : List α} (hc : ∀ y ∈ R, ∀ z ∈ s y, z ∈ R) {x y : α} (h : Reach s x y) (hx : x ∈ R) : y ∈ R := by
  induction h with
  | refl x => exact hx
  | step a _ ih => exact ih (hc _ hx _ a)
omit [DecidableEq α] in
theorem Reach.closedP {s : α → List α} {R : α → Prop} (hc : ∀ y, R y → ∀ z ∈ s y, R z) {x y : α} (h : Reach s x y) (hx : R x) : R y := by
  induction h with
  | refl x => exact hx
  | step a _ ih => exact ih (hc _ hx _ a)

/-- All that is found from x on, where had were found before; no deeper than so many. -/
def dfs (s : α → List α) : Nat → List α → α → List α
  | 0, had, _ => had
  | f + 1, had, x => if x ∈ had then had else (s x).foldl (dfs s f) (x :: had)

/-- What was found is of all, and each once. -/
structure Had (all had : List α) : Prop where
  nodup : had.Nodup
  sub : ∀ x ∈ had, x ∈ all
structure Found (s : α → List α) (all had R : List α) (src : α → Prop) : Prop where
  good : Had all R
  more : ∀ x ∈ had, x ∈ R
  seen : ∀ y ∈ R, y ∈ had ∨ ∀ z ∈ s y, z ∈ R
  from_ : ∀ y ∈ R, y ∈ had ∨ ∃ x, src x ∧ Reach s x y
  len : had.length ≤ R.length

theorem dfs_fold {s : α → List α} {all : List α} {f : Nat} (ih : ∀ (had : List α) (x : α), Had all had → x ∈ all → all.length ≤ had.length + f → Found s all had (dfs s f had x) (· = x) ∧ x ∈ dfs s f had x) :
    ∀ (L acc : List α), (∀ z ∈ L, z ∈ all) → Had all acc → all.length ≤ acc.length + f → Found s all acc (L.foldl (dfs s f) acc) (· ∈ L) ∧ ∀ z ∈ L, z ∈ L.foldl (dfs s f) acc
  | [], acc, _, hg, _ => ⟨⟨hg, fun _ h => h, fun y h => .inl h, fun y h => .inl h, Nat.le_refl _⟩, fun z h => by simp at h⟩
  | a :: L, acc, hL, hg, hl => by
    obtain ⟨F, hx⟩ := ih acc a hg (hL a (by simp)) hl
    obtain ⟨G, hz⟩ := dfs_fold ih L (dfs s f acc a) (fun z h => hL z (by simp [h])) F.good (by have := F.len; omega)
    refine ⟨⟨G.good, fun x h => G.more x (F.more x h), fun y h => ?_, fun y h => ?_, Nat.le_trans F.len G.len⟩, fun z h => ?_⟩
    · rcases G.seen y h with h1 | h1
      · rcases F.seen y h1 with h2 | h2
        · exact .inl h2
        · exact .inr fun z hz' => G.more z (h2 z hz')
      · exact .inr h1
    · rcases G.from_ y h with h1 | ⟨x, h1, h2⟩
      · rcases F.from_ y h1 with h3 | ⟨x, h3, h4⟩
        · exact .inl h3
        · exact .inr ⟨x, by simp [h3], h4⟩
      · exact .inr ⟨x, by simp [h1], h2⟩
    · rcases List.mem_cons.1 h with rfl | h
      · exact G.more _ hx
      · exact hz z h

theorem dfs_found {s : α → List α} {all : List α} (hs : ∀ x ∈ all, ∀ y ∈ s x, y ∈ all) : ∀ (f : Nat) (had : List α) (x : α), Had all had → x ∈ all → all.length ≤ had.length + f →
    Found s all had (dfs s f had x) (· = x) ∧ x ∈ dfs s f had x := by
  intro f
  induction f with
  | zero =>
    intro had x hg hx hl
    have : x ∈ had := nodup_full hg.nodup hg.sub (by omega) hx
    exact ⟨⟨hg, fun _ h => h, fun y h => .inl h, fun y h => .inl h, Nat.le_refl _⟩, this⟩
  | succ f ih =>
    intro had x hg hx hl
    unfold dfs
    by_cases h : x ∈ had
    · rw [if_pos h]
      exact ⟨⟨hg, fun _ h => h, fun y h => .inl h, fun y h => .inl h, Nat.le_refl _⟩, h⟩
    · rw [if_neg h]
      have hg' : Had all (x :: had) := ⟨List.nodup_cons.2 ⟨h, hg.nodup⟩, fun y hy => by
        rcases List.mem_cons.1 hy with rfl | hy
        · exact hx
        · exact hg.sub y hy⟩
      obtain ⟨F, hz⟩ := dfs_fold ih (s x) (x :: had) (hs x hx) hg' (by simp only [List.length_cons]; omega)
      refine ⟨⟨F.good, fun y hy => F.more y (by simp [hy]), fun y hy => ?_, fun y hy => ?_, ?_⟩, F.more x (by simp)⟩
      · rcases F.seen y hy with h1 | h1
        · rcases List.mem_cons.1 h1 with rfl | h1
          · exact .inr hz
          · exact .inl h1
        · exact .inr h1
      · rcases F.from_ y hy with h1 | ⟨z, h1, h2⟩
        · rcases List.mem_cons.1 h1 with rfl | h1
          · exact .inr ⟨_, rfl, .refl _⟩
          · exact .inl h1
        · exact .inr ⟨x, rfl, .step h1 h2⟩
      · have := F.len; simp only [List.length_cons] at this; omega

/-- From nothing on: just what is reached. -/
theorem dfs_reach {s : α → List α} {all : List α} (hs : ∀ x ∈ all, ∀ y ∈ s x, y ∈ all) (x : α) (hx : x ∈ all) (f : Nat) (hf : all.length ≤ f) :
    Had all (dfs s f [] x) ∧ ∀ y, y ∈ dfs s f [] x ↔ Reach s x y := by
  obtain ⟨F, h⟩ := dfs_found hs f [] x ⟨List.nodup_nil, fun x h => by simp at h⟩ hx (by simpa using hf)
  refine ⟨F.good, fun y => ⟨fun hy => ?_, fun hy => ?_⟩⟩
  · rcases F.from_ y hy with h1 | ⟨z, rfl, h2⟩
    · simp at h1
    · exact h2
  · refine hy.closed (fun y hy z hz => ?_) h
    rcases F.seen y hy with h1 | h1
    · simp at h1
    · exact h1 z hz
theorem dfs_all {s : α → List α} {all : List α} (hs : ∀ x ∈ all, ∀ y ∈ s x, y ∈ all) (hn : all.Nodup) (x : α) (hx : x ∈ all) (f : Nat) (hf : all.length ≤ f) :
    all.length ≤ (dfs s f [] x).length ↔ ∀ y ∈ all, Reach s x y := by
  obtain ⟨hg, hr⟩ := dfs_reach hs x hx f hf
  refine ⟨fun hl y hy => (hr y).1 (nodup_full hg.nodup hg.sub hl hy), fun h => nodup_len _ _ hn (fun y hy => (hr y).2 (h y hy))⟩
end
end Go.Proofs.Ytnfppolgaeibeaa
namespace Go.Proofs.Ytnfppolgaeibeaa

/-! ### nodes -/
/-- Which of the first so many weights are above nothing. -/
def posN (xs : List Int) (j : Nat) : List Nat := (List.range j).filter fun p => decide (0 < atL xs p)
theorem posN_succ (xs : List Int) (j : Nat) : posN xs (j + 1) = posN xs j ++ (if 0 < atL xs j then [j] else []) := by
  unfold posN
  rw [List.range_succ, List.filter_append]
  congr 1
  by_cases h : 0 < atL xs j <;> simp [h]
def preN (ts : List PTran) (p j : Nat) : List Nat := (List.range j).filter fun k => decide (0 < atL ((ts[k]?).getD ⟨0, [], []⟩).pre p)
theorem preN_succ (ts : List PTran) (p j : Nat) {t : PTran} (h : ts[j]? = some t) : preN ts p (j + 1) = preN ts p j ++ (if 0 < atL t.pre p then [j] else []) := by
  unfold preN
  rw [List.range_succ, List.filter_append]
  congr 1
  by_cases h' : 0 < atL t.pre p <;> simp [h, h']
abbrev PNode := Bool × Nat
def nodeS (N : PNet) : PNode → List PNode
  | (true, k) => match N.trans[k]? with
    | none => []
    | some t => (posN t.post t.post.length).map fun p => (false, p)
  | (false, p) => (preN N.trans p N.trans.length).map fun k => (true, k)
def nodes (N : PNet) : List PNode := (List.range N.places.toNat).map (fun p => (false, p)) ++ (List.range N.trans.length).map fun k => (true, k)
theorem nodes_length (N : PNet) : (nodes N).length = N.places.toNat + N.trans.length := by simp [nodes]
theorem mem_nodes_place {N : PNet} {p : Nat} : ((false, p) : PNode) ∈ nodes N ↔ p < N.places.toNat := by simp [nodes]
theorem mem_nodes_tran {N : PNet} {k : Nat} : ((true, k) : PNode) ∈ nodes N ↔ k < N.trans.length := by simp [nodes]
theorem nodes_nodup (N : PNet) : (nodes N).Nodup := by
  unfold nodes
  rw [List.nodup_append]
  refine ⟨?_, ?_, ?_⟩
  · exact List.Pairwise.map _ (fun a b h e => h (by simpa using e)) List.nodup_range
  · exact List.Pairwise.map _ (fun a b h e => h (by simpa using e)) List.nodup_range
  · intro a ha b hb
    simp only [List.mem_map] at ha hb
    obtain ⟨p, _, rfl⟩ := ha
    obtain ⟨k, _, rfl⟩ := hb
    simp
theorem nodes_closed {N : PNet} (h : netOk N = true) : ∀ x ∈ nodes N, ∀ y ∈ nodeS N x, y ∈ nodes N := by
  intro x hx y hy
  rcases x with ⟨b, k⟩
  cases b
  · simp only [nodeS, preN, List.mem_map, List.mem_filter, List.mem_range] at hy
    obtain ⟨j, ⟨hj, _⟩, rfl⟩ := hy
    exact mem_nodes_tran.2 hj
  · simp only [nodeS] at hy
    cases ht : N.trans[k]? with
    | none => rw [ht] at hy; simp at hy
    | some t =>
      rw [ht] at hy
      simp only [posN, List.mem_map, List.mem_filter, List.mem_range] at hy
      obtain ⟨j, ⟨hj, _⟩, rfl⟩ := hy
      refine mem_nodes_place.2 ?_
      have := (netOk_tran h ht).2.2.2.1
      omega

/-! ### round by round -/
/-- Which places, and which transitions, are behind. -/
structure Ways where
  ps : List Bool
  ts : List Bool
def orT (ps : List Bool) (pre : List Int) (b : Bool) (j : Nat) : Bool := b || (List.range j).any fun p => ps.getD p false && decide (0 < atL pre p)
theorem orT_succ (ps : List Bool) (pre : List Int) (b : Bool) (j : Nat) : orT ps pre b (j + 1) = (orT ps pre b j || ps.getD j false && decide (0 < atL pre j)) := by
  unfold orT
  rw [List.range_succ, List.any_append]
  simp [Bool.or_assoc]
def orP (ps : List Bool) (b : Bool) (post : List Int) (j : Nat) : List Bool := (List.range ps.length).map fun p => ps.getD p false || (decide (p < j) && (b && decide (0 < atL post p)))
theorem orP_length (ps : List Bool) (b : Bool) (post : List Int) (j : Nat) : (orP ps b post j).length = ps.length := by simp [orP]
theorem orP_get (ps : List Bool) (b : Bool) (post : List Int) (j p : Nat) (h : p < ps.length) : (orP ps b post j).getD p false = (ps.getD p false || (decide (p < j) && (b && decide (0 < atL post p)))) := by
  simp [orP, h]
theorem orP_zero (ps : List Bool) (b : Bool) (post : List Int) : orP ps b post 0 = ps := by
  apply List.ext_getElem?
  intro i
  by_cases hi : i < ps.length
  · simp [orP, hi]
  · simp [orP, hi]
theorem orP_succ (ps : List Bool) (b : Bool) (post : List Int) (j : Nat) (h : j < ps.length) : (orP ps b post j).set j ((orP ps b post j).getD j false || b && decide (0 < atL post j)) = orP ps b post (j + 1) := by
  apply List.ext_getElem?
  intro i
  by_cases hi : i < ps.length
  · rw [List.getElem?_set]
    by_cases hij : j = i
    · subst hij
      rw [if_pos rfl, if_pos (by simpa [orP] using h), orP_get _ _ _ _ _ h]
      simp [orP, h]
    · rw [if_neg hij]
      have : decide (i < j + 1) = decide (i < j) := by by_cases h1 : i < j <;> simp [h1] <;> omega
      simp [orP, hi, this]
  · rw [List.getElem?_eq_none (by simp [orP]; omega), List.getElem?_eq_none (by simp [orP]; omega)]
def wayT (t : PTran) (k : Nat) (s : Ways) : Ways := ⟨orP s.ps (orT s.ps t.pre (s.ts.getD k false) s.ps.length) t.post s.ps.length, s.ts.set k (orT s.ps t.pre (s.ts.getD k false) s.ps.length)⟩
def wayN (ts : List PTran) (j : Nat) (s : Ways) : Ways := (List.range j).foldl (fun s k => wayT ((ts[k]?).getD ⟨0, [], []⟩) k s) s
theorem wayN_succ (ts : List PTran) (j : Nat) (s : Ways) {t : PTran} (h : ts[j]? = some t) : wayN ts (j + 1) s = wayT t j (wayN ts j s) := by
  unfold wayN
  rw [List.range_succ, List.foldl_append]
  simp [h]
def rounds (ts : List PTran) : Nat → Ways → Ways
  | 0, s => s
  | n + 1, s => wayN ts ts.length (rounds ts n s)
def ways0 (N : PNet) (i : Nat) : Ways := ⟨(List.replicate N.places.toNat false).set i true, List.replicate N.trans.length false⟩
def waysL (N : PNet) (i : Nat) : Ways := rounds N.trans (N.places.toNat + N.trans.length) (ways0 N i)

/-! ### both find the same -/
def Ways.at (s : Ways) : PNode → Bool
  | (false, p) => s.ps.getD p false
  | (true, k) => s.ts.getD k false
def Ways.le (s s' : Ways) : Prop := s.ps.length = s'.ps.length ∧ s.ts.length = s'.ts.length ∧ ∀ x, s.at x = true → s'.at x = true
theorem Ways.le.refl (s : Ways) : s.le s := ⟨rfl, rfl, fun _ h => h⟩
theorem Ways.le.trans {a b c : Ways} (h : a.le b) (g : b.le c) : a.le c := ⟨h.1.trans g.1, h.2.1.trans g.2.1, fun x hx => g.2.2 x (h.2.2 x hx)⟩
theorem Ways.ext' {s s' : Ways} (h1 : s.ps.length = s'.ps.length) (h2 : s.ts.length = s'.ts.length) (h : ∀ x, s.at x = s'.at x) : s = s' := by
  rcases s with ⟨ps, ts⟩
  rcases s' with ⟨ps', ts'⟩
  simp only at h1 h2
  congr 1
  · apply List.ext_getElem h1
    intro i a b
    have := h (false, i)
    simpa [Ways.at, a, b] using this
  · apply List.ext_getElem h2
    intro i a b
    have := h (true, i)
    simpa [Ways.at, a, b] using this
theorem Ways.le.antisymm {a b : Ways} (h : a.le b) (g : b.le a) : a = b := by
  refine Ways.ext' h.1 h.2.1 fun x => ?_
  cases ha : a.at x with
  | true => exact (h.2.2 x ha).symm
  | false =>
    cases hb : b.at x with
    | false => rfl
    | true => have := g.2.2 x hb; rw [ha] at this; cases this
theorem wayT_le (t : PTran) (k : Nat) (s : Ways) : s.le (wayT t k s) := by
  refine ⟨by simp [wayT, orP_length], by simp [wayT], fun x hx => ?_⟩
  rcases x with ⟨b, p⟩
  cases b
  · simp only [Ways.at] at hx ⊢
    have hp : p < s.ps.length := by
      by_cases h : p < s.ps.length
      · exact h
      · rw [List.getD_eq_getElem?_getD, List.getElem?_eq_none (by omega)] at hx; simp at hx
    simp only [wayT]
    rw [orP_get _ _ _ _ _ hp, hx]; rfl
  · simp only [Ways.at] at hx ⊢
    simp only [wayT]
    by_cases hkp : k = p
    · subst hkp
      have hk : k < s.ts.length := by
        by_cases h : k < s.ts.length
        · exact h
        · rw [List.getD_eq_getElem?_getD, List.getElem?_eq_none (by omega)] at hx; simp at hx
      rw [List.getD_eq_getElem?_getD, List.getElem?_set_self hk, hx]
      simp [orT]
    · rw [List.getD_eq_getElem?_getD, List.getElem?_set_ne hkp, ← List.getD_eq_getElem?_getD]; exact hx
theorem wayN_le (ts : List PTran) (s : Ways) : ∀ j, s.le (wayN ts j s)
  | 0 => Ways.le.refl s
  | j + 1 => by
    refine (wayN_le ts s j).trans ?_
    unfold wayN
    rw [List.range_succ, List.foldl_append]
    exact wayT_le _ _ _
theorem wayN_mid (ts : List PTran) (s : Ways) : ∀ {i j : Nat}, i ≤ j → (wayN ts i s).le (wayN ts j s) := by
  intro i j h
  induction h with
  | refl => exact Ways.le.refl _
  | @step m _ ih =>
    refine ih.trans ?_
    conv => rhs; unfold wayN
    rw [List.range_succ, List.foldl_append]
    exact wayT_le _ _ _
/-- Where a round turns nothing, no arc leads out. -/
theorem still_closed {N : PNet} (hok : netOk N = true) {s : Ways} (hp : s.ps.length = N.places.toNat) (ht : s.ts.length = N.trans.length) (hs : wayN N.trans N.trans.length s = s) :
    ∀ x, s.at x = true → ∀ y ∈ nodeS N x, s.at y = true := by
  have each : ∀ j (t : PTran), N.trans[j]? = some t → wayT t j s = s := by
    intro j t hj
    have hlt : j < N.trans.length := (List.getElem?_eq_some_iff.1 hj).1
    have a1 : wayN N.trans j s = s := by
      refine Ways.le.antisymm ?_ (wayN_le _ _ _)
      have := wayN_mid N.trans s (Nat.le_of_lt hlt)
      rwa [hs] at this
    have a2 : wayN N.trans (j + 1) s = s := by
      refine Ways.le.antisymm ?_ (wayN_le _ _ _)
      have := wayN_mid N.trans s (show j + 1 ≤ N.trans.length from hlt)
      rwa [hs] at this
    rw [wayN_succ _ _ _ hj, a1] at a2
    exact a2
  intro x hx y hy
  rcases x with ⟨b, k⟩
  cases b
  · simp only [nodeS, preN, List.mem_map, List.mem_filter, List.mem_range, decide_eq_true_eq] at hy
    obtain ⟨j, ⟨hj, hw⟩, rfl⟩ := hy
    have hg := List.getElem?_eq_getElem hj
    rw [hg] at hw
    have e := congrArg Ways.ts (each j _ hg)
    simp only [wayT] at e
    have e2 : s.ts.getD j false = orT s.ps N.trans[j].pre (s.ts.getD j false) s.ps.length := by
      conv => lhs; rw [← e]
      rw [List.getD_eq_getElem?_getD, List.getElem?_set_self (by omega)]; rfl
    simp only [Ways.at] at hx ⊢
    rw [e2]
    unfold orT
    have hk : k < s.ps.length := by
      by_cases h : k < s.ps.length
      · exact h
      · rw [List.getD_eq_getElem?_getD, List.getElem?_eq_none (by omega)] at hx; simp at hx
    simp only [Bool.or_eq_true, List.any_eq_true, List.mem_range, Bool.and_eq_true, decide_eq_true_eq]
    exact .inr ⟨k, hk, hx, hw⟩
  · simp only [nodeS] at hy
    cases hg : N.trans[k]? with
    | none => rw [hg] at hy; simp at hy
    | some t =>
      rw [hg] at hy
      simp only [posN, List.mem_map, List.mem_filter, List.mem_range, decide_eq_true_eq] at hy
      obtain ⟨p, ⟨hpl, hw⟩, rfl⟩ := hy
      have hpp : p < s.ps.length := by have := (netOk_tran hok hg).2.2.2.1; omega
      have e := congrArg Ways.ps (each k t hg)
      simp only [wayT] at e
      simp only [Ways.at] at hx ⊢
      rw [← e, orP_get _ _ _ _ _ hpp, hx]
      simp [orT, hw, hpp]
/-- Nothing is found that is not reached. -/
theorem wayT_sound {N : PNet} {Q : PNode → Prop} (hQ : ∀ x, Q x → ∀ y ∈ nodeS N x, Q y) {k : Nat} {t : PTran} (hk : N.trans[k]? = some t) (hl : t.post.length = N.places.toNat) {s : Ways} (hp : s.ps.length = N.places.toNat) (h : ∀ x, s.at x = true → Q x) : ∀ x, (wayT t k s).at x = true → Q x := by
  have hT : orT s.ps t.pre (s.ts.getD k false) s.ps.length = true → Q (true, k) := by
    intro e
    simp only [orT, Bool.or_eq_true, List.any_eq_true, List.mem_range, Bool.and_eq_true, decide_eq_true_eq] at e
    rcases e with e | ⟨p, hpl, e1, e2⟩
    · exact h (true, k) e
    · refine hQ (false, p) (h (false, p) e1) _ ?_
      simp only [nodeS, preN, List.mem_map, List.mem_filter, List.mem_range, decide_eq_true_eq]
      exact ⟨k, ⟨(List.getElem?_eq_some_iff.1 hk).1, by rw [hk]; exact e2⟩, rfl⟩
  intro x hx
  rcases x with ⟨b, p⟩
  cases b
  · simp only [Ways.at, wayT] at hx
    have hpl : p < s.ps.length := by
      by_cases h : p < s.ps.length
      · exact h
      · rw [List.getD_eq_getElem?_getD, List.getElem?_eq_none (by rw [orP_length]; omega)] at hx; simp at hx
    rw [orP_get _ _ _ _ _ hpl] at hx
    simp only [Bool.or_eq_true, Bool.and_eq_true, decide_eq_true_eq] at hx
    rcases hx with hx | ⟨_, h1, h2⟩
    · exact h (false, p) hx
    · refine hQ (true, k) (hT h1) _ ?_
      simp only [nodeS, hk, posN, List.mem_map, List.mem_filter, List.mem_range, decide_eq_true_eq]
      exact ⟨p, ⟨by omega, h2⟩, rfl⟩
  · simp only [Ways.at, wayT] at hx
    by_cases hkp : k = p
    · subst hkp
      rw [List.getD_eq_getElem?_getD, List.getElem?_set] at hx
      by_cases hkl : k < s.ts.length
      · rw [if_pos rfl, if_pos hkl] at hx
        exact hT hx
      · rw [if_pos rfl, if_neg hkl] at hx; simp at hx
    · rw [List.getD_eq_getElem?_getD, List.getElem?_set_ne hkp, ← List.getD_eq_getElem?_getD] at hx
      exact h (true, p) hx
theorem wayN_sound {N : PNet} (hok : netOk N = true) {Q : PNode → Prop} (hQ : ∀ x, Q x → ∀ y ∈ nodeS N x, Q y) {s : Ways} (hp : s.ps.length = N.places.toNat) (h : ∀ x, s.at x = true → Q x) : ∀ j, j ≤ N.trans.length → ∀ x, (wayN N.trans j s).at x = true → Q x
  | 0, _ => h
  | j + 1, hj => by
    have hg := List.getElem?_eq_getElem (show j < N.trans.length by omega)
    rw [wayN_succ _ _ _ hg]
    exact wayT_sound hQ hg (by have := (netOk_tran hok hg).2.2.2.1; omega) (by rw [← (wayN_le N.trans s j).1]; exact hp) (wayN_sound hok hQ hp h j (by omega))
/-- How many were found. -/
def Ways.cnt (s : Ways) (N : PNet) : Nat := ((nodes N).filter s.at).length
theorem filter_le {α : Type} {p q : α → Bool} (h : ∀ x, p x = true → q x = true) : ∀ l : List α, (l.filter p).length ≤ (l.filter q).length
  | [] => by simp
  | a :: l => by
    have := filter_le h l
    cases hp : p a with
    | true => rw [List.filter_cons_of_pos hp, List.filter_cons_of_pos (h a hp)]; simp; omega
    | false =>
      rw [List.filter_cons_of_neg (by simp [hp])]
      cases hq : q a with
      | true => rw [List.filter_cons_of_pos hq]; simp; omega
      | false => rw [List.filter_cons_of_neg (by simp [hq])]; exact this
theorem filter_lt {α : Type} {p q : α → Bool} (h : ∀ x, p x = true → q x = true) : ∀ {l : List α} {a : α}, a ∈ l → p a = false → q a = true → (l.filter p).length < (l.filter q).length
  | b :: l, a, ha, hp, hq => by
    rcases List.mem_cons.1 ha with rfl | ha
    · rw [List.filter_cons_of_neg (by simp [hp]), List.filter_cons_of_pos hq]
      have := filter_le h l
      simp; omega
    · have := filter_lt h ha hp hq
      cases hpb : p b with
      | true => rw [List.filter_cons_of_pos hpb, List.filter_cons_of_pos (h b hpb)]; simp; omega
      | false =>
        rw [List.filter_cons_of_neg (by simp [hpb])]
        cases hqb : q b with
        | true => rw [List.filter_cons_of_pos hqb]; simp; omega
        | false => rw [List.filter_cons_of_neg (by simp [hqb])]; exact this
theorem at_mem {N : PNet} {s : Ways} (hp : s.ps.length = N.places.toNat) (ht : s.ts.length = N.trans.length) {x : PNode} (h : s.at x = true) : x ∈ nodes N := by
  rcases x with ⟨b, k⟩
  cases b
  · refine mem_nodes_place.2 ?_
    by_cases hk : k < s.ps.length
    · omega
    · simp only [Ways.at] at h
      rw [List.getD_eq_getElem?_getD, List.getElem?_eq_none (by omega)] at h; simp at h
  · refine mem_nodes_tran.2 ?_
    by_cases hk : k < s.ts.length
    · omega
    · simp only [Ways.at] at h
      rw [List.getD_eq_getElem?_getD, List.getElem?_eq_none (by omega)] at h; simp at h
theorem cnt_turn {N : PNet} {s s' : Ways} (h : s.le s') (hne : s ≠ s') (hp : s'.ps.length = N.places.toNat) (ht : s'.ts.length = N.trans.length) : s.cnt N < s'.cnt N := by
  have : ∃ x, s'.at x = true ∧ s.at x = false := by
    refine Classical.byContradiction fun hn => hne (h.antisymm ⟨h.1.symm, h.2.1.symm, fun x hx => ?_⟩)
    cases hs : s.at x with
    | true => rfl
    | false => exact absurd ⟨x, hx, hs⟩ hn
  obtain ⟨x, h1, h2⟩ := this
  exact filter_lt h.2.2 (at_mem hp ht h1) h2 h1
theorem rounds_lens (ts : List PTran) (s : Ways) : ∀ n, (rounds ts n s).ps.length = s.ps.length ∧ (rounds ts n s).ts.length = s.ts.length
  | 0 => ⟨rfl, rfl⟩
  | n + 1 => by
    have := wayN_le ts (rounds ts n s) ts.length
    exact ⟨this.1.symm.trans (rounds_lens ts s n).1, this.2.1.symm.trans (rounds_lens ts s n).2⟩
theorem rounds_grow (N : PNet) {s : Ways} (hp : s.ps.length = N.places.toNat) (ht : s.ts.length = N.trans.length) : ∀ n, wayN N.trans N.trans.length (rounds N.trans n s) = rounds N.trans n s ∨ n + s.cnt N ≤ (rounds N.trans n s).cnt N
  | 0 => .inr (by simp [rounds])
  | n + 1 => by
    rcases rounds_grow N hp ht n with h | h
    · left; rw [rounds, h, h]
    · by_cases e : wayN N.trans N.trans.length (rounds N.trans n s) = rounds N.trans n s
      · left; rw [rounds, e, e]
      · right
        have hl := rounds_lens N.trans s (n + 1)
        have := cnt_turn (N := N) (wayN_le N.trans (rounds N.trans n s) N.trans.length) (fun h => e h.symm) (by rw [rounds] at hl; omega) (by rw [rounds] at hl; omega)
        rw [rounds]
        omega
theorem ways_at {N : PNet} (hok : netOk N = true) {i : Nat} (hi : i < N.places.toNat) (x : PNode) : (waysL N i).at x = true ↔ Reach (nodeS N) (false, i) x := by
  have l1 : (ways0 N i).ps.length = N.places.toNat := by simp [ways0]
  have l2 : (ways0 N i).ts.length = N.trans.length := by simp [ways0]
  have a0 : (ways0 N i).at (false, i) = true := by simp [ways0, Ways.at, hi]
  have c0 : 0 < (ways0 N i).cnt N := List.length_pos_of_mem (List.mem_filter.2 ⟨mem_nodes_place.2 hi, a0⟩)
  have hl := rounds_lens N.trans (ways0 N i) (N.places.toNat + N.trans.length)
  have still : wayN N.trans N.trans.length (waysL N i) = waysL N i := by
    rcases rounds_grow N l1 l2 (N.places.toNat + N.trans.length) with h | h
    · exact h
    · exfalso
      have : (rounds N.trans (N.places.toNat + N.trans.length) (ways0 N i)).cnt N ≤ N.places.toNat + N.trans.length := by
        rw [← nodes_length]; exact List.length_filter_le _ _
      omega
  have mono : ∀ n, (ways0 N i).le (rounds N.trans n (ways0 N i)) := by
    intro n
    induction n with
    | zero => exact Ways.le.refl _
    | succ n ih => exact ih.trans (wayN_le _ _ _)
  constructor
  · intro h
    have sound : ∀ n, ∀ x, (rounds N.trans n (ways0 N i)).at x = true → Reach (nodeS N) (false, i) x := by
      intro n
      induction n with
      | zero =>
        intro x hx
        rcases x with ⟨b, k⟩
        cases b
        · have : k = i := by
            simp only [rounds, ways0, Ways.at, List.getD_eq_getElem?_getD, List.getElem?_set] at hx
            by_cases e : i = k
            · exact e.symm
            · rw [if_neg e, List.getElem?_replicate] at hx
              split at hx <;> simp at hx
          subst this
          exact .refl _
        · simp only [rounds, ways0, Ways.at, List.getD_eq_getElem?_getD, List.getElem?_replicate] at hx
          split at hx <;> simp at hx
      | succ n ih =>
        exact wayN_sound hok (Q := Reach (nodeS N) (false, i)) (fun x hx y hy => hx.last hy) (by have := rounds_lens N.trans (ways0 N i) n; omega) ih _ (Nat.le_refl _)
    exact sound _ x h
  · intro h
    exact h.closedP (R := fun x => (waysL N i).at x = true) (still_closed hok (by rw [waysL]; omega) (by rw [waysL]; omega) still) ((mono _).2.2 _ a0)

/-- Is all behind place i? -/
def allWays (N : PNet) (i : Nat) : Bool := (waysL N i).ps.all id && (waysL N i).ts.all id
theorem allWays_iff {N : PNet} (hok : netOk N = true) {i : Nat} (hi : i < N.places.toNat) : allWays N i = true ↔ ∀ x ∈ nodes N, Reach (nodeS N) (false, i) x := by
  have hl := rounds_lens N.trans (ways0 N i) (N.places.toNat + N.trans.length)
  have l1 : (waysL N i).ps.length = N.places.toNat := by rw [waysL, hl.1]; simp [ways0]
  have l2 : (waysL N i).ts.length = N.trans.length := by rw [waysL, hl.2]; simp [ways0]
  unfold allWays
  simp only [Bool.and_eq_true, List.all_eq_true, id_eq]
  constructor
  · rintro ⟨h1, h2⟩ x hx
    refine (ways_at hok hi x).1 ?_
    rcases x with ⟨b, k⟩
    cases b
    · have hk := mem_nodes_place.1 hx
      simp only [Ways.at]
      rw [List.getD_eq_getElem?_getD, List.getElem?_eq_getElem (by omega)]
      exact h1 _ (List.getElem_mem _)
    · have hk := mem_nodes_tran.1 hx
      simp only [Ways.at]
      rw [List.getD_eq_getElem?_getD, List.getElem?_eq_getElem (by omega)]
      exact h2 _ (List.getElem_mem _)
  · intro h
    refine ⟨fun x hx => ?_, fun x hx => ?_⟩
    · obtain ⟨k, hk, rfl⟩ := List.getElem_of_mem hx
      have := (ways_at hok hi (false, k)).2 (h _ (mem_nodes_place.2 (by omega)))
      simpa [Ways.at, hk] using this
    · obtain ⟨k, hk, rfl⟩ := List.getElem_of_mem hx
      have := (ways_at hok hi (true, k)).2 (h _ (mem_nodes_tran.2 (by omega)))
      simpa [Ways.at, hk] using this
/-- What looking deeper finds. -/
def walkL (N : PNet) (i : Nat) : List PNode := dfs (nodeS N) (N.places.toNat + N.trans.length) [] (false, i)
theorem walkL_all {N : PNet} (hok : netOk N = true) {i : Nat} (hi : i < N.places.toNat) : N.places.toNat + N.trans.length ≤ (walkL N i).length ↔ allWays N i = true := by
  rw [allWays_iff hok hi, ← dfs_all (nodes_closed hok) (nodes_nodup N) (false, i) (mem_nodes_place.2 hi) _ (Nat.le_of_eq (nodes_length N)), nodes_length]
  rfl

/-! ### what is wrong -/
/-- Is there an arc to the beginning, or out of the end? -/
def backT (i o : Nat) (t : PTran) : Bool := decide (0 < atL t.post i) || decide (0 < atL t.pre o)
def inB (N : PNet) (i o : Int) : Bool := decide (0 ≤ i) && decide (0 ≤ o) && decide (i < N.places) && decide (o < N.places) && decide (i ≠ o)
def shapeL (N : PNet) (i o : Int) : Int :=
  if netOk N = true then (if inB N i o = true then (if N.trans.any (backT i.toNat o.toNat) = true then 1 else if allWays N i.toNat = true ∧ allWays (turned N) o.toNat = true then 0 else 1) else 1) else 2
def closeL (N : PNet) (i o : Int) : PNet × Int :=
  if shapeL N i o = 0 then (if N.trans.length = 24 then (⟨0, []⟩, 4) else (⟨N.places, N.trans ++ [⟨0, oneL N.places.toNat o, oneL N.places.toNat i⟩]⟩, 0)) else (⟨0, []⟩, shapeL N i o)
end Go.Proofs.Ytnfppolgaeibeaa
namespace Go.Proofs.Ytnfppolgaeibeaa
open Go.RowKit Go.Maps Go.MapKept Go.ChangeMaps Go.WideElems Go.ChangeShapes

/-- Ways that meet again ahead of the last part: told once. -/
theorem scrEnd {P : Program} {ops : Array Oper} {Q : Exit → Act → World → Prop} {S : World → Prop} {T : Scr} (Tend : Scr) {a0 : Act} {w0 : World} (F : Act → Act → World → Prop) (hF : ∀ a' w', F a0 a' w' → S w' → wpScr P ops Q S Tend a' w')
    (h : Hid (∀ a' w', F a0 a' w' → S w' → wpScr P ops Q S Tend a' w') → wpScr P ops Q S T a0 w0) : wpScr P ops Q S T a0 w0 := h hF

/-- An operation that is not wanted. -/
theorem tkSkip {P : Program} {ops : Array Oper} {Q : Exit → Act → World → Prop} {S : World → Prop} {i : Nat} {r : Scr} {a : Act} {w : World} {o : Oper} (ho : nth ops.toList i = some o) (hw : Region.wanted o (yielded ops a.tmps) = false) (hS : S w)
    (h : wpScr P ops Q S r (a.put o.dst undef) w) : wpScr P ops Q S (.take i r) a w :=
  ⟨o, undef, nth_ops ho, .inr ⟨hw, rfl⟩, hS, h⟩

section
variable {H : Type} {P : Program} {k t e : TypeId} {R : Value → Option (DataW H × List MemPlace)} {w : World} {b n : Nat} {D : DataW H}

theorem grown_set {es : Array MapEntry} {clock : Nat} (hb : w.heap[b]? = some (.map es clock)) (o : Obj) : w.grownBy (setBlock w b o) (some b) ∧ (setBlock w b o).heap.size = w.heap.size :=
  ⟨⟨rfl, rfl, rfl, by simp [setBlock], fun i _ hi => heap_setBlock_other hb _ (fun e => hi (by rw [e]))⟩, by simp [setBlock]⟩
theorem ownsMap_of_block {w' : World} (h : w.ownsMap P k R b n D) (hb : w'.heap[b]? = w.heap[b]?) : w'.ownsMap P k R b n D := by
  obtain ⟨es, clock, h1, h2, h3, h4⟩ := h
  exact ⟨es, clock, hb.trans h1, h2, h3, h4⟩

/-- The entry at a key, and what is stored into it, whatever else was done between. -/
theorem own_entry (h : w.ownsMap P k R b n D) (K : Keyed P k) (ht : P.underlying t = some (.map k e)) (hn : n < maxLen) {z : Value} (hz : ∀ u : World, (zeroValue e).run P u = .ok z u) {zd : DataW H} {zp : List MemPlace} (hzd : R z = some (zd, zp))
    {key : Value} {kl : Lit} (hkey : keyOf P k key = some kl) :
    ∃ (v0 : Value) (st : Nat) (w1 : World), (Instr.mapEntry t (.map (some b)) key).run P w = .ok (.tuple #[v0, goInt st]) w1 ∧ w.grownBy w1 (some b) ∧ w1.heap.size = w.heap.size ∧
      (∃ D1, w1.ownsMap P k R b (n + 1) D1 ∧ D1.atKey kl zd = D.atKey kl zd) ∧
      ∀ (w2 : World) (val : Value) (d : DataW H) (ps : List MemPlace), w2.heap[b]? = w1.heap[b]? → R val = some (d, ps) →
        ∃ w3, (Instr.entryStore t (.map (some b)) (goInt st) val).run P w2 = .ok () w3 ∧ w3.ownsMap P k R b (n + 1) (D.put kl d) ∧ w2.grownBy w3 (some b) ∧ w3.heap.size = w2.heap.size := by
  have hown := h
  obtain ⟨es, clock, hb, F, hs, hD⟩ := h
  obtain ⟨s1, s2, _⟩ := F.stamped
  have same : ∀ {w2 w' : World} {es' : Array MapEntry} {clock' : Nat} {d : DataW H}, w'.ownsMap P k R b (n + 1) (D.put kl d) → w' = setBlock w b (.map es' clock') → (∃ es2 c2, w2.heap[b]? = some (.map es2 c2)) → (setBlock w2 b (.map es' clock')).ownsMap P k R b (n + 1) (D.put kl d) := by
    rintro w2 w' es' clock' d h1 rfl ⟨es2, c2, h2⟩
    exact ownsMap_of_block h1 ((heap_setBlock_same h2 _).trans (heap_setBlock_same hb _).symm)
  rcases K.find w hkey es.toList F.keys with ⟨h1, h2⟩ | ⟨j, e0, h1, h2, h3⟩
  · -- a new entry
    obtain ⟨wz, z1, z2, z3⟩ := hown.update K ht hn hkey hzd
    have up : ∀ val : Value, (Instr.mapUpdate t (.map (some b)) key val).run P w = .ok () (setBlock w b (.map (es.push ⟨key, val, clock⟩) (clock + 1))) := fun val => by
      simp [Instr.mapUpdate, run_underlying ht, MapKept.run_getObj_map hb, K.check w false hkey, h1, MapKept.run_setObj_map _ hb, Result.andThen, setBlock]
    have ez : wz = setBlock w b (.map (es.push ⟨key, z, clock⟩) (clock + 1)) := by
      rw [up z] at z1
      injection z1 with _ z1
      exact z1.symm
    have miss : D.atKey kl zd = zd := by
      rcases Maps.fit_look false K ht (hz w) hb F hkey with ⟨_, _, hat⟩ | ⟨e1, y, he1, hk1, _⟩
      · rw [hD]; exact hat zd
      · exact absurd hk1 (h2 e1 he1)
    refine ⟨z, clock, wz, ?_, z3, by rw [ez]; exact (grown_set hb _).2, ⟨D.put kl zd, z2, ?_⟩, fun w2 val d ps hw2 hv => ?_⟩
    · rw [ez]
      simp [Instr.mapEntry, run_underlying ht, MapKept.run_getObj_map hb, K.check w false hkey, h1, hz, MapKept.run_setObj_map _ hb, Result.andThen, setBlock]
    · rw [miss, hD]
      exact Maps.atKey_put_same ⟨_, rfl⟩ (K.key hkey) _ _
    · have hw2' : w2.heap[b]? = some (.map (es.push ⟨key, z, clock⟩) (clock + 1)) := by rw [hw2, ez]; exact heap_setBlock_same hb _
      have hidx : (es.push ⟨key, z, clock⟩).findIdx? (fun e => ((e.born : Nat) : Int) == ((clock : Nat) : Int)) = some es.size := by
        rw [findIdx_arr]
        refine findIdx_born (l := (es.push ⟨key, z, clock⟩).toList) (j := es.size) (e0 := ⟨key, z, clock⟩) ?_ (by simp)
        simp only [Array.toList_push, List.map_append, List.map_cons, List.map_nil]
        refine List.nodup_append.2 ⟨s2, by simp, fun a ha c hc e1 => ?_⟩
        simp only [List.mem_singleton] at hc
        obtain ⟨x, hx, rfl⟩ := List.mem_map.1 ha
        have := s1 x hx
        omega
      have hmod : (es.push ⟨key, z, clock⟩).modify es.size (fun e => { e with val := val }) = es.push ⟨key, val, clock⟩ := by
        apply Array.ext'
        rw [Array.toList_modify, Array.toList_push, Array.toList_push, ← Array.length_toList, modify_last]
      obtain ⟨wv, v1, v2, _⟩ := hown.update K ht hn hkey hv
      rw [up val] at v1
      injection v1 with _ v1
      refine ⟨setBlock w2 b (.map (es.push ⟨key, val, clock⟩) (clock + 1)), ?_, same v2 v1.symm ⟨_, _, hw2'⟩, (grown_set hw2' _).1, (grown_set hw2' _).2⟩
      simp [Instr.entryStore, MapKept.run_getObj_map hw2', asInt, asIntOf, goInt, hidx, hmod, MapKept.run_setObj_map _ hw2', Result.andThen, setBlock]
  · -- the entry is there
    have hj : es[j]? = some e0 := by simpa using h2
    have hsame : es.modify j (fun e => { e with key := key }) = es := by
      apply Array.ext'
      rw [Array.toList_modify, modify_eq_set _ _ _ _ h2]
      have : ({ e0 with key := key } : MapEntry) = e0 := by rw [← h3]
      rw [this]
      exact set_self _ _ _ h2
    have hw1 : (setBlock w b (.map es clock)).heap[b]? = some (.map es clock) := heap_setBlock_same hb _
    refine ⟨e0.val, e0.born, setBlock w b (.map es clock), ?_, (grown_set hb _).1, (grown_set hb _).2, ⟨D, (ownsMap_of_block hown (hw1.trans hb.symm)).mono (Nat.le_succ _), rfl⟩, fun w2 val d ps hw2 hv => ?_⟩
    · simp [Instr.mapEntry, run_underlying ht, MapKept.run_getObj_map hb, K.check w false hkey, h1, hj, h3, K.stays w hkey, hsame, MapKept.run_setObj_map _ hb, Result.andThen, setBlock]
    · have hw2' : w2.heap[b]? = some (.map es clock) := hw2.trans hw1
      have hidx : es.findIdx? (fun e => ((e.born : Nat) : Int) == ((e0.born : Nat) : Int)) = some j := by
        rw [findIdx_arr]
        exact findIdx_born s2 h2
      have hmod : es.modify j (fun e => { e with val := val }) = es.modify j (fun e' => { e' with key := key, val := val }) := by
        apply Array.ext'
        rw [Array.toList_modify, Array.toList_modify, modify_eq_set _ _ _ _ h2, modify_eq_set _ _ _ _ h2, ← h3]
      obtain ⟨wv, v1, v2, _⟩ := hown.update K ht hn hkey hv
      have up : (Instr.mapUpdate t (.map (some b)) key val).run P w = .ok () (setBlock w b (.map (es.modify j (fun e' => { e' with key := key, val := val })) clock)) := by
        simp [Instr.mapUpdate, run_underlying ht, MapKept.run_getObj_map hb, K.check w false hkey, h1, hj, h3, K.stays w hkey, MapKept.run_setObj_map _ hb, Result.andThen, setBlock]
      rw [up] at v1
      injection v1 with _ v1
      refine ⟨setBlock w2 b (.map (es.modify j (fun e' => { e' with key := key, val := val })) clock), ?_, same v2 v1.symm ⟨_, _, hw2'⟩, (grown_set hw2' _).1, (grown_set hw2' _).2⟩
      simp [Instr.entryStore, MapKept.run_getObj_map hw2', asInt, asIntOf, goInt, hidx, hmod, MapKept.run_setObj_map _ hw2', Result.andThen, setBlock]
end
end Go.Proofs.Ytnfppolgaeibeaa
namespace Go.Proofs.Ytnfppolgaeibeaa
open Go.RowKit Go.Maps

def nodeV (x : PNode) : Value := .agg #[.bool x.1, .int .i64 x.2]
theorem nodeLaw : Keyed Try.prog 158 := Keyed.of_law (deep_law_laid Facts.laidOut (m := 2) (by decide) (of_decide_eq_true (by kernel_rfl)) (by kernel_rfl) (by kernel_rfl))
theorem nodeKeyType : Try.prog.keyType 158 = true := by kernel_rfl
theorem nodeCells : Try.prog.cellsOf 158 = 2 := by kernel_rfl
theorem boolCells : Try.prog.cellsOf 4 = 1 := by kernel_rfl
theorem intCells : Try.prog.cellsOf 3 = 1 := by kernel_rfl
/-- What a node is as a key. -/
def nodeK (x : PNode) : Lit := .string (keyBytes [.bool x.1, .int .i64 (x.2 : Int)])
theorem nodeK_key (x : PNode) (h : x.2 ≤ 1000) : keyOf Try.prog 158 (nodeV x) = some (nodeK x) := by
  have hw : (Lit.int .i64 (x.2 : Int)).wf = true := WalkArith.wf_i64 (by omega)
  have hsz : ∃ m, Try.prog.types.size + 1 = m + 2 := ⟨Try.prog.types.size - 1, by have : 0 < Try.prog.types.size := of_decide_eq_true (by kernel_rfl); omega⟩
  obtain ⟨m, hm⟩ := hsz
  unfold keyOf
  rw [Try.underlying158]
  simp only [nodeKeyType, nodeV, Value.formed, Try.underlying158, nodeCells, hm]
  simp [Program.keyLits, Try.underlying158, nodeCells, boolCells, intCells, Try.underlying4, Try.underlying3, hw, Value.cells, nodeK]
theorem nodeK_inj {x y : PNode} (hx : x.2 ≤ 1000) (hy : y.2 ≤ 1000) (h : nodeK x = nodeK y) : x = y := by
  have := nodeLaw.inj (nodeK_key x hx) (by rw [h]; exact nodeK_key y hy)
  simp only [nodeV, Value.agg.injEq, Array.mk.injEq, List.cons.injEq, Value.bool.injEq, Value.int.injEq, true_and, and_true, Int.natCast_inj] at this
  exact Prod.ext this.1 this.2

/-- Block b is a map that says of just these nodes that they were found. -/
def SetM (w : World) (b : Nat) (had : List PNode) : Prop :=
  ∃ D : DataW Unit, w.ownsMap Try.prog 158 (plainElem Try.prog 3) b had.length D ∧ Maps.size D = had.length ∧ (∀ x : PNode, x.2 ≤ 1000 → x ∈ had → ∀ z, D.atKey (nodeK x) z = .lit (.int .i64 1)) ∧ (∀ x : PNode, x.2 ≤ 1000 → x ∉ had → Maps.has D (nodeK x) = false)
theorem SetM.made (w : World) : SetM (w.alloc (.map #[] 0)) w.heap.size [] :=
  ⟨.map [], World.ownsMap_made _ _ _ _, rfl, fun x _ h => by simp at h, fun x _ _ => rfl⟩
theorem SetM.of_block {w w' : World} {b : Nat} {had : List PNode} (h : SetM w b had) (hb : w'.heap[b]? = w.heap[b]?) : SetM w' b had := by
  obtain ⟨D, h1, h2⟩ := h
  exact ⟨D, ownsMap_of_block h1 hb, h2⟩
theorem SetM.lt {w : World} {b : Nat} {had : List PNode} (h : SetM w b had) : b < w.heap.size := by
  obtain ⟨D, h1, _⟩ := h
  exact h1.lt
theorem SetM.alloc {w : World} {b : Nat} {had : List PNode} (h : SetM w b had) (o : Obj) : SetM (w.alloc o) b had := h.of_block (heap_alloc_old w o h.lt)
theorem SetM.keep {w w' : World} {b : Nat} {had : List PNode} (h : SetM w b had) (hb : Below w.heap.size w w') : SetM w' b had := h.of_block (hb.block b h.lt)
theorem zeroInt (w : World) : (zeroValue 3).run Try.prog w = .ok (.int .i64 0) w := by kernel_rfl
/-- Looked up: 1 where it was found, else 0. -/
theorem SetM.look {w : World} {b : Nat} {had : List PNode} (h : SetM w b had) (x : PNode) (hx : x.2 ≤ 1000) :
    (Instr.lookup 93 (.map (some b)) (nodeV x) false).run Try.prog w = .ok (.int .i64 (if x ∈ had then 1 else 0)) w := by
  obtain ⟨D, h1, h2, h3, h4⟩ := h
  obtain ⟨c, hrun, hat, _⟩ := h1.lookup_int nodeLaw Try.underlying93 Try.underlying3 (zeroInt w) (nodeK_key x hx)
  rw [hrun]
  by_cases hm : x ∈ had
  · rw [h3 x hx hm] at hat
    simp only [DataW.lit.injEq, Lit.int.injEq, true_and] at hat
    rw [if_pos hm, ← hat]
  · rw [Maps.atKey_of_not_has (h4 x hx hm)] at hat
    simp only [DataW.lit.injEq, Lit.int.injEq, true_and] at hat
    rw [if_neg hm, ← hat]
theorem SetM.len {w : World} {b : Nat} {had : List PNode} (h : SetM w b had) (ty : TypeId) : (Builtin.len_ #[93] ty #[.map (some b)]).run Try.prog w = .ok (.int .i64 had.length) w := by
  obtain ⟨D, h1, h2, _⟩ := h
  rw [h1.len Try.underlying93 ty, h2]
/-- One more: the entry, a look-up behind it, and the store. -/
theorem SetM.entry {w : World} {b : Nat} {had : List PNode} (h : SetM w b had) (x : PNode) (hx : x.2 ≤ 1000) (hn : x ∉ had) (hl : had.length ≤ 1000) :
    ∃ (v0 : Value) (st : Nat) (w1 : World), (Instr.mapEntry 93 (.map (some b)) (nodeV x)).run Try.prog w = .ok (.tuple #[v0, .int .i64 st]) w1 ∧ w.grownBy w1 (some b) ∧ w1.heap.size = w.heap.size ∧
      (Instr.lookup 93 (.map (some b)) (nodeV x) false).run Try.prog w1 = .ok (.int .i64 0) w1 ∧
      ∃ w3, (Instr.entryStore 93 (.map (some b)) (.int .i64 st) (.int .i64 1)).run Try.prog w1 = .ok () w3 ∧ SetM w3 b (x :: had) ∧ w1.grownBy w3 (some b) ∧ w3.heap.size = w1.heap.size := by
  obtain ⟨D, h1, h2, h3, h4⟩ := h
  have hk := nodeK_key x hx
  have ne : ∀ y : PNode, y.2 ≤ 1000 → y ≠ x → nodeK y ≠ nodeK x := fun y hy hne e => hne (nodeK_inj hy hx e)
  obtain ⟨v0, st, w1, r1, r2, r3, ⟨D1, o1, a1⟩, st3⟩ := own_entry h1 nodeLaw Try.underlying93 (by simp only [maxLen]; omega) zeroInt (plainElem_int Try.underlying3 (by decide)) hk
  obtain ⟨c, hrun, hat, _⟩ := o1.lookup_int nodeLaw Try.underlying93 Try.underlying3 (zeroInt w1) hk
  rw [a1, Maps.atKey_of_not_has (h4 x hx hn)] at hat
  simp only [DataW.lit.injEq, Lit.int.injEq, true_and] at hat
  obtain ⟨w3, s1, s2, s3, s4⟩ := st3 w1 (.int .i64 1) (.lit (.int .i64 1)) [] rfl (plainElem_int Try.underlying3 (by decide))
  refine ⟨v0, st, w1, r1, r2, r3, by rw [hrun, ← hat], w3, s1, ⟨D.put (nodeK x) (.lit (.int .i64 1)), s2, ?_, ?_, ?_⟩, s3, s4⟩
  · rw [Maps.size_put (h1.tidy nodeLaw), h4 x hx hn, h2]; rfl
  · intro y hy hm z
    rcases List.mem_cons.1 hm with rfl | hm
    · exact Maps.atKey_put_same (h1.tidy nodeLaw).isMap (nodeLaw.key hk) _ _
    · have hne : y ≠ x := fun e => hn (e ▸ hm)
      rw [Maps.atKey_put_other (ne y hy hne)]
      exact h3 y hy hm z
  · intro y hy hm
    have hne : y ≠ x := fun e => hm (by rw [e]; simp)
    rw [Maps.has_put_other (ne y hy hne)]
    exact h4 y hy (fun h => hm (by simp [h]))
end Go.Proofs.Ytnfppolgaeibeaa
namespace Go.Proofs.Ytnfppolgaeibeaa
open Go.RowKit Go.Maps

abbrev visitV (bh bn bv : Nat) : Value := .func (.func 106) #[] #[.pointer (some ⟨bh, 0, none⟩), .pointer (some ⟨bn, 0, none⟩), .pointer (some ⟨bv, 0, none⟩)]
theorem grownDrew (w : World) (row : Option Nat) : w.grownBy w.drew row := ⟨rfl, rfl, rfl, Nat.le_refl _, fun _ _ _ => rfl⟩
theorem grownOf {w w' : World} (h : Below w.heap.size w w') (row : Option Nat) : w.grownBy w' row := ⟨h.os, h.tape, h.output, h.size, fun k hk _ => h.block k hk⟩
theorem SetM.one {w w' : World} {b : Nat} {had : List PNode} (h : SetM w b had) (hb : w'.heap[b]? = w.heap[b]?) : SetM w' b had := h.of_block hb
theorem nodes_small {N : PNet} (hok : netOk N = true) {x : PNode} (h : x ∈ nodes N) : x.2 ≤ 24 := by
  have h1 := (netOk_iff N).1 hok
  rcases x with ⟨b, k⟩
  cases b
  · have := mem_nodes_place.1 h; simp only []; omega
  · have := mem_nodes_tran.1 h; simp only []; omega
theorem nodes_few {N : PNet} (hok : netOk N = true) : (nodes N).length ≤ 40 := by
  have h1 := (netOk_iff N).1 hok
  rw [nodes_length]; omega
theorem dfs_had {α : Type} [DecidableEq α] {s : α → List α} {f : Nat} {had : List α} {x : α} (h : x ∈ had) : dfs s f had x = had := by
  cases f with
  | zero => rfl
  | succ f => rw [dfs, if_pos h]
theorem dfs_new {α : Type} [DecidableEq α] {s : α → List α} {f : Nat} {had : List α} {x : α} (h : x ∉ had) : dfs s (f + 1) had x = (s x).foldl (dfs s f) (x :: had) := by rw [dfs, if_neg h]
theorem fold_had {N : PNet} (hok : netOk N = true) {f : Nat} {acc L : List PNode} (hL : ∀ z ∈ L, z ∈ nodes N) (hg : Had (nodes N) acc) (hl : (nodes N).length ≤ acc.length + f) :
    Had (nodes N) (L.foldl (dfs (nodeS N) f) acc) ∧ (nodes N).length ≤ (L.foldl (dfs (nodeS N) f) acc).length + f := by
  obtain ⟨F, _⟩ := dfs_fold (fun had x => dfs_found (nodes_closed hok) f had x) L acc hL hg hl
  exact ⟨F.good, by have := F.len; omega⟩

/-- Where it was found before, nothing is done. -/
theorem visit_had {w : World} {bm bh bn bv : Nat} {had : List PNode} {x : PNode} (hx : x.2 ≤ 1000) (hin : x ∈ had) (hs : SetM w bm had) (b1 : Box w bh 93 #[.map (some bm)]) :
    Calls Try.prog 106 #[nodeV x, .pointer (some ⟨bh, 0, none⟩), .pointer (some ⟨bn, 0, none⟩), .pointer (some ⟨bv, 0, none⟩)] w
      (fun e w' => e = .returned (.tuple #[]) ∧ SetM w' bm had ∧ w.grownBy w' (some bm)) := by
  have HS := hide2 (hs.alloc (.cells #[.bool x.1, .int .i64 x.2] 158))
  have LK := HS.out.look x hx
  rw [if_pos hin] at LK
  have X1 := (b1.old (.cells #[.bool x.1, .int .i64 x.2] 158)).cell 0
  obtain ⟨xb, xn⟩ := x
  simp only [List.getElem?_toArray, List.getElem?_cons_zero] at X1
  clear hs b1 hin
  show Calls Try.prog 106 #[.agg #[.bool xb, .int .i64 xn], .pointer (some ⟨bh, 0, none⟩), .pointer (some ⟨bn, 0, none⟩), .pointer (some ⟨bv, 0, none⟩)] w _
  simp only [nodeV] at LK
  go_enter Try.func106, Try.ntmps106
  go_wp2
  exact bodyPost_ret (v := .tuple #[]) (by simp [results, Try.results106, go_sem]) rfl ⟨rfl, HS.out, World.grownBy_alloc _ _ _⟩

set_option maxRecDepth 100000 in
set_option maxHeartbeats 4000000 in
theorem visit_calls {w0 : World} {P : Int} {A : Option Addr} {n c : Nat} {ts : List PTran} (h0 : Trans w0 A n c ts) (hok : netOk ⟨P, ts⟩ = true) {bm bh bn bv : Nat} (g1 : w0.heap.size ≤ bm) (g2 : bh ≠ bm) (g3 : bn ≠ bm) (g4 : bv ≠ bm) :
    ∀ (f : Nat) (had : List PNode) (x : PNode) (w : World), Had (nodes ⟨P, ts⟩) had → x ∈ nodes ⟨P, ts⟩ → (nodes ⟨P, ts⟩).length ≤ had.length + f → SetM w bm had →
      Box w bh 93 #[.map (some bm)] → Box w bn 27 #[.int .i64 P, .slice A n c] → Box w bv 156 #[visitV bh bn bv] → Below w0.heap.size w0 w →
      Calls Try.prog 106 #[nodeV x, .pointer (some ⟨bh, 0, none⟩), .pointer (some ⟨bn, 0, none⟩), .pointer (some ⟨bv, 0, none⟩)] w
        (fun e w' => e = .returned (.tuple #[]) ∧ SetM w' bm (dfs (nodeS ⟨P, ts⟩) f had x) ∧ w.grownBy w' (some bm)) := by
  intro f
  induction f with
  | zero =>
    intro had x w hg hx hl hs b1 b2 b3 hb
    have hin : x ∈ had := nodup_full hg.nodup hg.sub (by omega) hx
    rw [dfs_had hin]
    exact visit_had (by have := nodes_small hok hx; omega) hin hs b1
  | succ f ih =>
    intro had x w hg hx hl hs b1 b2 b3 hb
    by_cases hin : x ∈ had
    · rw [dfs_had hin]
      exact visit_had (by have := nodes_small hok hx; omega) hin hs b1
    · rw [dfs_new hin]
      have hx24 := nodes_small hok hx
      have hh := nodup_len _ _ hg.nodup hg.sub
      have hn40 := nodes_few hok
      have HS := hide2 (hs.alloc (.cells #[.bool x.1, .int .i64 x.2] 158))
      have LK := HS.out.look x (by omega)
      rw [if_neg hin] at LK
      obtain ⟨v0, st, w2, r1, r2, r3, r4, w3, s1, s2, s3, s4⟩ := SetM.entry (w := (w.alloc (.cells #[.bool x.1, .int .i64 x.2] 158)).drew) HS.out x (by omega) hin (by omega)
      have X0 := hide2 (b1.old (.cells #[.bool x.1, .int .i64 x.2] 158))
      have X1 := hide2 (b2.old (.cells #[.bool x.1, .int .i64 x.2] 158))
      have X2 := hide2 (b3.old (.cells #[.bool x.1, .int .i64 x.2] 158))
      have X3 := hide2 (Box.new w #[.bool x.1, .int .i64 x.2] 158)
      have BW := hide2 (hb.trans ((boxBelow w (.cells #[.bool x.1, .int .i64 x.2] 158)).mono hb.size))
      have hbx : w.heap.size ≠ bm := by have := hs.lt; omega
      have GW := hide2 (World.grownBy_alloc w (.cells #[.bool x.1, .int .i64 x.2] 158) (some bm))
      have HX := hide2 hx
      have HI := hide2 hin
      have HG := hide2 (show Had (nodes ⟨P, ts⟩) (x :: had) from ⟨List.nodup_cons.2 ⟨hin, hg.nodup⟩, fun y hy => by
        rcases List.mem_cons.1 hy with rfl | hy
        · exact hx
        · exact hg.sub y hy⟩)
      have HL := hide2 (show (nodes ⟨P, ts⟩).length ≤ (x :: had).length + f by simp only [List.length_cons]; omega)
      have IH := hide2 ih
      have H0 := hide2 h0
      have HO := hide2 hok
      have R2 := hide2 r2
      have S2 := hide2 s2
      have S3 := hide2 s3
      obtain ⟨xb, xn⟩ := x
      simp only [nodeV] at LK r1 r4 s1
      simp only [] at hx24
      replace X3 : Hid (Box (w.alloc (.cells #[.bool xb, .int .i64 xn] 158)) w.heap.size 158 #[.bool xb, .int .i64 xn]) := X3
      clear hs b1 b2 b3 hb hg hl hx hin h0 hok ih r2 r3 s2 s3 s4 hh hn40
      show Calls Try.prog 106 #[.agg #[.bool xb, .int .i64 xn], .pointer (some ⟨bh, 0, none⟩), .pointer (some ⟨bn, 0, none⟩), .pointer (some ⟨bv, 0, none⟩)] w _
      have x0 := X0.out.cell 0
      simp only [List.getElem?_toArray, List.getElem?_cons_zero] at x0
      obtain ⟨x1, x2⟩ := X3.out.two
      go_enter Try.func106, Try.ntmps106
      go_upto_region 2 with fail
      clear LK
      have LK := SetM.look (w := (w.alloc (.cells #[.bool xb, .int .i64 xn] 158)).drew) HS.out (xb, xn) (by show xn ≤ 1000; omega)
      rw [if_neg HI.out] at LK
      simp only [nodeV] at LK
      generalize w.alloc (.cells #[.bool xb, .int .i64 xn] 158) = w1 at *
      have Y0 := hide2 (X0.out.drew.grown R2.out (by simp; omega))
      have Y1 := hide2 (X1.out.drew.grown R2.out (by simp; omega))
      have Y2 := hide2 (X2.out.drew.grown R2.out (by simp; omega))
      have Y3 := hide2 (X3.out.drew.grown R2.out (by simp; omega))
      have y0 := Y0.out.cell 0
      simp only [List.getElem?_toArray, List.getElem?_cons_zero] at y0
      obtain ⟨y1, y2⟩ := Y3.out.two
      refine wp_region_scr 6 (.takes [0, 1] (.two 2 (.take 3 (.one 4 (.take 5 (.fin 6 .done)))) 4 (.take 5 (.one 2 (.take 3 (.fin 6 .done)))))) (fun w' => w'.cell? ⟨bh, 0, none⟩ = some (.map (some bm)) ∧ w'.cell? ⟨w.heap.size, 0, none⟩ = some (.bool xb) ∧ w'.cell? ⟨w.heap.size, 1, none⟩ = some (.int .i64 xn)) (by kernel_rfl) (by kernel_rfl) (by kernel_rfl) (fun _ _ _ _ _ h => h) ⟨x0, x1, x2⟩ (fun hHeld => ?_)
      simp only [Scr.takes]
      iterate 2
        refine tkTake (v := ?_) rfl (by rfl) hHeld (fun w' hSw => ?_) ?_
        rotate_left
        · (go_simp; try with_reducible rfl)
        simp only [Act.put, List.setIfInBounds_toArray, List.set_cons_zero, List.set_cons_succ]
      refine scrEnd (.fin 6 .done) (fun a0 a' w' => a' = ((((a0.put (some 15) (.int .i64 0)).put (some 16) (.int .i64 1)).put (some 17) (.tuple #[v0, .int .i64 st])).put (some 18) (.int .i64 st)) ∧ w' = w2) ?_ (fun EN => ?_)
      · rintro a' w' ⟨rfl, rfl⟩ hS
        simp only [Act.put, List.setIfInBounds_toArray, List.set_cons_zero, List.set_cons_succ]
        refine tkEnd rfl (fun K hK => ?_)
        go_simp
        refine hK.out _ _ ?_
        clear hK
        refine tkDone ?_
        have Z1 := hide2 (Y1.out.grown S3.out (by simp; omega))
        have Z2 := hide2 (Y2.out.grown S3.out (by simp; omega))
        have Z0 := hide2 (Y0.out.grown S3.out (by simp; omega))
        have Z3 := hide2 (Y3.out.grown S3.out (by simp; omega))
        have G3 := hide2 (GW.out.trans ((grownDrew w1 (some bm)).trans (R2.out.trans S3.out)))
        have B3 := hide2 (show Below w0.heap.size w0 w3 from (BW.out.drew.grown R2.out BW.out.size (fun k hk => by cases hk; exact g1)).grown S3.out (Nat.le_trans BW.out.size R2.out.size) (fun k hk => by cases hk; exact g1))
        have hszb : w.heap.size < w3.heap.size := Z3.out.lt
        clear s1 S3 R2 Y0 Y1 Y2 Y3 X0 X1 X2 X3 LK hHeld BW GW HS x0 x1 x2 HI hS r1 r4 y0 y1 y2
        obtain ⟨z0, z1⟩ := Z1.out.two
        obtain ⟨x1, x2⟩ := Z3.out.two
        cases xb
        · have hxP : xn < P.toNat := mem_nodes_place.1 HX.out
          have HT := hide2 (show nodeS ⟨P, ts⟩ (false, xn) = (preN ts xn n).map fun k => (true, k) by simp only [nodeS, H0.out.len])
          have HN := hide2 (show ∀ j, j ≤ n → ∀ z ∈ (preN ts xn j).map (fun k => ((true, k) : PNode)), z ∈ nodes ⟨P, ts⟩ from fun j hj z hz => by
            simp only [preN, List.mem_map, List.mem_filter, List.mem_range] at hz
            obtain ⟨q, ⟨hq, _⟩, rfl⟩ := hz
            refine mem_nodes_tran.2 ?_
            have := H0.out.len
            simp only []
            omega)
          have hn := H0.out.small
          go_wp2
          go_loopw [44] (fun i wr => ∃ j : Nat, j ≤ n ∧ i = .int .i64 j ∧ Hid (SetM wr bm (((preN ts xn j).map fun k => ((true, k) : PNode)).foldl (dfs (nodeS ⟨P, ts⟩) f) ((false, xn) :: had))) ∧ Hid (w3.grownBy wr (some bm))) (fun i _ => n - (intOf i).toNat)
          case atStart => exact ⟨0, Nat.zero_le _, rfl, S2, World.grownBy.refl _ _⟩
          case round =>
            obtain ⟨j, hj, rfl, SM, GR⟩ := hrel
            clear z0 z1 x1 x2
            have BR := hide2 (show Below w0.heap.size w0 wr from B3.out.grown GR.out B3.out.size (fun k hk => by cases hk; exact g1))
            by_cases hlt : j < n
            · have hji : (j : Int) < (n : Int) := by omega
              obtain ⟨bl, off, t, A1, n1, c1, A2, n2, c2, rfl, hbl, ht, q0', q1', q2', i1, i2, m1, m2⟩ := Trans.get H0.out hlt
              have q0 := (BR.out.cell (p := ⟨bl, off + j * 3, none⟩) hbl).trans q0'
              have q1 := (BR.out.cell (p := ⟨bl, off + j * 3 + 1, none⟩) hbl).trans q1'
              have q2 := (BR.out.cell (p := ⟨bl, off + j * 3 + 2, none⟩) hbl).trans q2'
              have hxn : xn < n1 := by have := (netOk_tran HO.out ht.out).2.2.1; rw [i1.len] at this; simp only [] at this; omega
              have hxi : (xn : Int) < (n1 : Int) := by omega
              have SU := hide2 (fun v (hv : t.pre[xn]? = some v) => show ((preN ts xn (j + 1)).map fun k => ((true, k) : PNode)).foldl (dfs (nodeS ⟨P, ts⟩) f) ((false, xn) :: had) = if 0 < v then dfs (nodeS ⟨P, ts⟩) f (((preN ts xn j).map fun k => ((true, k) : PNode)).foldl (dfs (nodeS ⟨P, ts⟩) f) ((false, xn) :: had)) (true, j) else ((preN ts xn j).map fun k => ((true, k) : PNode)).foldl (dfs (nodeS ⟨P, ts⟩) f) ((false, xn) :: had) by
                rw [preN_succ _ _ _ ht.out, atL_some hv]
                by_cases h : 0 < v <;> simp [h, List.foldl_append])
              have I1 := hide2 i1
              clear i1 i2 q0' q1' q2'
              have bb := boxBelow wr (.cells #[.int .i64 t.label, .slice A1 n1 c1, .slice A2 n2 c2] 78)
              have hbxr : w.heap.size < wr.heap.size := Nat.lt_of_lt_of_le hszb GR.out.size
              have U0 := hide2 ((Z0.out.grown GR.out (by simp; omega)).old (.cells #[.int .i64 t.label, .slice A1 n1 c1, .slice A2 n2 c2] 78))
              have U1 := hide2 ((Z1.out.grown GR.out (by simp; omega)).old (.cells #[.int .i64 t.label, .slice A1 n1 c1, .slice A2 n2 c2] 78))
              have U2 := hide2 ((Z2.out.grown GR.out (by simp; omega)).old (.cells #[.int .i64 t.label, .slice A1 n1 c1, .slice A2 n2 c2] 78))
              have U3 := hide2 ((Z3.out.grown GR.out (by simp; omega)).old (.cells #[.int .i64 t.label, .slice A1 n1 c1, .slice A2 n2 c2] 78))
              have U4 := hide2 (Box.new wr #[.int .i64 t.label, .slice A1 n1 c1, .slice A2 n2 c2] 78)
              have SM1 := hide2 (SM.out.keep bb)
              have GR1 := hide2 (GR.out.trans (grownOf bb (some bm)))
              have BR1 := hide2 (BR.out.trans (bb.mono BR.out.size))
              clear bb
              go_upto_region 13 with fail
              generalize wr.alloc (.cells #[.int .i64 t.label, .slice A1 n1 c1, .slice A2 n2 c2] 78) = w4 at *
              obtain ⟨b1, o1, v, rfl, hb1, hv, qv⟩ := Ints.get (Ints.keep I1.out BR1.out) hxn
              have SV := hide2 (SU.out v hv.out)
              clear SU q0 q1 q2
              obtain ⟨x1, x2⟩ := U3.out.two
              obtain ⟨y0, y1, y2⟩ := U4.out.three
              have fn0 := U2.out.cell 0
              simp only [List.getElem?_toArray, List.getElem?_cons_zero] at fn0
              by_cases hpos : 0 < v
              · obtain ⟨FH, FL⟩ := fold_had (f := f) HO.out (HN.out j hj) HG.out HL.out
                have CL := hide2 (IH.out _ (true, j) w4 FH (mem_nodes_tran.2 (by have := H0.out.len; simp only []; omega)) FL SM1.out U0.out U1.out U2.out BR1.out)
                clear FH FL
                go_wp2_with fail
                refine CL.out.mono ?_
                rintro e wn ⟨rfl, sm, gr⟩
                have SN := hide2 sm
                have GN := hide2 (GR1.out.trans gr)
                clear sm gr
                go_wp2
                go_roundw
                case rel => exact ⟨j + 1, by omega, by go_num, by rw [SV.out, if_pos hpos]; exact SN, GN⟩
                case measure => simp [intOf]; omega
              · go_wp2
                go_roundw
                case rel => exact ⟨j + 1, by omega, by go_num, by rw [SV.out, if_neg hpos]; exact SM1, GR1⟩
                case measure => simp [intOf]; omega
            · obtain rfl : j = n := by omega
              go_wp2
              exact bodyPost_end (v := .tuple #[]) (by simp [results, Try.results106, go_sem]) rfl ⟨rfl, by rw [HT.out]; exact SM.out, G3.out.trans GR.out⟩
        · have hxn : xn < n := by have h1 := mem_nodes_tran.1 HX.out; have h2 := H0.out.len; simp only [] at h1; omega
          have hxi : (xn : Int) < (n : Int) := by omega
          obtain ⟨bl, off, t, A1, n1, c1, A2, n2, c2, rfl, hbl, ht, q0', q1', q2', i1, i2, m1, m2⟩ := Trans.get H0.out hxn
          have q2 := (B3.out.cell (p := ⟨bl, off + xn * 3 + 2, none⟩) hbl).trans q2'
          have I2 := hide2 i2
          have HT := hide2 (show nodeS ⟨P, ts⟩ (true, xn) = (posN t.post n2).map fun p => (false, p) by simp only [nodeS, ht.out, i2.len])
          have HN := hide2 (show ∀ j, j ≤ n2 → ∀ z ∈ (posN t.post j).map (fun p => ((false, p) : PNode)), z ∈ nodes ⟨P, ts⟩ from fun j hj z hz => by
            simp only [posN, List.mem_map, List.mem_filter, List.mem_range] at hz
            obtain ⟨q, ⟨hq, _⟩, rfl⟩ := hz
            refine mem_nodes_place.2 ?_
            have := (netOk_tran HO.out ht.out).2.2.2.1
            rw [i2.len] at this
            simp only [] at this ⊢
            omega)
          clear i1 i2 q0' q1' q2'
          go_wp2
          go_loopw [29] (fun i wr => ∃ j : Nat, j ≤ n2 ∧ i = .int .i64 j ∧ Hid (SetM wr bm (((posN t.post j).map fun p => ((false, p) : PNode)).foldl (dfs (nodeS ⟨P, ts⟩) f) ((true, xn) :: had))) ∧ Hid (w3.grownBy wr (some bm))) (fun i _ => n2 - (intOf i).toNat)
          case atStart => exact ⟨0, Nat.zero_le _, rfl, S2, World.grownBy.refl _ _⟩
          case round =>
            obtain ⟨j, hj, rfl, SM, GR⟩ := hrel
            clear z0 z1 x1 x2 q2
            have BR := hide2 (show Below w0.heap.size w0 wr from B3.out.grown GR.out B3.out.size (fun k hk => by cases hk; exact g1))
            have fn0 := (Z2.out.grown GR.out (by simp; omega)).cell 0
            simp only [List.getElem?_toArray, List.getElem?_cons_zero] at fn0
            by_cases hlt : j < n2
            · have hji : (j : Int) < (n2 : Int) := by omega
              obtain ⟨b2, o2, v, rfl, hb2, hv, qv⟩ := Ints.get (Ints.keep I2.out BR.out) hlt
              have SU := hide2 (show ((posN t.post (j + 1)).map fun p => ((false, p) : PNode)).foldl (dfs (nodeS ⟨P, ts⟩) f) ((true, xn) :: had) = if 0 < v then dfs (nodeS ⟨P, ts⟩) f (((posN t.post j).map fun p => ((false, p) : PNode)).foldl (dfs (nodeS ⟨P, ts⟩) f) ((true, xn) :: had)) (false, j) else ((posN t.post j).map fun p => ((false, p) : PNode)).foldl (dfs (nodeS ⟨P, ts⟩) f) ((true, xn) :: had) by
                rw [posN_succ, atL_some hv.out]
                by_cases h : 0 < v <;> simp [h, List.foldl_append])
              by_cases hpos : 0 < v
              · obtain ⟨FH, FL⟩ := fold_had (f := f) HO.out (HN.out j hj) HG.out HL.out
                have CL := hide2 (IH.out _ (false, j) wr FH (HN.out (j + 1) (by omega) _ (by rw [posN_succ, atL_some hv.out, if_pos hpos]; simp)) FL SM.out (Z0.out.grown GR.out (by simp; omega)) (Z1.out.grown GR.out (by simp; omega)) (Z2.out.grown GR.out (by simp; omega)) BR.out)
                clear FH FL
                go_wp2_with fail
                refine CL.out.mono ?_
                rintro e wn ⟨rfl, sm, gr⟩
                have SN := hide2 sm
                have GN := hide2 (GR.out.trans gr)
                clear sm gr
                go_wp2
                go_roundw
                case rel => exact ⟨j + 1, by omega, by go_num, by rw [SU.out, if_pos hpos]; exact SN, GN⟩
                case measure => simp [intOf]; omega
              · go_wp2
                go_roundw
                case rel => exact ⟨j + 1, by omega, by go_num, by rw [SU.out, if_neg hpos]; exact SM, GR⟩
                case measure => simp [intOf]; omega
            · obtain rfl : j = n2 := by omega
              go_wp2
              exact bodyPost_ret (v := .tuple #[]) (by simp [results, Try.results106, go_sem]) rfl ⟨rfl, by rw [HT.out]; exact SM.out, G3.out.trans GR.out⟩
      refine tkTwo rfl rfl (fun K hK => ?_) (fun K hK => ?_)
      · go_simp
        refine hK.out _ _ ⟨x0, x1, x2⟩ (fun hHeld => ?_)
        clear hK
        try simp only [Act.put, List.setIfInBounds_toArray, List.set_cons_zero, List.set_cons_succ]
        refine tkTake (v := ?_) rfl (by rfl) hHeld (fun w' hSw => ?_) ?_
        rotate_left
        · (go_simp; try with_reducible rfl)
        simp only [Act.put, List.setIfInBounds_toArray, List.set_cons_zero, List.set_cons_succ]
        refine tkOne rfl (fun K hK => ?_)
        go_simp
        refine hK.out _ _ ⟨y0, y1, y2⟩ (fun hHeld => ?_)
        clear hK
        try simp only [Act.put, List.setIfInBounds_toArray, List.set_cons_zero, List.set_cons_succ]
        refine tkTake (v := ?_) rfl (by rfl) hHeld (fun w' hSw => ?_) ?_
        rotate_left
        · (go_simp; try with_reducible rfl)
        simp only [Act.put, List.setIfInBounds_toArray, List.set_cons_zero, List.set_cons_succ]
        exact EN.out _ _ ⟨rfl, rfl⟩ hHeld
      · go_simp
        refine hK.out _ _ ⟨y0, y1, y2⟩ (fun hHeld => ?_)
        clear hK
        try simp only [Act.put, List.setIfInBounds_toArray, List.set_cons_zero, List.set_cons_succ]
        refine tkTake (v := ?_) rfl (by rfl) hHeld (fun w' hSw => ?_) ?_
        rotate_left
        · (go_simp; try with_reducible rfl)
        simp only [Act.put, List.setIfInBounds_toArray, List.set_cons_zero, List.set_cons_succ]
        refine tkOne rfl (fun K hK => ?_)
        go_simp
        refine hK.out _ _ ⟨y0, y1, y2⟩ (fun hHeld => ?_)
        clear hK
        try simp only [Act.put, List.setIfInBounds_toArray, List.set_cons_zero, List.set_cons_succ]
        refine tkTake (v := ?_) rfl (by rfl) hHeld (fun w' hSw => ?_) ?_
        rotate_left
        · (go_simp; try with_reducible rfl)
        simp only [Act.put, List.setIfInBounds_toArray, List.set_cons_zero, List.set_cons_succ]
        exact EN.out _ _ ⟨rfl, rfl⟩ hHeld
end Go.Proofs.Ytnfppolgaeibeaa
namespace Go.Proofs.Ytnfppolgaeibeaa
open Go.RowKit Go.Maps

/-- Function F, with what it captured, is a test of these transitions. -/
structure IsPredS (F : FuncId) (cap : Array Value) (w : World) (ts : List PTran) (p : PTran → Bool) : Prop where
  enters : ∀ args w, (callFunc F args).run Try.prog w = .ok (.enter F args) w
  calls : ∀ (wr : World) (t : PTran) (A1 : Option Addr) (n1 c1 : Nat) (A2 : Option Addr) (n2 c2 : Nat), Below w.heap.size w wr → t ∈ ts → Ints wr A1 n1 c1 t.pre → Ints wr A2 n2 c2 t.post →
    Calls Try.prog F (#[.agg #[.int .i64 t.label, .slice A1 n1 c1, .slice A2 n2 c2]] ++ cap) wr fun e w' => e = .returned (.bool (p t)) ∧ Below wr.heap.size wr w'

set_option maxRecDepth 100000 in
theorem indexTrans_calls {w : World} {A : Option Addr} {n c : Nat} {ts : List PTran} {F : FuncId} {cap : Array Value} {p : PTran → Bool} (h : Trans w A n c ts) (hp : IsPredS F cap w ts p) :
    Calls Try.prog 57 #[.slice A n c, .func (.func F) #[] cap] w fun e w' => e = .returned (.int .i64 (idxFirst p ts)) ∧ Below w.heap.size w w' := by
  have hn := h.small
  have henter := hp.enters
  have H := hide2 h
  have HP := hide2 hp
  clear h hp
  go_enter Try.func57, Try.ntmps57
  go_wp2
  go_loopw [8] (fun i wr => ∃ k : Nat, k ≤ n ∧ i = .int .i64 k ∧ Hid (∀ j, j < k → ∀ y, ts[j]? = some y → p y = false) ∧ Hid (Below w.heap.size w wr)) (fun i _ => n - (intOf i).toNat)
  case atStart => exact ⟨0, Nat.zero_le _, rfl, fun j hj => absurd hj (by omega), Below.refl _ _⟩
  case round =>
    obtain ⟨k, hk, rfl, hlow, D⟩ := hrel
    by_cases hlt : k < n
    · have hki : (k : Int) < (n : Int) := by omega
      obtain ⟨b, off, t, A1, n1, c1, A2, n2, c2, rfl, hb, ht, q0, q1, q2, i1, i2, _, _⟩ := Trans.get (H.out.keep D.out) hlt
      have CL := hide2 (HP.out.calls wr t A1 n1 c1 A2 n2 c2 D.out (List.mem_of_getElem? ht.out) i1 i2)
      obtain ⟨v, hv⟩ : ∃ v, p t = v := ⟨_, rfl⟩
      have HV := hide2 hv
      rw [hv] at CL
      clear i1 i2 hv
      cases v
      · go_wp2_with (refine CL.out.mono ?_; rintro e w' ⟨rfl, hb'⟩; have HB := hide2 hb'; clear hb')
        go_roundw
        case rel =>
          refine ⟨k + 1, by omega, by go_num, fun j hj y hy => ?_, D.out.trans (HB.out.mono D.out.size)⟩
          by_cases hjk : j = k
          · subst hjk
            have := ht.out
            rw [hy] at this
            injection this with this
            rw [this]
            exact HV.out
          · exact hlow.out j (by omega) y hy
        case measure => simp [intOf]; omega
      · go_wp2_with (refine CL.out.mono ?_; rintro e w' ⟨rfl, hb'⟩; have HB := hide2 hb'; clear hb')
        go_ret
        exact ⟨ret_int (idxFirst_some hlow.out ht.out HV.out).symm, D.out.trans (HB.out.mono D.out.size)⟩
    · go_wp2
      go_ret
      exact ⟨ret_int (idxFirst_none (fun j hj y hy => hlow.out j (by have := H.out.len; omega) y hy)).symm, D.out⟩

set_option maxRecDepth 100000 in
theorem containsTrans_calls {w : World} {A : Option Addr} {n c : Nat} {ts : List PTran} {F : FuncId} {cap : Array Value} {p : PTran → Bool} (h : Trans w A n c ts) (hp : IsPredS F cap w ts p) :
    Calls Try.prog 48 #[.slice A n c, .func (.func F) #[] cap] w fun e w' => e = .returned (.bool (ts.any p)) ∧ Below w.heap.size w w' := by
  have H := hide2 h
  have HP := hide2 hp
  clear h hp
  go_enter Try.func48, Try.ntmps48
  go_wp2_with (refine (indexTrans_calls H.out HP.out).mono ?_; rintro e w' ⟨rfl, hb⟩)
  go_ret
  exact ⟨ret_bool (idxFirst_any _ _), hb⟩

/-- The test of shape.Wrong: an arc to the beginning, or out of the end. -/
theorem back_pred {w : World} {N : PNet} (hok : netOk N = true) {bi bo i o : Nat} (hi : (i : Int) < N.places) (ho : (o : Int) < N.places) (c1 : Box w bi 3 #[.int .i64 i]) (c2 : Box w bo 3 #[.int .i64 o]) :
    IsPredS 49 #[.pointer (some ⟨bi, 0, none⟩), .pointer (some ⟨bo, 0, none⟩)] w N.trans (backT i o) where
  enters := fun args w => by kernel_rfl
  calls := fun wr t A1 n1 d1 A2 n2 d2 hb ht i1 i2 => by
    obtain ⟨k, hk, hkt⟩ := List.getElem_of_mem ht
    have hT := netOk_tran hok (show N.trans[k]? = some t by rw [List.getElem?_eq_getElem hk, hkt])
    have e1 : (n1 : Int) = N.places := by have := hT.2.2.1; rw [i1.len] at this; exact this
    have e2 : (n2 : Int) = N.places := by have := hT.2.2.2.1; rw [i2.len] at this; exact this
    have bb := boxBelow wr (.cells #[.int .i64 t.label, .slice A1 n1 d1, .slice A2 n2 d2] 78)
    obtain ⟨b1, o1, x, rfl, hb1, hx, q1⟩ := Ints.get (k := o) (Ints.keep i1 bb) (by omega)
    obtain ⟨b2, o2, y, rfl, hb2, hy, q2⟩ := Ints.get (k := i) (Ints.keep i2 bb) (by omega)
    have y1 := ((c1.keep hb).old (.cells #[.int .i64 t.label, .slice (some ⟨b1, o1, none⟩) n1 d1, .slice (some ⟨b2, o2, none⟩) n2 d2] 78)).cell 0
    have y2 := ((c2.keep hb).old (.cells #[.int .i64 t.label, .slice (some ⟨b1, o1, none⟩) n1 d1, .slice (some ⟨b2, o2, none⟩) n2 d2] 78)).cell 0
    simp only [List.getElem?_toArray, List.getElem?_cons_zero] at y1 y2
    have hi2 : (i : Int) < (n2 : Int) := by omega
    have ho1 : (o : Int) < (n1 : Int) := by omega
    have FN := hide2 (show backT i o t = (decide (0 < y) || decide (0 < x)) by rw [backT, atL_some hy.out, atL_some hx.out])
    have BB := hide2 bb
    clear hb ht hk hkt hT e1 e2 i1 i2 c1 c2 hi ho hok bb
    show Calls Try.prog 49 #[.agg #[.int .i64 t.label, .slice (some ⟨b1, o1, none⟩) n1 d1, .slice (some ⟨b2, o2, none⟩) n2 d2], .pointer (some ⟨bi, 0, none⟩), .pointer (some ⟨bo, 0, none⟩)] wr _
    rw [FN.out]
    by_cases hpos : 0 < y
    · go_enter Try.func49, Try.ntmps49
      go_wp2
      go_ret
      exact ⟨ret_bool (by simp [hpos]), BB.out⟩
    · go_enter Try.func49, Try.ntmps49
      go_wp2
      all_goals
        go_ret
        exact ⟨ret_bool (by simp; omega), BB.out⟩
end Go.Proofs.Ytnfppolgaeibeaa
namespace Go.Proofs.Ytnfppolgaeibeaa
open Go.RowKit Go.Maps

/-- What shape.walk answers: a map of so many nodes. -/
def AnsM (had : List PNode) (w : World) (e : Ending) (w' : World) : Prop := ∃ b, e = .returned (.map (some b)) ∧ SetM w' b had ∧ Below w.heap.size w w'

set_option maxRecDepth 100000 in
set_option maxHeartbeats 2000000 in
theorem walk_calls {w : World} {P : Int} {A : Option Addr} {n c : Nat} {ts : List PTran} {i : Nat} (h : Trans w A n c ts) (hok : netOk ⟨P, ts⟩ = true) (hi : i < P.toNat) :
    Calls Try.prog 50 #[.agg #[.int .i64 P, .slice A n c], .int .i64 i] w (AnsM (walkL ⟨P, ts⟩ i) w) := by
  have hmm := @run_makeMap Try.prog
  have H := hide2 h
  have HO := hide2 hok
  clear h hok
  go_enter Try.func50, Try.ntmps50
  go_upto_region 3 with fail
  generalize hw4 : (((w.alloc (.cells #[.int .i64 P, .slice A n c] 27)).alloc (.map #[] 0)).alloc (.cells #[.map (some (w.heap.size + 1))] 93)).alloc (.cells #[.nilFunc] 156) = w4
  have D4 : Below w.heap.size w w4 := by rw [← hw4]; exact ((((Below.refl _ _).alloc (Nat.le_refl _) _).alloc (by simp) _).alloc (by simp; omega) _).alloc (by simp; omega) _
  have Y0 : Box w4 w.heap.size 27 #[.int .i64 P, .slice A n c] := by rw [← hw4]; exact (((Box.new _ _ _).old _).old _).old _
  have Y1 : SetM w4 (w.heap.size + 1) [] := by
    rw [← hw4]
    have := SetM.made (w.alloc (.cells #[.int .i64 P, .slice A n c] 27))
    rw [show (w.alloc (.cells #[.int .i64 P, .slice A n c] 27)).heap.size = w.heap.size + 1 by simp] at this
    exact (this.alloc _).alloc _
  have Y2 : Box w4 (w.heap.size + 1 + 1) 93 #[.map (some (w.heap.size + 1))] := by rw [← hw4]; exact (Box.newAt (by simp) _ _).old _
  have Y3 : Box w4 (w.heap.size + 1 + 1 + 1) 156 #[.nilFunc] := by rw [← hw4]; exact Box.newAt (by simp) _ _
  clear hw4 hmm
  have f0 := Y3.frozen 0
  have n0 := Y3.cell 0
  simp only [List.getElem?_toArray, List.getElem?_cons_zero] at n0
  go_upto_region 4 with fail
  generalize hw5 : w4.setCell ⟨w.heap.size + 1 + 1 + 1, 0, none⟩ (visitV (w.heap.size + 1 + 1) w.heap.size (w.heap.size + 1 + 1 + 1)) = w5
  have hbs : Beside (w.heap.size + 1 + 1 + 1) w4 w5 := by rw [← hw5]; exact Beside.set _ _ _ _
  have D5 := hide2 (show Below w.heap.size w w5 by rw [← hw5]; exact D4.setCell (show w.heap.size ≤ w.heap.size + 1 + 1 + 1 by omega) _)
  have Z0 := hide2 (hbs.box Y0 (by omega))
  have Z1 := hide2 (Y1.of_block (hbs.2 _ (by omega)))
  have Z2 := hide2 (hbs.box Y2 (by omega))
  have Z3 : Box w5 (w.heap.size + 1 + 1 + 1) 156 #[visitV (w.heap.size + 1 + 1) w.heap.size (w.heap.size + 1 + 1 + 1)] := by rw [← hw5]; simpa using Y3.set 0 (visitV (w.heap.size + 1 + 1) w.heap.size (w.heap.size + 1 + 1 + 1))
  have fn0 := Z3.cell 0
  simp only [List.getElem?_toArray, List.getElem?_cons_zero] at fn0
  have CL := hide2 (visit_calls (P := P) H.out HO.out (bm := w.heap.size + 1) (bh := w.heap.size + 1 + 1) (bn := w.heap.size) (bv := w.heap.size + 1 + 1 + 1) (by omega) (by omega) (by omega) (by omega) (P.toNat + ts.length) [] (false, i) w5
    ⟨List.nodup_nil, fun x h => by simp at h⟩ (mem_nodes_place.2 hi) (by rw [nodes_length]; simp) Z1.out Z2.out Z0.out Z3 D5.out)
  clear hw5 hbs Y0 Y1 Y2 Y3 f0 n0 D4 Z3
  go_wp2_with fail
  refine CL.out.mono ?_
  rintro e w6 ⟨rfl, sm, gr⟩
  have m0 := (Z2.out.grown gr (by simp)).cell 0
  simp only [List.getElem?_toArray, List.getElem?_cons_zero] at m0
  have SM := hide2 sm
  have D6 := hide2 (show Below w.heap.size w w6 from D5.out.grown gr D5.out.size (fun k hk => by cases hk; omega))
  clear sm gr fn0
  go_wp2
  go_ret
  exact ⟨_, rfl, SM.out, D6.out⟩
end Go.Proofs.Ytnfppolgaeibeaa
namespace Go.Proofs.Ytnfppolgaeibeaa
open Go.RowKit Go.Maps

theorem turned_ok {N : PNet} (h : netOk N = true) : netOk (turned N) = true := by
  obtain ⟨h1, h2, h3, h4⟩ := (netOk_iff N).1 h
  refine (netOk_iff _).2 ⟨h1, h2, by simpa [turned] using h3, fun t ht => ?_⟩
  simp only [turned, List.mem_map] at ht
  obtain ⟨u, hu, rfl⟩ := ht
  have := (tranOk_iff _ _).1 (h4 u hu)
  exact (tranOk_iff _ _).2 ⟨this.1, this.2.1, this.2.2.2.1, this.2.2.1, this.2.2.2.2.2, this.2.2.2.2.1⟩

set_option maxRecDepth 100000 in
set_option maxHeartbeats 4000000 in
theorem shapeWrong_calls {w : World} {P : Int} {A : Option Addr} {n c : Nat} {ts : List PTran} (i o : Int) (h : Trans w A n c ts) (hn : n ≤ 2513169434916) :
    Calls Try.prog 17 #[.agg #[.int .i64 P, .slice A n c], .int .i64 i, .int .i64 o] w fun e w' => e = .returned (.int .i64 (shapeL ⟨P, ts⟩ i o)) ∧ Below w.heap.size w w' := by
  generalize hw0 : ((w.alloc (.cells #[.int .i64 P, .slice A n c] 27)).alloc (.cells #[.int .i64 i] 3)).alloc (.cells #[.int .i64 o] 3) = w0
  have D0 := hide2 (show Below w.heap.size w w0 by rw [← hw0]; exact (((Below.refl _ _).alloc (Nat.le_refl _) _).alloc (by simp) _).alloc (by simp; omega) _)
  have X0 := hide2 (show Box w0 w.heap.size 27 #[.int .i64 P, .slice A n c] by rw [← hw0]; exact ((Box.new _ _ _).old _).old _)
  have X1 := hide2 (show Box w0 (w.heap.size + 1) 3 #[.int .i64 i] by rw [← hw0]; exact (Box.newAt (by simp) _ _).old _)
  have X2 := hide2 (show Box w0 (w.heap.size + 1 + 1) 3 #[.int .i64 o] by rw [← hw0]; exact Box.newAt (by simp) _ _)
  have H := hide2 h
  have HL := hide2 h.len
  have hns := h.small
  clear h
  have c0 := X0.out.two.1
  cases hok : netOk ⟨P, ts⟩
  · have W0 := hide2 (wrongNet_not hok)
    have FIN := hide2 (show shapeL ⟨P, ts⟩ i o = 2 by rw [shapeL, hok]; rfl)
    clear hok
    go_enter Try.func17, Try.ntmps17
    go_upto_region 1 with fail
    clear hw0
    obtain ⟨c0, c1⟩ := X0.out.two
    go_wp2_with fail
    refine (netWrong_calls _ P A n c ts (H.out.keep D0.out)).mono ?_
    rw [W0.out]
    rintro e w1 ⟨rfl, hb⟩
    have B1 := hide2 (D0.out.trans (hb.mono D0.out.size))
    clear hb
    go_wp2
    go_ret
    exact ⟨ret_int FIN.out.symm, B1.out⟩
  · have W0 := hide2 (wrongNet_ok hok)
    have HO := hide2 hok
    clear hok
    obtain ⟨p, rfl⟩ : ∃ p : Nat, P = (p : Int) := ⟨P.toNat, by have := ((netOk_iff _).1 HO.out).1; simp only [] at this; omega⟩
    have hp16 : p ≤ 16 := by have := ((netOk_iff _).1 HO.out).2.1; simp only [] at this; omega
    have hn24 : n ≤ 24 := by have := ((netOk_iff _).1 HO.out).2.2.1; rw [HL.out] at this; exact this
    go_enter Try.func17, Try.ntmps17
    go_upto_region 1 with fail
    clear hw0 c0
    obtain ⟨c0, c1⟩ := X0.out.two
    go_wp2_with fail
    refine (netWrong_calls _ (p : Int) A n c ts (H.out.keep D0.out)).mono ?_
    rw [W0.out]
    rintro e w1 ⟨rfl, hb⟩
    have B1 := hide2 (D0.out.trans (hb.mono D0.out.size))
    have Y0 := hide2 (X0.out.keep hb)
    have Y1 := hide2 (X1.out.keep hb)
    have Y2 := hide2 (X2.out.keep hb)
    clear hb c0 c1 X0 X1 X2 D0
    obtain ⟨c0, c1⟩ := Y0.out.two
    have ci := Y1.out.cell 0
    have co := Y2.out.cell 0
    simp only [List.getElem?_toArray, List.getElem?_cons_zero] at ci co
    by_cases hin : inB ⟨p, ts⟩ i o = true
    · simp only [inB, Bool.and_eq_true, decide_eq_true_eq] at hin
      obtain ⟨⟨⟨⟨h0, h1⟩, h2⟩, h3⟩, h4⟩ := hin
      have IN := hide2 (show inB ⟨p, ts⟩ i o = true by simp only [inB, Bool.and_eq_true, decide_eq_true_eq]; exact ⟨⟨⟨⟨h0, h1⟩, h2⟩, h3⟩, h4⟩)
      obtain ⟨i, rfl⟩ : ∃ k : Nat, i = (k : Int) := ⟨i.toNat, by omega⟩
      obtain ⟨o, rfl⟩ : ∃ k : Nat, o = (k : Int) := ⟨o.toNat, by omega⟩
      have hne : ((i : Int) == (o : Int)) = false := by simpa using h4
      have PR := hide2 (back_pred (w := w1) (N := ⟨p, ts⟩) HO.out (i := i) (o := o) h2 h3 Y1.out Y2.out)
      have SH := hide2 (show shapeL ⟨p, ts⟩ (i : Int) (o : Int) = (if ts.any (backT i o) = true then 1 else if allWays ⟨p, ts⟩ i = true ∧ allWays (turned ⟨p, ts⟩) o = true then 0 else 1) by
        rw [shapeL, if_pos HO.out, if_pos IN.out]; rfl)
      clear h4 IN
      go_wp2_with fail
      refine (containsTrans_calls (H.out.keep B1.out) PR.out).mono ?_
      rintro e w2 ⟨rfl, hb⟩
      have B2 := hide2 (B1.out.trans (hb.mono B1.out.size))
      have Z0 := hide2 (Y0.out.keep hb)
      have Z1 := hide2 (Y1.out.keep hb)
      have Z2 := hide2 (Y2.out.keep hb)
      clear hb c0 c1 ci co Y0 Y1 Y2 B1 PR hne
      obtain ⟨bk, hbk⟩ : ∃ b, ts.any (backT i o) = b := ⟨_, rfl⟩
      rw [hbk]
      rw [hbk] at SH
      clear hbk
      cases bk
      · have KEEP := hide2 (show ∀ w', Below w2.heap.size w2 w' → w'.cell? ⟨w.heap.size, 0, none⟩ = some (.int .i64 p) ∧ w'.cell? ⟨w.heap.size, 1, none⟩ = some (.slice A n c) ∧ w'.cell? ⟨w.heap.size + 1, 0, none⟩ = some (.int .i64 i) ∧ w'.cell? ⟨w.heap.size + 1 + 1, 0, none⟩ = some (.int .i64 o) from fun w' hb => by
          obtain ⟨x0, x1⟩ := (Z0.out.keep hb).two
          have x2 := (Z1.out.keep hb).cell 0
          have x3 := (Z2.out.keep hb).cell 0
          simp only [List.getElem?_toArray, List.getElem?_cons_zero] at x2 x3
          exact ⟨x0, x1, x2, x3⟩)
        have I1 := hide2 (show i < (p : Int).toNat by omega)
        have I2 := hide2 (show o < (p : Int).toNat by omega)
        have TO := hide2 (show netOk ⟨(p : Int), ts.map turnT⟩ = true from turned_ok (N := ⟨p, ts⟩) HO.out)
        obtain ⟨L1, hL1⟩ : ∃ L, (walkL ⟨p, ts⟩ i).length = L := ⟨_, rfl⟩
        obtain ⟨L2, hL2⟩ : ∃ L, (walkL ⟨(p : Int), ts.map turnT⟩ o).length = L := ⟨_, rfl⟩
        have W1 := walkL_all (N := ⟨p, ts⟩) HO.out (i := i) I1.out
        have W2 := walkL_all (N := ⟨(p : Int), ts.map turnT⟩) TO.out (i := o) I2.out
        rw [hL1] at W1
        rw [hL2] at W2
        simp only [HL.out, List.length_map, Int.toNat_natCast] at W1 W2
        have HL1 := hide2 hL1
        have HL2 := hide2 hL2
        have DR := hide2 ((Below.refl w.heap.size w2).drew)
        have DR1 := hide2 ((Below.refl w2.heap.size w2).drew)
        clear hL1 hL2 Z0 Z1 Z2
        obtain ⟨x0, x1, x2, x3⟩ := KEEP.out w2 (Below.refl _ _)
        by_cases a1 : allWays ⟨p, ts⟩ i = true
        · have d1 : decide ((L1 : Int) < (p : Int) + (n : Int)) = false := by have := W1.2 a1; simp; omega
          by_cases a2 : allWays ⟨(p : Int), ts.map turnT⟩ o = true
          · have d2 : decide ((L2 : Int) < (p : Int) + (n : Int)) = false := by have := W2.2 a2; simp; omega
            have FIN := hide2 (show shapeL ⟨p, ts⟩ (i : Int) (o : Int) = 0 by rw [SH.out, if_neg (by decide)]; simp [a1, turned, a2])
            clear W1 W2 a1 a2 SH
            go_upto_region 9 with fail
            refine wp_region_scr 14 (.takes [0, 1, 4] (.one 2 (.one 3 (.takes [5, 6, 7, 9, 12] (.one 8 (.one 10 (.one 11 (.take 13 (.fin 14 .done))))))))) (fun w' => w'.cell? ⟨w.heap.size, 0, none⟩ = some (.int .i64 p) ∧ w'.cell? ⟨w.heap.size, 1, none⟩ = some (.slice A n c) ∧ w'.cell? ⟨w.heap.size + 1, 0, none⟩ = some (.int .i64 i) ∧ w'.cell? ⟨w.heap.size + 1 + 1, 0, none⟩ = some (.int .i64 o)) (by kernel_rfl) (by kernel_rfl) (by kernel_rfl) (fun _ _ _ _ _ h => h) ⟨x0, x1, x2, x3⟩ (fun hHeld => ?_)
            simp only [Scr.takes]
            iterate 3
              refine tkTake (v := ?_) rfl (by rfl) hHeld (fun w' hSw => ?_) ?_
              rotate_left
              · (go_simp; try with_reducible rfl)
              simp only [Act.put, List.setIfInBounds_toArray, List.set_cons_zero, List.set_cons_succ]
            refine tkOne rfl (fun K hK => ?_)
            go_simp; go_at_call 50
            (with_reducible refine (walk_calls (P := (p : Int)) (ts := ts) (A := A) (n := n) (c := c) (i := i) (H.out.keep (B2.out.trans DR.out)) HO.out I1.out).mono ?_)
            rintro e w3 ⟨bm, rfl, sm, hb⟩
            have LN := sm.len 3
            rw [HL1.out] at LN
            have F3 := hide2 (DR1.out.trans (hb.mono (Nat.le_refl _)))
            clear sm hb
            clear x0 x1 x2 x3
            obtain ⟨x0, x1, x2, x3⟩ := KEEP.out w3 F3.out
            refine hK.out _ _ ⟨x0, x1, x2, x3⟩ (fun hHeld => ?_)
            clear hK
            try simp only [Act.put, List.setIfInBounds_toArray, List.set_cons_zero, List.set_cons_succ]
            refine tkOne rfl (fun K hK => ?_)
            go_simp
            refine hK.out _ _ ⟨x0, x1, x2, x3⟩ (fun hHeld => ?_)
            clear hK
            try simp only [Act.put, List.setIfInBounds_toArray, List.set_cons_zero, List.set_cons_succ]
            refine tkTake (v := .bool false) rfl (by rfl) hHeld (fun w' hSw => ?_) ?_
            · go_simp
              try rw [d1]
            simp only [Act.put, List.setIfInBounds_toArray, List.set_cons_zero, List.set_cons_succ]
            refine tkTake (v := .bool false) rfl (by rfl) hHeld (fun w' hSw => ?_) ?_
            · go_simp
              try rw [d1]
            simp only [Act.put, List.setIfInBounds_toArray, List.set_cons_zero, List.set_cons_succ]
            iterate 3
              refine tkTake (v := ?_) rfl (by rfl) hHeld (fun w' hSw => ?_) ?_
              rotate_left
              · (go_simp; try with_reducible rfl)
              simp only [Act.put, List.setIfInBounds_toArray, List.set_cons_zero, List.set_cons_succ]
            refine tkOne rfl (fun K hK => ?_)
            go_simp; go_at_call 51
            (with_reducible refine (netTurned_calls (P := (p : Int)) (H.out.keep (B2.out.trans (F3.out.mono B2.out.size))) hn).mono ?_)
            rintro e w4 ⟨A4, n4, c4, rfl, t4, hb⟩
            have T4 := hide2 t4
            have F4 := hide2 (F3.out.trans (hb.mono F3.out.size))
            clear hb t4
            rw [show (turned ⟨(p : Int), ts⟩).places = (p : Int) from rfl]
            clear x0 x1 x2 x3
            obtain ⟨x0, x1, x2, x3⟩ := KEEP.out w4 F4.out
            refine hK.out _ _ ⟨x0, x1, x2, x3⟩ (fun hHeld => ?_)
            clear hK
            try simp only [Act.put, List.setIfInBounds_toArray, List.set_cons_zero, List.set_cons_succ]
            refine tkOne rfl (fun K hK => ?_)
            go_simp; go_at_call 50
            (with_reducible refine (walk_calls (P := (p : Int)) (ts := ts.map turnT) (A := A4) (n := n4) (c := c4) (i := o) T4.out TO.out I2.out).mono ?_)
            rintro e w5 ⟨bm2, rfl, sm, hb⟩
            have LN2 := sm.len 3
            rw [HL2.out] at LN2
            have F5 := hide2 (F4.out.trans (hb.mono F4.out.size))
            clear sm hb
            clear x0 x1 x2 x3
            obtain ⟨x0, x1, x2, x3⟩ := KEEP.out w5 F5.out
            refine hK.out _ _ ⟨x0, x1, x2, x3⟩ (fun hHeld => ?_)
            clear hK
            try simp only [Act.put, List.setIfInBounds_toArray, List.set_cons_zero, List.set_cons_succ]
            refine tkOne rfl (fun K hK => ?_)
            go_simp
            refine hK.out _ _ ⟨x0, x1, x2, x3⟩ (fun hHeld => ?_)
            clear hK
            try simp only [Act.put, List.setIfInBounds_toArray, List.set_cons_zero, List.set_cons_succ]
            refine tkTake (v := .bool false) rfl (by rfl) hHeld (fun w' hSw => ?_) ?_
            · go_simp
              try rw [d2]
            simp only [Act.put, List.setIfInBounds_toArray, List.set_cons_zero, List.set_cons_succ]
            refine tkEnd rfl (fun K hK => ?_)
            go_simp
            refine hK.out _ _ ?_
            clear hK
            try simp only [Act.put, List.setIfInBounds_toArray, List.set_cons_zero, List.set_cons_succ]
            refine tkDone ?_
            go_wp2
            go_ret
            exact ⟨ret_int FIN.out.symm, B2.out.trans (F5.out.mono B2.out.size)⟩
          · have d2 : decide ((L2 : Int) < (p : Int) + (n : Int)) = true := by have : ¬ p + n ≤ L2 := fun e => a2 (W2.1 e); simp; omega
            have FIN := hide2 (show shapeL ⟨p, ts⟩ (i : Int) (o : Int) = 1 by rw [SH.out, if_neg (by decide)]; simp [a1, turned, a2])
            clear W1 W2 a1 a2 SH
            go_upto_region 9 with fail
            refine wp_region_scr 14 (.takes [0, 1, 4] (.one 2 (.one 3 (.takes [5, 6, 7, 9, 12] (.one 8 (.one 10 (.one 11 (.take 13 (.fin 14 .done))))))))) (fun w' => w'.cell? ⟨w.heap.size, 0, none⟩ = some (.int .i64 p) ∧ w'.cell? ⟨w.heap.size, 1, none⟩ = some (.slice A n c) ∧ w'.cell? ⟨w.heap.size + 1, 0, none⟩ = some (.int .i64 i) ∧ w'.cell? ⟨w.heap.size + 1 + 1, 0, none⟩ = some (.int .i64 o)) (by kernel_rfl) (by kernel_rfl) (by kernel_rfl) (fun _ _ _ _ _ h => h) ⟨x0, x1, x2, x3⟩ (fun hHeld => ?_)
            simp only [Scr.takes]
            iterate 3
              refine tkTake (v := ?_) rfl (by rfl) hHeld (fun w' hSw => ?_) ?_
              rotate_left
              · (go_simp; try with_reducible rfl)
              simp only [Act.put, List.setIfInBounds_toArray, List.set_cons_zero, List.set_cons_succ]
            refine tkOne rfl (fun K hK => ?_)
            go_simp; go_at_call 50
            (with_reducible refine (walk_calls (P := (p : Int)) (ts := ts) (A := A) (n := n) (c := c) (i := i) (H.out.keep (B2.out.trans DR.out)) HO.out I1.out).mono ?_)
            rintro e w3 ⟨bm, rfl, sm, hb⟩
            have LN := sm.len 3
            rw [HL1.out] at LN
            have F3 := hide2 (DR1.out.trans (hb.mono (Nat.le_refl _)))
            clear sm hb
            clear x0 x1 x2 x3
            obtain ⟨x0, x1, x2, x3⟩ := KEEP.out w3 F3.out
            refine hK.out _ _ ⟨x0, x1, x2, x3⟩ (fun hHeld => ?_)
            clear hK
            try simp only [Act.put, List.setIfInBounds_toArray, List.set_cons_zero, List.set_cons_succ]
            refine tkOne rfl (fun K hK => ?_)
            go_simp
            refine hK.out _ _ ⟨x0, x1, x2, x3⟩ (fun hHeld => ?_)
            clear hK
            try simp only [Act.put, List.setIfInBounds_toArray, List.set_cons_zero, List.set_cons_succ]
            refine tkTake (v := .bool false) rfl (by rfl) hHeld (fun w' hSw => ?_) ?_
            · go_simp
              try rw [d1]
            simp only [Act.put, List.setIfInBounds_toArray, List.set_cons_zero, List.set_cons_succ]
            refine tkTake (v := .bool false) rfl (by rfl) hHeld (fun w' hSw => ?_) ?_
            · go_simp
              try rw [d1]
            simp only [Act.put, List.setIfInBounds_toArray, List.set_cons_zero, List.set_cons_succ]
            iterate 3
              refine tkTake (v := ?_) rfl (by rfl) hHeld (fun w' hSw => ?_) ?_
              rotate_left
              · (go_simp; try with_reducible rfl)
              simp only [Act.put, List.setIfInBounds_toArray, List.set_cons_zero, List.set_cons_succ]
            refine tkOne rfl (fun K hK => ?_)
            go_simp; go_at_call 51
            (with_reducible refine (netTurned_calls (P := (p : Int)) (H.out.keep (B2.out.trans (F3.out.mono B2.out.size))) hn).mono ?_)
            rintro e w4 ⟨A4, n4, c4, rfl, t4, hb⟩
            have T4 := hide2 t4
            have F4 := hide2 (F3.out.trans (hb.mono F3.out.size))
            clear hb t4
            rw [show (turned ⟨(p : Int), ts⟩).places = (p : Int) from rfl]
            clear x0 x1 x2 x3
            obtain ⟨x0, x1, x2, x3⟩ := KEEP.out w4 F4.out
            refine hK.out _ _ ⟨x0, x1, x2, x3⟩ (fun hHeld => ?_)
            clear hK
            try simp only [Act.put, List.setIfInBounds_toArray, List.set_cons_zero, List.set_cons_succ]
            refine tkOne rfl (fun K hK => ?_)
            go_simp; go_at_call 50
            (with_reducible refine (walk_calls (P := (p : Int)) (ts := ts.map turnT) (A := A4) (n := n4) (c := c4) (i := o) T4.out TO.out I2.out).mono ?_)
            rintro e w5 ⟨bm2, rfl, sm, hb⟩
            have LN2 := sm.len 3
            rw [HL2.out] at LN2
            have F5 := hide2 (F4.out.trans (hb.mono F4.out.size))
            clear sm hb
            clear x0 x1 x2 x3
            obtain ⟨x0, x1, x2, x3⟩ := KEEP.out w5 F5.out
            refine hK.out _ _ ⟨x0, x1, x2, x3⟩ (fun hHeld => ?_)
            clear hK
            try simp only [Act.put, List.setIfInBounds_toArray, List.set_cons_zero, List.set_cons_succ]
            refine tkOne rfl (fun K hK => ?_)
            go_simp
            refine hK.out _ _ ⟨x0, x1, x2, x3⟩ (fun hHeld => ?_)
            clear hK
            try simp only [Act.put, List.setIfInBounds_toArray, List.set_cons_zero, List.set_cons_succ]
            refine tkTake (v := .bool true) rfl (by rfl) hHeld (fun w' hSw => ?_) ?_
            · go_simp
              try rw [d2]
            simp only [Act.put, List.setIfInBounds_toArray, List.set_cons_zero, List.set_cons_succ]
            refine tkEnd rfl (fun K hK => ?_)
            go_simp
            refine hK.out _ _ ?_
            clear hK
            try simp only [Act.put, List.setIfInBounds_toArray, List.set_cons_zero, List.set_cons_succ]
            refine tkDone ?_
            go_wp2
            go_ret
            exact ⟨ret_int FIN.out.symm, B2.out.trans (F5.out.mono B2.out.size)⟩
        · have d1 : decide ((L1 : Int) < (p : Int) + (n : Int)) = true := by have : ¬ p + n ≤ L1 := fun e => a1 (W1.1 e); simp; omega
          have FIN := hide2 (show shapeL ⟨p, ts⟩ (i : Int) (o : Int) = 1 by rw [SH.out, if_neg (by decide)]; simp [a1])
          clear W1 W2 a1 SH
          go_upto_region 9 with fail
          refine wp_region_scr 14 (.takes [0, 1, 4] (.one 2 (.one 3 (.takes [5, 6, 7, 9, 12] (.one 8 (.one 10 (.one 11 (.take 13 (.fin 14 .done))))))))) (fun w' => w'.cell? ⟨w.heap.size, 0, none⟩ = some (.int .i64 p) ∧ w'.cell? ⟨w.heap.size, 1, none⟩ = some (.slice A n c) ∧ w'.cell? ⟨w.heap.size + 1, 0, none⟩ = some (.int .i64 i) ∧ w'.cell? ⟨w.heap.size + 1 + 1, 0, none⟩ = some (.int .i64 o)) (by kernel_rfl) (by kernel_rfl) (by kernel_rfl) (fun _ _ _ _ _ h => h) ⟨x0, x1, x2, x3⟩ (fun hHeld => ?_)
          simp only [Scr.takes]
          iterate 3
            refine tkTake (v := ?_) rfl (by rfl) hHeld (fun w' hSw => ?_) ?_
            rotate_left
            · (go_simp; try with_reducible rfl)
            simp only [Act.put, List.setIfInBounds_toArray, List.set_cons_zero, List.set_cons_succ]
          refine tkOne rfl (fun K hK => ?_)
          go_simp; go_at_call 50
          (with_reducible refine (walk_calls (P := (p : Int)) (ts := ts) (A := A) (n := n) (c := c) (i := i) (H.out.keep (B2.out.trans DR.out)) HO.out I1.out).mono ?_)
          rintro e w3 ⟨bm, rfl, sm, hb⟩
          have LN := sm.len 3
          rw [HL1.out] at LN
          have F3 := hide2 (DR1.out.trans (hb.mono (Nat.le_refl _)))
          clear sm hb
          clear x0 x1 x2 x3
          obtain ⟨x0, x1, x2, x3⟩ := KEEP.out w3 F3.out
          refine hK.out _ _ ⟨x0, x1, x2, x3⟩ (fun hHeld => ?_)
          clear hK
          try simp only [Act.put, List.setIfInBounds_toArray, List.set_cons_zero, List.set_cons_succ]
          refine tkOne rfl (fun K hK => ?_)
          go_simp
          refine hK.out _ _ ⟨x0, x1, x2, x3⟩ (fun hHeld => ?_)
          clear hK
          try simp only [Act.put, List.setIfInBounds_toArray, List.set_cons_zero, List.set_cons_succ]
          refine tkTake (v := .bool true) rfl (by rfl) hHeld (fun w' hSw => ?_) ?_
          · go_simp
            try rw [d1]
          simp only [Act.put, List.setIfInBounds_toArray, List.set_cons_zero, List.set_cons_succ]
          refine tkTake (v := .bool true) rfl (by rfl) hHeld (fun w' hSw => ?_) ?_
          · go_simp
            try rw [d1]
          simp only [Act.put, List.setIfInBounds_toArray, List.set_cons_zero, List.set_cons_succ]
          iterate 3
            refine tkSkip rfl (by rfl) hHeld ?_
            simp only [Act.put, List.setIfInBounds_toArray, List.set_cons_zero, List.set_cons_succ]
          refine tkOne rfl (fun K hK => ?_)
          go_simp
          refine hK.out _ _ ⟨x0, x1, x2, x3⟩ (fun hHeld => ?_)
          clear hK
          try simp only [Act.put, List.setIfInBounds_toArray, List.set_cons_zero, List.set_cons_succ]
          refine tkOne rfl (fun K hK => ?_)
          go_simp
          refine hK.out _ _ ⟨x0, x1, x2, x3⟩ (fun hHeld => ?_)
          clear hK
          try simp only [Act.put, List.setIfInBounds_toArray, List.set_cons_zero, List.set_cons_succ]
          refine tkOne rfl (fun K hK => ?_)
          go_simp
          refine hK.out _ _ ⟨x0, x1, x2, x3⟩ (fun hHeld => ?_)
          clear hK
          try simp only [Act.put, List.setIfInBounds_toArray, List.set_cons_zero, List.set_cons_succ]
          iterate 1
            refine tkSkip rfl (by rfl) hHeld ?_
            simp only [Act.put, List.setIfInBounds_toArray, List.set_cons_zero, List.set_cons_succ]
          refine tkEnd rfl (fun K hK => ?_)
          go_simp
          refine hK.out _ _ ?_
          clear hK
          try simp only [Act.put, List.setIfInBounds_toArray, List.set_cons_zero, List.set_cons_succ]
          refine tkDone ?_
          go_wp2
          go_ret
          exact ⟨ret_int FIN.out.symm, B2.out.trans (F3.out.mono B2.out.size)⟩
      · go_wp2
        go_ret
        exact ⟨ret_int SH.out.symm, B2.out⟩
    · have FIN := hide2 (show shapeL ⟨p, ts⟩ i o = 1 by rw [shapeL, if_pos HO.out, if_neg hin])
      simp only [inB, Bool.and_eq_true, decide_eq_true_eq] at hin
      by_cases h0 : 0 ≤ i
      · by_cases h1 : 0 ≤ o
        · by_cases h2 : i < (p : Int)
          · by_cases h3 : o < (p : Int)
            · have h4 : i = o := Classical.byContradiction fun h4 => hin ⟨⟨⟨⟨h0, h1⟩, h2⟩, h3⟩, h4⟩
              subst h4
              clear hin
              go_wp2
              go_ret
              exact ⟨ret_int FIN.out.symm, B1.out⟩
            · clear hin
              go_wp2
              go_ret
              exact ⟨ret_int FIN.out.symm, B1.out⟩
          · clear hin
            go_wp2
            go_ret
            exact ⟨ret_int FIN.out.symm, B1.out⟩
        · clear hin
          go_wp2
          go_ret
          exact ⟨ret_int FIN.out.symm, B1.out⟩
      · clear hin
        go_wp2
        go_ret
        exact ⟨ret_int FIN.out.symm, B1.out⟩
end Go.Proofs.Ytnfppolgaeibeaa
namespace Go.Proofs.Ytnfppolgaeibeaa
open Go.RowKit

/-- Block b holds just these truths. -/
def BoxB (w : World) (b : Nat) (bs : List Bool) : Prop := Box w b 4 (bs.map Value.bool).toArray
section
variable {w w' : World} {b : Nat} {bs : List Bool}
theorem BoxB.at (h : BoxB w b bs) {j : Nat} (hj : j < bs.length) : w.cell? ⟨b, j, none⟩ = some (.bool (bs.getD j false)) := by
  rw [Box.cell h]; simp [hj]
theorem BoxB.put (h : BoxB w b bs) (j : Nat) (v : Bool) : BoxB (w.setCell ⟨b, j, none⟩ (.bool v)) b (bs.set j v) := by
  have := Box.set h j (.bool v)
  unfold BoxB
  simpa [List.map_set] using this
theorem BoxB.of_row {B m : Nat} (h : w.ownsRow B 4 1 (.slice (some ⟨b, 0, none⟩) m m) m (List.replicate m (.bool false))) : BoxB w b (List.replicate m false) := by
  rcases h.2 with ⟨hv, _⟩ | ⟨g, cap, cur, hv, _, hh, _, _, hs, ht⟩
  · cases hv
  · injection hv with h1 h2 h3
    injection h1 with h1
    injection h1 with h1
    subst h1 h3
    have e : cur = (List.replicate m (Value.bool false)).toArray := by
      apply Array.toList_inj.1
      rw [← ht, List.take_of_length_le (by simp; omega)]
    unfold BoxB Box
    rw [List.map_replicate, ← e]; exact hh
end
/-- What hways answers. -/
def AnsW (s : Ways) (w : World) (e : Ending) (w' : World) : Prop :=
  ∃ bp bt, e = .returned (.tuple #[.slice (some ⟨bp, 0, none⟩) s.ps.length s.ps.length, .slice (some ⟨bt, 0, none⟩) s.ts.length s.ts.length]) ∧ BoxB w' bp s.ps ∧ BoxB w' bt s.ts ∧ Below w.heap.size w w'

theorem set_getD_self (l : List Bool) (k : Nat) : l.set k (l.getD k false) = l := by
  apply List.ext_getElem?
  intro i
  rw [List.getElem?_set]
  by_cases h : k = i
  · subst h
    by_cases hk : k < l.length
    · simp [hk]
    · simp [hk]
  · rw [if_neg h]
theorem ways_lens (N : PNet) (i r : Nat) : (rounds N.trans r (ways0 N i)).ps.length = N.places.toNat ∧ (rounds N.trans r (ways0 N i)).ts.length = N.trans.length := by
  have := rounds_lens N.trans (ways0 N i) r
  simpa [ways0] using this
theorem wayN_lens (ts : List PTran) (s : Ways) (k : Nat) : (wayN ts k s).ps.length = s.ps.length ∧ (wayN ts k s).ts.length = s.ts.length := by
  have := wayN_le ts s k
  exact ⟨this.1.symm, this.2.1.symm⟩

set_option maxRecDepth 100000 in
set_option maxHeartbeats 4000000 in
theorem hways_calls {w : World} {p : Nat} {A : Option Addr} {n c : Nat} {ts : List PTran} {i : Nat} (h : Trans w A n c ts) (hok : netOk ⟨(p : Int), ts⟩ = true) (hi : i < p) :
    Calls Try.prog 53 #[.agg #[.int .i64 p, .slice A n c], .int .i64 i] w (AnsW (waysL ⟨(p : Int), ts⟩ i) w) := by
  have hp16 : p ≤ 16 := by have := ((netOk_iff _).1 hok).2.1; simp only [] at this; omega
  have hn24 : n ≤ 24 := by have := ((netOk_iff _).1 hok).2.2.1; rw [h.len] at this; exact this
  have hpi : (i : Int) < (p : Int) := by omega
  have HL := hide2 h.len
  have H := hide2 h
  have HO := hide2 hok
  clear h hok
  generalize hw0 : w.alloc (.cells #[.int .i64 p, .slice A n c] 27) = w0
  have D0 := hide2 (show Below w.heap.size w w0 by rw [← hw0]; exact boxBelow _ _)
  have X0 := hide2 (show Box w0 w.heap.size 27 #[.int .i64 p, .slice A n c] by rw [← hw0]; exact Box.new _ _ _)
  go_enter Try.func53, Try.ntmps53
  go_upto_region 1 with fail
  clear hw0
  obtain ⟨c0, c1⟩ := X0.out.two
  refine wp_region_scr 8 (.takes [0, 1, 3, 4, 5] (.two 2 (.take 7 (.one 6 (.fin 8 .done))) 6 (.one 2 (.take 7 (.fin 8 .done))))) (fun w' => w'.cell? ⟨w.heap.size, 0, none⟩ = some (.int .i64 p) ∧ w'.cell? ⟨w.heap.size, 1, none⟩ = some (.slice A n c)) (by kernel_rfl) (by kernel_rfl) (by kernel_rfl) (fun _ _ _ _ _ h => h) ⟨c0, c1⟩ (fun hHeld => ?_)
  simp only [Scr.takes]
  iterate 5
    refine tkTake (v := ?_) rfl (by rfl) hHeld (fun w' hSw => ?_) ?_
    rotate_left
    · (go_simp; try with_reducible rfl)
    simp only [Act.put, List.setIfInBounds_toArray, List.set_cons_zero, List.set_cons_succ]
  have XX0 := hide2 X0.out.drew
  have DD0 := hide2 D0.out.drew
  refine scrEnd (.fin 8 .done) (fun a0 a' w' => ∃ bp bt, a' = (((a0.put (some 14) (.slice (some ⟨bp, 0, none⟩) p p)).put (some 18) (.slice (some ⟨bt, 0, none⟩) n n)).put (some 6) (.slice (some ⟨bp, 0, none⟩) p p)) ∧ Hid (BoxB w' bp (List.replicate p false)) ∧ Hid (BoxB w' bt (List.replicate n false)) ∧ (w.heap.size < bp ∧ w.heap.size < bt ∧ bp ≠ bt) ∧ Hid (Box w' w.heap.size 27 #[.int .i64 p, .slice A n c]) ∧ Hid (Below w.heap.size w w')) ?_ (fun EN => ?_)
  · rintro a' wm ⟨bp, bt, rfl, RP, RT, ⟨hp0, ht0, hne⟩, XM, DM⟩ hS
    simp only [Act.put, List.setIfInBounds_toArray, List.set_cons_zero, List.set_cons_succ]
    refine tkEnd rfl (fun K hK => ?_)
    go_simp
    refine hK.out _ _ ?_
    clear hK hS hHeld XX0 DD0 X0 D0 c0 c1
    try simp only [Act.put, List.setIfInBounds_toArray, List.set_cons_zero, List.set_cons_succ]
    refine tkDone ?_
    have q1 := BoxB.at RP.out (j := i) (by simpa using hi)
    have f1 := Box.frozen RP.out i
    obtain ⟨x0, x1⟩ := XM.out.two
    simp only [List.getD_eq_getElem?_getD, List.getElem?_replicate, hi, if_true, Option.getD_some] at q1
    go_upto_region 3 with fail
    generalize hw1 : wm.setCell ⟨bp, i, none⟩ (.bool true) = w1
    have hbs : Beside bp wm w1 := by rw [← hw1]; exact Beside.set _ _ _ _
    obtain ⟨W0, hW0⟩ : ∃ s, ways0 ⟨(p : Int), ts⟩ i = s := ⟨_, rfl⟩
    have HW := hide2 (show waysL ⟨(p : Int), ts⟩ i = rounds ts (p + n) W0 by rw [waysL, hW0, HL.out]; rfl)
    have WL := hide2 (show W0.ps.length = p ∧ W0.ts.length = n by rw [← hW0, ← HL.out]; simp [ways0])
    have Y1 := hide2 (show BoxB w1 bp W0.ps by rw [← hw1, ← hW0]; exact BoxB.put RP.out i true)
    have Y2 := hide2 (show BoxB w1 bt W0.ts by rw [← hW0]; simp only [ways0]; rw [HL.out]; exact hbs.box RT.out hne.symm)
    have Y0 := hide2 (hbs.box XM.out (by omega))
    have D1 := hide2 (show Below w.heap.size w w1 by rw [← hw1]; exact DM.out.setCell (show w.heap.size ≤ bp by omega) _)
    clear hw1 hbs hW0 RP RT XM DM q1 f1 x0 x1
    obtain ⟨x0, x1⟩ := Y0.out.two
    go_wp2
    go_loopw [28] (fun r wr => ∃ k : Nat, k ≤ p + n ∧ r = .int .i64 k ∧ Hid (BoxB wr bp (rounds ts k W0).ps) ∧ Hid (BoxB wr bt (rounds ts k W0).ts) ∧ Hid (Box wr w.heap.size 27 #[.int .i64 p, .slice A n c]) ∧ Hid (Below w.heap.size w wr)) (fun r _ => p + n - (intOf r).toNat)
    case atStart => exact ⟨0, Nat.zero_le _, rfl, Y1, Y2, Y0, D1⟩
    case round =>
      obtain ⟨k, hk, rfl, V1, V2, V0, BV⟩ := hrel
      clear x0 x1
      obtain ⟨x0, x1⟩ := V0.out.two
      by_cases hlk : k < p + n
      · have hki : (k : Int) < (p : Int) + (n : Int) := by omega
        obtain ⟨S, hS⟩ : ∃ s, rounds ts k W0 = s := ⟨_, rfl⟩
        rw [hS] at V1 V2
        have HS := hide2 hS
        have SL := hide2 (show S.ps.length = p ∧ S.ts.length = n by have := rounds_lens ts W0 k; rw [hS] at this; have := WL.out; omega)
        clear hS
        obtain ⟨wo, hwo⟩ : ∃ wo : World, wo = wr := ⟨_, rfl⟩
        subst hwo
        go_wp2
        go_loopw [33] (fun r wr => ∃ k2 : Nat, k2 ≤ n ∧ r = .int .i64 k2 ∧ Hid (BoxB wr bp (wayN ts k2 S).ps) ∧ Hid (BoxB wr bt (wayN ts k2 S).ts) ∧ Hid (Box wr w.heap.size 27 #[.int .i64 p, .slice A n c]) ∧ Hid (Below w.heap.size w wr)) (fun r _ => n - (intOf r).toNat)
        case atStart => exact ⟨0, Nat.zero_le _, rfl, V1, V2, V0, BV⟩
        case round =>
          clear V1 V2 V0 BV x0 x1
          obtain ⟨k2, hk2, rfl, V1, V2, V0, BV⟩ := hrel
          obtain ⟨x0, x1⟩ := V0.out.two
          by_cases hlt : k2 < n
          · have hk2i : (k2 : Int) < (n : Int) := by omega
            obtain ⟨bl, off, t, A1, n1, c1, A2, n2, c2, rfl, hbl, ht, q0', q1', q2', i1, i2, m1, m2⟩ := Trans.get H.out hlt
            have q0 := (BV.out.cell (p := ⟨bl, off + k2 * 3, none⟩) hbl).trans q0'
            have q1 := (BV.out.cell (p := ⟨bl, off + k2 * 3 + 1, none⟩) hbl).trans q1'
            have q2 := (BV.out.cell (p := ⟨bl, off + k2 * 3 + 2, none⟩) hbl).trans q2'
            have hT := netOk_tran HO.out ht.out
            have e1 : n1 = p := by have := hT.2.2.1; rw [i1.len] at this; simp only [] at this; omega
            have e2 : n2 = p := by have := hT.2.2.2.1; rw [i2.len] at this; simp only [] at this; omega
            have hn1 : p ≤ n1 := by omega
            have hn2 : p ≤ n2 := by omega
            have I1 := hide2 i1
            have I2 := hide2 i2
            clear hT e1 e2 i1 i2 q0' q1' q2'
            obtain ⟨T, hT⟩ : ∃ s, wayN ts k2 S = s := ⟨_, rfl⟩
            rw [hT] at V1 V2
            have HT := hide2 hT
            have TL := hide2 (show T.ps.length = p ∧ T.ts.length = n by have := wayN_lens ts S k2; rw [hT] at this; have := SL.out; omega)
            obtain ⟨tk, htk⟩ : ∃ b, T.ts.getD k2 false = b := ⟨_, rfl⟩
            have TK := hide2 htk
            clear hT htk
            go_upto_region 8 with fail
            generalize hw2 : wr.alloc (.cells #[.int .i64 t.label, .slice A1 n1 c1, .slice A2 n2 c2] 78) = w2
            have bb2 : Below wr.heap.size wr w2 := by rw [← hw2]; exact boxBelow _ _
            have U0 := hide2 (V0.out.keep bb2)
            have U1 := hide2 (show BoxB w2 bp T.ps from Box.keep V1.out bb2)
            have U2 := hide2 (show BoxB w2 bt T.ts from Box.keep V2.out bb2)
            have U4 := hide2 (show Box w2 wr.heap.size 78 #[.int .i64 t.label, .slice A1 n1 c1, .slice A2 n2 c2] by rw [← hw2]; exact Box.new _ _ _)
            have BU := hide2 (BV.out.trans (bb2.mono BV.out.size))
            have hbp : bp < wr.heap.size := Box.lt V1.out
            have hbt : bt < wr.heap.size := Box.lt V2.out
            have hbw : w.heap.size ≤ wr.heap.size := BV.out.size
            clear hw2 bb2 V0 V1 V2 BV q0 q1 q2 x0 x1
            generalize wr.heap.size = bx at *
            obtain ⟨u0, u1⟩ := U0.out.two
            obtain ⟨y0, y1, y2⟩ := U4.out.three
            go_wp2
            go_loopw [40] (fun r wr => ∃ j : Nat, j ≤ p ∧ r = .int .i64 j ∧ Hid (BoxB wr bp T.ps) ∧ Hid (BoxB wr bt (T.ts.set k2 (orT T.ps t.pre tk j))) ∧ Hid (Box wr w.heap.size 27 #[.int .i64 p, .slice (some ⟨bl, off, none⟩) n c]) ∧ Hid (Box wr bx 78 #[.int .i64 t.label, .slice A1 n1 c1, .slice A2 n2 c2]) ∧ Hid (Below w.heap.size w wr)) (fun r _ => p - (intOf r).toNat)
            case atStart => exact ⟨0, Nat.zero_le _, rfl, U1, by rw [show T.ts.set k2 (orT T.ps t.pre tk 0) = T.ts by rw [show orT T.ps t.pre tk 0 = tk by simp [orT], ← TK.out]; exact set_getD_self _ _]; exact U2, U0, U4, BU⟩
            case round =>
              obtain ⟨j, hj, rfl, V1, V2, V0, V4, BV⟩ := hrel
              clear u0 u1 y0 y1 y2
              by_cases hlj : j < p
              · have hji : (j : Int) < (p : Int) := by omega
                have hjn : (j : Int) < (n1 : Int) := by omega
                obtain ⟨b1, o1, v, rfl, hb1, hv, qv⟩ := Ints.get (Ints.keep I1.out BV.out) (k := j) (by omega)
                obtain ⟨y0, y1, y2⟩ := V4.out.three
                have q1 := BoxB.at V1.out (j := j) (by have := TL.out.1; omega)
                have q2 := BoxB.at V2.out (j := k2) (by have := TL.out.2; simp; omega)
                have f2 := Box.frozen V2.out k2
                rw [show (T.ts.set k2 (orT T.ps t.pre tk j)).getD k2 false = orT T.ps t.pre tk j by have := TL.out.2; rw [List.getD_eq_getElem?_getD, List.getElem?_set_self (by omega)]; rfl] at q2
                have OR := hide2 (orT_succ T.ps t.pre tk j)
                rw [atL_some hv.out] at OR
                obtain ⟨bb, hbb⟩ : ∃ b, orT T.ps t.pre tk j = b := ⟨_, rfl⟩
                obtain ⟨qq, hqq⟩ : ∃ b, T.ps.getD j false = b := ⟨_, rfl⟩
                rw [hbb] at q2 OR V2
                rw [hqq] at q1 OR
                have KP := hide2 (fun v => show BoxB (wr.setCell ⟨bt, k2, none⟩ (.bool v)) bp T.ps ∧ BoxB (wr.setCell ⟨bt, k2, none⟩ (.bool v)) bt (T.ts.set k2 v) ∧ Box (wr.setCell ⟨bt, k2, none⟩ (.bool v)) w.heap.size 27 #[.int .i64 p, .slice (some ⟨bl, off, none⟩) n c] ∧ Box (wr.setCell ⟨bt, k2, none⟩ (.bool v)) bx 78 #[.int .i64 t.label, .slice (some ⟨b1, o1, none⟩) n1 c1, .slice A2 n2 c2] ∧ Below w.heap.size w (wr.setCell ⟨bt, k2, none⟩ (.bool v)) by
                  have hbs := Beside.set wr bt k2 (.bool v)
                  have := BoxB.put V2.out k2 v
                  rw [List.set_set] at this
                  exact ⟨hbs.box V1.out hne, this, hbs.box V0.out (by omega), hbs.box V4.out (by omega), BV.out.setCell (show w.heap.size ≤ bt by omega) _⟩)
                clear hbb hqq V1 V2 V0 V4 BV
                cases bb
                · cases qq
                  · have OR' := hide2 (show orT T.ps t.pre tk (j + 1) = false from OR.out)
                    go_wp2
                    go_roundw
                    case rel => exact ⟨j + 1, by omega, by go_num, (KP.out _).1, by rw [OR'.out]; exact (KP.out _).2.1, (KP.out _).2.2.1, (KP.out _).2.2.2.1, (KP.out _).2.2.2.2⟩
                    case measure => simp [intOf]; omega
                  · by_cases hpos : 0 < v
                    · have OR' := hide2 (show orT T.ps t.pre tk (j + 1) = true by rw [OR.out]; simp [hpos])
                      go_wp2
                      go_roundw
                      case rel => exact ⟨j + 1, by omega, by go_num, (KP.out _).1, by rw [OR'.out]; exact (KP.out _).2.1, (KP.out _).2.2.1, (KP.out _).2.2.2.1, (KP.out _).2.2.2.2⟩
                      case measure => simp [intOf]; omega
                    · have OR' := hide2 (show orT T.ps t.pre tk (j + 1) = false by rw [OR.out]; simp; omega)
                      go_wp2
                      go_roundw
                      case rel => exact ⟨j + 1, by omega, by go_num, (KP.out _).1, by rw [OR'.out]; exact (KP.out _).2.1, (KP.out _).2.2.1, (KP.out _).2.2.2.1, (KP.out _).2.2.2.2⟩
                      case measure => simp [intOf]; omega
                · have OR' := hide2 (show orT T.ps t.pre tk (j + 1) = true by rw [OR.out]; rfl)
                  go_wp2
                  go_roundw
                  case rel => exact ⟨j + 1, by omega, by go_num, (KP.out _).1, by rw [OR'.out]; exact (KP.out _).2.1, (KP.out _).2.2.1, (KP.out _).2.2.2.1, (KP.out _).2.2.2.2⟩
                  case measure => simp [intOf]; omega
              · obtain rfl : j = p := by omega
                obtain ⟨UU, hUU⟩ : ∃ b, orT T.ps t.pre tk j = b := ⟨_, rfl⟩
                rw [hUU] at V2
                have HU := hide2 hUU
                clear hUU hlj hj
                obtain ⟨wo, hwo⟩ : ∃ wo : World, wo = wr := ⟨_, rfl⟩
                subst hwo
                go_wp2
                go_loopw [67] (fun r wr => ∃ q : Nat, q ≤ j ∧ r = .int .i64 q ∧ Hid (BoxB wr bp (orP T.ps UU t.post q)) ∧ Hid (BoxB wr bt (T.ts.set k2 UU)) ∧ Hid (Box wr w.heap.size 27 #[.int .i64 j, .slice (some ⟨bl, off, none⟩) n c]) ∧ Hid (Box wr bx 78 #[.int .i64 t.label, .slice A1 n1 c1, .slice A2 n2 c2]) ∧ Hid (Below w.heap.size w wr)) (fun r _ => j - (intOf r).toNat)
                case atStart => exact ⟨0, Nat.zero_le _, rfl, by rw [orP_zero]; exact V1, V2, V0, V4, BV⟩
                case round =>
                  obtain ⟨q, hq, rfl, P1, P2, P0, P4, BP⟩ := hrel
                  by_cases hlq : q < j
                  · have hqi : (q : Int) < (j : Int) := by omega
                    have hqn : (q : Int) < (n2 : Int) := by omega
                    obtain ⟨b2, o2, v, rfl, hb2, hv, qv⟩ := Ints.get (Ints.keep I2.out BP.out) (k := q) (by omega)
                    obtain ⟨y0, y1, y2⟩ := P4.out.three
                    have q1 := BoxB.at P1.out (j := q) (by have := TL.out.1; rw [orP_length]; omega)
                    have q2 := BoxB.at P2.out (j := k2) (by have := TL.out.2; simp; omega)
                    have f1 := Box.frozen P1.out q
                    rw [show (T.ts.set k2 UU).getD k2 false = UU by have := TL.out.2; rw [List.getD_eq_getElem?_getD, List.getElem?_set_self (by omega)]; rfl] at q2
                    have OR := hide2 (orP_succ T.ps UU t.post q (by have := TL.out.1; omega))
                    rw [atL_some hv.out] at OR
                    obtain ⟨bb, hbb⟩ : ∃ b, (orP T.ps UU t.post q).getD q false = b := ⟨_, rfl⟩
                    rw [hbb] at q1 OR
                    have KP := hide2 (fun v => show BoxB (wr.setCell ⟨bp, q, none⟩ (.bool v)) bp ((orP T.ps UU t.post q).set q v) ∧ BoxB (wr.setCell ⟨bp, q, none⟩ (.bool v)) bt (T.ts.set k2 UU) ∧ Box (wr.setCell ⟨bp, q, none⟩ (.bool v)) w.heap.size 27 #[.int .i64 j, .slice (some ⟨bl, off, none⟩) n c] ∧ Box (wr.setCell ⟨bp, q, none⟩ (.bool v)) bx 78 #[.int .i64 t.label, .slice A1 n1 c1, .slice (some ⟨b2, o2, none⟩) n2 c2] ∧ Below w.heap.size w (wr.setCell ⟨bp, q, none⟩ (.bool v)) by
                      have hbs := Beside.set wr bp q (.bool v)
                      exact ⟨BoxB.put P1.out q v, hbs.box P2.out hne.symm, hbs.box P0.out (by omega), hbs.box P4.out (by omega), BP.out.setCell (show w.heap.size ≤ bp by omega) _⟩)
                    have HUU := hide2 (Eq.refl UU)
                    clear hbb P1 P2 P0 P4 BP
                    cases bb
                    · cases UU
                      · have OR' := hide2 (show (orP T.ps false t.post q).set q false = orP T.ps false t.post (q + 1) from OR.out)
                        go_wp2
                        go_roundw
                        case rel => exact ⟨q + 1, by omega, by go_num, by rw [← OR'.out]; exact (KP.out _).1, (KP.out _).2.1, (KP.out _).2.2.1, (KP.out _).2.2.2.1, (KP.out _).2.2.2.2⟩
                        case measure => simp [intOf]; omega
                      · by_cases hpos : 0 < v
                        · have OR' := hide2 (show (orP T.ps true t.post q).set q true = orP T.ps true t.post (q + 1) by rw [← OR.out]; simp [hpos])
                          go_wp2
                          go_roundw
                          case rel => exact ⟨q + 1, by omega, by go_num, by rw [← OR'.out]; exact (KP.out _).1, (KP.out _).2.1, (KP.out _).2.2.1, (KP.out _).2.2.2.1, (KP.out _).2.2.2.2⟩
                          case measure => simp [intOf]; omega
                        · have OR' := hide2 (show (orP T.ps true t.post q).set q false = orP T.ps true t.post (q + 1) by rw [← OR.out]; congr 1; simp; omega)
                          go_wp2
                          go_roundw
                          case rel => exact ⟨q + 1, by omega, by go_num, by rw [← OR'.out]; exact (KP.out _).1, (KP.out _).2.1, (KP.out _).2.2.1, (KP.out _).2.2.2.1, (KP.out _).2.2.2.2⟩
                          case measure => simp [intOf]; omega
                    · have OR' := hide2 (show (orP T.ps UU t.post q).set q true = orP T.ps UU t.post (q + 1) by rw [← OR.out]; simp)
                      go_wp2
                      go_roundw
                      case rel => exact ⟨q + 1, by omega, by go_num, by rw [← OR'.out]; exact (KP.out _).1, (KP.out _).2.1, (KP.out _).2.2.1, (KP.out _).2.2.2.1, (KP.out _).2.2.2.2⟩
                      case measure => simp [intOf]; omega
                  · obtain rfl : q = j := by omega
                    have NX := hide2 (show wayN ts (k2 + 1) S = ⟨orP T.ps UU t.post q, T.ts.set k2 UU⟩ by
                      rw [wayN_succ _ _ _ ht.out, HT.out, wayT, TL.out.1, TK.out, HU.out])
                    go_wp2
                    go_roundw
                    case rel => exact ⟨k2 + 1, by omega, by go_num, by rw [NX.out]; exact P1, by rw [NX.out]; exact P2, P0, BP⟩
                    case measure => simp [intOf]; omega
          · obtain rfl : k2 = n := by omega
            have NX := hide2 (show rounds ts (k + 1) W0 = wayN ts k2 S by rw [rounds, HS.out, HL.out])
            go_wp2
            go_roundw
            case rel => exact ⟨k + 1, by omega, by go_num, by rw [NX.out]; exact V1, by rw [NX.out]; exact V2, V0, BV⟩
            case measure => simp [intOf]; omega
      · obtain rfl : k = p + n := by omega
        have RL := rounds_lens ts W0 (p + n)
        rw [WL.out.1, WL.out.2] at RL
        have HRL := hide2 RL
        clear RL
        go_wp2
        refine bodyPost_ret (v := .tuple #[.slice (some ⟨bp, 0, none⟩) p p, .slice (some ⟨bt, 0, none⟩) n n]) (by simp [results, Try.results53, go_sem]) rfl ?_
        rw [HW.out]
        exact ⟨bp, bt, by rw [HRL.out.1, HRL.out.2], V1.out, V2.out, BV.out⟩
  refine tkTwo rfl rfl (fun K hK => ?_) (fun K hK => ?_)
  · refine step_mk Try.underlying96 infoBool rfl rfl _ _ rfl p rfl rfl rfl rfl (by omega) (by omega) (Below.refl w0.drew.heap.size w0.drew) (Nat.le_refl _) ?_
    intro wa own hg hb
    have RP0 := hide2 (BoxB.of_row own)
    have XX1 := hide2 (XX0.out.keep hb)
    have DD1 := hide2 (DD0.out.trans (hb.mono DD0.out.size))
    obtain ⟨x0, x1⟩ := XX1.out.two
    refine hK.out _ _ ⟨x0, x1⟩ (fun hHeld => ?_)
    clear own hg hb hK
    simp only [Act.put, List.setIfInBounds_toArray, List.set_cons_zero, List.set_cons_succ]
    refine tkTake (v := ?_) rfl (by rfl) hHeld (fun w' hSw => ?_) ?_
    rotate_left
    · (go_simp; try with_reducible rfl)
    simp only [Act.put, List.setIfInBounds_toArray, List.set_cons_zero, List.set_cons_succ]
    refine tkOne rfl (fun K hK => ?_)
    refine step_mk Try.underlying96 infoBool rfl rfl _ _ rfl n rfl rfl rfl rfl (by omega) (by omega) (Below.refl wa.heap.size wa) (Nat.le_refl _) ?_
    intro wb own hg hb
    have RT := hide2 (BoxB.of_row own)
    have XX2 := hide2 (XX1.out.keep hb)
    have DD2 := hide2 (DD1.out.trans (hb.mono DD1.out.size))
    obtain ⟨x0, x1⟩ := XX2.out.two
    refine hK.out _ _ ⟨x0, x1⟩ (fun hHeld => ?_)
    have RP := hide2 (show BoxB wb w0.drew.heap.size (List.replicate p false) from Box.keep RP0.out hb)
    have hlt : w0.drew.heap.size < wa.heap.size := Box.lt RP0.out
    clear own hg hb hK
    simp only [Act.put, List.setIfInBounds_toArray, List.set_cons_zero, List.set_cons_succ]
    exact EN.out _ _ ⟨_, _, rfl, RP, RT, ⟨XX0.out.lt, Nat.lt_of_lt_of_le XX0.out.lt (Nat.le_of_lt hlt), by have e : w0.drew.heap.size = w0.heap.size := rfl; omega⟩, XX2, DD2⟩ hHeld
  · refine step_mk Try.underlying96 infoBool rfl rfl _ _ rfl n rfl rfl rfl rfl (by omega) (by omega) (Below.refl w0.drew.heap.size w0.drew) (Nat.le_refl _) ?_
    intro wa own hg hb
    have RT0 := hide2 (BoxB.of_row own)
    have XX1 := hide2 (XX0.out.keep hb)
    have DD1 := hide2 (DD0.out.trans (hb.mono DD0.out.size))
    obtain ⟨x0, x1⟩ := XX1.out.two
    refine hK.out _ _ ⟨x0, x1⟩ (fun hHeld => ?_)
    clear own hg hb hK
    simp only [Act.put, List.setIfInBounds_toArray, List.set_cons_zero, List.set_cons_succ]
    refine tkOne rfl (fun K hK => ?_)
    refine step_mk Try.underlying96 infoBool rfl rfl _ _ rfl p rfl rfl rfl rfl (by omega) (by omega) (Below.refl wa.heap.size wa) (Nat.le_refl _) ?_
    intro wb own hg hb
    have RP := hide2 (BoxB.of_row own)
    have XX2 := hide2 (XX1.out.keep hb)
    have DD2 := hide2 (DD1.out.trans (hb.mono DD1.out.size))
    obtain ⟨x0, x1⟩ := XX2.out.two
    refine hK.out _ _ ⟨x0, x1⟩ (fun hHeld => ?_)
    have RT := hide2 (show BoxB wb w0.drew.heap.size (List.replicate n false) from Box.keep RT0.out hb)
    have hlt : w0.drew.heap.size < wa.heap.size := Box.lt RT0.out
    clear own hg hb hK
    simp only [Act.put, List.setIfInBounds_toArray, List.set_cons_zero, List.set_cons_succ]
    refine tkTake (v := ?_) rfl (by rfl) hHeld (fun w' hSw => ?_) ?_
    rotate_left
    · (go_simp; try with_reducible rfl)
    simp only [Act.put, List.setIfInBounds_toArray, List.set_cons_zero, List.set_cons_succ]
    exact EN.out _ _ ⟨_, _, rfl, RP, RT, ⟨Nat.lt_of_lt_of_le XX0.out.lt (Nat.le_of_lt hlt), XX0.out.lt, by have e : w0.drew.heap.size = w0.heap.size := rfl; omega⟩, XX2, DD2⟩ hHeld
end Go.Proofs.Ytnfppolgaeibeaa
namespace Go.Proofs.Ytnfppolgaeibeaa
open Go.RowKit

theorem allWays_iff' (N : PNet) (i : Nat) : allWays N i = true ↔ (∀ p, p < (waysL N i).ps.length → (waysL N i).ps.getD p false = true) ∧ (∀ k, k < (waysL N i).ts.length → (waysL N i).ts.getD k false = true) := by
  unfold allWays
  simp only [Bool.and_eq_true, List.all_eq_true, id_eq]
  have key : ∀ l : List Bool, (∀ x ∈ l, x = true) ↔ ∀ p, p < l.length → l.getD p false = true := fun l => by
    constructor
    · intro h p hp
      rw [List.getD_eq_getElem?_getD, List.getElem?_eq_getElem hp]
      exact h _ (List.getElem_mem _)
    · intro h x hx
      obtain ⟨k, hk, rfl⟩ := List.getElem_of_mem hx
      have := h k hk
      rwa [List.getD_eq_getElem?_getD, List.getElem?_eq_getElem hk] at this
  rw [key, key]
theorem waysL_lens {N : PNet} {i : Nat} : (waysL N i).ps.length = N.places.toNat ∧ (waysL N i).ts.length = N.trans.length := ways_lens N i _
theorem shapeL_in {p : Nat} {ts : List PTran} {i o : Nat} (hok : netOk ⟨(p : Int), ts⟩ = true) (hi : i < p) (ho : o < p) (hne : i ≠ o) :
    shapeL ⟨(p : Int), ts⟩ i o = if ts.any (backT i o) = true then 1 else if allWays ⟨(p : Int), ts⟩ i = true ∧ allWays ⟨(p : Int), ts.map turnT⟩ o = true then 0 else 1 := by
  rw [shapeL, if_pos hok, if_pos (by simp only [inB, Bool.and_eq_true, decide_eq_true_eq]; refine ⟨⟨⟨⟨?_, ?_⟩, ?_⟩, ?_⟩, ?_⟩ <;> omega)]
  rfl

/-- What hways answers, with its lengths. -/
def AnsWL (s : Ways) (p n : Nat) (w : World) (e : Ending) (w' : World) : Prop :=
  ∃ bp bt, e = .returned (.tuple #[.slice (some ⟨bp, 0, none⟩) p p, .slice (some ⟨bt, 0, none⟩) n n]) ∧ BoxB w' bp s.ps ∧ BoxB w' bt s.ts ∧ Below w.heap.size w w'
theorem hways_calls' {w : World} {p : Nat} {A : Option Addr} {n c : Nat} {ts : List PTran} {i : Nat} (h : Trans w A n c ts) (hok : netOk ⟨(p : Int), ts⟩ = true) (hi : i < p) :
    Calls Try.prog 53 #[.agg #[.int .i64 p, .slice A n c], .int .i64 i] w (AnsWL (waysL ⟨(p : Int), ts⟩ i) p n w) := by
  refine (hways_calls h hok hi).mono ?_
  rintro e w' ⟨bp, bt, rfl, h1, h2, h3⟩
  obtain ⟨l1, l2⟩ := waysL_lens (N := ⟨(p : Int), ts⟩) (i := i)
  rw [l1, l2]
  exact ⟨bp, bt, by rw [← h.len]; rfl, h1, h2, h3⟩

set_option maxRecDepth 100000 in
set_option maxHeartbeats 4000000 in
theorem refShapeWrong_calls {w : World} {P : Int} {A : Option Addr} {n c : Nat} {ts : List PTran} (i o : Int) (h : Trans w A n c ts) (hn : n ≤ 2513169434916) :
    Calls Try.prog 18 #[.agg #[.int .i64 P, .slice A n c], .int .i64 i, .int .i64 o] w fun e w' => e = .returned (.int .i64 (shapeL ⟨P, ts⟩ i o)) ∧ Below w.heap.size w w' := by
  have H := hide2 h
  have HL := hide2 h.len
  have hns := h.small
  clear h
  have D0 := hide2 (boxBelow w (.cells #[.int .i64 P, .slice A n c] 27))
  have X0 := hide2 (Box.new w #[.int .i64 P, .slice A n c] 27)
  cases hok : netOk ⟨P, ts⟩
  · have W0 := hide2 (wrongNet_not hok)
    have FIN := hide2 (show shapeL ⟨P, ts⟩ i o = 2 by rw [shapeL, hok]; rfl)
    clear hok
    go_enter Try.func18, Try.ntmps18
    go_wp2_with fail
    refine (refWrong_calls _ P A n c ts (H.out.keep D0.out)).mono ?_
    rw [W0.out]
    rintro e w1 ⟨rfl, hb⟩
    have B1 := hide2 (D0.out.trans (hb.mono D0.out.size))
    clear hb
    go_wp2
    go_ret
    exact ⟨ret_int FIN.out.symm, B1.out⟩
  · have W0 := hide2 (wrongNet_ok hok)
    have HO := hide2 hok
    clear hok
    obtain ⟨p, rfl⟩ : ∃ p : Nat, P = (p : Int) := ⟨P.toNat, by have := ((netOk_iff _).1 HO.out).1; simp only [] at this; omega⟩
    have hp16 : p ≤ 16 := by have := ((netOk_iff _).1 HO.out).2.1; simp only [] at this; omega
    have hn24 : n ≤ 24 := by have := ((netOk_iff _).1 HO.out).2.2.1; rw [HL.out] at this; exact this
    obtain ⟨mn, hmn⟩ : ∃ m, min i o = m := ⟨_, rfl⟩
    obtain ⟨mx, hmx⟩ : ∃ m, max i o = m := ⟨_, rfl⟩
    go_enter Try.func18, Try.ntmps18
    go_wp2_with fail
    refine (refWrong_calls _ (p : Int) A n c ts (H.out.keep D0.out)).mono ?_
    rw [W0.out]
    rintro e w1 ⟨rfl, hb⟩
    have B1 := hide2 (D0.out.trans (hb.mono D0.out.size))
    have Y0 := hide2 (X0.out.keep hb)
    clear hb X0 D0
    obtain ⟨c0, c1⟩ := Y0.out.two
    by_cases hin : inB ⟨p, ts⟩ i o = true
    · simp only [inB, Bool.and_eq_true, decide_eq_true_eq] at hin
      obtain ⟨⟨⟨⟨h0, h1⟩, h2⟩, h3⟩, h4⟩ := hin
      have hmn0 : 0 ≤ mn := by omega
      have hmxp : mx < (p : Int) := by omega
      obtain ⟨i, rfl⟩ : ∃ k : Nat, i = (k : Int) := ⟨i.toNat, by omega⟩
      obtain ⟨o, rfl⟩ : ∃ k : Nat, o = (k : Int) := ⟨o.toNat, by omega⟩
      have hne : ((i : Int) == (o : Int)) = false := by simpa using h4
      have SH := hide2 (shapeL_in HO.out (i := i) (o := o) (by omega) (by omega) (by omega))
      have hip : i < p := by omega
      have hop : o < p := by omega
      clear h4
      go_upto_region 5 with fail
      clear hmn hmx hmn0 hmxp hne
      have TO := hide2 (show netOk ⟨(p : Int), ts.map turnT⟩ = true from turned_ok (N := ⟨p, ts⟩) HO.out)
      obtain ⟨SA, hSA⟩ : ∃ s, waysL ⟨(p : Int), ts⟩ i = s := ⟨_, rfl⟩
      obtain ⟨SB, hSB⟩ : ∃ s, waysL ⟨(p : Int), ts.map turnT⟩ o = s := ⟨_, rfl⟩
      have LA := hide2 (show SA.ps.length = p ∧ SA.ts.length = n by have := waysL_lens (N := ⟨(p : Int), ts⟩) (i := i); rw [hSA] at this; simpa [HL.out] using this)
      have LB := hide2 (show SB.ps.length = p ∧ SB.ts.length = n by have := waysL_lens (N := ⟨(p : Int), ts.map turnT⟩) (i := o); rw [hSB] at this; simpa [HL.out] using this)
      have WA := hide2 (allWays_iff' ⟨(p : Int), ts⟩ i)
      have WB := hide2 (allWays_iff' ⟨(p : Int), ts.map turnT⟩ o)
      rw [hSA] at WA
      rw [hSB] at WB
      have C1 := hide2 (hways_calls' (H.out.keep B1.out) HO.out hip)
      rw [hSA] at C1
      go_wp2_with fail
      refine C1.out.mono ?_
      rintro e w2 ⟨bp, bt, rfl, r1, r2, hb⟩
      have B2 := hide2 (B1.out.trans (hb.mono B1.out.size))
      have Y1 := hide2 (Y0.out.keep hb)
      have P1 := hide2 r1
      have T1 := hide2 r2
      clear hb r1 r2 c0 c1 Y0 B1 C1
      obtain ⟨c0, c1⟩ := Y1.out.two
      go_wp2_with fail
      refine (refTurned_calls (P := (p : Int)) (H.out.keep B2.out) hn).mono ?_
      rintro e w3 ⟨A4, n4, c4, rfl, t4, hb⟩
      obtain rfl : n4 = n := by have := t4.len; have := HL.out; simp [turned] at *; omega
      have B3 := hide2 (B2.out.trans (hb.mono B2.out.size))
      have Y2 := hide2 (Y1.out.keep hb)
      have P2 := hide2 (show BoxB w3 bp SA.ps from Box.keep P1.out hb)
      have T2 := hide2 (show BoxB w3 bt SA.ts from Box.keep T1.out hb)
      have C2 := hide2 (hways_calls' (p := p) (ts := ts.map turnT) t4 TO.out hop)
      rw [hSB] at C2
      rw [show (turned ⟨(p : Int), ts⟩).places = (p : Int) from rfl]
      clear hb t4 c0 c1 Y1 P1 T1 B2 hSA hSB
      go_wp2_with fail
      refine C2.out.mono ?_
      rintro e w4 ⟨bq, bu, rfl, r1, r2, hb⟩
      have B4 := hide2 (B3.out.trans (hb.mono B3.out.size))
      have Y3 := hide2 (Y2.out.keep hb)
      have P3 := hide2 (show BoxB w4 bp SA.ps from Box.keep P2.out hb)
      have T3 := hide2 (show BoxB w4 bt SA.ts from Box.keep T2.out hb)
      have Q3 := hide2 r1
      have U3 := hide2 r2
      clear hb r1 r2 Y2 P2 T2 B3 C2
      obtain ⟨c0, c1⟩ := Y3.out.two
      have ONE := hide2 (show ((∃ t ∈ ts, backT i o t = true) ∨ (∃ q, q < p ∧ (SA.ps.getD q false = false ∨ SB.ps.getD q false = false)) ∨ (∃ q, q < n4 ∧ (SA.ts.getD q false = false ∨ SB.ts.getD q false = false))) → shapeL ⟨(p : Int), ts⟩ i o = 1 from fun hc => by
        rw [SH.out]
        by_cases hbk : ts.any (backT i o) = true
        · rw [if_pos hbk]
        · rw [if_neg hbk, if_neg]
          rintro ⟨a1, a2⟩
          have a3 := WA.out.1 a1
          have a4 := WB.out.1 a2
          rw [LA.out.1, LA.out.2] at a3
          rw [LB.out.1, LB.out.2] at a4
          rcases hc with ⟨t, ht, h⟩ | ⟨q, hq, h | h⟩ | ⟨q, hq, h | h⟩
          · exact hbk (List.any_eq_true.2 ⟨t, ht, h⟩)
          · rw [a3.1 q hq] at h; cases h
          · rw [a4.1 q hq] at h; cases h
          · rw [a3.2 q hq] at h; cases h
          · rw [a4.2 q hq] at h; cases h)
      go_wp2
      go_loop [49] (fun v => ∃ k : Nat, k ≤ p ∧ v = .int .i64 k ∧ Hid (∀ q, q < k → SA.ps.getD q false = true ∧ SB.ps.getD q false = true)) (fun v => p - (intOf v).toNat)
      case atStart => exact ⟨0, Nat.zero_le _, rfl, fun q hq => absurd hq (by omega)⟩
      case round =>
        obtain ⟨k, hk, rfl, lo⟩ := hrel
        by_cases hlt : k < p
        · have hki : (k : Int) < (p : Int) := by omega
          have q1 := BoxB.at P3.out (j := k) (by have := LA.out.1; omega)
          have q2 := BoxB.at Q3.out (j := k) (by have := LB.out.1; omega)
          obtain ⟨x, hx⟩ : ∃ b, SA.ps.getD k false = b := ⟨_, rfl⟩
          obtain ⟨y, hy⟩ : ∃ b, SB.ps.getD k false = b := ⟨_, rfl⟩
          rw [hx] at q1
          rw [hy] at q2
          have HX := hide2 hx
          have HY := hide2 hy
          clear hx hy
          cases x
          · have FIN := hide2 (ONE.out (.inr (.inl ⟨k, hlt, .inl HX.out⟩)))
            go_wp2
            go_ret
            exact ⟨ret_int FIN.out.symm, B4.out⟩
          · cases y
            · have FIN := hide2 (ONE.out (.inr (.inl ⟨k, hlt, .inr HY.out⟩)))
              go_wp2
              go_ret
              exact ⟨ret_int FIN.out.symm, B4.out⟩
            · go_wp2
              go_round
              case rel =>
                refine ⟨k + 1, by omega, by go_num, fun q hq => ?_⟩
                by_cases hqk : q = k
                · subst hqk; exact ⟨HX.out, HY.out⟩
                · exact lo.out q (by omega)
              case measure => simp [intOf]; omega
        · obtain rfl : k = p := by omega
          go_wp2
          go_loopw [68] (fun v wr => ∃ j : Nat, j ≤ n4 ∧ v = .int .i64 j ∧ Hid (∀ q, q < j → SA.ts.getD q false = true ∧ SB.ts.getD q false = true ∧ ∀ t, ts[q]? = some t → backT i o t = false) ∧ Hid (Below w4.heap.size w4 wr)) (fun v _ => n4 - (intOf v).toNat)
          case atStart => exact ⟨0, Nat.zero_le _, rfl, fun q hq => absurd hq (by omega), Below.refl _ _⟩
          case round =>
            obtain ⟨j, hj, rfl, lo2, BW⟩ := hrel
            clear c0 c1
            by_cases hlj : j < n4
            · have hji : (j : Int) < (n4 : Int) := by omega
              have BX := hide2 (B4.out.trans (BW.out.mono B4.out.size))
              obtain ⟨bl, off, t, A1, n1, c1, A2, n2, c2, rfl, hbl, ht, q0, q1, q2, i1, i2, _, _⟩ := Trans.get (H.out.keep BX.out) hlj
              have hT := netOk_tran HO.out ht.out
              have e1 : n1 = k := by have := hT.2.2.1; rw [i1.len] at this; simp only [] at this; omega
              have e2 : n2 = k := by have := hT.2.2.2.1; rw [i2.len] at this; simp only [] at this; omega
              subst e1
              subst e2
              have bb := boxBelow wr (.cells #[.int .i64 t.label, .slice A1 n2 c1, .slice A2 n2 c2] 78)
              obtain ⟨b1, o1, x, rfl, hb1, hx, qx⟩ := Ints.get (k := o) (Ints.keep i1 bb) (by omega)
              obtain ⟨b2, o2, y, rfl, hb2, hy, qy⟩ := Ints.get (k := i) (Ints.keep i2 bb) (by omega)
              have x0 := (badW_false (any_false_get hT.2.2.2.2.1 hx.out)).1
              have y0 := (badW_false (any_false_get hT.2.2.2.2.2 hy.out)).1
              have FN := hide2 (show backT i o t = (decide (0 < y) || decide (0 < x)) by rw [backT, atL_some hy.out, atL_some hx.out])
              have TM := hide2 (List.mem_of_getElem? ht.out)
              have BW1 := hide2 (BW.out.trans (bb.mono BW.out.size))
              have s1 := BoxB.at (Box.keep (Box.keepB T3.out BW.out (Box.lt T3.out)) bb) (j := j) (by have := LA.out.2; omega)
              have s2 := BoxB.at (Box.keep (Box.keepB U3.out BW.out (Box.lt U3.out)) bb) (j := j) (by have := LB.out.2; omega)
              obtain ⟨u, hu⟩ : ∃ b, SA.ts.getD j false = b := ⟨_, rfl⟩
              obtain ⟨v, hv⟩ : ∃ b, SB.ts.getD j false = b := ⟨_, rfl⟩
              rw [hu] at s1
              rw [hv] at s2
              have HU := hide2 hu
              have HV := hide2 hv
              clear hT i1 i2 bb hu hv
              cases u
              · have FIN := hide2 (ONE.out (.inr (.inr ⟨j, hlj, .inl HU.out⟩)))
                go_wp2
                go_ret
                exact ⟨ret_int FIN.out.symm, B4.out.trans (BW1.out.mono B4.out.size)⟩
              · cases v
                · have FIN := hide2 (ONE.out (.inr (.inr ⟨j, hlj, .inr HV.out⟩)))
                  go_wp2
                  go_ret
                  exact ⟨ret_int FIN.out.symm, B4.out.trans (BW1.out.mono B4.out.size)⟩
                · by_cases hy1 : 0 < y
                  · have hyne : (y == 0) = false := by simp; omega
                    have FIN := hide2 (ONE.out (.inl ⟨t, TM.out, by rw [FN.out]; simp [hy1]⟩))
                    go_wp2
                    go_ret
                    exact ⟨ret_int FIN.out.symm, B4.out.trans (BW1.out.mono B4.out.size)⟩
                  · obtain rfl : y = 0 := by omega
                    by_cases hx1 : 0 < x
                    · have hxne : (x == 0) = false := by simp; omega
                      have FIN := hide2 (ONE.out (.inl ⟨t, TM.out, by rw [FN.out]; simp [hx1]⟩))
                      go_wp2
                      go_ret
                      exact ⟨ret_int FIN.out.symm, B4.out.trans (BW1.out.mono B4.out.size)⟩
                    · obtain rfl : x = 0 := by omega
                      have FN' := hide2 (show backT i o t = false by rw [FN.out]; rfl)
                      go_wp2
                      go_roundw
                      case rel =>
                        refine ⟨j + 1, by omega, by go_num, fun q hq => ?_, BW1⟩
                        by_cases hqk : q = j
                        · subst hqk
                          exact ⟨HU.out, HV.out, fun t' ht' => by rw [ht.out] at ht'; injection ht' with ht'; rw [← ht']; exact FN'.out⟩
                        · exact lo2.out q (by omega)
                      case measure => simp [intOf]; omega
            · obtain rfl : j = n4 := by omega
              have FIN := hide2 (show shapeL ⟨(k : Int), ts⟩ i o = 0 by
                rw [SH.out, if_neg, if_pos]
                · refine ⟨WA.out.2 ⟨fun q hq => ?_, fun q hq => ?_⟩, WB.out.2 ⟨fun q hq => ?_, fun q hq => ?_⟩⟩
                  · exact (lo.out q (by have := LA.out.1; omega)).1
                  · exact (lo2.out q (by have := LA.out.2; omega)).1
                  · exact (lo.out q (by have := LB.out.1; omega)).2
                  · exact (lo2.out q (by have := LB.out.2; omega)).2.1
                · intro hc
                  obtain ⟨t, ht, hbk⟩ := List.any_eq_true.1 hc
                  obtain ⟨q, hq, rfl⟩ := List.getElem_of_mem ht
                  have := (lo2.out q (by have := HL.out; omega)).2.2 _ (List.getElem?_eq_getElem hq)
                  rw [this] at hbk; cases hbk)
              go_wp2
              go_ret
              exact ⟨ret_int FIN.out.symm, B4.out.trans (BW.out.mono B4.out.size)⟩
    · have FIN := hide2 (show shapeL ⟨p, ts⟩ i o = 1 by rw [shapeL, if_pos HO.out, if_neg hin])
      simp only [inB, Bool.and_eq_true, decide_eq_true_eq] at hin
      by_cases h4 : i = o
      · subst h4
        clear hin
        go_wp2
        go_ret
        exact ⟨ret_int FIN.out.symm, B1.out⟩
      · have hne : (i == o) = false := by simpa using h4
        by_cases hm : mn < 0
        · clear hin h4
          go_wp2
          go_ret
          exact ⟨ret_int FIN.out.symm, B1.out⟩
        · have hx : (p : Int) ≤ mx := Classical.byContradiction fun hx => hin ⟨⟨⟨⟨by omega, by omega⟩, by omega⟩, by omega⟩, h4⟩
          have hm0 : 0 ≤ mn := by omega
          clear hin h4 hm
          go_wp2
          go_ret
          exact ⟨ret_int FIN.out.symm, B1.out⟩
end Go.Proofs.Ytnfppolgaeibeaa
