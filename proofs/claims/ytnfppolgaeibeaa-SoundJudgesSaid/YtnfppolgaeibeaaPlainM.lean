/- The plain law of exploration: all marks that a net comes to, in the order in which they are found, and arcs between them; a shortest run. No program in sight. | More of the plain law of exploration: who can fire, and the first arcs kept beside. No program in sight. | More plain laws: turning a list around in place; the arc by which a mark was found first. No program in sight. -/
import Derived.Test.YtnfppolgaeibeaaPlainC
namespace Go.Proofs.Ytnfppolgaeibeaa

structure PArc where
  from_ : Int
  tran : Int
  to_ : Int
structure PSp where
  marks : List (List Int)
  arcs : List PArc
def PSp.nil : PSp := ⟨[], []⟩
def findL (ms : List (List Int)) (x : List Int) : Option Nat := ms.findIdx? fun y => x == y
/-- A mark that is reached from number f by t. -/
def meetL (most : Nat) (s : PSp) (f t : Int) (x : List Int) : Option PSp :=
  match findL s.marks x with
  | some k => some ⟨s.marks, s.arcs ++ [⟨f, t, (k : Int)⟩]⟩
  | none => if s.marks.length = most then none else some ⟨s.marks ++ [x], s.arcs ++ [⟨f, t, (s.marks.length : Int)⟩]⟩
def arcStep (N : PNet) (most : Nat) (m : List Int) (f : Int) (s : PSp) (t : Int) : Option PSp :=
  if (fireL N m t).2 = 3 then some s else if (fireL N m t).2 = 0 then meetL most s f t (fireL N m t).1 else none
def foldS (N : PNet) (most : Nat) (m : List Int) (f : Int) (l : List Int) (o : Option PSp) : Option PSp := l.foldl (fun o t => o.bind fun s => arcStep N most m f s t) o
theorem foldS_snoc (N : PNet) (most : Nat) (m : List Int) (f : Int) (l : List Int) (t : Int) (o : Option PSp) : foldS N most m f (l ++ [t]) o = (foldS N most m f l o).bind fun s => arcStep N most m f s t := by
  unfold foldS; rw [List.foldl_append]; rfl
theorem foldS_none (N : PNet) (most : Nat) (m : List Int) (f : Int) (l : List Int) : foldS N most m f l none = none := by
  induction l with
  | nil => rfl
  | cons t l ih => exact ih
/-- Once it ends, it has ended. -/
theorem foldS_ended {N : PNet} {most : Nat} {m : List Int} {f : Int} {l : List Int} {o : Option PSp} (k : Nat) (h : foldS N most m f (l.take k) o = none) : foldS N most m f l o = none := by
  have e := List.take_append_drop k l
  rw [← e]
  unfold foldS at h ⊢
  rw [List.foldl_append, h]
  exact foldS_none N most m f _
def allT (n : Nat) : List Int := (List.range n).map fun (t : Nat) => (t : Int)
/-- It is the same to go through those that can fire. -/
theorem foldS_enabled {N : PNet} {most : Nat} {m : List Int} {f : Int} (hm : fitsB N m = true) (o : Option PSp) : ∀ k, k ≤ N.trans.length → foldS N most m f (enIdx (N.trans.take k) m) o = foldS N most m f (allT k) o := by
  intro k
  induction k with
  | zero => intro _; rfl
  | succ k ih =>
    intro hk
    have hx : N.trans[k]? = some (N.trans[k]'(by omega)) := List.getElem?_eq_getElem _
    rw [take_snoc hx, enIdx_snoc, allT, List.range_succ, List.map_append, List.map_cons, List.map_nil, foldS_snoc, ← allT, ← ih (by omega)]
    have hl : (N.trans.take k).length = k := by rw [List.length_take]; omega
    have hf : fireL N m (k : Int) = fireT m (N.trans[k]'(by omega)) := by
      rw [fireL, if_pos hm, if_pos ⟨by omega, by omega⟩]
      simp [List.getD_eq_getElem?_getD, hx]
    by_cases hc : coversB m (N.trans[k]'(by omega)).pre = true
    · rw [if_pos hc, foldS_snoc, hl]
    · rw [if_neg hc, List.append_nil]
      cases hs : foldS N most m f (enIdx (N.trans.take k) m) o with
      | none => rfl
      | some s =>
        show some s = arcStep N most m f s (k : Int)
        unfold arcStep
        rw [hf, fireT, if_neg hc]
        rfl
def fromL (N : PNet) (most f : Nat) (s : PSp) : Option PSp := foldS N most (s.marks.getD f []) (f : Int) (allT N.trans.length) (some s)
/-- On from mark to mark. -/
def goM (N : PNet) (most : Nat) : Nat → Nat → PSp → Option PSp
  | 0, _, s => some s
  | g + 1, f, s => if f < s.marks.length then (fromL N most f s).bind (goM N most g (f + 1)) else some s
def graphL (N : PNet) (m : List Int) (most : Int) : PSp × Int :=
  if 1 ≤ most ∧ most ≤ 300 ∧ fitsB N m = true then (match goM N most.toNat most.toNat 0 ⟨[m], []⟩ with
    | some s => (s, 0)
    | none => (PSp.nil, 4)) else (PSp.nil, 2)

/-- The first arc to a mark. -/
def firstL (s : PSp) (k : Nat) : Option Nat := s.arcs.findIdx? fun a => a.to_ == (k : Int)
structure SpOk (N : PNet) (most : Nat) (s : PSp) : Prop where
  few : s.marks.length ≤ most
  some_ : 0 < s.marks.length
  fits : ∀ x ∈ s.marks, fitsB N x = true
  nodup : s.marks.Nodup
  ends : ∀ a ∈ s.arcs, (0 ≤ a.from_ ∧ a.from_ < (s.marks.length : Int)) ∧ (0 ≤ a.tran ∧ a.tran < (N.trans.length : Int)) ∧ (0 ≤ a.to_ ∧ a.to_ < (s.marks.length : Int))
  found : ∀ k, 0 < k → k < s.marks.length → ∃ (j : Nat) (a : PArc), s.arcs[j]? = some a ∧ a.to_ = (k : Int) ∧ a.from_ < (k : Int) ∧ ∀ i, i < j → ∀ b : PArc, s.arcs[i]? = some b → b.to_ ≠ (k : Int)
theorem findL_some {ms : List (List Int)} {x : List Int} {k : Nat} (h : findL ms x = some k) : ms[k]? = some x := by
  unfold findL at h
  rw [List.findIdx?_eq_some_iff_getElem] at h
  obtain ⟨hk, hx, _⟩ := h
  have : x = ms[k] := by simpa using hx
  rw [List.getElem?_eq_getElem hk, this]
theorem findL_none {ms : List (List Int)} {x : List Int} (h : findL ms x = none) : x ∉ ms := by
  unfold findL at h
  rw [List.findIdx?_eq_none_iff] at h
  intro hx
  have := h x hx
  simp at this
theorem findL_at {ms : List (List Int)} {x : List Int} {k : Nat} (hn : ms.Nodup) (h : ms[k]? = some x) : findL ms x = some k := by
  cases hf : findL ms x with
  | none => exact absurd (List.mem_of_getElem? h) (findL_none hf)
  | some j =>
    have hj := findL_some hf
    obtain ⟨hk1, hk2⟩ := List.getElem?_eq_some_iff.1 h
    obtain ⟨hj1, hj2⟩ := List.getElem?_eq_some_iff.1 hj
    have := (List.getElem_inj hn).1 (hj2.trans hk2.symm)
    rw [this]
theorem fire_fits {N : PNet} {m : List Int} {t : Int} (hm : fitsB N m = true) (h : (fireL N m t).2 = 0) : fitsB N (fireL N m t).1 = true ∧ 0 ≤ t ∧ t < (N.trans.length : Int) := by
  have hm' := (fitsB_iff N m).1 hm
  unfold fireL at h ⊢
  rw [if_pos hm] at h ⊢
  by_cases ht : 0 ≤ t ∧ t < (N.trans.length : Int)
  · rw [if_pos ht] at h ⊢
    have hx : N.trans[t.toNat]? = some (N.trans.getD t.toNat default) := by
      have hlt : t.toNat < N.trans.length := by omega
      simp [List.getElem?_eq_getElem hlt]
    have hT := netOk_tran hm'.1 hx
    generalize N.trans.getD t.toNat default = T at *
    unfold fireT at h ⊢
    split at h
    · rename_i h1
      rw [if_pos h1]
      split at h
      · rename_i h2
        rw [if_pos h2]
        refine ⟨(fitsB_iff _ _).2 ⟨hm'.1, ?_, h2⟩, ht⟩
        simp only [mixL_length]
        omega
      · simp at h
    · simp at h
  · rw [if_neg ht] at h
    simp at h
theorem found_snoc {s : PSp} {a0 : PArc} {k : Nat} (h : ∃ (j : Nat) (a : PArc), s.arcs[j]? = some a ∧ a.to_ = (k : Int) ∧ a.from_ < (k : Int) ∧ ∀ i, i < j → ∀ b : PArc, s.arcs[i]? = some b → b.to_ ≠ (k : Int)) :
    ∃ (j : Nat) (a : PArc), (s.arcs ++ [a0])[j]? = some a ∧ a.to_ = (k : Int) ∧ a.from_ < (k : Int) ∧ ∀ i, i < j → ∀ b : PArc, (s.arcs ++ [a0])[i]? = some b → b.to_ ≠ (k : Int) := by
  obtain ⟨j, a, h1, h2, h3, h4⟩ := h
  have hj := (List.getElem?_eq_some_iff.1 h1).1
  refine ⟨j, a, by rw [List.getElem?_append_left hj]; exact h1, h2, h3, fun i hi b hb => ?_⟩
  rw [List.getElem?_append_left (by omega)] at hb
  exact h4 i hi b hb
theorem SpOk.meet {N : PNet} {most : Nat} {s s' : PSp} {f t : Nat} {x : List Int} (h : SpOk N most s) (hf : f < s.marks.length) (ht : t < N.trans.length) (hx : fitsB N x = true) (hm : meetL most s (f : Int) (t : Int) x = some s') : SpOk N most s' ∧ s.marks <+: s'.marks := by
  unfold meetL at hm
  cases hk : findL s.marks x with
  | some k =>
    rw [hk] at hm
    simp only [Option.some.injEq] at hm
    subst hm
    have hkl := (List.getElem?_eq_some_iff.1 (findL_some hk)).1
    refine ⟨⟨h.few, h.some_, h.fits, h.nodup, fun a ha => ?_, fun k' h1 h2 => found_snoc (h.found k' h1 h2)⟩, List.prefix_rfl⟩
    rcases List.mem_append.1 ha with h1 | h1
    · exact h.ends a h1
    · rw [List.mem_singleton.1 h1]
      simp only
      omega
  | none =>
    rw [hk] at hm
    have hn := findL_none hk
    simp only at hm
    split at hm
    · cases hm
    · rename_i hlm
      simp only [Option.some.injEq] at hm
      subst hm
      have hfew := h.few
      refine ⟨⟨by simp; omega, by simp, fun y hy => ?_, ?_, fun a ha => ?_, fun k' h1 h2 => ?_⟩, List.prefix_append _ _⟩
      · rcases List.mem_append.1 hy with h1 | h1
        · exact h.fits y h1
        · rw [List.mem_singleton.1 h1]; exact hx
      · rw [List.nodup_append]
        exact ⟨h.nodup, by simp, fun a ha b hb e => hn (by rw [List.mem_singleton.1 hb] at e; rw [← e]; exact ha)⟩
      · simp only [List.length_append, List.length_cons, List.length_nil]
        rcases List.mem_append.1 ha with h1 | h1
        · have := h.ends a h1; omega
        · rw [List.mem_singleton.1 h1]
          simp only
          omega
      · simp only [List.length_append, List.length_cons, List.length_nil] at h2
        by_cases hk' : k' < s.marks.length
        · exact found_snoc (h.found k' h1 hk')
        · have hke : k' = s.marks.length := by omega
          subst hke
          refine ⟨s.arcs.length, ⟨(f : Int), (t : Int), (s.marks.length : Int)⟩, by simp, rfl, by simp only; omega, fun i hi b hb => ?_⟩
          rw [List.getElem?_append_left hi] at hb
          have := (h.ends b (List.mem_of_getElem? hb)).2.2
          omega
theorem SpOk.step {N : PNet} {most : Nat} {s s' : PSp} {f t : Nat} {m : List Int} (h : SpOk N most s) (hf : f < s.marks.length) (hm : fitsB N m = true) (hs : arcStep N most m (f : Int) s (t : Int) = some s') : SpOk N most s' ∧ s.marks <+: s'.marks := by
  unfold arcStep at hs
  split at hs
  · simp only [Option.some.injEq] at hs
    subst hs
    exact ⟨h, List.prefix_rfl⟩
  · split at hs
    · rename_i h0
      obtain ⟨hx, _, ht⟩ := fire_fits hm h0
      exact h.meet hf (by omega) hx hs
    · cases hs
theorem prefix_getD {a b : List (List Int)} (h : a <+: b) {f : Nat} (hf : f < a.length) : b.getD f [] = a.getD f [] := by
  obtain ⟨c, rfl⟩ := h
  simp [List.getD_eq_getElem?_getD, List.getElem?_append_left hf]
theorem SpOk.fold {N : PNet} {most : Nat} {f : Nat} {m : List Int} (hm : fitsB N m = true) : ∀ (l : List Nat) {s s' : PSp} (_ : SpOk N most s) (_ : f < s.marks.length) (_ : foldS N most m (f : Int) (l.map fun (t : Nat) => (t : Int)) (some s) = some s'), SpOk N most s' ∧ s.marks <+: s'.marks := by
  intro l
  induction l with
  | nil =>
    intro s s' h hf hs
    have : s = s' := by simpa [foldS] using hs
    subst this
    exact ⟨h, List.prefix_rfl⟩
  | cons t l ih =>
    intro s s' h hf hs
    have hs' : foldS N most m (f : Int) (l.map fun (t : Nat) => (t : Int)) (arcStep N most m (f : Int) s (t : Int)) = some s' := hs
    cases h1 : arcStep N most m (f : Int) s (t : Int) with
    | none => rw [h1, foldS_none] at hs'; cases hs'
    | some s1 =>
      rw [h1] at hs'
      obtain ⟨k1, k2⟩ := h.step hf hm h1
      obtain ⟨k3, k4⟩ := ih k1 (Nat.lt_of_lt_of_le hf k2.length_le) hs'
      exact ⟨k3, k2.trans k4⟩
theorem SpOk.from_ {N : PNet} {most f : Nat} {s s' : PSp} (h : SpOk N most s) (hf : f < s.marks.length) (hs : fromL N most f s = some s') : SpOk N most s' ∧ s.marks <+: s'.marks := by
  refine SpOk.fold (h.fits _ ?_) (List.range N.trans.length) h hf hs
  have : s.marks.getD f [] = s.marks[f] := by simp [List.getD_eq_getElem?_getD, List.getElem?_eq_getElem hf]
  rw [this]
  exact List.getElem_mem hf
theorem SpOk.start {N : PNet} {m : List Int} {most : Nat} (hm : fitsB N m = true) (h : 1 ≤ most) : SpOk N most ⟨[m], []⟩ :=
  ⟨h, by simp, fun x hx => by rw [List.mem_singleton.1 hx]; exact hm, by simp, fun a ha => by simp at ha, fun k h1 h2 => by simp at h2; omega⟩
theorem SpOk.go {N : PNet} {most : Nat} : ∀ (g f : Nat) {s s' : PSp} (_ : SpOk N most s) (_ : goM N most g f s = some s'), SpOk N most s' ∧ s.marks <+: s'.marks := by
  intro g
  induction g with
  | zero =>
    intro f s s' h hs
    have : s = s' := by simpa [goM] using hs
    subst this
    exact ⟨h, List.prefix_rfl⟩
  | succ g ih =>
    intro f s s' h hs
    unfold goM at hs
    split at hs
    · rename_i hf
      cases h1 : fromL N most f s with
      | none => rw [h1] at hs; cases hs
      | some s1 =>
        rw [h1] at hs
        obtain ⟨k1, k2⟩ := h.from_ hf h1
        obtain ⟨k3, k4⟩ := ih (f + 1) k1 hs
        exact ⟨k3, k2.trans k4⟩
    · simp only [Option.some.injEq] at hs
      subst hs
      exact ⟨h, List.prefix_rfl⟩
theorem graphL_ok {N : PNet} {m : List Int} {most : Int} {s : PSp} (h : graphL N m most = (s, 0)) (hs : s ≠ PSp.nil) : SpOk N most.toNat s := by
  unfold graphL at h
  split at h
  · rename_i h1
    cases hg : goM N most.toNat most.toNat 0 ⟨[m], []⟩ with
    | none => rw [hg] at h; simp at h
    | some s1 =>
      rw [hg] at h
      simp only [Prod.mk.injEq, and_true] at h
      subst h
      exact (SpOk.go _ _ (SpOk.start h1.2.2 (by omega)) hg).1
  · simp at h
/-- The run that ends at mark k, by the first arcs. -/
def backL (s : PSp) : Nat → Nat → List Int
  | 0, _ => []
  | g + 1, k => if k = 0 then [] else match s.arcs.find? fun a => a.to_ == (k : Int) with
    | some a => backL s g a.from_.toNat ++ [a.tran]
    | none => []
def pathL (N : PNet) (m goal : List Int) (most : Int) : List Int × Int :=
  if (graphL N m most).2 = 0 then (match findL (graphL N m most).1.marks goal with
    | some k => (backL (graphL N m most).1 k k, 0)
    | none => ([], 3)) else ([], (graphL N m most).2)
theorem SpOk.find {N : PNet} {most : Nat} {s : PSp} (h : SpOk N most s) {k : Nat} (h0 : 0 < k) (hk : k < s.marks.length) : ∃ (j : Nat) (a : PArc), s.arcs[j]? = some a ∧ a.to_ = (k : Int) ∧ 0 ≤ a.from_ ∧ a.from_ < (k : Int) ∧ (∀ i, i < j → ∀ b : PArc, s.arcs[i]? = some b → b.to_ ≠ (k : Int)) ∧ s.arcs.find? (fun a => a.to_ == (k : Int)) = some a := by
  obtain ⟨j, a, h1, h2, h3, h4⟩ := h.found k h0 hk
  refine ⟨j, a, h1, h2, (h.ends a (List.mem_of_getElem? h1)).1.1, h3, h4, ?_⟩
  obtain ⟨hj, hja⟩ := List.getElem?_eq_some_iff.1 h1
  rw [List.find?_eq_some_iff_getElem]
  refine ⟨by simpa using h2, j, hj, hja, fun i hi => ?_⟩
  have := h4 i hi _ (List.getElem?_eq_getElem (by omega))
  simpa using this
theorem backL_zero (s : PSp) : ∀ g, backL s g 0 = []
  | 0 => rfl
  | _ + 1 => rfl
theorem backL_same {N : PNet} {most : Nat} {s : PSp} (h : SpOk N most s) (k : Nat) : k < s.marks.length → ∀ g g', k ≤ g → k ≤ g' → backL s g k = backL s g' k := by
  induction k using Nat.strongRecOn with
  | _ k ih =>
    intro hl g g' hg hg'
    by_cases h0 : k = 0
    · subst h0; rw [backL_zero, backL_zero]
    · obtain ⟨j, a, _, _, hf0, hf1, _, hf⟩ := h.find (by omega) hl
      obtain ⟨g1, rfl⟩ : ∃ g1, g = g1 + 1 := ⟨g - 1, by omega⟩
      obtain ⟨g2, rfl⟩ : ∃ g2, g' = g2 + 1 := ⟨g' - 1, by omega⟩
      have e1 : backL s (g1 + 1) k = backL s g1 a.from_.toNat ++ [a.tran] := by rw [backL, if_neg h0, hf]
      have e2 : backL s (g2 + 1) k = backL s g2 a.from_.toNat ++ [a.tran] := by rw [backL, if_neg h0, hf]
      rw [e1, e2, ih a.from_.toNat (by omega) (by omega) g1 g2 (by omega) (by omega)]
/-- One step back. -/
theorem backL_step {N : PNet} {most : Nat} {s : PSp} (h : SpOk N most s) {k : Nat} (h0 : 0 < k) (hl : k < s.marks.length) {a : PArc} (ha : s.arcs.find? (fun a => a.to_ == (k : Int)) = some a) (hf : 0 ≤ a.from_ ∧ a.from_ < (k : Int)) : backL s k k = backL s a.from_.toNat a.from_.toNat ++ [a.tran] := by
  obtain ⟨k', rfl⟩ : ∃ k', k = k' + 1 := ⟨k - 1, by omega⟩
  have e1 : backL s (k' + 1) (k' + 1) = backL s k' a.from_.toNat ++ [a.tran] := by rw [backL, if_neg (by omega), ha]
  rw [e1, backL_same h a.from_.toNat (by omega) k' a.from_.toNat (by omega) (Nat.le_refl _)]
end Go.Proofs.Ytnfppolgaeibeaa
namespace Go.Proofs.Ytnfppolgaeibeaa

theorem enIdx_mem {ts : List PTran} {m : List Int} {t : Int} (h : t ∈ enIdx ts m) : ∃ (i : Nat) (T : PTran), t = (i : Int) ∧ ts[i]? = some T ∧ coversB m T.pre = true := by
  unfold enIdx at h
  obtain ⟨p, hp, rfl⟩ := List.mem_map.1 h
  obtain ⟨h1, h2⟩ := List.mem_filter.1 hp
  exact ⟨p.2, p.1, rfl, List.mem_zipIdx_iff_getElem?.1 h1, by simpa using h2⟩
theorem enIdx_fire {N : PNet} {m : List Int} {t : Int} (hf : fitsB N m = true) (h : t ∈ enIdx N.trans m) : (∃ i : Nat, i < N.trans.length ∧ t = (i : Int)) ∧ ((fireL N m t).2 = 0 ∨ (fireL N m t).2 = 4) := by
  obtain ⟨i, T, rfl, hT, hc⟩ := enIdx_mem h
  have hi := (List.getElem?_eq_some_iff.1 hT).1
  refine ⟨⟨i, hi, rfl⟩, ?_⟩
  have : fireL N m (i : Int) = fireT m T := by
    rw [fireL, if_pos hf, if_pos ⟨by omega, by omega⟩]
    simp [List.getD_eq_getElem?_getD, hT]
  rw [this, fireT, if_pos hc]
  split
  · exact .inl rfl
  · exact .inr rfl
def findP (M : Nat) (ms : List (List Int)) (fs : List Int) (x : List Int) (a : Int) : List (List Int) × List Int × Int × Bool :=
  match findL ms x with
  | some k => (ms, fs, (k : Int), true)
  | none => if ms.length = M then (ms, fs, 0, false) else (ms ++ [x], fs ++ [a], (ms.length : Int), true)
structure FstOk (s : PSp) (fs : List Int) : Prop where
  len : fs.length = s.marks.length
  at_ : ∀ k, 0 < k → k < s.marks.length → ∃ j : Nat, fs[k]? = some (j : Int) ∧ firstL s k = some j
theorem FstOk.start (m : List Int) : FstOk ⟨[m], []⟩ [-1] := ⟨rfl, fun k h1 h2 => by simp at h2; omega⟩
theorem firstL_snoc {s : PSp} {a : PArc} {k j : Nat} (h : firstL s k = some j) (ms : List (List Int)) : firstL ⟨ms, s.arcs ++ [a]⟩ k = some j := by
  unfold firstL at h ⊢
  rw [List.findIdx?_append, h]
  rfl
theorem FstOk.meet {M : Nat} {s : PSp} {fs : List Int} {x : List Int} {f t : Int} (h : FstOk s fs) (he : ∀ a ∈ s.arcs, a.to_ < (s.marks.length : Int)) :
    ((findP M s.marks fs x (s.arcs.length : Int)).2.2.2 = false ∧ meetL M s f t x = none) ∨ ((findP M s.marks fs x (s.arcs.length : Int)).2.2.2 = true ∧ meetL M s f t x = some ⟨(findP M s.marks fs x (s.arcs.length : Int)).1, s.arcs ++ [⟨f, t, (findP M s.marks fs x (s.arcs.length : Int)).2.2.1⟩]⟩ ∧
      FstOk ⟨(findP M s.marks fs x (s.arcs.length : Int)).1, s.arcs ++ [⟨f, t, (findP M s.marks fs x (s.arcs.length : Int)).2.2.1⟩]⟩ (findP M s.marks fs x (s.arcs.length : Int)).2.1) := by
  unfold findP meetL
  cases hf : findL s.marks x with
  | some k =>
    refine .inr ⟨rfl, rfl, ⟨h.len, fun k' h1 h2 => ?_⟩⟩
    obtain ⟨j, e1, e2⟩ := h.at_ k' h1 h2
    exact ⟨j, e1, firstL_snoc e2 _⟩
  | none =>
    by_cases hl : s.marks.length = M
    · refine .inl ?_
      simp only [hl, if_true]
      exact ⟨trivial, trivial⟩
    · refine .inr ?_
      simp only [hl, if_false]
      refine ⟨trivial, trivial, ⟨by simp [h.len], fun k' h1 h2 => ?_⟩⟩
      simp only [List.length_append, List.length_cons, List.length_nil] at h2
      by_cases hk : k' < s.marks.length
      · obtain ⟨j, e1, e2⟩ := h.at_ k' h1 hk
        exact ⟨j, by rw [List.getElem?_append_left (by rw [h.len]; exact hk)]; exact e1, firstL_snoc e2 _⟩
      · obtain rfl : k' = s.marks.length := by omega
        refine ⟨s.arcs.length, by rw [← h.len]; simp, ?_⟩
        unfold firstL
        rw [List.findIdx?_append]
        have : s.arcs.findIdx? (fun a => a.to_ == (s.marks.length : Int)) = none := by
          rw [List.findIdx?_eq_none_iff]
          intro a ha
          have := he a ha
          simp
          omega
        rw [this]
        simp
theorem meetL_len {M : Nat} {s s' : PSp} {f t : Int} {x : List Int} (h : meetL M s f t x = some s') : s'.arcs.length = s.arcs.length + 1 := by
  unfold meetL at h
  split at h
  · simp only [Option.some.injEq] at h; subst h; simp
  · split at h
    · cases h
    · simp only [Option.some.injEq] at h; subst h; simp
end Go.Proofs.Ytnfppolgaeibeaa
namespace Go.Proofs.Ytnfppolgaeibeaa

/-- ys is xs, turned around up to i from both ends. -/
def TurnedTo (xs ys : List Int) (i : Nat) : Prop := ys.length = xs.length ∧ ∀ p, p < xs.length → ys[p]? = if p < i ∨ xs.length ≤ p + i then xs[xs.length - 1 - p]? else xs[p]?
theorem TurnedTo.start (xs : List Int) : TurnedTo xs xs 0 := ⟨rfl, fun p hp => by rw [if_neg (by omega)]⟩
theorem TurnedTo.step {xs ys : List Int} {i j : Nat} {u v : Int} (h : TurnedTo xs ys i) (hj : j + i + 1 = xs.length) (hi : i < j) (hu : ys[i]? = some u) (hv : ys[j]? = some v) : TurnedTo xs ((ys.set i v).set j u) (i + 1) := by
  refine ⟨by simp [h.1], fun p hp => ?_⟩
  have hl := h.1
  have h1 := h.2 i (by omega)
  have h2 := h.2 j (by omega)
  rw [if_neg (by omega)] at h1 h2
  by_cases e1 : p = j
  · subst e1
    rw [List.getElem?_set_self (by simp; omega), if_pos (by omega), show xs.length - 1 - p = i by omega, ← h1, hu]
  · rw [List.getElem?_set_ne (by omega)]
    by_cases e2 : p = i
    · subst e2
      rw [List.getElem?_set_self (by omega), if_pos (by omega), show xs.length - 1 - p = j by omega, ← h2, hv]
    · rw [List.getElem?_set_ne (by omega), h.2 p hp]
      by_cases e3 : p < i ∨ xs.length ≤ p + i
      · rw [if_pos e3, if_pos (by omega)]
      · rw [if_neg e3, if_neg (by omega)]
theorem TurnedTo.done {xs ys : List Int} {i : Nat} (h : TurnedTo xs ys i) (hi : xs.length ≤ 2 * i + 1) : ys = xs.reverse := by
  refine List.ext_getElem? fun p => ?_
  by_cases hp : p < xs.length
  · rw [h.2 p hp, List.getElem?_reverse hp]
    by_cases e : p < i ∨ xs.length ≤ p + i
    · rw [if_pos e]
    · rw [if_neg e, show xs.length - 1 - p = p by omega]
  · rw [List.getElem?_eq_none (by rw [h.1]; omega), List.getElem?_eq_none (by simp; omega)]
theorem firstL_arc {s : PSp} {k j : Nat} (h : firstL s k = some j) : ∃ a, s.arcs[j]? = some a ∧ s.arcs.find? (fun a => a.to_ == (k : Int)) = some a := by
  unfold firstL at h
  rw [List.findIdx?_eq_some_iff_getElem] at h
  obtain ⟨hj, h1, h2⟩ := h
  refine ⟨s.arcs[j], List.getElem?_eq_getElem hj, ?_⟩
  rw [List.find?_eq_some_iff_getElem]
  exact ⟨h1, j, hj, rfl, fun i hi => by simpa using h2 i hi⟩
theorem idx_findL (ms : List (List Int)) (x : List Int) : idxFirst (fun y => y == x) ms = match findL ms x with | some k => (k : Int) | none => -1 := by
  unfold idxFirst findL
  have : (fun y : List Int => y == x) = (fun y => x == y) := by funext y; exact Bool.beq_comm
  rw [this]
  cases List.findIdx? (fun y => x == y) ms <;> rfl
theorem findL_lt {ms : List (List Int)} {x : List Int} {k : Nat} (h : findL ms x = some k) : k < ms.length := (List.getElem?_eq_some_iff.1 (findL_some h)).1
theorem pathL_err {N : PNet} {m goal : List Int} {most : Int} {s : PSp} {k : Int} (h : graphL N m most = (s, k)) (hk : k ≠ 0) : pathL N m goal most = ([], k) := by
  rw [pathL, h, if_neg hk]
theorem pathL_none {N : PNet} {m goal : List Int} {most : Int} {s : PSp} (h : graphL N m most = (s, 0)) (hk : findL s.marks goal = none) : pathL N m goal most = ([], 3) := by
  rw [pathL, h, if_pos rfl]; simp only [hk]
theorem pathL_some {N : PNet} {m goal : List Int} {most : Int} {s : PSp} {k : Nat} (h : graphL N m most = (s, 0)) (hk : findL s.marks goal = some k) : pathL N m goal most = (backL s k k, 0) := by
  rw [pathL, h, if_pos rfl]; simp only [hk]
theorem graphL_most {N : PNet} {m : List Int} {most : Int} (h : (graphL N m most).2 = 0) : (1 ≤ most ∧ most ≤ 300) ∧ SpOk N most.toNat (graphL N m most).1 := by
  unfold graphL at h ⊢
  split at h
  · rename_i h1
    rw [if_pos h1]
    cases hg : goM N most.toNat most.toNat 0 ⟨[m], []⟩ with
    | none => rw [hg] at h; simp at h
    | some s1 => exact ⟨⟨h1.1, h1.2.1⟩, (SpOk.go _ _ (SpOk.start h1.2.2 (by omega)) hg).1⟩
  · simp at h
end Go.Proofs.Ytnfppolgaeibeaa
