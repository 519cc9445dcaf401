/- Texts melted into one: The plain law of exploration: all marks that a net comes to, in the order in which they are found, and arcs between them; a shortest run. No program in sight. | More of the plain law of exploration: who can fire, and the first arcs kept beside. No program in sight. | More plain laws: turning a list around in place; the arc by which a mark was found first. No program in sight. | Append of a whole slice to a slice of the call's own; slices.Clone on integers and on transitions. Conditions: the lengths stay below what memory bears. | Append of new elements inside a region that draws its order; transitions whose lists are the call's own. Conditions: the lengths stay below what memory bears. -/
import Derived.Test.YtniolbbhjibobaaDoorBlocksListK03
import Derived.Test.YtniolbbhjibobaaDoorBlocksListK02
import Derived.Deep.AppendLies
set_option linter.all false
namespace Go.Proofs.YtniolbbhjibobaaDoor

structure PArc where
  from_ : Int
  tran : Int
  to_ : Int
structure PSp where
  marks : List (List Int)
  arcs : List PArc
def PSp.nil : PSp := ⟨[], []⟩
def findL (ms : List (List Int)) (x : List Int) : Option Nat := ms.findIdx? fun y => x == y
/-- A mark that is reached from number f by t. -/
def meetL (most : Nat) (s : PSp) (f t : Int) (x : List Int) : Option PSp :=
  match findL s.marks x with
  | some k => some ⟨s.marks, s.arcs ++ [⟨f, t, (k : Int)⟩]⟩
  | none => if s.marks.length = most then none else some ⟨s.marks ++ [x], s.arcs ++ [⟨f, t, (s.marks.length : Int)⟩]⟩
def arcStep (N : PNet) (most : Nat) (m : List Int) (f : Int) (s : PSp) (t : Int) : Option PSp :=
  if (fireL N m t).2 = 3 then some s else if (fireL N m t).2 = 0 then meetL most s f t (fireL N m t).1 else none
def foldS (N : PNet) (most : Nat) (m : List Int) (f : Int) (l : List Int) (o : Option PSp) : Option PSp := l.foldl (fun o t => o.bind fun s => arcStep N most m f s t) o
theorem foldS_none (N : PNet) (most : Nat) (m : List Int) (f : Int) (l : List Int) : foldS N most m f l none = none := by
  induction l with
  | nil => rfl
  | cons t l ih => exact ih
def allT (n : Nat) : List Int := (List.range n).map fun (t : Nat) => (t : Int)
def fromL (N : PNet) (most f : Nat) (s : PSp) : Option PSp := foldS N most (s.marks.getD f []) (f : Int) (allT N.trans.length) (some s)
/-- On from mark to mark. -/
def goM (N : PNet) (most : Nat) : Nat → Nat → PSp → Option PSp
  | 0, _, s => some s
  | g + 1, f, s => if f < s.marks.length then (fromL N most f s).bind (goM N most g (f + 1)) else some s
/-- The first arc to a mark. -/
def firstL (s : PSp) (k : Nat) : Option Nat := s.arcs.findIdx? fun a => a.to_ == (k : Int)
structure SpOk (N : PNet) (most : Nat) (s : PSp) : Prop where
  few : s.marks.length ≤ most
  some_ : 0 < s.marks.length
  fits : ∀ x ∈ s.marks, fitsB N x = true
  nodup : s.marks.Nodup
  ends : ∀ a ∈ s.arcs, (0 ≤ a.from_ ∧ a.from_ < (s.marks.length : Int)) ∧ (0 ≤ a.tran ∧ a.tran < (N.trans.length : Int)) ∧ (0 ≤ a.to_ ∧ a.to_ < (s.marks.length : Int))
  found : ∀ k, 0 < k → k < s.marks.length → ∃ (j : Nat) (a : PArc), s.arcs[j]? = some a ∧ a.to_ = (k : Int) ∧ a.from_ < (k : Int) ∧ ∀ i, i < j → ∀ b : PArc, s.arcs[i]? = some b → b.to_ ≠ (k : Int)
theorem findL_some {ms : List (List Int)} {x : List Int} {k : Nat} (h : findL ms x = some k) : ms[k]? = some x := by
  unfold findL at h
  rw [List.findIdx?_eq_some_iff_getElem] at h
  obtain ⟨hk, hx, _⟩ := h
  have : x = ms[k] := by simpa using hx
  rw [List.getElem?_eq_getElem hk, this]
theorem findL_none {ms : List (List Int)} {x : List Int} (h : findL ms x = none) : x ∉ ms := by
  unfold findL at h
  rw [List.findIdx?_eq_none_iff] at h
  intro hx
  have := h x hx
  simp at this
theorem fire_fits {N : PNet} {m : List Int} {t : Int} (hm : fitsB N m = true) (h : (fireL N m t).2 = 0) : fitsB N (fireL N m t).1 = true ∧ 0 ≤ t ∧ t < (N.trans.length : Int) := by
  have hm' := (fitsB_iff N m).1 hm
  unfold fireL at h ⊢
  rw [if_pos hm] at h ⊢
  by_cases ht : 0 ≤ t ∧ t < (N.trans.length : Int)
  · rw [if_pos ht] at h ⊢
    have hx : N.trans[t.toNat]? = some (N.trans.getD t.toNat default) := by
      have hlt : t.toNat < N.trans.length := by omega
      simp [List.getElem?_eq_getElem hlt]
    have hT := netOk_tran hm'.1 hx
    generalize N.trans.getD t.toNat default = T at *
    unfold fireT at h ⊢
    split at h
    · rename_i h1
      rw [if_pos h1]
      split at h
      · rename_i h2
        rw [if_pos h2]
        refine ⟨(fitsB_iff _ _).2 ⟨hm'.1, ?_, h2⟩, ht⟩
        simp only [mixL_length]
        omega
      · simp at h
    · simp at h
  · rw [if_neg ht] at h
    simp at h
theorem found_snoc {s : PSp} {a0 : PArc} {k : Nat} (h : ∃ (j : Nat) (a : PArc), s.arcs[j]? = some a ∧ a.to_ = (k : Int) ∧ a.from_ < (k : Int) ∧ ∀ i, i < j → ∀ b : PArc, s.arcs[i]? = some b → b.to_ ≠ (k : Int)) :
    ∃ (j : Nat) (a : PArc), (s.arcs ++ [a0])[j]? = some a ∧ a.to_ = (k : Int) ∧ a.from_ < (k : Int) ∧ ∀ i, i < j → ∀ b : PArc, (s.arcs ++ [a0])[i]? = some b → b.to_ ≠ (k : Int) := by
  obtain ⟨j, a, h1, h2, h3, h4⟩ := h
  have hj := (List.getElem?_eq_some_iff.1 h1).1
  refine ⟨j, a, by rw [List.getElem?_append_left hj]; exact h1, h2, h3, fun i hi b hb => ?_⟩
  rw [List.getElem?_append_left (by omega)] at hb
  exact h4 i hi b hb
theorem SpOk.meet {N : PNet} {most : Nat} {s s' : PSp} {f t : Nat} {x : List Int} (h : SpOk N most s) (hf : f < s.marks.length) (ht : t < N.trans.length) (hx : fitsB N x = true) (hm : meetL most s (f : Int) (t : Int) x = some s') : SpOk N most s' ∧ s.marks <+: s'.marks := by
  unfold meetL at hm
  cases hk : findL s.marks x with
  | some k =>
    rw [hk] at hm
    simp only [Option.some.injEq] at hm
    subst hm
    have hkl := (List.getElem?_eq_some_iff.1 (findL_some hk)).1
    refine ⟨⟨h.few, h.some_, h.fits, h.nodup, fun a ha => ?_, fun k' h1 h2 => found_snoc (h.found k' h1 h2)⟩, List.prefix_rfl⟩
    rcases List.mem_append.1 ha with h1 | h1
    · exact h.ends a h1
    · rw [List.mem_singleton.1 h1]
      simp only
      omega
  | none =>
    rw [hk] at hm
    have hn := findL_none hk
    simp only at hm
    split at hm
    · cases hm
    · rename_i hlm
      simp only [Option.some.injEq] at hm
      subst hm
      have hfew := h.few
      refine ⟨⟨by simp; omega, by simp, fun y hy => ?_, ?_, fun a ha => ?_, fun k' h1 h2 => ?_⟩, List.prefix_append _ _⟩
      · rcases List.mem_append.1 hy with h1 | h1
        · exact h.fits y h1
        · rw [List.mem_singleton.1 h1]; exact hx
      · rw [List.nodup_append]
        exact ⟨h.nodup, by simp, fun a ha b hb e => hn (by rw [List.mem_singleton.1 hb] at e; rw [← e]; exact ha)⟩
      · simp only [List.length_append, List.length_cons, List.length_nil]
        rcases List.mem_append.1 ha with h1 | h1
        · have := h.ends a h1; omega
        · rw [List.mem_singleton.1 h1]
          simp only
          omega
      · simp only [List.length_append, List.length_cons, List.length_nil] at h2
        by_cases hk' : k' < s.marks.length
        · exact found_snoc (h.found k' h1 hk')
        · have hke : k' = s.marks.length := by omega
          subst hke
          refine ⟨s.arcs.length, ⟨(f : Int), (t : Int), (s.marks.length : Int)⟩, by simp, rfl, by simp only; omega, fun i hi b hb => ?_⟩
          rw [List.getElem?_append_left hi] at hb
          have := (h.ends b (List.mem_of_getElem? hb)).2.2
          omega
theorem SpOk.step {N : PNet} {most : Nat} {s s' : PSp} {f t : Nat} {m : List Int} (h : SpOk N most s) (hf : f < s.marks.length) (hm : fitsB N m = true) (hs : arcStep N most m (f : Int) s (t : Int) = some s') : SpOk N most s' ∧ s.marks <+: s'.marks := by
  unfold arcStep at hs
  split at hs
  · simp only [Option.some.injEq] at hs
    subst hs
    exact ⟨h, List.prefix_rfl⟩
  · split at hs
    · rename_i h0
      obtain ⟨hx, _, ht⟩ := fire_fits hm h0
      exact h.meet hf (by omega) hx hs
    · cases hs
theorem SpOk.fold {N : PNet} {most : Nat} {f : Nat} {m : List Int} (hm : fitsB N m = true) : ∀ (l : List Nat) {s s' : PSp} (_ : SpOk N most s) (_ : f < s.marks.length) (_ : foldS N most m (f : Int) (l.map fun (t : Nat) => (t : Int)) (some s) = some s'), SpOk N most s' ∧ s.marks <+: s'.marks := by
  intro l
  induction l with
  | nil =>
    intro s s' h hf hs
    have : s = s' := by simpa [foldS] using hs
    subst this
    exact ⟨h, List.prefix_rfl⟩
  | cons t l ih =>
    intro s s' h hf hs
    have hs' : foldS N most m (f : Int) (l.map fun (t : Nat) => (t : Int)) (arcStep N most m (f : Int) s (t : Int)) = some s' := hs
    cases h1 : arcStep N most m (f : Int) s (t : Int) with
    | none => rw [h1, foldS_none] at hs'; cases hs'
    | some s1 =>
      rw [h1] at hs'
      obtain ⟨k1, k2⟩ := h.step hf hm h1
      obtain ⟨k3, k4⟩ := ih k1 (Nat.lt_of_lt_of_le hf k2.length_le) hs'
      exact ⟨k3, k2.trans k4⟩
theorem SpOk.from_ {N : PNet} {most f : Nat} {s s' : PSp} (h : SpOk N most s) (hf : f < s.marks.length) (hs : fromL N most f s = some s') : SpOk N most s' ∧ s.marks <+: s'.marks := by
  refine SpOk.fold (h.fits _ ?_) (List.range N.trans.length) h hf hs
  have : s.marks.getD f [] = s.marks[f] := by simp [List.getD_eq_getElem?_getD, List.getElem?_eq_getElem hf]
  rw [this]
  exact List.getElem_mem hf
theorem SpOk.start {N : PNet} {m : List Int} {most : Nat} (hm : fitsB N m = true) (h : 1 ≤ most) : SpOk N most ⟨[m], []⟩ :=
  ⟨h, by simp, fun x hx => by rw [List.mem_singleton.1 hx]; exact hm, by simp, fun a ha => by simp at ha, fun k h1 h2 => by simp at h2; omega⟩
theorem SpOk.go {N : PNet} {most : Nat} : ∀ (g f : Nat) {s s' : PSp} (_ : SpOk N most s) (_ : goM N most g f s = some s'), SpOk N most s' ∧ s.marks <+: s'.marks := by
  intro g
  induction g with
  | zero =>
    intro f s s' h hs
    have : s = s' := by simpa [goM] using hs
    subst this
    exact ⟨h, List.prefix_rfl⟩
  | succ g ih =>
    intro f s s' h hs
    unfold goM at hs
    split at hs
    · rename_i hf
      cases h1 : fromL N most f s with
      | none => rw [h1] at hs; cases hs
      | some s1 =>
        rw [h1] at hs
        obtain ⟨k1, k2⟩ := h.from_ hf h1
        obtain ⟨k3, k4⟩ := ih (f + 1) k1 hs
        exact ⟨k3, k2.trans k4⟩
    · simp only [Option.some.injEq] at hs
      subst hs
      exact ⟨h, List.prefix_rfl⟩
end Go.Proofs.YtniolbbhjibobaaDoor
namespace Go.Proofs.YtniolbbhjibobaaDoor

def findP (M : Nat) (ms : List (List Int)) (fs : List Int) (x : List Int) (a : Int) : List (List Int) × List Int × Int × Bool :=
  match findL ms x with
  | some k => (ms, fs, (k : Int), true)
  | none => if ms.length = M then (ms, fs, 0, false) else (ms ++ [x], fs ++ [a], (ms.length : Int), true)
structure FstOk (s : PSp) (fs : List Int) : Prop where
  len : fs.length = s.marks.length
  at_ : ∀ k, 0 < k → k < s.marks.length → ∃ j : Nat, fs[k]? = some (j : Int) ∧ firstL s k = some j
theorem FstOk.start (m : List Int) : FstOk ⟨[m], []⟩ [-1] := ⟨rfl, fun k h1 h2 => by simp at h2; omega⟩
theorem firstL_snoc {s : PSp} {a : PArc} {k j : Nat} (h : firstL s k = some j) (ms : List (List Int)) : firstL ⟨ms, s.arcs ++ [a]⟩ k = some j := by
  unfold firstL at h ⊢
  rw [List.findIdx?_append, h]
  rfl
theorem FstOk.meet {M : Nat} {s : PSp} {fs : List Int} {x : List Int} {f t : Int} (h : FstOk s fs) (he : ∀ a ∈ s.arcs, a.to_ < (s.marks.length : Int)) :
    ((findP M s.marks fs x (s.arcs.length : Int)).2.2.2 = false ∧ meetL M s f t x = none) ∨ ((findP M s.marks fs x (s.arcs.length : Int)).2.2.2 = true ∧ meetL M s f t x = some ⟨(findP M s.marks fs x (s.arcs.length : Int)).1, s.arcs ++ [⟨f, t, (findP M s.marks fs x (s.arcs.length : Int)).2.2.1⟩]⟩ ∧
      FstOk ⟨(findP M s.marks fs x (s.arcs.length : Int)).1, s.arcs ++ [⟨f, t, (findP M s.marks fs x (s.arcs.length : Int)).2.2.1⟩]⟩ (findP M s.marks fs x (s.arcs.length : Int)).2.1) := by
  unfold findP meetL
  cases hf : findL s.marks x with
  | some k =>
    refine .inr ⟨rfl, rfl, ⟨h.len, fun k' h1 h2 => ?_⟩⟩
    obtain ⟨j, e1, e2⟩ := h.at_ k' h1 h2
    exact ⟨j, e1, firstL_snoc e2 _⟩
  | none =>
    by_cases hl : s.marks.length = M
    · refine .inl ?_
      simp only [hl, if_true]
      exact ⟨trivial, trivial⟩
    · refine .inr ?_
      simp only [hl, if_false]
      refine ⟨trivial, trivial, ⟨by simp [h.len], fun k' h1 h2 => ?_⟩⟩
      simp only [List.length_append, List.length_cons, List.length_nil] at h2
      by_cases hk : k' < s.marks.length
      · obtain ⟨j, e1, e2⟩ := h.at_ k' h1 hk
        exact ⟨j, by rw [List.getElem?_append_left (by rw [h.len]; exact hk)]; exact e1, firstL_snoc e2 _⟩
      · obtain rfl : k' = s.marks.length := by omega
        refine ⟨s.arcs.length, by rw [← h.len]; simp, ?_⟩
        unfold firstL
        rw [List.findIdx?_append]
        have : s.arcs.findIdx? (fun a => a.to_ == (s.marks.length : Int)) = none := by
          rw [List.findIdx?_eq_none_iff]
          intro a ha
          have := he a ha
          simp
          omega
        rw [this]
        simp
end Go.Proofs.YtniolbbhjibobaaDoor
namespace Go.Proofs.YtniolbbhjibobaaDoor

/-- ys is xs, turned around up to i from both ends. -/
def TurnedTo (xs ys : List Int) (i : Nat) : Prop := ys.length = xs.length ∧ ∀ p, p < xs.length → ys[p]? = if p < i ∨ xs.length ≤ p + i then xs[xs.length - 1 - p]? else xs[p]?
theorem TurnedTo.start (xs : List Int) : TurnedTo xs xs 0 := ⟨rfl, fun p hp => by rw [if_neg (by omega)]⟩
theorem TurnedTo.step {xs ys : List Int} {i j : Nat} {u v : Int} (h : TurnedTo xs ys i) (hj : j + i + 1 = xs.length) (hi : i < j) (hu : ys[i]? = some u) (hv : ys[j]? = some v) : TurnedTo xs ((ys.set i v).set j u) (i + 1) := by
  refine ⟨by simp [h.1], fun p hp => ?_⟩
  have hl := h.1
  have h1 := h.2 i (by omega)
  have h2 := h.2 j (by omega)
  rw [if_neg (by omega)] at h1 h2
  by_cases e1 : p = j
  · subst e1
    rw [List.getElem?_set_self (by simp; omega), if_pos (by omega), show xs.length - 1 - p = i by omega, ← h1, hu]
  · rw [List.getElem?_set_ne (by omega)]
    by_cases e2 : p = i
    · subst e2
      rw [List.getElem?_set_self (by omega), if_pos (by omega), show xs.length - 1 - p = j by omega, ← h2, hv]
    · rw [List.getElem?_set_ne (by omega), h.2 p hp]
      by_cases e3 : p < i ∨ xs.length ≤ p + i
      · rw [if_pos e3, if_pos (by omega)]
      · rw [if_neg e3, if_neg (by omega)]
theorem TurnedTo.done {xs ys : List Int} {i : Nat} (h : TurnedTo xs ys i) (hi : xs.length ≤ 2 * i + 1) : ys = xs.reverse := by
  refine List.ext_getElem? fun p => ?_
  by_cases hp : p < xs.length
  · rw [h.2 p hp, List.getElem?_reverse hp]
    by_cases e : p < i ∨ xs.length ≤ p + i
    · rw [if_pos e]
    · rw [if_neg e, show xs.length - 1 - p = p by omega]
  · rw [List.getElem?_eq_none (by rw [h.1]; omega), List.getElem?_eq_none (by simp; omega)]
end Go.Proofs.YtniolbbhjibobaaDoor
namespace Go.Proofs.YtniolbbhjibobaaDoor
open Go.RowKit

/-- Append of a slice (not nil) that reads as ys. -/
theorem wpList_appSl {α : Type} {R : World → (Nat → Value) → α → Prop} {t e size bytes : Nat} (T : SlTy t e size bytes) (G : Good R size) {ops : Array Oper} {rest : List Oper} {o : Oper} {a : Act} {Q : Exit → Act → World → Prop} (hgd : o.guard = none) (s x : Operand)
    (ho : o.op = .call { callee := .builtin .append, args := #[s, x], argTypes := #[t, t] })
    {w0 w : World} {B : Nat} {v : Value} {n m c : Nat} {ad : Addr} {xs ys : List α} (hs : a.eval s = v) (hx : a.eval x = .slice (some ad) m c)
    (own : OwnSl R size w B e v n xs) (src : Sl R size w (some ad) m c ys) (hb : Below B w0 w) (hB : B ≤ w.heap.size) (h63 : n + m ≤ 281474976710656) (hn : (n + m) * bytes ≤ 140737488355328)
    (hkeep : ∀ w', w.grownBy w' v.ownBlock → ∀ vs y, R w vs y → R w' vs y)
    (K : ∀ v' w', OwnSl R size w' B e v' (n + m) (xs ++ ys) → w.grownBy w' v.ownBlock → Below B w0 w' → wpList Tryd.prog ops Q rest (a.put o.dst v') w') :
    wpList Tryd.prog ops Q (o :: rest) a w := by
  obtain ⟨i, z, h1, h2, h3, h4, h5⟩ := T.info
  obtain ⟨cells, o1, o2, o3⟩ := own
  obtain ⟨ds, d1, d2, d3, d4, d5⟩ := src.flat G
  refine wpList_append_own _ hgd s x t ho B e i z size bytes T.und h1 h2 h3 h4 h5 T.pos v n cells hs o1 ad m c ds hx d1 (d3 ad rfl) d4 (by simp only [maxLen]; omega) hn hB (fun v' w' h6 h7 _ => ?_)
  refine K v' w' ⟨_, h6, ?_, by rw [List.length_append, o3, src.len]⟩ h7 (hb.grown h7 hB (fun k hk => (o1.lt k hk).1))
  have := o2.append d5
  exact ⟨this.1, fun i x hx => by obtain ⟨vs, a, b⟩ := this.2 i x hx; exact ⟨vs, a, hkeep _ h7 _ _ b⟩⟩

theorem OwnSl.empty {α : Type} {R : World → (Nat → Value) → α → Prop} {sz : Nat} {w : World} {B e : Nat} (hB : B ≤ w.heap.size) : OwnSl R sz (w.alloc (.cells #[] e)) B e (.slice (some ⟨w.heap.size, 0, none⟩) 0 0) 0 ([] : List α) :=
  ⟨[], World.ownsRow_made w #[] 0 hB (by simp [maxLen]) (by simp), Reads.nil, rfl⟩

end Go.Proofs.YtniolbbhjibobaaDoor
namespace Go.Proofs.YtniolbbhjibobaaDoor
open Go.RowKit

theorem OwnSl.base {α : Type} {R : World → (Nat → Value) → α → Prop} {sz : Nat} {w : World} {B B' e : Nat} {v : Value} {n : Nat} {xs : List α} (h : OwnSl R sz w B e v n xs) (hB : B' ≤ B) : OwnSl R sz w B' e v n xs := by
  obtain ⟨cells, ⟨h0, h1⟩, h2, h3⟩ := h
  refine ⟨cells, ⟨h0, ?_⟩, h2, h3⟩
  rcases h1 with h1 | ⟨g, cap, cur, hv, hg, r⟩
  · exact .inl h1
  · exact .inr ⟨g, cap, cur, hv, by omega, r⟩
/-- Two rows of different element types never share a block. -/
theorem own_ne {w : World} {B1 B2 e1 e2 s1 s2 n1 n2 : Nat} {v1 v2 : Value} {c1 c2 : List Value} (h1 : w.ownsRow B1 e1 s1 v1 n1 c1) (h2 : w.ownsRow B2 e2 s2 v2 n2 c2) (hne : e1 ≠ e2) : v1.ownBlock = none ∨ v1.ownBlock ≠ v2.ownBlock := by
  rcases h1.2 with ⟨rfl, _⟩ | ⟨g1, cap1, cur1, rfl, _, hh1, _⟩
  · exact .inl rfl
  · refine .inr (fun e => ?_)
    rcases h2.2 with ⟨rfl, _⟩ | ⟨g2, cap2, cur2, rfl, _, hh2, _⟩
    · simp [Value.ownBlock] at e
    · simp only [Value.ownBlock, Option.some.injEq] at e
      subst e
      rw [hh1] at hh2
      injection hh2 with hh2
      injection hh2 with _ ht
      exact hne ht

/-- A transition whose two lists are the call's own. -/
def OwnTranR (B : Nat) : World → (Nat → Value) → PTran → Prop := fun w vs t =>
  vs 0 = .int .i64 t.label ∧ ∃ n1 n2, OwnInts w B (vs 1) n1 t.pre ∧ OwnInts w B (vs 2) n2 t.post ∧ n1 ≤ 17592186044416 ∧ n2 ≤ 17592186044416
theorem OwnTranR.kept (B : Nat) : Kept (OwnTranR B) := fun _ _ _ _ hb ⟨h0, n1, n2, h1, h2, h3⟩ => ⟨h0, n1, n2, h1.keep IntR.kept hb, h2.keep IntR.kept hb, h3⟩
theorem OwnTranR.tran {B : Nat} {w : World} {vs : Nat → Value} {t : PTran} (h : OwnTranR B w vs t) : TranR w vs t := by
  obtain ⟨h0, n1, n2, h1, h2, h3, h4⟩ := h
  obtain ⟨A1, c1, e1, i1⟩ := h1.sl (by omega)
  obtain ⟨A2, c2, e2, i2⟩ := h2.sl (by omega)
  exact ⟨h0, A1, n1, c1, A2, n2, c2, e1, e2, i1, i2, h3, h4⟩
end Go.Proofs.YtniolbbhjibobaaDoor
