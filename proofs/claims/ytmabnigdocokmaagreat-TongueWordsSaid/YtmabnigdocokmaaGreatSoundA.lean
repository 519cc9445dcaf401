/- The plain law of judging, and the contract of live.Onward. Conditions: the space reads as lists, its arcs are between marks. | The contract of Judge. Conditions: the net reads as a list. -/
import Derived.Test.YtmabnigdocokmaaGreatLiveA
import Derived.Test.YtmabnigdocokmaaGreatReachJ
import Derived.Test.YtmabnigdocokmaaGreatPlainH
import Derived.Test.YtmabnigdocokmaaGreatBox
namespace Go.Proofs.YtmabnigdocokmaaGreat
open Go.RowKit

/-- The numbers of those that p holds of. -/
def posL (p : List Int → Bool) (ms : List (List Int)) (k : Nat) : List Int := ((List.range k).filter fun j => (ms[j]?).any p).map fun (j : Nat) => (j : Int)
theorem posL_succ {p : List Int → Bool} {ms : List (List Int)} {k : Nat} {x : List Int} (h : ms[k]? = some x) : posL p ms (k + 1) = posL p ms k ++ if p x = true then [(k : Int)] else [] := by
  unfold posL
  rw [List.range_succ, List.filter_append, List.map_append]
  cases hp : p x <;> simp [h, hp]
theorem posL_len (p : List Int → Bool) (ms : List (List Int)) (k : Nat) : (posL p ms k).length ≤ k := by
  unfold posL
  rw [List.length_map]
  exact Nat.le_trans (List.length_filter_le _ _) (by simp)
theorem posL_in {p : List Int → Bool} {ms : List (List Int)} {k n : Nat} (hk : k ≤ n) : ∀ s ∈ posL p ms k, Inn n s := by
  intro s hs
  obtain ⟨j, hj, rfl⟩ := List.mem_map.1 hs
  have := List.mem_range.1 (List.mem_filter.1 hj).1
  exact ⟨by omega, by omega⟩
theorem foldS_arcs {N : PNet} {M : Nat} {m : List Int} {f : Int} : ∀ (l : List Int) {s s' : PSp} (_ : foldS N M m f l (some s) = some s'), s'.arcs.length ≤ s.arcs.length + l.length := by
  intro l
  induction l with
  | nil =>
    intro s s' h
    have : s = s' := by simpa [foldS] using h
    subst this
    simp
  | cons t l ih =>
    intro s s' h
    have h' : foldS N M m f l (arcStep N M m f s t) = some s' := h
    cases h1 : arcStep N M m f s t with
    | none => rw [h1, foldS_none] at h'; cases h'
    | some s1 =>
      rw [h1] at h'
      have h2 := ih h'
      have h3 : s1.arcs.length ≤ s.arcs.length + 1 := by
        unfold arcStep at h1
        split at h1
        · simp only [Option.some.injEq] at h1; subst h1; omega
        · split at h1
          · have := meetL_len h1; omega
          · cases h1
      simp only [List.length_cons]
      omega
theorem goM_arcs {N : PNet} {M : Nat} : ∀ (g f : Nat) {s s' : PSp} (_ : goM N M g f s = some s'), s'.arcs.length ≤ s.arcs.length + g * N.trans.length := by
  intro g
  induction g with
  | zero =>
    intro f s s' h
    have : s = s' := by simpa [goM] using h
    subst this
    omega
  | succ g ih =>
    intro f s s' h
    unfold goM at h
    split at h
    · cases h1 : fromL N M f s with
      | none => rw [h1] at h; cases h
      | some s1 =>
        rw [h1] at h
        have h2 := ih (f + 1) h
        have h3 := foldS_arcs _ h1
        have h4 : (allT N.trans.length).length = N.trans.length := by simp [allT]
        rw [Nat.succ_mul]
        omega
    · simp only [Option.some.injEq] at h
      subst h
      omega
theorem graphL_arcs {N : PNet} {m : List Int} {most : Int} (h : (graphL N m most).2 = 0) : (graphL N m most).1.arcs.length ≤ 7200 := by
  unfold graphL at h ⊢
  split at h
  · rename_i h1
    rw [if_pos h1]
    cases hg : goM N most.toNat most.toNat 0 ⟨[m], []⟩ with
    | none => rw [hg] at h; simp at h
    | some s1 =>
      have h2 := goM_arcs _ _ hg
      have h3 : N.trans.length ≤ 24 := ((netOk_iff _).1 ((fitsB_iff _ _).1 h1.2.2).1).2.2.1
      have h4 : most.toNat * N.trans.length ≤ 300 * 24 := Nat.mul_le_mul (by omega) h3
      simp only [List.length_nil] at h2
      show s1.arcs.length ≤ 7200
      omega
  · simp at h
/-- What a call answers that hands back a row of bools. -/
def AnsS (bs : List Bool) (n : Nat) (w : World) (e : Ending) (w' : World) : Prop := ∃ g, e = .returned (.slice (some ⟨g, 0, none⟩) n n) ∧ BoolS w' g n bs ∧ Below w.heap.size w w'

end Go.Proofs.YtmabnigdocokmaaGreat
namespace Go.Proofs.YtmabnigdocokmaaGreat
open Go.RowKit

theorem find_some {α : Type} {p : α → Bool} {ms : List α} {k : Nat} {x : α} (h : ∀ j, j < k → ∀ y, ms[j]? = some y → p y = false) (hx : ms[k]? = some x) (hp : p x = true) : ms.find? p = some x := by
  obtain ⟨hk, e⟩ := List.getElem?_eq_some_iff.1 hx
  rw [List.find?_eq_some_iff_getElem]
  exact ⟨hp, k, hk, e, fun j hj => by simpa using h j hj _ (List.getElem?_eq_getElem (by omega))⟩
theorem find_none {α : Type} {p : α → Bool} {ms : List α} (h : ∀ j, j < ms.length → ∀ y, ms[j]? = some y → p y = false) : ms.find? p = none := by
  rw [List.find?_eq_none]
  intro x hx
  obtain ⟨j, hj⟩ := List.mem_iff_getElem?.1 hx
  have := h j (List.getElem?_eq_some_iff.1 hj).1 x hj
  simp [this]
theorem idxFirst_at {α : Type} {p : α → Bool} {bs : List α} {ix : Option Nat} (h : bs.findIdx? p = ix) : idxFirst p bs = ix.elim (-1) (fun k => (k : Int)) := by
  unfold idxFirst; rw [h]; cases ix <;> rfl
abbrev PVer := Int × List Int × Int
def extraB (e m : List Int) : Bool := coversB m e && !(m == e)
noncomputable def onL (s : PSp) (e : List Int) : List Bool := spreadL s.arcs s.marks.length (posL (fun m => m == e) s.marks s.marks.length)
noncomputable def judgeS (s : PSp) (e : List Int) (dead : List Int) : PVer :=
  match s.marks.find? (extraB e) with
  | some m => (2, m, 0)
  | none => match (onL s e).findIdx? (fun y => false == y) with
    | some k => (3, s.marks.getD k [], 0)
    | none => match dead with
      | t :: _ => (4, [], t)
      | [] => (1, [], 0)
noncomputable def judgeL (N : PNet) (i o most : Int) : PVer × Int :=
  if shapeL N i o = 0 then (if (graphL N (oneL (min N.places 16).toNat i) most).2 = 0 then (judgeS (graphL N (oneL (min N.places 16).toNat i) most).1 (oneL (min N.places 16).toNat o) (deadL (graphL N (oneL (min N.places 16).toNat i) most).1.arcs (min (N.trans.length : Int) 24).toNat), 0)
    else ((0, [], 0), (graphL N (oneL (min N.places 16).toNat i) most).2)) else ((0, [], 0), shapeL N i o)
theorem judgeL_wrong {N : PNet} {i o most : Int} (h : shapeL N i o ≠ 0) : judgeL N i o most = ((0, [], 0), shapeL N i o) := by rw [judgeL, if_neg h]
theorem judgeL_err {N : PNet} {i o most : Int} {g : PSp × Int} (h : shapeL N i o = 0) (hg : graphL N (oneL (min N.places 16).toNat i) most = g) (he : g.2 ≠ 0) : judgeL N i o most = ((0, [], 0), g.2) := by rw [judgeL, if_pos h, hg, if_neg he]
theorem judgeL_yes {N : PNet} {i o most : Int} {s : PSp} (h : shapeL N i o = 0) (hg : graphL N (oneL (min N.places 16).toNat i) most = (s, 0)) : judgeL N i o most = (judgeS s (oneL (min N.places 16).toNat o) (deadL s.arcs (min (N.trans.length : Int) 24).toNat), 0) := by rw [judgeL, if_pos h, hg, if_pos rfl]
theorem judgeS_extra {s : PSp} {e m d : List Int} (h : s.marks.find? (extraB e) = some m) : judgeS s e d = (2, m, 0) := by unfold judgeS; simp only [h]
theorem judgeS_stuck {s : PSp} {e m d : List Int} {k : Nat} (h : s.marks.find? (extraB e) = none) (hk : (onL s e).findIdx? (fun y => false == y) = some k) (hm : s.marks[k]? = some m) : judgeS s e d = (3, m, 0) := by
  unfold judgeS; simp only [h, hk, List.getD_eq_getElem?_getD, hm, Option.getD_some]
theorem judgeS_dead {s : PSp} {e d : List Int} {t : Int} (h : s.marks.find? (extraB e) = none) (hk : (onL s e).findIdx? (fun y => false == y) = none) : judgeS s e (t :: d) = (4, [], t) := by
  unfold judgeS; simp only [h, hk]
theorem judgeS_sound {s : PSp} {e : List Int} (h : s.marks.find? (extraB e) = none) (hk : (onL s e).findIdx? (fun y => false == y) = none) : judgeS s e [] = (1, [], 0) := by
  unfold judgeS; simp only [h, hk]
theorem shapeL_two {N : PNet} {i o : Int} (h : shapeL N i o = 0) : 2 ≤ N.places ∧ netOk N = true := by
  unfold shapeL at h
  split at h
  · rename_i h1
    split at h
    · rename_i h2
      simp only [inB, Bool.and_eq_true, decide_eq_true_eq] at h2
      exact ⟨by omega, h1⟩
    · simp at h
  · simp at h
/-- A list of two and more does not lie in a verdict's box. -/
theorem Ints.farV {w : World} {A B : Option Addr} {n c m d b ty : Nat} {x y : Int} {xs : List Int} (h : Ints w A n c xs) (hn : 2 ≤ n) (hb : Box w b ty #[.int .i64 x, .slice B m d, .int .i64 y]) : ∀ b' off, A = some ⟨b', off, none⟩ → 0 < n → b' ≠ b := by
  intro b' off e _ hbb
  subst hbb
  obtain ⟨b2, off2, e2, hlt, hc⟩ := h.cells (by omega)
  rw [e] at e2
  injection e2 with e2
  injection e2 with e3 e4
  subst e3 e4
  have key : ∀ j, j < n → ∃ z, w.cell? ⟨b', off + j, none⟩ = some (.int .i64 z) := fun j hj => by
    obtain ⟨vs, a, b⟩ := hc j _ (List.getElem?_eq_getElem (by rw [h.len]; exact hj))
    have := a 0 (by omega)
    rw [b] at this
    exact ⟨_, by simpa using this⟩
  obtain ⟨z0, h0⟩ := key 0 (by omega)
  obtain ⟨z1, h1⟩ := key 1 (by omega)
  have c : ∀ j, w.cell? ⟨b', j, none⟩ = (#[.int .i64 x, .slice B m d, .int .i64 y] : Array Value)[j]? := fun j => hb.cell j
  rw [c] at h0 h1
  match off, h0, h1 with
  | 0, _, h1 => simp at h1
  | 1, h0, _ => simp at h0
  | 2, _, h1 => simp at h1
  | k + 3, h0, _ => simp at h0
theorem Ints.setV {w : World} {A B : Option Addr} {n c m d b ty : Nat} {x y : Int} {xs : List Int} (h : Ints w A n c xs) (hn : 2 ≤ n) (hb : Box w b ty #[.int .i64 x, .slice B m d, .int .i64 y]) (v0 v1 v2 : Value) : Ints (((w.setCell ⟨b, 0, none⟩ v0).setCell ⟨b, 1, none⟩ v1).setCell ⟨b, 2, none⟩ v2) A n c xs := by
  refine h.same (by simp [World.setCell]) (fun b' off e h0 _ => ?_)
  have hne := h.farV hn hb b' off e h0
  rw [heap_setCell_other _ _ _ _ hne, heap_setCell_other _ _ _ _ hne, heap_setCell_other _ _ _ _ hne]
theorem Lists.besideZ {w : World} {b ty : Nat} {A : Option Addr} {n c : Nat} {ms : List (List Int)} (h : Lists w A n c ms) (hm : ∀ x ∈ ms, 2 ≤ x.length) (hb : Box w b ty #[.slice none 0 0, .slice none 0 0]) (u v : Value) : Lists ((w.setCell ⟨b, 0, none⟩ u).setCell ⟨b, 1, none⟩ v) A n c ms :=
  ⟨h.len, h.le, h.cap, h.small, h.nul, fun hn => by
    have hw := Beside.set2 w b 0 1 u v
    obtain ⟨b', off, e, hlt, hc⟩ := h.cells hn
    refine ⟨b', off, e, by rw [hw.1]; exact hlt, fun i x hx => ?_⟩
    obtain ⟨vs, h1, A2, n2, c2, e2, i2, l2⟩ := hc i x hx
    refine ⟨vs, fun j hj => ?_, A2, n2, c2, e2, i2.beside hb noInt2 hw, l2⟩
    by_cases hbb : b' = b
    · subst hbb
      exfalso
      have h3 := h1 0 (by omega)
      have h2 := hm x (List.mem_of_getElem? hx)
      rw [i2.len] at h2
      rw [hb.cell, e2] at h3
      rcases Nat.lt_or_ge (off + i * 1 + 0) 2 with hlt | hge
      · have : off + i * 1 + 0 = 0 ∨ off + i * 1 + 0 = 1 := by omega
        rcases this with e5 | e5 <;> rw [show off + (i * 1 + 0) = off + i * 1 + 0 from rfl, e5] at h3 <;> simp at h3 <;> omega
      · rw [Array.getElem?_eq_none (by simpa using hge)] at h3
        cases h3
    · rw [hw.cell (by simpa using hbb)]; exact h1 j hj⟩
theorem Arcs.besideZ {w : World} {b ty : Nat} {A : Option Addr} {n c : Nat} {ars : List PArc} (h : Arcs w A n c ars) (hb : Box w b ty #[.slice none 0 0, .slice none 0 0]) (u v : Value) : Arcs ((w.setCell ⟨b, 0, none⟩ u).setCell ⟨b, 1, none⟩ v) A n c ars :=
  ⟨h.len, h.le, h.cap, h.small, h.nul, fun hn => by
    have hw := Beside.set2 w b 0 1 u v
    obtain ⟨b', off, e, hlt, hc⟩ := h.cells hn
    refine ⟨b', off, e, by rw [hw.1]; exact hlt, fun i x hx => ?_⟩
    obtain ⟨vs, h1, h2⟩ := hc i x hx
    refine ⟨vs, fun j hj => ?_, h2⟩
    by_cases hbb : b' = b
    · subst hbb
      exfalso
      have h3 := h1 0 (by omega)
      rw [hb.cell, h2.1] at h3
      exact noInt2 _ _ h3
    · rw [hw.cell (by simpa using hbb)]; exact h1 j hj⟩
def AnsV (p : PVer × Int) (w : World) (e : Ending) (w' : World) : Prop :=
  ∃ A n c, e = .returned (.tuple #[.agg #[.int .i64 p.1.1, .slice A n c, .int .i64 p.1.2.2], .int .i64 p.2]) ∧ Ints w' A n c p.1.2.1 ∧ Below w.heap.size w w'

end Go.Proofs.YtmabnigdocokmaaGreat
