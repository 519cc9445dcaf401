/- What GReach finds: the plain law of its rounds; Home and Live told by it. Conditions: the arcs are between marks. | Rows of bools that a call owns, side by side in a row that it owns, and how many are false. Conditions: none. | The contract of GReach. Conditions: the arcs are between marks. | The contract of GHome. Conditions: the slices read as lists. | The contract of GLive. Conditions: the slices read as lists. -/
import Derived.Test.YtpagenlealddhaaLiveH
import Derived.Test.YtpagenlealddhaaHeldB
namespace Go.Proofs.Ytpagenlealddhaa
open Go.RowKit

def at2 (M : List (List Bool)) (i j : Nat) : Option Bool := (M[i]?).bind fun r => r[j]?
/-- What holds of the rows of GReach all along. -/
structure MatI (ars : List PArc) (n : Nat) (M : List (List Bool)) : Prop where
  len : M.length = n
  row : ∀ (i : Nat) (r : List Bool), M[i]? = some r → r.length = n
  diag : ∀ i : Nat, i < n → at2 M i i = some true
  sound : ∀ i j : Nat, at2 M i j = some true → Reach (nxt ars) (j : Int) (i : Int)
def MatC (ars : List PArc) (M : List (List Bool)) : Prop := ∀ a ∈ ars, ∀ k : Nat, at2 M k a.from_.toNat = some true → at2 M k a.to_.toNat = some true
open Classical in
noncomputable def matRow (ars : List PArc) (n i : Nat) : List Bool := (List.range n).map fun (j : Nat) => decide (Reach (nxt ars) (j : Int) (i : Int))
noncomputable def matL (ars : List PArc) (n : Nat) : List (List Bool) := (List.range n).map fun (i : Nat) => matRow ars n i
theorem matL_row {ars : List PArc} {n i : Nat} (hi : i < n) : (matL ars n)[i]? = some (matRow ars n i) := by simp [matL, hi]
theorem matRow_len (ars : List PArc) (n i : Nat) : (matRow ars n i).length = n := by simp [matRow]
open Classical in
theorem matRow_get {ars : List PArc} {n i j : Nat} (hj : j < n) : (matRow ars n i)[j]? = some (decide (Reach (nxt ars) (j : Int) (i : Int))) := by simp [matRow, hj]
theorem mem_nxt {ars : List PArc} {a : PArc} (h : a ∈ ars) : a.from_ ∈ nxt ars a.to_ := List.mem_map.2 ⟨a, List.mem_filter.2 ⟨h, by simp⟩, rfl⟩
section
variable {ars : List PArc} {n : Nat} {M : List (List Bool)}
theorem MatI.full (h : MatI ars n M) (ha : ∀ a ∈ ars, Inn n a.from_) (hc : MatC ars M) {x z : Int} (hr : Reach (nxt ars) x z) : Inn n x → at2 M z.toNat x.toNat = some true := by
  induction hr with
  | refl x => exact fun hx => h.diag x.toNat (by have := hx.1; have := hx.2; omega)
  | @step x y z hy _ ih =>
    intro _
    obtain ⟨a, hm, rfl⟩ := List.mem_map.1 hy
    obtain ⟨hm, he⟩ := List.mem_filter.1 hm
    have he' : a.to_ = x := by simpa using he
    rw [← he']
    exact hc a hm _ (ih (ha a hm))
open Classical in
theorem MatI.done (h : MatI ars n M) (ha : ∀ a ∈ ars, Inn n a.from_) (hc : MatC ars M) : M = matL ars n := by
  apply List.ext_getElem (by rw [h.len]; simp [matL])
  intro i h1 h2
  have hi : i < n := by have := h.len; omega
  have hrow : M[i]? = some (M[i]'h1) := List.getElem?_eq_getElem _
  have hlr := h.row i _ hrow
  simp only [matL, List.getElem_map, List.getElem_range]
  apply List.ext_getElem (by rw [hlr]; simp [matRow])
  intro j h3 h4
  have hj : j < n := by omega
  have e2 : at2 M i j = some ((M[i]'h1)[j]'h3) := by unfold at2; rw [hrow]; exact List.getElem?_eq_getElem _
  have e3 : (matRow ars n i)[j]'h4 = decide (Reach (nxt ars) (j : Int) (i : Int)) := by
    have := matRow_get (ars := ars) (n := n) (i := i) hj
    rw [List.getElem?_eq_getElem h4] at this
    injection this
  rw [e3, Bool.eq_iff_iff, decide_eq_true_eq]
  constructor
  · intro e
    exact h.sound i j (by rw [e2, e])
  · intro e
    have := h.full ha hc e ⟨by omega, by omega⟩
    simp only [Int.toNat_natCast] at this
    rw [e2] at this
    injection this
/-- One more is found: to a.to where a.from was. -/
theorem at2_set {k j : Nat} {r : List Bool} (hr : M[k]? = some r) (hj : j < r.length) {i l : Nat} : at2 (M.set k (r.set j true)) i l = if i = k ∧ l = j then some true else at2 M i l := by
  have hk : k < M.length := (List.getElem?_eq_some_iff.1 hr).1
  unfold at2
  by_cases hi : i = k
  · subst hi
    rw [List.getElem?_set_self hk, hr]
    simp only [Option.bind_some]
    by_cases hl : l = j
    · subst hl
      rw [List.getElem?_set_self hj, if_pos ⟨trivial, rfl⟩]
    · rw [List.getElem?_set_ne (fun e => hl e.symm), if_neg (fun e => hl e.2)]
  · rw [List.getElem?_set_ne (fun e => hi e.symm), if_neg (fun e => hi e.1)]
theorem MatI.put (h : MatI ars n M) {a : PArc} (hm : a ∈ ars) (h0 : Inn n a.from_) (h1 : Inn n a.to_) {k : Nat} {r : List Bool} (hr : M[k]? = some r) (hf : r[a.from_.toNat]? = some true) : MatI ars n (M.set k (r.set a.to_.toNat true)) := by
  have hl := h.row k r hr
  have hj : a.to_.toNat < r.length := by have := h1.1; have := h1.2; omega
  refine ⟨by rw [List.length_set]; exact h.len, fun i r' hr' => ?_, fun i hi => ?_, fun i j hij => ?_⟩
  · by_cases hik : i = k
    · subst hik
      rw [List.getElem?_set_self (List.getElem?_eq_some_iff.1 hr).1] at hr'
      injection hr' with e
      rw [← e, List.length_set]
      exact hl
    · rw [List.getElem?_set_ne (fun e => hik e.symm)] at hr'
      exact h.row i r' hr'
  · rw [at2_set hr hj]
    split
    · rfl
    · exact h.diag i hi
  · rw [at2_set hr hj] at hij
    split at hij
    · rename_i e
      obtain ⟨rfl, rfl⟩ := e
      rw [Int.toNat_of_nonneg h1.1]
      have := h.sound i a.from_.toNat (by unfold at2; rw [hr]; exact hf)
      rw [Int.toNat_of_nonneg h0.1] at this
      exact .step (mem_nxt hm) this
    · exact h.sound i j hij
end

/-! ### Home and Live by these rows -/
open Classical in
theorem homeAt_iff (ars : List PArc) (n k : Nat) : homeAt ars n k = true ↔ ∀ i : Nat, i < n → Reach (nxt ars) (k : Int) (i : Int) := by
  unfold homeAt spreadL
  simp only [Bool.not_eq_true', List.any_eq_false, List.mem_map, List.mem_range, List.mem_singleton, exists_eq_left]
  constructor
  · intro h i hi
    have := h _ ⟨i, hi, rfl⟩
    simpa using this
  · rintro h _ ⟨i, hi, rfl⟩
    simpa using h i hi
open Classical in
theorem liveAt_iff (ars : List PArc) (n t : Nat) : liveAt ars n t = true ↔ ∀ i : Nat, i < n → ∃ a ∈ ars, a.tran = (t : Int) ∧ Reach (nxt ars) a.from_ (i : Int) := by
  have key : ∀ i : Nat, (∃ s ∈ linkAt PArc.tran PArc.from_ ars (t : Int), Reach (nxt ars) s (i : Int)) ↔ ∃ a ∈ ars, a.tran = (t : Int) ∧ Reach (nxt ars) a.from_ (i : Int) := by
    intro i
    constructor
    · rintro ⟨s, hs, hr⟩
      obtain ⟨a, ha, rfl⟩ := List.mem_map.1 hs
      obtain ⟨ha, he⟩ := List.mem_filter.1 ha
      exact ⟨a, ha, by simpa using he, hr⟩
    · rintro ⟨a, ha, he, hr⟩
      exact ⟨a.from_, List.mem_map.2 ⟨a, List.mem_filter.2 ⟨ha, by simpa using he⟩, rfl⟩, hr⟩
  unfold liveAt spreadL
  simp only [Bool.not_eq_true', List.any_eq_false, List.mem_map, List.mem_range]
  constructor
  · intro h i hi
    have := h _ ⟨i, hi, rfl⟩
    exact (key i).1 (by simpa using this)
  · rintro h _ ⟨i, hi, rfl⟩
    simpa using (key i).2 (h i hi)
end Go.Proofs.Ytpagenlealddhaa
namespace Go.Proofs.Ytpagenlealddhaa
open Go.RowKit

def MatW (w : World) (B g n : Nat) (M : List (List Bool)) : Prop :=
  ∃ (cells : List Value) (bl : Nat → Nat), w.ownsRow B 123 1 (.slice (some ⟨g, 0, none⟩) n n) n cells ∧ M.length ≤ n ∧ (∀ (k : Nat) (x : List Bool), M[k]? = some x → cells[k]? = some (.slice (some ⟨bl k, 0, none⟩) n n) ∧ OwnBools w B (bl k) n x) ∧
    (∀ k l : Nat, k < M.length → l < M.length → k ≠ l → bl k ≠ bl l)
theorem OwnBools.base {w : World} {B B' g n : Nat} {bs : List Bool} (h : OwnBools w B g n bs) (hB : B' ≤ B) : OwnBools w B' g n bs := by
  refine ⟨h.1, ?_⟩
  rcases h.2 with e | ⟨g1, cap, cur, e1, e2, e3⟩
  · exact .inl e
  · exact .inr ⟨g1, cap, cur, e1, Nat.le_trans hB e2, e3⟩
theorem OwnBools.neRow {w : World} {B g b n m : Nat} {bs : List Bool} {cells : List Value} (h : OwnBools w B b n bs) (hr : w.ownsRow B 123 1 (.slice (some ⟨g, 0, none⟩) m m) m cells) : b ≠ g := by
  intro e
  subst e
  rcases own_ne h hr (by decide) with e | e
  · cases e
  · exact e rfl
section
variable {w w1 : World} {B g n : Nat} {M : List (List Bool)}
theorem MatW.made {cells : List Value} (h : w.ownsRow B 123 1 (.slice (some ⟨g, 0, none⟩) n n) n cells) : MatW w B g n [] :=
  ⟨cells, fun _ => 0, h, Nat.zero_le _, fun k x hx => by simp at hx, fun k l hk => by simp at hk⟩
theorem MatW.keep (h : MatW w B g n M) (hb : Below w.heap.size w w1) : MatW w1 B g n M := by
  obtain ⟨cells, bl, h1, h2, h3, h4⟩ := h
  refine ⟨cells, bl, h1.kept (row := none) ⟨hb.os, hb.tape, hb.output, hb.size, fun k hk _ => hb.block k hk⟩ (.inr (by simp [Value.ownBlock])), h2, fun k x hx => ?_, h4⟩
  obtain ⟨a, b⟩ := h3 k x hx
  exact ⟨a, b.keep hb⟩
theorem MatW.base {B' : Nat} (h : MatW w B g n M) (hB : B' ≤ B) : MatW w B' g n M := by
  obtain ⟨cells, bl, h1, h2, h3, h4⟩ := h
  refine ⟨cells, bl, ⟨h1.1, ?_⟩, h2, fun k x hx => ?_, h4⟩
  · rcases h1.2 with e | ⟨g1, cap, cur, e1, e2, e3⟩
    · exact .inl e
    · exact .inr ⟨g1, cap, cur, e1, Nat.le_trans hB e2, e3⟩
  · obtain ⟨a, b⟩ := h3 k x hx
    exact ⟨a, b.base hB⟩
theorem MatW.lt (h : MatW w B g n M) : B ≤ g ∧ g < w.heap.size := by
  obtain ⟨cells, bl, h1, _⟩ := h
  exact h1.lt g rfl
theorem MatW.frozen (h : MatW w B g n M) (k : Nat) : w.frozen? ⟨g, k, none⟩ = false := by
  obtain ⟨cells, bl, h1, _⟩ := h
  exact h1.frozenAt k
theorem MatW.cellAny (h : MatW w B g n M) {k : Nat} (hk : k < n) : ∃ v, w.cell? ⟨g, k, none⟩ = some v := by
  obtain ⟨cells, bl, h1, _⟩ := h
  refine ⟨_, (h1.cellAt k (by omega)).trans (List.getElem?_eq_getElem (by have := h1.1; omega))⟩
theorem MatW.get (h : MatW w B g n M) {k : Nat} (hk : k < M.length) : ∃ b x, M[k]? = some x ∧ w.cell? ⟨g, k, none⟩ = some (.slice (some ⟨b, 0, none⟩) n n) ∧ OwnBools w B b n x := by
  obtain ⟨cells, bl, h1, h2, h3, _⟩ := h
  have hx : M[k]? = some (M[k]'hk) := List.getElem?_eq_getElem _
  obtain ⟨a, b⟩ := h3 k _ hx
  exact ⟨_, _, hx, by rw [h1.cellAt k (by omega)]; exact a, b⟩
/-- One row more. -/
theorem MatW.push (h : MatW w B g n M) (hb : Below w.heap.size w w1) {b : Nat} {r : List Bool} (own : OwnBools w1 B b n r) (hnew : w.heap.size ≤ b) (hn : M.length < n) :
    MatW (w1.setCell ⟨g, M.length, none⟩ (.slice (some ⟨b, 0, none⟩) n n)) B g n (M ++ [r]) := by
  obtain ⟨cells, bl, h1, h2, h3, h4⟩ := h
  have r1 := h1.kept (row := none) (w' := w1) ⟨hb.os, hb.tape, hb.output, hb.size, fun k hk _ => hb.block k hk⟩ (.inr (by simp [Value.ownBlock]))
  have hcl := h1.1
  refine ⟨cells.set M.length (.slice (some ⟨b, 0, none⟩) n n), fun k => if k = M.length then b else bl k, (r1.stored M.length _).1, by rw [List.length_append]; exact hn, fun k x hx => ?_, fun k l hk hl hkl => ?_⟩
  · by_cases hk : k = M.length
    · subst hk
      rw [List.getElem?_append_right (Nat.le_refl _), Nat.sub_self] at hx
      simp only [List.getElem?_cons_zero, Option.some.injEq] at hx
      subst hx
      simp only [if_true]
      refine ⟨List.getElem?_set_self (by omega), ?_⟩
      exact ownsRow_setCell_other own (fun e => by simp only [Value.ownBlock, Option.some.injEq] at e; exact own.neRow r1 e) _
    · have hlt : k < M.length := by
        have := (List.getElem?_eq_some_iff.1 hx).1
        simp at this
        omega
      rw [List.getElem?_append_left hlt] at hx
      obtain ⟨a, c⟩ := h3 k x hx
      dsimp only
      rw [if_neg hk]
      refine ⟨by rw [List.getElem?_set_ne (fun e => hk e.symm)]; exact a, ?_⟩
      have c1 := c.keep hb
      exact ownsRow_setCell_other c1 (fun e => by simp only [Value.ownBlock, Option.some.injEq] at e; exact c1.neRow r1 e) _
  · have old : ∀ q, q < M.length → bl q ≠ b := fun q hq e => by
      have := (h3 q _ (List.getElem?_eq_getElem hq)).2.lt.2
      omega
    simp only [List.length_append, List.length_cons, List.length_nil] at hk hl
    dsimp only
    by_cases e1 : k = M.length
    · rw [if_pos e1, if_neg (by omega)]
      exact fun e => old l (by omega) e.symm
    · rw [if_neg e1]
      by_cases e2 : l = M.length
      · rw [if_pos e2]
        exact old k (by omega)
      · rw [if_neg e2]
        exact h4 k l (by omega) (by omega) hkl
/-- One bool of one row turned. -/
theorem MatW.put (h : MatW w B g n M) {k j b : Nat} {r : List Bool} (hr : M[k]? = some r) (hc : w.cell? ⟨g, k, none⟩ = some (.slice (some ⟨b, 0, none⟩) n n)) : MatW (w.setCell ⟨b, j, none⟩ (.bool true)) B g n (M.set k (r.set j true)) := by
  obtain ⟨cells, bl, h1, h2, h3, h4⟩ := h
  have hk : k < M.length := (List.getElem?_eq_some_iff.1 hr).1
  obtain ⟨a, c⟩ := h3 k r hr
  have hb : bl k = b := by
    rw [h1.cellAt k (by omega), a] at hc
    simpa using hc
  subst hb
  refine ⟨cells, bl, ownsRow_setCell_other h1 (fun e => by simp only [Value.ownBlock, Option.some.injEq] at e; exact c.neRow h1 e.symm) _, by rw [List.length_set]; exact h2, fun q x hx => ?_, fun q l hq hl => h4 q l (by simpa using hq) (by simpa using hl)⟩
  by_cases e : q = k
  · subst e
    rw [List.getElem?_set_self hk] at hx
    injection hx with hx
    subst hx
    exact ⟨a, c.put j true⟩
  · rw [List.getElem?_set_ne (fun e2 => e e2.symm)] at hx
    obtain ⟨a2, c2⟩ := h3 q x hx
    refine ⟨a2, ownsRow_setCell_other c2 (fun e2 => ?_) _⟩
    simp only [Value.ownBlock, Option.some.injEq] at e2
    exact h4 q k (List.getElem?_eq_some_iff.1 hx).1 hk e e2
theorem MatW.uniq {M' : List (List Bool)} (h : MatW w B g n M) (h' : MatW w B g n M') (l : M.length = n) (l' : M'.length = n) : M = M' := by
  apply List.ext_getElem (by omega)
  intro k h1 h2
  obtain ⟨b, x, hx, hc, ho⟩ := h.get h1
  obtain ⟨b', x', hx', hc', ho'⟩ := h'.get h2
  rw [hc] at hc'
  simp only [Option.some.injEq, Value.slice.injEq, Addr.mk.injEq, and_true] at hc'
  subst hc'
  have e1 : M[k] = x := by rw [List.getElem?_eq_getElem h1] at hx; injection hx
  have e2 : M'[k] = x' := by rw [List.getElem?_eq_getElem h2] at hx'; injection hx'
  rw [e1, e2]
  apply List.ext_getElem (by rw [ho.len, ho'.len])
  intro j h3 h4
  have a1 := ho.at (List.getElem?_eq_getElem h3)
  have a2 := ho'.at (List.getElem?_eq_getElem h4)
  rw [a1] at a2
  simpa using a2
end

/-! ### how many are false -/
def cntR : List Bool → Nat
  | [] => 0
  | b :: bs => (if b = true then 0 else 1) + cntR bs
def cntF : List (List Bool) → Nat
  | [] => 0
  | r :: M => cntR r + cntF M
theorem cntR_set : ∀ (r : List Bool) (j : Nat), r[j]? = some false → cntR (r.set j true) + 1 = cntR r
  | b :: bs, 0, h => by
    simp only [List.getElem?_cons_zero, Option.some.injEq] at h
    subst h
    simp [cntR]; omega
  | b :: bs, j + 1, h => by
    simp only [List.getElem?_cons_succ] at h
    have := cntR_set bs j h
    simp only [List.set_cons_succ, cntR]
    omega
  | [], _, h => by simp at h
theorem cntF_set : ∀ (M : List (List Bool)) (k : Nat) (r r' : List Bool), M[k]? = some r → cntF (M.set k r') + cntR r = cntF M + cntR r'
  | m :: M, 0, r, r', h => by
    simp only [List.getElem?_cons_zero, Option.some.injEq] at h
    subst h
    simp [cntF]; omega
  | m :: M, k + 1, r, r', h => by
    simp only [List.getElem?_cons_succ] at h
    have := cntF_set M k r r' h
    simp only [List.set_cons_succ, cntF]
    omega
  | [], _, _, _, h => by simp at h
theorem cntF_put {M : List (List Bool)} {k j : Nat} {r : List Bool} (hr : M[k]? = some r) (hj : r[j]? = some false) : cntF (M.set k (r.set j true)) + 1 = cntF M := by
  have h1 := cntF_set M k r (r.set j true) hr
  have h2 := cntR_set r j hj
  omega
open Classical in
noncomputable def matF (w : World) (B g n : Nat) : Nat := if h : ∃ M, MatW w B g n M ∧ M.length = n then cntF (Classical.choose h) else 0
theorem matF_eq {w : World} {B g n : Nat} {M : List (List Bool)} (h : MatW w B g n M) (l : M.length = n) : matF w B g n = cntF M := by
  have hex : ∃ M, MatW w B g n M ∧ M.length = n := ⟨M, h, l⟩
  unfold matF
  rw [dif_pos hex]
  obtain ⟨a, b⟩ := Classical.choose_spec hex
  rw [a.uniq h b l]
end Go.Proofs.Ytpagenlealddhaa
namespace Go.Proofs.Ytpagenlealddhaa
open Go.RowKit

theorem infoListBool : (Try.prog.info? 123).map (fun i => (i.zero, i.size, i.bytes)) = some (some (.slice none 0 0), 1, 24) := by kernel_rfl
def idRow (n i : Nat) : List Bool := (List.replicate n false).set i true
def idM (n k : Nat) : List (List Bool) := (List.range k).map (idRow n)
theorem idM_succ (n k : Nat) : idM n (k + 1) = idM n k ++ [idRow n k] := by simp [idM, List.range_succ]
theorem idM_len (n k : Nat) : (idM n k).length = k := by simp [idM]
theorem idRow_get {n i j : Nat} (hi : i < n) : (idRow n i)[j]? = some true ↔ i = j := by
  unfold idRow
  by_cases e : i = j
  · subst e; simp [hi]
  · rw [List.getElem?_set_ne e]
    refine ⟨fun h => ?_, fun h => absurd h e⟩
    obtain ⟨_, h2⟩ := List.getElem?_eq_some_iff.1 h
    rw [List.getElem_replicate] at h2
    cases h2
theorem idM_ok (ars : List PArc) (n : Nat) : MatI ars n (idM n n) where
  len := idM_len n n
  row := fun i r hr => by
    obtain ⟨k, _, rfl⟩ := List.mem_map.1 (List.mem_of_getElem? hr)
    simp [idRow]
  diag := fun i hi => by
    unfold at2 idM
    simp only [List.getElem?_map, List.getElem?_range hi, Option.map_some, Option.bind_some]
    exact (idRow_get hi).2 rfl
  sound := fun i j hij => by
    unfold at2 idM at hij
    by_cases hi : i < n
    · simp only [List.getElem?_map, List.getElem?_range hi, Option.map_some, Option.bind_some] at hij
      obtain rfl := (idRow_get hi).1 hij
      exact .refl _
    · rw [List.getElem?_eq_none (by simp; omega)] at hij
      cases hij

def CL (M : List (List Bool)) (a : PArc) (K : Nat) : Prop := ∀ k : Nat, k < K → at2 M k a.from_.toNat = some true → at2 M k a.to_.toNat = some true
def RoundI (M0 M : List (List Bool)) (b : Bool) (P : Prop) : Prop := (b = true → cntF M < cntF M0) ∧ (b = false → M = M0 ∧ P)
theorem RoundI.imp {M0 M : List (List Bool)} {b : Bool} {P P' : Prop} (h : RoundI M0 M b P) (hp : P → P') : RoundI M0 M b P' := ⟨h.1, fun e => ⟨(h.2 e).1, hp (h.2 e).2⟩⟩
/-- Where a round of GReach stands. -/
def St (ars : List PArc) (n : Nat) (w0 wr : World) (M0 : List (List Bool)) (b : Bool) (P : Prop) : Prop := ∃ M, MatW wr w0.heap.size w0.heap.size n M ∧ MatI ars n M ∧ RoundI M0 M b P ∧ Below w0.heap.size w0 wr
theorem St.keep {ars : List PArc} {n : Nat} {w0 wr w' : World} {M0 : List (List Bool)} {b : Bool} {P P' : Prop} (h : St ars n w0 wr M0 b P) (hb : Below wr.heap.size wr w') (hp : P → P') : St ars n w0 w' M0 b P' := by
  obtain ⟨M, a, c, d, e⟩ := h
  exact ⟨M, a.keep hb, c, d.imp hp, e.trans (hb.mono e.size)⟩
def boolOf : Value → Nat
  | .bool true => 1
  | _ => 0
theorem OwnBools.neBox {w : World} {B b n bx : Nat} {bs : List Bool} {cs : Array Value} (h : OwnBools w B b n bs) (hx : Box w bx 118 cs) : bx ≠ b := by
  intro e
  subst e
  rcases h.2 with ⟨e, _⟩ | ⟨g, cap, cur, e, _, hh, _⟩
  · cases e
  · injection e with e1
    injection e1 with e1
    injection e1 with e1
    subst e1
    unfold Box at hx
    rw [hx] at hh
    injection hh with hh
    injection hh with _ hh
    exact absurd hh (by decide)
/-- What GReach answers: rows of its own. -/
def AnsMat (M : List (List Bool)) (n : Nat) (w : World) (e : Ending) (w' : World) : Prop := ∃ g, e = .returned (.slice (some ⟨g, 0, none⟩) n n) ∧ MatW w' w.heap.size g n M ∧ Below w.heap.size w w'

set_option maxRecDepth 100000 in
set_option maxHeartbeats 4000000 in
theorem refReach_calls {w : World} {A D : Option Addr} {n c m d : Nat} {ms : List (List Int)} {ars : List PArc} (_ : Lists w A n c ms) (g : Arcs w D m d ars) (hn : n ≤ 5864062014634) (hf : ∀ a ∈ ars, Inn n a.from_) (ht : ∀ a ∈ ars, Inn n a.to_) :
    Calls Try.prog 69 #[.agg #[.slice A n c, .slice D m d]] w (AnsMat (matL ars n) n w) := by
  have HB := hide2 (boxBelow w (.cells #[.slice A n c, .slice D m d] 46))
  have X0 := hide2 (Box.new w #[.slice A n c, .slice D m d] 46)
  have G := hide2 (Sl.keep ArcR.kept g HB.out)
  have gl := g.len
  have gs := g.small
  have HF := hide2 hf
  have HT := hide2 ht
  clear g hf ht
  go_enter Try.func69, Try.ntmps69
  go_upto_region 1 with fail
  generalize w.alloc (.cells #[.slice A n c, .slice D m d] 46) = w0 at *
  obtain ⟨c0, c1⟩ := X0.out.two
  go_upto_region 3 with (at_make; refine wpList_mk Try.underlying125 infoListBool rfl rfl _ _ rfl n rfl rfl rfl rfl (by omega) (by omega) (Below.refl w0.heap.size w0) (Nat.le_refl _) ?_; intro w2 own2 hg2 hb2; have M2 := hide2 (MatW.made own2); have B2 := hide2 hb2; clear own2 hg2 hb2)
  clear c0 c1
  go_loopw [15] (fun v wr => ∃ k : Nat, k ≤ n ∧ v = .int .i64 k ∧ Hid (MatW wr w0.heap.size w0.heap.size n (idM n k)) ∧ Hid (Below w0.heap.size w0 wr)) (fun v _ => n - (intOf v).toNat)
  case atStart => exact ⟨0, Nat.zero_le _, rfl, M2, B2⟩
  case round =>
    obtain ⟨k, hk, rfl, MW, BR⟩ := hrel
    by_cases hlt : k < n
    · have hki : (k : Int) < (n : Int) := by omega
      obtain ⟨c0, c1⟩ := (X0.out.keep BR.out).two
      have mf := MW.out.frozen k
      obtain ⟨v0, mc⟩ := MW.out.cellAny hlt
      go_upto_region 6 with (at_make; refine wpList_mk Try.underlying123 infoBool rfl rfl _ _ rfl n rfl rfl rfl rfl (by omega) (by omega) (Below.refl wr.heap.size wr) (Nat.le_refl _) ?_; intro w3 own3 hg3 hb3; have OB0 : OwnBools w3 wr.heap.size wr.heap.size n (List.replicate n false) := (by unfold OwnBools; rw [List.map_replicate]; exact own3); have OB := hide2 (OB0.base BR.out.size); clear OB0; have B3 := hide2 hb3; have mf3 := (MW.out.keep hb3).frozen k; obtain ⟨v3, mc3⟩ := (MW.out.keep hb3).cellAny hlt; clear own3 hg3 hb3)
      have MP := MW.out.push B3.out OB.out (Nat.le_refl _) (by rw [idM_len]; exact hlt)
      rw [idM_len] at MP
      have hc2 : (w3.setCell ⟨w0.heap.size, k, none⟩ (.slice (some ⟨wr.heap.size, 0, none⟩) n n)).cell? ⟨w0.heap.size, k, none⟩ = some (.slice (some ⟨wr.heap.size, 0, none⟩) n n) := World.cell?_setCell_same' _ _ _ (by rw [mc3]; rfl)
      have B4 : Below w0.heap.size w0 (w3.setCell ⟨w0.heap.size, k, none⟩ (.slice (some ⟨wr.heap.size, 0, none⟩) n n)) := (BR.out.trans (B3.out.mono BR.out.size)).setCell (Nat.le_refl _) _
      have hgw := hide2 BR.out.size
      generalize w3.setCell ⟨w0.heap.size, k, none⟩ (.slice (some ⟨wr.heap.size, 0, none⟩) n n) = w4 at *
      generalize wr.heap.size = bw at *
      obtain ⟨b, x, hx, hc, ho⟩ := MP.get (k := k) (by rw [List.length_append, idM_len]; simp)
      rw [hc2] at hc
      obtain rfl : bw = b := by simpa using hc
      obtain rfl : x = List.replicate n false := by
        rw [List.getElem?_append_right (by rw [idM_len]; exact Nat.le_refl _), idM_len, Nat.sub_self] at hx
        simpa using hx.symm
      have MQ := hide2 (MP.put (j := k) hx hc2)
      have ME := hide2 (show (idM n k ++ [List.replicate n false]).set k ((List.replicate n false).set k true) = idM n (k + 1) by
        rw [idM_succ, List.set_append_right _ _ (by rw [idM_len]; exact Nat.le_refl _), idM_len, Nat.sub_self]; rfl)
      have cz := ho.at (k := k) (b := false) (by simp [hlt])
      have fz := ho.frozen k
      have B5 := hide2 (show Below w0.heap.size w0 (w4.setCell ⟨bw, k, none⟩ (.bool true)) from B4.setCell hgw.out _)
      clear hc hx ho MP mc mf mc3 mf3 c0 c1 B4
      go_wp2
      go_roundw
      case rel => exact ⟨k + 1, by omega, by go_num, hide2 (by rw [← ME.out]; exact MQ.out), B5⟩
      case measure => simp [intOf]; omega
    · obtain rfl : n = k := by omega
      obtain ⟨wq, hwq⟩ : ∃ wq : World, wq = wr := ⟨_, rfl⟩
      subst hwq
      go_wp2
      go_loopw [5] (fun u wr => ∃ (b : Bool) (M : List (List Bool)), u = .bool b ∧ Hid (MatW wr w0.heap.size w0.heap.size n M) ∧ Hid (MatI ars n M) ∧ Hid (b = false → MatC ars M) ∧ Hid (Below w0.heap.size w0 wr)) (fun u wr => matF wr w0.heap.size w0.heap.size n + boolOf u)
      case atStart => exact ⟨true, _, rfl, MW, idM_ok ars n, hide2 (fun e => (by cases e)), BR⟩
      case round =>
        obtain ⟨b, M, rfl, MX, MI, MC, BX⟩ := hrel
        cases b
        · have FN := hide2 (MI.out.done HF.out (MC.out rfl))
          go_wp2
          go_ret
          exact ⟨_, rfl, by rw [← FN.out]; exact MX.out.base HB.out.size, HB.out.trans (BX.out.mono HB.out.size)⟩
        · obtain ⟨M0, hM0⟩ : ∃ M0, M0 = M := ⟨_, rfl⟩
          subst hM0
          have MF := hide2 (matF_eq MX.out MI.out.len)
          obtain ⟨c0, c1⟩ := (X0.out.keep BX.out).two
          have ST0 := hide2 (show St ars n w0 wr M0 false True from ⟨M0, MX.out, MI.out, ⟨fun e => (by cases e), fun _ => ⟨rfl, trivial⟩⟩, BX.out⟩)
          obtain ⟨wp, hwp⟩ : ∃ wp : World, wp = wr := ⟨_, rfl⟩
          subst hwp
          clear MX MI MC BX
          go_wp2
          clear c0 c1
          go_loopw [5, 36] (fun u v wr => ∃ q : Nat, q ≤ m ∧ v = .int .i64 q ∧ ∃ b : Bool, u = .bool b ∧ Hid (St ars n w0 wr M0 b (∀ (j : Nat) (a : PArc), j < q → ars[j]? = some a → CL M0 a n))) (fun _ v _ => m - (intOf v).toNat)
          case atStart => exact ⟨0, Nat.zero_le _, rfl, false, rfl, hide2 (ST0.out.keep (Below.refl _ _) (fun _ j a hj => absurd hj (by omega)))⟩
          case round =>
            obtain ⟨q, hq, rfl, b, rfl, ST⟩ := hrel
            by_cases hlt : q < m
            · have hki : (q : Int) < (m : Int) := by omega
              obtain ⟨bl, off, a, rfl, hbl, ha, q0, q1, q2, _⟩ := Arcs.get (Sl.keep ArcR.kept G.out ST.out.choose_spec.2.2.2) hlt
              have bb := boxBelow wr (.cells #[.int .i64 a.from_, .int .i64 a.tran, .int .i64 a.to_] 118)
              have WA := hide2 (Box.new wr #[.int .i64 a.from_, .int .i64 a.tran, .int .i64 a.to_] 118)
              have SB := hide2 (ST.out.keep bb (P' := (∀ (j : Nat) (a : PArc), j < q → ars[j]? = some a → CL M0 a n) ∧ CL M0 a 0) (fun h => ⟨h, fun k hk => absurd hk (by omega)⟩))
              have hf0 := hide2 (HF.out a (List.mem_of_getElem? ha.out))
              have ht0 := hide2 (HT.out a (List.mem_of_getElem? ha.out))
              go_upto_region 14 with fail
              clear bb q0 q1 q2 ST
              generalize wr.alloc (.cells #[.int .i64 a.from_, .int .i64 a.tran, .int .i64 a.to_] 118) = u0 at *
              generalize wr.heap.size = bx at *
              go_wp2
              go_loopw [5, 42] (fun u v wr => ∃ k : Nat, k ≤ n ∧ v = .int .i64 k ∧ (∃ b : Bool, u = .bool b ∧ Hid (St ars n w0 wr M0 b ((∀ (j : Nat) (a : PArc), j < q → ars[j]? = some a → CL M0 a n) ∧ CL M0 a k))) ∧ Hid (Box wr bx 118 #[.int .i64 a.from_, .int .i64 a.tran, .int .i64 a.to_])) (fun _ v _ => n - (intOf v).toNat)
              case atStart => exact ⟨0, Nat.zero_le _, rfl, ⟨b, rfl, SB⟩, WA⟩
              case round =>
                obtain ⟨k, hk, rfl, ⟨b, rfl, ST⟩, WB⟩ := hrel
                by_cases hlk : k < n
                · have hki : (k : Int) < (n : Int) := by omega
                  obtain ⟨M, s1, s2, s3, s4⟩ := ST.out
                  obtain ⟨br, r, hr, hc, ho⟩ := s1.get (k := k) (by rw [s2.len]; exact hlk)
                  have hlr := ho.len
                  obtain ⟨f1, f2⟩ := hf0.out
                  obtain ⟨g1, g2⟩ := ht0.out
                  obtain ⟨i, hi⟩ : ∃ i : Nat, a.from_ = (i : Int) := ⟨a.from_.toNat, by omega⟩
                  obtain ⟨j, hj⟩ : ∃ j : Nat, a.to_ = (j : Int) := ⟨a.to_.toNat, by omega⟩
                  have hin : i < n := by omega
                  have hjn : j < n := by omega
                  have hii : (i : Int) < (n : Int) := by omega
                  have hjj : (j : Int) < (n : Int) := by omega
                  obtain ⟨v1, hv1⟩ : ∃ v, r[i]? = some v := ⟨_, List.getElem?_eq_getElem (by omega)⟩
                  obtain ⟨v2, hv2⟩ : ∃ v, r[j]? = some v := ⟨_, List.getElem?_eq_getElem (by omega)⟩
                  have NO := hide2 (show (v1 = true → v2 = true) → St ars n w0 wr M0 b ((∀ (j : Nat) (a : PArc), j < q → ars[j]? = some a → CL M0 a n) ∧ CL M0 a (k + 1)) from fun hv => ⟨M, s1, s2, ⟨s3.1, fun e => ⟨(s3.2 e).1, (s3.2 e).2.1, fun q' hq' h1 => by
                    by_cases e2 : q' = k
                    · subst e2
                      have e3 := (s3.2 e).1
                      subst e3
                      unfold at2 at h1 ⊢
                      rw [hr] at h1 ⊢
                      rw [hi] at h1
                      rw [hj]
                      simp only [Int.toNat_natCast, Option.bind_some] at h1 ⊢
                      rw [hv1] at h1
                      injection h1 with h1
                      rw [hv2, hv h1]
                    · exact (s3.2 e).2.2 q' (by omega) h1⟩⟩, s4⟩)
                  have x1 := ho.at hv1
                  have x2 := ho.at hv2
                  obtain ⟨t0, t1, t2⟩ := WB.out.three
                  rw [hi] at t0
                  rw [hj] at t2
                  have S1 := hide2 s1
                  have S2 := hide2 s2
                  have S3 := hide2 s3
                  have S4 := hide2 s4
                  have HR := hide2 hr
                  have HC := hide2 hc
                  have HO := hide2 ho
                  have HV1 := hide2 hv1
                  have HV2 := hide2 hv2
                  have HI := hide2 hi
                  have HJ := hide2 hj
                  clear s1 s2 s3 s4 hr ho hlr f1 f2 g1 g2 hi hj hv1 hv2 ST
                  cases v1
                  · go_upto_region 17 with fail
                    go_quiet (fail)
                    have DB := hide2 (Drew.drewN wr nq).below
                    go_wp2
                    go_roundw
                    case rel => exact ⟨k + 1, by omega, by go_num, ⟨b, rfl, hide2 ((NO.out (fun e => by cases e)).keep DB.out id)⟩, hide2 (WB.out.keep DB.out)⟩
                    case measure => simp [intOf]; omega
                  · cases v2
                    · go_upto_region 17 with fail
                      go_quiet (fail)
                      have DB := hide2 (Drew.drewN wr nq).below
                      have T1 := hide2 (S1.out.keep DB.out)
                      have T4 := hide2 (S4.out.trans (DB.out.mono S4.out.size))
                      have TW := hide2 (WB.out.keep DB.out)
                      have TO := hide2 (HO.out.keep DB.out)
                      have TC := hide2 ((DB.out.cell (S1.out.lt.2)).trans HC.out)
                      generalize wr.drewN nq = u1 at *
                      clear x1 x2 t0 t1 t2 hc DB S1 S4 WB HO HC ST0
                      go_upto_region 18 with fail
                      obtain ⟨t0, t1, t2⟩ := TW.out.three
                      rw [HJ.out] at t2
                      have hc := TC.out
                      have DB := hide2 ((Below.refl u1.heap.size u1).drew)
                      refine wp_region_scr 7 (.takes [0, 1, 2, 3, 4, 5, 6] (.fins [7, 8] .done)) (fun w' => w'.cell? ⟨w0.heap.size, k, none⟩ = some (.slice (some ⟨br, 0, none⟩) n n) ∧ w'.cell? ⟨bx, 2, none⟩ = some (.int .i64 j)) (by kernel_rfl) (by kernel_rfl) (by kernel_rfl) (fun _ _ _ _ _ h => h) ⟨hc, t2⟩ (fun hHeld => ?_)
                      simp only [Scr.takes, Scr.fins]
                      have R1 := hide2 (T1.out.keep DB.out)
                      have R4 := hide2 (T4.out.trans (DB.out.mono T4.out.size))
                      have RW := hide2 (TW.out.keep DB.out)
                      have RO := hide2 (TO.out.keep DB.out)
                      have RC := hide2 ((DB.out.cell (T1.out.lt.2)).trans TC.out)
                      generalize u1.drew = u2 at *
                      iterate 7
                        refine tkTake (v := ?_) rfl (by rfl) hHeld (fun w' hSw => ?_) ?_
                        rotate_left
                        · (go_simp; try with_reducible rfl)
                        simp only [Act.put, List.setIfInBounds_toArray, List.set_cons_zero, List.set_cons_succ]
                      clear hHeld t0 t1 t2 hc
                      have x2 := RO.out.at HV2.out
                      have xf := RO.out.frozen j
                      iterate 2
                        refine tkEnd rfl (fun K hK => ?_)
                        go_simp
                        refine hK.out _ _ ?_
                        clear hK
                        try simp only [Act.put, List.setIfInBounds_toArray, List.set_cons_zero, List.set_cons_succ]
                      refine tkDone ?_
                      clear x2 xf
                      have NS := hide2 (show St ars n w0 (u2.setCell ⟨br, j, none⟩ (.bool true)) M0 true ((∀ (j : Nat) (a : PArc), j < q → ars[j]? = some a → CL M0 a n) ∧ CL M0 a (k + 1)) from ⟨M.set k (r.set j true), R1.out.put HR.out RC.out, (by
                        have := S2.out.put (List.mem_of_getElem? ha.out) hf0.out ht0.out HR.out (by rw [HI.out]; exact HV1.out)
                        rw [HJ.out] at this
                        exact this), ⟨fun _ => (by
                          have h1 := cntF_put HR.out HV2.out
                          cases hb : b
                          · have h2 := (S3.out.2 hb).1
                            subst h2
                            omega
                          · have h2 := S3.out.1 hb
                            omega), fun e => (by cases e)⟩, R4.out.setCell (Nat.le_trans (RO.out.lt.1) (Nat.le_refl _)) _⟩)
                      have NB := hide2 (RW.out.other (a := ⟨br, j, none⟩) (.bool true) (RO.out.neBox RW.out))
                      go_wp2
                      go_roundw
                      case rel => exact ⟨k + 1, by omega, by go_num, ⟨true, rfl, NS⟩, NB⟩
                      case measure => simp [intOf]; omega
                    · go_upto_region 17 with fail
                      go_quiet (fail)
                      have DB := hide2 (Drew.drewN wr nq).below
                      go_wp2
                      go_roundw
                      case rel => exact ⟨k + 1, by omega, by go_num, ⟨b, rfl, hide2 ((NO.out (fun _ => rfl)).keep DB.out id)⟩, hide2 (WB.out.keep DB.out)⟩
                      case measure => simp [intOf]; omega
                · obtain rfl : n = k := by omega
                  go_wp2
                  go_roundw
                  case rel =>
                    refine ⟨q + 1, by omega, by go_num, b, rfl, hide2 (ST.out.keep (Below.refl _ _) (fun h j a' hj ha' => ?_))⟩
                    by_cases hjq : j = q
                    · subst hjq
                      rw [ha.out] at ha'
                      injection ha' with ha'
                      rw [← ha']
                      exact h.2
                    · exact h.1 j a' (by omega) ha'
                  case measure => simp [intOf]; omega
            · obtain rfl : q = m := by omega
              obtain ⟨M, s1, s2, s3, s4⟩ := ST.out
              have S1 := hide2 s1
              have S2 := hide2 s2
              have S3 := hide2 s3
              have S4 := hide2 s4
              clear s1 s2 s3 s4
              go_wp2
              go_roundw
              case rel =>
                refine ⟨b, M, rfl, S1, S2, hide2 (fun e => ?_), S4⟩
                obtain ⟨e1, e2⟩ := S3.out.2 e
                subst e1
                intro a ha k hk
                obtain ⟨j, hj, rfl⟩ := List.getElem_of_mem ha
                refine e2 j _ (by omega) (List.getElem?_eq_getElem hj) k ?_ hk
                rcases Nat.lt_or_ge k n with h1 | h1
                · exact h1
                · unfold at2 at hk
                  rw [List.getElem?_eq_none (by rw [S2.out.len]; exact h1)] at hk
                  cases hk
              case measure =>
                rw [matF_eq S1.out S2.out.len, MF.out]
                cases b
                · obtain ⟨e1, _⟩ := S3.out.2 rfl
                  subst e1
                  simp [boolOf]
                · have := S3.out.1 rfl
                  simp [boolOf]
                  omega
end Go.Proofs.Ytpagenlealddhaa
namespace Go.Proofs.Ytpagenlealddhaa
open Go.RowKit

open Classical
def HomeTo (ars : List PArc) (k i : Nat) : Prop := ∀ i' : Nat, i' < i → Reach (nxt ars) (k : Int) (i' : Int)
set_option maxRecDepth 100000 in
set_option maxHeartbeats 4000000 in
theorem refHome_calls {w : World} {A D : Option Addr} {n c m d : Nat} {ms : List (List Int)} {ars : List PArc} (h : Lists w A n c ms) (g : Arcs w D m d ars) (hn : n ≤ 5864062014634) :
    Calls Try.prog 29 #[.agg #[.slice A n c, .slice D m d]] w (AnsIF (homeL ars n).length (homeL ars n) w) := by
  have HB := hide2 (boxBelow w (.cells #[.slice A n c, .slice D m d] 46))
  have X0 := hide2 (Box.new w #[.slice A n c, .slice D m d] 46)
  have H := hide2 (Sl.keep ListR.kept h HB.out)
  have G := hide2 (Sl.keep ArcR.kept g HB.out)
  clear h g
  obtain ⟨r, hr⟩ : ∃ r, rightG n ars = r := ⟨_, rfl⟩
  have HR := hide2 hr
  clear hr
  go_enter Try.func29, Try.ntmps29
  go_upto_region 1 with fail
  generalize w.alloc (.cells #[.slice A n c, .slice D m d] 46) = w0 at *
  obtain ⟨c0, c1⟩ := X0.out.two
  cases r
  · have FN := hide2 (show homeL ars n = [] by unfold homeL; rw [HR.out]; rfl)
    go_wp2_with (refine (refSpaceRight_calls H.out G.out).mono ?_; rintro e w1 ⟨rfl, b1⟩; rw [HR.out]; have B1 := hide2 (HB.out.trans (b1.mono HB.out.size)); clear b1)
    go_ret
    rw [FN.out]
    exact ⟨none, 0, rfl, Sl.nil0, B1.out, Fresh.none⟩
  · have FN := hide2 (show homeL ars n = pickL (homeAt ars n) n by unfold homeL; rw [HR.out]; rfl)
    obtain ⟨hf, ht⟩ := rightG_in HR.out
    have HF := hide2 hf
    have HT := hide2 ht
    clear hf ht
    go_wp2_with (first
      | (refine (refSpaceRight_calls H.out G.out).mono ?_; rintro e w1 ⟨rfl, b1⟩; rw [HR.out]; have B1 := hide2 b1; clear b1 c0 c1; obtain ⟨c0, c1⟩ := (X0.out.keep B1.out).two)
      | (refine (refReach_calls (Sl.keep ListR.kept H.out B1.out) (Sl.keep ArcR.kept G.out B1.out) hn HF.out HT.out).mono ?_; rintro e w2 ⟨go, rfl, mw, b2⟩; have MW := hide2 mw; have B2 := hide2 (B1.out.trans (b2.mono B1.out.size)); clear b2 mw c0 c1; obtain ⟨c0, c1⟩ := (X0.out.keep B2.out).two))
    clear c0 c1
    go_loopw [4, 16] (fun u v wr => ∃ k : Nat, k ≤ n ∧ v = .int .i64 k ∧ Hid (OwnInts wr w2.heap.size u (pickL (homeAt ars n) k).length (pickL (homeAt ars n) k)) ∧ Hid (Below w2.heap.size w2 wr)) (fun _ v _ => n - (intOf v).toNat)
    case atStart => exact ⟨0, Nat.zero_le _, rfl, OwnSl.nil, Below.refl _ _⟩
    case round =>
      obtain ⟨k, hk, rfl, OW, BQ⟩ := hrel
      by_cases hlk : k < n
      · have hki : (k : Int) < (n : Int) := by omega
        have DS := hide2 (pickL_succ (homeAt ars n) k)
        have hdl := pickL_len (homeAt ars n) k
        have MX := hide2 (MW.out.keep BQ.out)
        obtain ⟨wq, hwq⟩ : ∃ wq : World, wq = wr := ⟨_, rfl⟩
        subst hwq
        go_wp2
        go_loopw [6, 21] (fun u v wr => wr = wq ∧ ∃ i : Nat, i ≤ n ∧ v = .int .i64 i ∧ ∃ b : Bool, u = .bool b ∧ Hid (b = true ↔ HomeTo ars k i)) (fun _ v _ => n - (intOf v).toNat)
        case atStart => exact ⟨rfl, 0, Nat.zero_le _, rfl, true, rfl, hide2 ⟨fun _ i' hi' => absurd hi' (by omega), fun _ => rfl⟩⟩
        case round =>
          obtain ⟨rfl, i, hi, rfl, b, rfl, HBT⟩ := hrel
          by_cases hli : i < n
          · have hii : (i : Int) < (n : Int) := by omega
            obtain ⟨br, r, hr, hc, ho⟩ := MX.out.get (k := i) (by rw [matL, List.length_map, List.length_range]; exact hli)
            obtain rfl : r = matRow ars n i := by rw [matL_row hli] at hr; injection hr with hr; exact hr.symm
            have hx := ho.at (matRow_get hlk)
            obtain ⟨v, hv⟩ : ∃ v, decide (Reach (nxt ars) (k : Int) (i : Int)) = v := ⟨_, rfl⟩
            rw [hv] at hx
            have NX := hide2 (show (b && v) = true ↔ HomeTo ars k (i + 1) by
              rw [Bool.and_eq_true, HBT.out, ← hv, decide_eq_true_eq]
              constructor
              · rintro ⟨h1, h2⟩ i' hi'
                by_cases e : i' = i
                · subst e; exact h2
                · exact h1 i' (by omega)
              · exact fun h => ⟨fun i' hi' => h i' (by omega), h i (by omega)⟩)
            clear hr ho hv HBT
            cases b
            · go_wp2
              go_roundw
              case rel => exact ⟨trivial, i + 1, by omega, by go_num, false, rfl, NX⟩
              case measure => simp [intOf]; omega
            · go_wp2
              go_roundw
              case rel => exact ⟨trivial, i + 1, by omega, by go_num, v, rfl, hide2 (by have := NX.out; rwa [Bool.true_and] at this)⟩
              case measure => simp [intOf]; omega
          · obtain rfl : n = i := by omega
            have HP := hide2 (show homeAt ars n k = b by rw [Bool.eq_iff_iff, homeAt_iff, HBT.out]; rfl)
            rw [HP.out] at DS
            clear HBT
            cases b
            · rw [if_neg (by decide), List.append_nil] at DS
              go_wp2
              go_roundw
              case rel => exact ⟨k + 1, by omega, by go_num, by rw [DS.out]; exact OW, BQ⟩
              case measure => simp [intOf]; omega
            · rw [if_pos rfl] at DS
              have HDL := hide2 (show (pickL (homeAt ars n) (k + 1)).length = (pickL (homeAt ars n) k).length + 1 by rw [DS.out]; simp)
              go_wp2_with (at_builtin; refine wpList_appInt rfl _ _ rfl rfl rfl (by first | rfl | simp) OW.out BQ.out BQ.out.size (by omega) ?_; intro v4 w4 own4 hg4 hb4; have O4 := hide2 own4; have B4 := hide2 hb4; clear own4 hg4 hb4)
              go_roundw
              case rel => exact ⟨k + 1, by omega, by go_num, by rw [HDL.out, DS.out]; exact O4, B4⟩
              case measure => simp [intOf]; omega
      · obtain rfl : n = k := by omega
        have hdl := pickL_len (homeAt ars n) n
        obtain ⟨Au, cu, hu, iu⟩ := OW.out.sl (by omega)
        have FR := hide2 (((OW.out.fresh hu).mono B2.out.size).mono HB.out.size)
        have IU := hide2 iu
        subst hu
        clear iu
        go_wp2
        go_ret
        rw [FN.out]
        exact ⟨Au, cu, rfl, IU.out, HB.out.trans ((B2.out.trans (BQ.out.mono B2.out.size)).mono HB.out.size), FR.out⟩
end Go.Proofs.Ytpagenlealddhaa
namespace Go.Proofs.Ytpagenlealddhaa
open Go.RowKit

open Classical
def OneOf (ars : List PArc) (t i q : Nat) : Prop := ∃ (j : Nat) (a : PArc), j < q ∧ ars[j]? = some a ∧ a.tran = (t : Int) ∧ Reach (nxt ars) a.from_ (i : Int)
def AllTo (ars : List PArc) (t i : Nat) : Prop := ∀ i' : Nat, i' < i → OneOf ars t i' ars.length
theorem liveAt_all (ars : List PArc) (n t : Nat) : liveAt ars n t = true ↔ AllTo ars t n := by
  rw [liveAt_iff]
  constructor
  · intro h i hi
    obtain ⟨a, ha, h1, h2⟩ := h i hi
    obtain ⟨j, hj, rfl⟩ := List.getElem_of_mem ha
    exact ⟨j, _, hj, List.getElem?_eq_getElem hj, h1, h2⟩
  · intro h i hi
    obtain ⟨j, a, _, ha, h1, h2⟩ := h i hi
    exact ⟨a, List.mem_of_getElem? ha, h1, h2⟩
theorem OneOf.succ {ars : List PArc} {t i q : Nat} {a : PArc} (ha : ars[q]? = some a) : OneOf ars t i (q + 1) ↔ OneOf ars t i q ∨ (a.tran = (t : Int) ∧ Reach (nxt ars) a.from_ (i : Int)) := by
  constructor
  · rintro ⟨j, b, hj, hb, h1, h2⟩
    by_cases e : j = q
    · subst e
      rw [ha] at hb
      injection hb with hb
      subst hb
      exact .inr ⟨h1, h2⟩
    · exact .inl ⟨j, b, by omega, hb, h1, h2⟩
  · rintro (⟨j, b, hj, hb, h1, h2⟩ | ⟨h1, h2⟩)
    · exact ⟨j, b, by omega, hb, h1, h2⟩
    · exact ⟨q, a, by omega, ha, h1, h2⟩
set_option maxRecDepth 100000 in
set_option maxHeartbeats 4000000 in
theorem refLive_calls {w : World} {A D : Option Addr} {n c m d : Nat} {ms : List (List Int)} {ars : List PArc} (tr : Int) (h : Lists w A n c ms) (g : Arcs w D m d ars) (hn : n ≤ 5864062014634) :
    Calls Try.prog 25 #[.agg #[.slice A n c, .slice D m d], .int .i64 tr] w (AnsIF (liveL ars n (min tr 24).toNat).length (liveL ars n (min tr 24).toNat) w) := by
  have HB := hide2 (boxBelow w (.cells #[.slice A n c, .slice D m d] 46))
  have X0 := hide2 (Box.new w #[.slice A n c, .slice D m d] 46)
  have H := hide2 (Sl.keep ListR.kept h HB.out)
  have G := hide2 (Sl.keep ArcR.kept g HB.out)
  have gl := hide2 g.len
  have gs := g.small
  clear h g
  obtain ⟨M, hM⟩ : ∃ M, min tr 24 = M := ⟨_, rfl⟩
  obtain ⟨N, hN⟩ : ∃ N, M.toNat = N := ⟨_, rfl⟩
  have HN := hide2 hN
  rw [hM, hN]
  have hN24 : N ≤ 24 := by omega
  clear hN
  obtain ⟨r, hr⟩ : ∃ r, rightG n ars = r := ⟨_, rfl⟩
  have HR := hide2 hr
  clear hr
  go_enter Try.func25, Try.ntmps25
  go_upto_region 1 with fail
  generalize w.alloc (.cells #[.slice A n c, .slice D m d] 46) = w0 at *
  obtain ⟨c0, c1⟩ := X0.out.two
  cases r
  · have FN := hide2 (show liveL ars n N = [] by unfold liveL; rw [HR.out]; rfl)
    go_wp2_with (refine (refSpaceRight_calls H.out G.out).mono ?_; rintro e w1 ⟨rfl, b1⟩; rw [HR.out]; have B1 := hide2 (HB.out.trans (b1.mono HB.out.size)); clear b1)
    go_ret
    rw [FN.out]
    exact ⟨none, 0, rfl, Sl.nil0, B1.out, Fresh.none⟩
  · have FN := hide2 (show liveL ars n N = pickL (liveAt ars n) N by unfold liveL; rw [HR.out]; rfl)
    obtain ⟨hf, ht⟩ := rightG_in HR.out
    have HF := hide2 hf
    have HT := hide2 ht
    clear hf ht
    go_wp2_with (first
      | (refine (refSpaceRight_calls H.out G.out).mono ?_; rintro e w1 ⟨rfl, b1⟩; rw [HR.out]; have B1 := hide2 b1; clear b1 c0 c1; obtain ⟨c0, c1⟩ := (X0.out.keep B1.out).two)
      | (refine (refReach_calls (Sl.keep ListR.kept H.out B1.out) (Sl.keep ArcR.kept G.out B1.out) hn HF.out HT.out).mono ?_; rintro e w2 ⟨go, rfl, mw, b2⟩; have MW := hide2 mw; have B2 := hide2 (B1.out.trans (b2.mono B1.out.size)); clear b2 mw c0 c1; obtain ⟨c0, c1⟩ := (X0.out.keep B2.out).two))
    clear c0 c1 hM
    have X2 := hide2 (X0.out.keep B2.out)
    have G2 := hide2 (Sl.keep ArcR.kept G.out B2.out)
    go_loopw [6, 20] (fun u v wr => ∃ k : Nat, k ≤ N ∧ v = .int .i64 k ∧ Hid (OwnInts wr w2.heap.size u (pickL (liveAt ars n) k).length (pickL (liveAt ars n) k)) ∧ Hid (Below w2.heap.size w2 wr)) (fun _ v _ => N - (intOf v).toNat)
    case atStart => exact ⟨0, Nat.zero_le _, rfl, OwnSl.nil, Below.refl _ _⟩
    case round =>
      obtain ⟨k, hk, rfl, OW, BQ⟩ := hrel
      by_cases hlk : k < N
      · have hki : (k : Int) < M := by have := HN.out; omega
        have DS := hide2 (pickL_succ (liveAt ars n) k)
        have hdl := pickL_len (liveAt ars n) k
        obtain ⟨wq, hwq⟩ : ∃ wq : World, wq = wr := ⟨_, rfl⟩
        subst hwq
        go_wp2
        go_loopw [8, 25] (fun u v wr => ∃ i : Nat, i ≤ n ∧ v = .int .i64 i ∧ ∃ b : Bool, u = .bool b ∧ Hid (b = true ↔ AllTo ars k i) ∧ Hid (Below wq.heap.size wq wr)) (fun _ v _ => n - (intOf v).toNat)
        case atStart => exact ⟨0, Nat.zero_le _, rfl, true, rfl, hide2 ⟨fun _ i' hi' => absurd hi' (by omega), fun _ => rfl⟩, Below.refl _ _⟩
        case round =>
          obtain ⟨i, hi, rfl, b, rfl, HBT, BI⟩ := hrel
          have BW := hide2 (BQ.out.trans (BI.out.mono BQ.out.size))
          by_cases hli : i < n
          · have hii : (i : Int) < (n : Int) := by omega
            obtain ⟨c0, c1⟩ := (X2.out.keep BW.out).two
            obtain ⟨wp, hwp⟩ : ∃ wp : World, wp = wr := ⟨_, rfl⟩
            subst hwp
            go_wp2
            clear c0 c1
            go_loopw [10, 31] (fun u v wr => ∃ q : Nat, q ≤ m ∧ v = .int .i64 q ∧ ∃ o : Bool, u = .bool o ∧ Hid (o = true ↔ OneOf ars k i q) ∧ Hid (Below wp.heap.size wp wr)) (fun _ v _ => m - (intOf v).toNat)
            case atStart => exact ⟨0, Nat.zero_le _, rfl, false, rfl, hide2 ⟨fun e => (by cases e), fun ⟨j, a, hj, _⟩ => absurd hj (by omega)⟩, Below.refl _ _⟩
            case round =>
              obtain ⟨q, hq, rfl, o, rfl, HO, BR⟩ := hrel
              have BV := hide2 (BW.out.trans (BR.out.mono BW.out.size))
              by_cases hlt : q < m
              · have hqi : (q : Int) < (m : Int) := by omega
                obtain ⟨bl, off, a, rfl, hbl, ha, q0, q1, q2, _⟩ := Arcs.get (Sl.keep ArcR.kept G2.out BV.out) hlt
                have bb := boxBelow wr (.cells #[.int .i64 a.from_, .int .i64 a.tran, .int .i64 a.to_] 118)
                have WA := hide2 (Box.new wr #[.int .i64 a.from_, .int .i64 a.tran, .int .i64 a.to_] 118)
                have BY := hide2 (BR.out.trans (bb.mono BR.out.size))
                have MX := hide2 (MW.out.keep (BV.out.trans (bb.mono BV.out.size)))
                obtain ⟨f1, f2⟩ := HF.out a (List.mem_of_getElem? ha.out)
                go_upto_region 16 with fail
                clear bb q0 q1 q2 BR BV
                generalize wr.alloc (.cells #[.int .i64 a.from_, .int .i64 a.tran, .int .i64 a.to_] 118) = u0 at *
                generalize wr.heap.size = bx at *
                obtain ⟨t0, t1, t2⟩ := WA.out.three
                obtain ⟨f, hfe⟩ : ∃ f : Nat, a.from_ = (f : Int) := ⟨a.from_.toNat, by omega⟩
                have hfn : f < n := by omega
                have hfi : (f : Int) < (n : Int) := by omega
                obtain ⟨br, r, hr, hc, ho⟩ := MX.out.get (k := i) (by rw [matL, List.length_map, List.length_range]; exact hli)
                obtain rfl : r = matRow ars n i := by rw [matL_row hli] at hr; injection hr with hr; exact hr.symm
                have hx := ho.at (matRow_get hfn)
                obtain ⟨v, hv⟩ : ∃ v, decide (Reach (nxt ars) (f : Int) (i : Int)) = v := ⟨_, rfl⟩
                rw [hv] at hx
                obtain ⟨x, hxe⟩ : ∃ x, a.tran = x := ⟨_, rfl⟩
                rw [hfe] at t0
                rw [hxe] at t1
                have NX := hide2 (show (o = true ∨ (x = (k : Int) ∧ v = true)) ↔ OneOf ars k i (q + 1) by
                  rw [OneOf.succ ha.out, HO.out, hxe, hfe, ← hv, decide_eq_true_eq])
                clear hr ho hv HO hfe hxe f1 f2
                cases o
                · by_cases hxk : x = (k : Int)
                  · subst hxk
                    go_quiet (fail)
                    have DB := hide2 (Drew.drewN u0 nq).below
                    go_wp2
                    go_roundw
                    case rel => exact ⟨q + 1, by omega, by go_num, v, rfl, hide2 (by rw [← NX.out]; simp), hide2 (BY.out.trans (DB.out.mono BY.out.size))⟩
                    case measure => simp [intOf]; omega
                  · have hne : (x == (k : Int)) = false := by simpa using hxk
                    have HXK := hide2 hxk
                    clear hxk
                    go_quiet (fail)
                    have DB := hide2 (Drew.drewN u0 nq).below
                    go_wp2
                    go_roundw
                    case rel => exact ⟨q + 1, by omega, by go_num, false, rfl, hide2 (by rw [← NX.out]; simp [HXK.out]), hide2 (BY.out.trans (DB.out.mono BY.out.size))⟩
                    case measure => simp [intOf]; omega
                · go_quiet (fail)
                  have DB := hide2 (Drew.drewN u0 nq).below
                  go_wp2
                  go_roundw
                  case rel => exact ⟨q + 1, by omega, by go_num, true, rfl, hide2 (by rw [← NX.out]; simp), hide2 (BY.out.trans (DB.out.mono BY.out.size))⟩
                  case measure => simp [intOf]; omega
              · obtain rfl : q = m := by omega
                have NX := hide2 (show (b && o) = true ↔ AllTo ars k (i + 1) by
                  have h0 := HO.out
                  rw [← gl.out] at h0
                  rw [Bool.and_eq_true, HBT.out, h0]
                  constructor
                  · rintro ⟨h1, h2⟩ i' hi'
                    by_cases e : i' = i
                    · subst e; exact h2
                    · exact h1 i' (by omega)
                  · exact fun h => ⟨fun i' hi' => h i' (by omega), h i (by omega)⟩)
                have BZ := hide2 (BI.out.trans (BR.out.mono BI.out.size))
                clear HO HBT
                cases b
                · go_wp2
                  go_roundw
                  case rel => exact ⟨i + 1, by omega, by go_num, false, rfl, NX, BZ⟩
                  case measure => simp [intOf]; omega
                · go_wp2
                  go_roundw
                  case rel => exact ⟨i + 1, by omega, by go_num, o, rfl, hide2 (by have := NX.out; rwa [Bool.true_and] at this), BZ⟩
                  case measure => simp [intOf]; omega
          · obtain rfl : n = i := by omega
            have HP := hide2 (show liveAt ars n k = b by rw [Bool.eq_iff_iff, liveAt_all, HBT.out])
            have OX := hide2 (OW.out.keep IntR.kept BI.out)
            rw [HP.out] at DS
            clear HBT
            cases b
            · rw [if_neg (by decide), List.append_nil] at DS
              go_wp2
              go_roundw
              case rel => exact ⟨k + 1, by omega, by go_num, by rw [DS.out]; exact OX, BW⟩
              case measure => simp [intOf]; omega
            · rw [if_pos rfl] at DS
              have HDL := hide2 (show (pickL (liveAt ars n) (k + 1)).length = (pickL (liveAt ars n) k).length + 1 by rw [DS.out]; simp)
              go_wp2_with (at_builtin; refine wpList_appInt rfl _ _ rfl rfl rfl (by first | rfl | simp) OX.out BW.out BW.out.size (by omega) ?_; intro v4 w4 own4 hg4 hb4; have O4 := hide2 own4; have B4 := hide2 hb4; clear own4 hg4 hb4)
              go_roundw
              case rel => exact ⟨k + 1, by omega, by go_num, by rw [HDL.out, DS.out]; exact O4, B4⟩
              case measure => simp [intOf]; omega
      · obtain rfl : N = k := by omega
        have hji : M ≤ (N : Int) := by have := HN.out; omega
        have hdl := pickL_len (liveAt ars n) N
        obtain ⟨Au, cu, hu, iu⟩ := OW.out.sl (by omega)
        have FR := hide2 (((OW.out.fresh hu).mono B2.out.size).mono HB.out.size)
        have IU := hide2 iu
        subst hu
        clear iu
        go_wp2
        go_ret
        rw [FN.out]
        exact ⟨Au, cu, rfl, IU.out, HB.out.trans ((B2.out.trans (BQ.out.mono B2.out.size)).mono HB.out.size), FR.out⟩
end Go.Proofs.Ytpagenlealddhaa
