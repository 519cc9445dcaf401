/- What a slice, a transition and a net read as: the words in which every contract of this seat is told. Conditions: none; these are definitions and plain lemmas on memory. -/
import Derived.Test.YtnfppolgaeibeaaProg
import Derived.Test.YtnfppolgaeibeaaPlainA
import Derived.WalkKit
import Derived.WalkSpells
import Derived.WalkLawsBesides
import Derived.Lib.MinMax
namespace Go.Proofs.Ytnfppolgaeibeaa
open Go.RowKit

theorem hide2 {p : Prop} (h : p) : Hid p := h
theorem ret_int {k : IntKind} {a b : Int} (h : a = b) : Ending.returned (.int k a) = Ending.returned (.int k b) := by rw [h]
theorem ret_bool {a b : Bool} (h : a = b) : Ending.returned (.bool a) = Ending.returned (.bool b) := by rw [h]

/-- The slice value '.slice A n c' reads, in world w, as the list xs; element i takes sz cells vs 0 .. and they read as xs[i] by R. -/
structure Sl {α : Type} (R : World → (Nat → Value) → α → Prop) (sz : Nat) (w : World) (A : Option Addr) (n c : Nat) (xs : List α) : Prop where
  len : xs.length = n
  le : n ≤ c
  cap : c ≤ maxLen
  small : n ≤ 281474976710656
  nul : A = none → c = 0
  cells : 0 < n → ∃ b off, A = some ⟨b, off, none⟩ ∧ b < w.heap.size ∧ ∀ (i : Nat) (x : α), xs[i]? = some x →
    ∃ vs : Nat → Value, (∀ j, j < sz → w.cell? ⟨b, off + (i * sz + j), none⟩ = some (vs j)) ∧ R w vs x

/-- R is kept where nothing below the heap's size turns. -/
def Kept {α : Type} (R : World → (Nat → Value) → α → Prop) : Prop := ∀ w w' vs x, Below w.heap.size w w' → R w vs x → R w' vs x

section
variable {α : Type} {R : World → (Nat → Value) → α → Prop} {sz : Nat} {w w' : World} {A : Option Addr} {n c : Nat} {xs : List α}

theorem Sl.keep (hR : Kept R) (h : Sl R sz w A n c xs) (hb : Below w.heap.size w w') : Sl R sz w' A n c xs :=
  ⟨h.len, h.le, h.cap, h.small, h.nul, fun hn => by
    obtain ⟨b, off, h1, h2, h3⟩ := h.cells hn
    refine ⟨b, off, h1, Nat.lt_of_lt_of_le h2 hb.size, fun i x hx => ?_⟩
    obtain ⟨vs, h4, h5⟩ := h3 i x hx
    exact ⟨vs, fun j hj => (hb.cell (p := ⟨b, _, none⟩) h2).trans (h4 j hj), hR _ _ _ _ hb h5⟩⟩

theorem Sl.nil0 : Sl R sz w none 0 0 [] := ⟨rfl, Nat.zero_le _, by simp [maxLen], by omega, fun _ => rfl, fun h => absurd h (by omega)⟩
theorem Sl.nilA {ad : Addr} (c : Nat) (hc : c ≤ maxLen) : Sl R sz w (some ad) 0 c [] := ⟨rfl, Nat.zero_le _, hc, by omega, fun h => (by cases h), fun h => absurd h (by omega)⟩

/-- Element k, its cells and what it reads as. -/
theorem Sl.get {k : Nat} (h : Sl R sz w A n c xs) (hk : k < n) :
    ∃ b off x vs, A = some ⟨b, off, none⟩ ∧ b < w.heap.size ∧ xs[k]? = some x ∧ (∀ j, j < sz → w.cell? ⟨b, off + (k * sz + j), none⟩ = some (vs j)) ∧ R w vs x := by
  obtain ⟨b, off, h1, h2, h3⟩ := h.cells (by omega)
  have hl : k < xs.length := by rw [h.len]; exact hk
  obtain ⟨vs, h4, h5⟩ := h3 k xs[k] (List.getElem?_eq_getElem hl)
  exact ⟨b, off, xs[k], vs, h1, h2, List.getElem?_eq_getElem hl, h4, h5⟩
end

/-- What a reading must be: kept, and of cells that each hold one value. -/
structure Good {α : Type} (R : World → (Nat → Value) → α → Prop) (sz : Nat) : Prop where
  kept : Kept R
  one : ∀ w vs x, R w vs x → ∀ j, j < sz → (vs j).oneCell' = true
  pos : 0 < sz
/-- A list of cells reads as xs. -/
def Reads {α : Type} (R : World → (Nat → Value) → α → Prop) (sz : Nat) (w : World) (cells : List Value) (xs : List α) : Prop :=
  cells.length = xs.length * sz ∧ ∀ (i : Nat) (x : α), xs[i]? = some x → ∃ vs : Nat → Value, (∀ j, j < sz → cells[i * sz + j]? = some (vs j)) ∧ R w vs x
section
variable {α : Type} {R : World → (Nat → Value) → α → Prop} {sz : Nat} {w w' : World} {A : Option Addr} {n c : Nat} {xs ys : List α} {cs ds : List Value}
theorem Reads.nil : Reads R sz w [] [] := ⟨by simp, fun i x h => by simp at h⟩
theorem Reads.keep (hR : Kept R) (h : Reads R sz w cs xs) (hb : Below w.heap.size w w') : Reads R sz w' cs xs :=
  ⟨h.1, fun i x hx => by
    obtain ⟨vs, h1, h2⟩ := h.2 i x hx
    exact ⟨vs, h1, hR _ _ _ _ hb h2⟩⟩
theorem Reads.append (h : Reads R sz w cs xs) (g : Reads R sz w ds ys) : Reads R sz w (cs ++ ds) (xs ++ ys) := by
  refine ⟨by rw [List.length_append, List.length_append, h.1, g.1, Nat.add_mul], fun i x hx => ?_⟩
  by_cases hi : i < xs.length
  · rw [List.getElem?_append_left hi] at hx
    obtain ⟨vs, h1, h2⟩ := h.2 i x hx
    refine ⟨vs, fun j hj => ?_, h2⟩
    rw [List.getElem?_append_left]
    · exact h1 j hj
    · exact (List.getElem?_eq_some_iff.1 (h1 j hj)).1
  · rw [List.getElem?_append_right (by omega)] at hx
    obtain ⟨vs, h1, h2⟩ := g.2 _ x hx
    refine ⟨vs, fun j hj => ?_, h2⟩
    have e : i * sz = xs.length * sz + (i - xs.length) * sz := by rw [← Nat.add_mul]; congr 1; omega
    rw [List.getElem?_append_right (by rw [h.1]; omega), h.1, e, show xs.length * sz + (i - xs.length) * sz + j - xs.length * sz = (i - xs.length) * sz + j from by omega]
    exact h1 j hj
theorem Reads.one {vs : Nat → Value} {x : α} (hR : R w vs x) (hl : cs.length = sz) (hc : ∀ j, j < sz → cs[j]? = some (vs j)) : Reads R sz w cs [x] := by
  refine ⟨by simpa using hl, fun i y hy => ?_⟩
  have hi : i = 0 := by
    have := (List.getElem?_eq_some_iff.1 hy).1
    simpa using this
  subst hi
  simp only [List.getElem?_cons_zero, Option.some.injEq] at hy
  subst hy
  exact ⟨vs, fun j hj => by simpa using hc j hj, hR⟩
/-- The cells of a slice that reads as xs. -/
theorem Sl.flat (G : Good R sz) (h : Sl R sz w A n c xs) :
    ∃ cells : List Value, cells.length = n * sz ∧ (A = none → n = 0 ∧ c = 0) ∧ (∀ ad, A = some ad → ∀ j u, cells[j]? = some u → w.cell? (ad.add j) = some u) ∧ (∀ u ∈ cells, u.oneCell' = true) ∧ Reads R sz w cells xs := by
  by_cases hn : 0 < n
  · obtain ⟨b, off, hA, hb, hc⟩ := h.cells hn
    have key : ∀ q, q < n * sz → ∃ (i j : Nat) (x : α) (vs : Nat → Value), q = i * sz + j ∧ j < sz ∧ xs[i]? = some x ∧ (∀ j, j < sz → w.cell? ⟨b, off + (i * sz + j), none⟩ = some (vs j)) ∧ R w vs x := by
      intro q hq
      have hi : q / sz < n := Nat.div_lt_of_lt_mul (by rw [Nat.mul_comm]; exact hq)
      have hx : xs[q / sz]? = some (xs[q / sz]'(by rw [h.len]; exact hi)) := List.getElem?_eq_getElem _
      obtain ⟨vs, h1, h2⟩ := hc _ _ hx
      exact ⟨q / sz, q % sz, _, vs, by rw [Nat.mul_comm]; exact (Nat.div_add_mod q sz).symm, Nat.mod_lt _ G.pos, hx, h1, h2⟩
    refine ⟨(List.range (n * sz)).map fun q => (w.cell? ⟨b, off + q, none⟩).getD undef, by simp, fun e => (by rw [hA] at e; cases e), ?_, ?_, ?_⟩
    · intro ad had j u hu
      rw [hA] at had
      injection had with had
      subst had
      rw [List.getElem?_map] at hu
      by_cases hj : j < n * sz
      · rw [List.getElem?_range hj] at hu
        obtain ⟨i, k, x, vs, rfl, hk, hx, h1, h2⟩ := key j hj
        simp only [Option.map_some, Option.some.injEq] at hu
        rw [h1 k hk] at hu
        have : ((⟨b, off, none⟩ : Addr).add (i * sz + k)) = ⟨b, off + (i * sz + k), none⟩ := by unfold Addr.add; split <;> simp_all
        rw [this, h1 k hk]
        simpa using hu
      · rw [List.getElem?_eq_none (by simp; omega)] at hu
        cases hu
    · intro u hu
      simp only [List.mem_map, List.mem_range] at hu
      obtain ⟨q, hq, rfl⟩ := hu
      obtain ⟨i, k, x, vs, rfl, hk, hx, h1, h2⟩ := key q hq
      rw [h1 k hk]
      exact G.one _ _ _ h2 k hk
    · refine ⟨by simp [h.len], ?_⟩
      intro i x hx
      obtain ⟨vs, h1, h2⟩ := hc i x hx
      refine ⟨vs, fun j hj => ?_, h2⟩
      have hi : i < n := by have := (List.getElem?_eq_some_iff.1 hx).1; rw [h.len] at this; exact this
      have hlt : i * sz + j < n * sz := by
        have : (i + 1) * sz ≤ n * sz := Nat.mul_le_mul_right _ hi
        rw [Nat.add_mul] at this
        omega
      rw [List.getElem?_map, List.getElem?_range hlt]
      simp only [Option.map_some, h1 j hj, Option.getD_some]
  · have hn0 : n = 0 := by omega
    have hx : xs = [] := List.eq_nil_of_length_eq_zero (by rw [h.len, hn0])
    subst hx
    refine ⟨[], by simp [hn0], fun e => ⟨hn0, h.nul e⟩, fun ad _ j u hu => by simp at hu, fun u hu => by simp at hu, Reads.nil⟩
end

/-! ### integers -/
def IntR : World → (Nat → Value) → Int → Prop := fun _ vs x => vs 0 = .int .i64 x
theorem IntR.good : Good IntR 1 where
  kept := fun _ _ _ _ _ h => h
  one := fun w vs x h j hj => by
    obtain rfl : j = 0 := by omega
    rw [h]; rfl
  pos := by omega
abbrev Ints (w : World) (A : Option Addr) (n c : Nat) (xs : List Int) : Prop := Sl IntR 1 w A n c xs
theorem IntR.kept : Kept IntR := fun _ _ _ _ _ h => h
theorem Ints.get {w : World} {A : Option Addr} {n c k : Nat} {xs : List Int} (h : Ints w A n c xs) (hk : k < n) :
    ∃ b off x, A = some ⟨b, off, none⟩ ∧ b < w.heap.size ∧ Hid (xs[k]? = some x) ∧ w.cell? ⟨b, off + k, none⟩ = some (.int .i64 x) := by
  obtain ⟨b, off, x, vs, h1, h2, h3, h4, h5⟩ := Sl.get h hk
  refine ⟨b, off, x, h1, h2, h3, ?_⟩
  have := h4 0 (by omega)
  rw [h5] at this
  simpa using this
theorem Ints.keep {w w' : World} {A : Option Addr} {n c : Nat} {xs : List Int} (h : Ints w A n c xs) (hb : Below w.heap.size w w') : Ints w' A n c xs := Sl.keep IntR.kept h hb

/-! ### transitions -/
def TranV (w : World) (v0 v1 v2 : Value) (t : PTran) : Prop :=
  v0 = .int .i64 t.label ∧ ∃ A1 n1 c1 A2 n2 c2, v1 = .slice A1 n1 c1 ∧ v2 = .slice A2 n2 c2 ∧ Ints w A1 n1 c1 t.pre ∧ Ints w A2 n2 c2 t.post ∧ n1 ≤ 17592186044416 ∧ n2 ≤ 17592186044416
def TranR : World → (Nat → Value) → PTran → Prop := fun w vs t => TranV w (vs 0) (vs 1) (vs 2) t
theorem TranV.keep {w w' : World} {v0 v1 v2 : Value} {t : PTran} (hb : Below w.heap.size w w') (h : TranV w v0 v1 v2 t) : TranV w' v0 v1 v2 t := by
  obtain ⟨h0, A1, n1, c1, A2, n2, c2, h1, h2, h3, h4, h5⟩ := h
  exact ⟨h0, A1, n1, c1, A2, n2, c2, h1, h2, h3.keep hb, h4.keep hb, h5⟩
theorem TranR.kept : Kept TranR := fun _ _ _ _ hb h => TranV.keep hb h
theorem TranR.good : Good TranR 3 where
  kept := TranR.kept
  one := fun w vs x h j hj => by
    obtain ⟨h0, A1, n1, c1, A2, n2, c2, h1, h2, _⟩ := h
    match j, hj with
    | 0, _ => rw [h0]; rfl
    | 1, _ => rw [h1]; rfl
    | 2, _ => rw [h2]; rfl
  pos := by omega
abbrev Trans (w : World) (A : Option Addr) (n c : Nat) (ts : List PTran) : Prop := Sl TranR 3 w A n c ts
theorem Trans.keep {w w' : World} {A : Option Addr} {n c : Nat} {xs : List PTran} (h : Trans w A n c xs) (hb : Below w.heap.size w w') : Trans w' A n c xs := Sl.keep TranR.kept h hb
theorem Trans.get {w : World} {A : Option Addr} {n c k : Nat} {ts : List PTran} (h : Trans w A n c ts) (hk : k < n) :
    ∃ b off t A1 n1 c1 A2 n2 c2, A = some ⟨b, off, none⟩ ∧ b < w.heap.size ∧ Hid (ts[k]? = some t) ∧ w.cell? ⟨b, off + k * 3, none⟩ = some (.int .i64 t.label) ∧
      w.cell? ⟨b, off + k * 3 + 1, none⟩ = some (.slice A1 n1 c1) ∧ w.cell? ⟨b, off + k * 3 + 2, none⟩ = some (.slice A2 n2 c2) ∧ Ints w A1 n1 c1 t.pre ∧ Ints w A2 n2 c2 t.post ∧ n1 ≤ 17592186044416 ∧ n2 ≤ 17592186044416 := by
  obtain ⟨b, off, t, vs, h1, h2, h3, h4, h0, A1, n1, c1, A2, n2, c2, e1, e2, i1, i2, i3, i4⟩ := Sl.get h hk
  refine ⟨b, off, t, A1, n1, c1, A2, n2, c2, h1, h2, h3, ?_, ?_, ?_, i1, i2, i3, i4⟩
  · rw [← h0]; exact h4 0 (by omega)
  · rw [← e1]; exact h4 1 (by omega)
  · rw [← e2]; exact h4 2 (by omega)

end Go.Proofs.Ytnfppolgaeibeaa
