/- Slices that a call makes for itself: appended to, or made whole; what they read as when they are handed back. Conditions: the lengths stay below what memory bears. -/
import Derived.Test.YtnfppolgaeibeaaBase
namespace Go.Proofs.Ytnfppolgaeibeaa
open Go.RowKit

/-- Slice type t has elements of type e, of so many cells and bytes. -/
structure SlTy (t e size bytes : Nat) : Prop where
  und : Try.prog.underlying t = some (.slice e)
  info : ∃ i z, Try.prog.info? e = some i ∧ i.zero = some z ∧ i.size = size ∧ i.bytes = bytes ∧ z.cells.size = size
  pos : 0 < size
theorem SlTy.mk' {t e size bytes : Nat} {z : Value} (h1 : Try.prog.underlying t = some (.slice e)) (h2 : (Try.prog.info? e).map (fun i => (i.zero, i.size, i.bytes)) = some (some z, size, bytes)) (h3 : z.cells.size = size) (h4 : 0 < size) : SlTy t e size bytes := by
  obtain ⟨i, hi, hz0, hz1, hz2⟩ := info_parts h2
  exact ⟨h1, ⟨i, z, hi, hz0, hz1, hz2, h3⟩, h4⟩
theorem tyInts : SlTy 35 3 1 8 := SlTy.mk' (z := .int .i64 0) Try.underlying35 (by kernel_rfl) rfl (by decide)

/-- Append of a new row's elements to a slice of the call's own. -/
theorem wpList_app {t e size bytes : Nat} (T : SlTy t e size bytes) {ops : Array Oper} {rest : List Oper} {o : Oper} {a : Act} {Q : Exit → Act → World → Prop} (hgd : o.guard = none) (s x : Operand)
    (ho : o.op = .call { callee := .builtin .append, args := #[s, x], argTypes := #[t, t] })
    {w0 w : World} {B : Nat} {v : Value} {n m : Nat} {xs : List Value} (us : Array Value) {H : Nat} (hs : a.eval s = v) (hx : a.eval x = .slice (some ⟨H, 0, none⟩) m m) (hH : H = w.heap.size) (hus : us.size = m * size) (one : ∀ u ∈ us.toList, u.oneCell' = true)
    (own : w.ownsRow B e size v n xs) (hb : Below B w0 w) (hB : B ≤ w.heap.size) (h63 : n + m ≤ 281474976710656) (hn : (n + m) * bytes ≤ 140737488355328)
    (K : ∀ v' w', w'.ownsRow B e size v' (n + m) (xs ++ us.toList) → w.grownBy w' v.ownBlock → Below B w0 w' → wpList Try.prog ops Q rest (a.put o.dst v') w') :
    wpList Try.prog ops Q (o :: rest) a (w.alloc (.cells us e)) := by
  subst hH
  obtain ⟨i, z, h1, h2, h3, h4, h5⟩ := T.info
  have hlt : ∀ k, v.ownBlock = some k → B ≤ k ∧ k < w.heap.size := own.lt
  refine wpList_append_own _ hgd s x t ho B e i z size bytes T.und h1 h2 h3 h4 h5 T.pos v n xs hs (own.alloc _) ⟨w.heap.size, 0, none⟩ m m us.toList hx (by simpa using hus) (fun j u hj => ?_) one ?_ hn (by simp; omega) (fun v' w' h6 h7 h8 => ?_)
  · have hz : ((⟨w.heap.size, 0, none⟩ : Addr).add j) = ⟨w.heap.size, j, none⟩ := by unfold Addr.add; split <;> simp_all
    rw [hz]
    have : (w.alloc (.cells us e)).cell? ⟨w.heap.size, j, none⟩ = us[j]? := cell_of_row _ _ _ _ _ (0, 0) (heap_alloc_new w _)
    rw [this]
    simpa using hj
  · simp only [maxLen]; omega
  · have hg : w.grownBy w' v.ownBlock := ⟨h7.os, h7.tape, h7.output, Nat.le_trans (by simp) h7.size, fun k hk hne => (h7.block k (by simp; omega) hne).trans (heap_alloc_old w _ hk)⟩
    exact K v' w' h6 hg (hb.grown hg hB (fun k hk => (hlt k hk).1))

/-- make([]T, n), T of one cell: n zero values, at the head of a new row. -/
theorem wpList_mk {t e bytes : Nat} {z : Value} (h1 : Try.prog.underlying t = some (.slice e)) (h2 : (Try.prog.info? e).map (fun i => (i.zero, i.size, i.bytes)) = some (some z, 1, bytes)) (hz : z.cells = #[z]) {ops : Array Oper} {rest : List Oper} {o : Oper} {a : Act} {Q : Exit → Act → World → Prop}
    (hg : o.guard = none) (l c : Operand) (hop : o.op = Op.makeSlice t l c) {w0 w : World} {B : Nat} {L C : Int} (n : Nat) (hl : a.eval l = .int .i64 L) (hc : a.eval c = .int .i64 C) (hL : L = (n : Int)) (hC : C = (n : Int))
    (hn : n ≤ 281474976710656) (hbytes : bytes * n ≤ 281474976710656) (hb : Below B w0 w) (hB : B ≤ w.heap.size)
    (K : ∀ w', w'.ownsRow B e 1 (.slice (some ⟨w.heap.size, 0, none⟩) n n) n (List.replicate n z) → w.grownBy w' none → Below B w0 w' → wpList Try.prog ops Q rest (a.put o.dst (.slice (some ⟨w.heap.size, 0, none⟩) n n)) w') :
    wpList Try.prog ops Q (o :: rest) a w := by
  obtain ⟨i, hi, hz0, hz1, hz2⟩ := info_parts h2
  refine wpList_make_full w hg l c t hop B e i z 1 h1 hi hz0 hz1 .i64 .i64 L C n hl hc hL hC (by rw [hz2]; exact hbytes) (by simp only [maxLen]; omega) hB (fun w' h3 h4 => ?_)
  rw [hz, Nat.mul_one, toList_madeCells_one] at h3
  exact K w' h3 h4 (hb.grown h4 hB (fun k hk => by cases hk))
theorem infoInt : (Try.prog.info? 3).map (fun i => (i.zero, i.size, i.bytes)) = some (some (.int .i64 0), 1, 8) := by kernel_rfl
theorem infoBool : (Try.prog.info? 4).map (fun i => (i.zero, i.size, i.bytes)) = some (some (.bool false), 1, 1) := by kernel_rfl

/-! ### a slice of the call's own, and what it reads as -/
def OwnSl {α : Type} (R : World → (Nat → Value) → α → Prop) (sz : Nat) (w : World) (B e : Nat) (v : Value) (n : Nat) (xs : List α) : Prop :=
  ∃ cells, w.ownsRow B e sz v n cells ∧ Reads R sz w cells xs ∧ xs.length = n
abbrev OwnInts (w : World) (B : Nat) (v : Value) (n : Nat) (xs : List Int) : Prop := OwnSl IntR 1 w B 3 v n xs
section
variable {α : Type} {R : World → (Nat → Value) → α → Prop} {sz : Nat} {w w' : World} {B e : Nat} {v : Value} {n : Nat} {xs : List α}
theorem OwnSl.nil : OwnSl R sz w B e (.slice none 0 0) 0 [] := ⟨[], World.ownsRow_nil _ _ _ _, Reads.nil, rfl⟩
theorem OwnSl.lt (h : OwnSl R sz w B e v n xs) : ∀ k, v.ownBlock = some k → B ≤ k ∧ k < w.heap.size := by
  obtain ⟨cells, h1, h2⟩ := h
  exact h1.lt
theorem OwnSl.kept (h : OwnSl R sz w B e v n xs) {row : Option Nat} (hg : w.grownBy w' row) (hne : v.ownBlock = none ∨ v.ownBlock ≠ row) (hb : ∀ vs x, R w vs x → R w' vs x) : OwnSl R sz w' B e v n xs := by
  obtain ⟨cells, h1, h2, h3⟩ := h
  exact ⟨cells, h1.kept hg hne, ⟨h2.1, fun i x hx => by obtain ⟨vs, a, b⟩ := h2.2 i x hx; exact ⟨vs, a, hb _ _ b⟩⟩, h3⟩
/-- Nothing that was there has turned: what is owned is owned still. -/
theorem OwnSl.keep (hR : Kept R) (h : OwnSl R sz w B e v n xs) (hb : Below w.heap.size w w') : OwnSl R sz w' B e v n xs := by
  refine h.kept (row := none) ⟨hb.os, hb.tape, hb.output, hb.size, fun k hk _ => hb.block k hk⟩ ?_ (fun vs x hx => hR _ _ _ _ hb hx)
  cases v.ownBlock <;> simp
theorem OwnSl.sl (h : OwnSl R sz w B e v n xs) (hn : n ≤ 281474976710656) : ∃ A c, v = .slice A n c ∧ Sl R sz w A n c xs := by
  obtain ⟨cells, h1, h2, h3⟩ := h
  rcases h1.2 with ⟨rfl, rfl⟩ | ⟨g, cap, cur, rfl, hg, hh, hnc, hcap, hcs, htake⟩
  · exact ⟨none, 0, rfl, h3, Nat.le_refl _, by simp [maxLen], by omega, fun _ => rfl, fun h => absurd h (by omega)⟩
  · refine ⟨_, cap, rfl, h3, hnc, hcap, hn, fun h => (by cases h), fun _ => ⟨g, 0, rfl, (Array.getElem?_eq_some_iff.1 hh).1, fun i x hx => ?_⟩⟩
    obtain ⟨vs, h4, h5⟩ := h2.2 i x hx
    refine ⟨vs, fun j hj => ?_, h5⟩
    have hi : i < n := by have := (List.getElem?_eq_some_iff.1 hx).1; omega
    have hlt : i * sz + j < n * sz := by
      have : (i + 1) * sz ≤ n * sz := Nat.mul_le_mul_right _ hi
      rw [Nat.add_mul] at this
      omega
    rw [Nat.zero_add, h1.cellAt _ hlt]
    exact h4 j hj
theorem OwnSl.len (h : OwnSl R sz w B e v n xs) : xs.length = n := h.choose_spec.2.2
end
theorem OwnInts.of_row {w : World} {B : Nat} {v : Value} {n : Nat} {xs : List Int} (h : w.ownsRow B 3 1 v n (xs.map (Value.int .i64))) : OwnInts w B v n xs := by
  have hl : xs.length = n := by have := h.1; simpa using this
  refine ⟨_, h, ⟨by simp, fun i x hx => ⟨fun _ => .int .i64 x, fun j hj => ?_, rfl⟩⟩, hl⟩
  have : j = 0 := by omega
  subst this
  simp [List.getElem?_map, hx]
theorem Ints.of_own {w : World} {B : Nat} {v : Value} {n : Nat} {xs : List Int} (h : w.ownsRow B 3 1 v n (xs.map (Value.int .i64))) (hn : n ≤ 281474976710656) : ∃ A c, v = .slice A n c ∧ Ints w A n c xs :=
  OwnSl.sl (OwnInts.of_row h) hn

/-- Append of new elements (a row that the statement has just laid) to a slice of the call's own. -/
theorem wpList_appNew {α : Type} {R : World → (Nat → Value) → α → Prop} {t e size bytes : Nat} (T : SlTy t e size bytes) {ops : Array Oper} {rest : List Oper} {o : Oper} {a : Act} {Q : Exit → Act → World → Prop} (hgd : o.guard = none) (s x : Operand)
    (ho : o.op = .call { callee := .builtin .append, args := #[s, x], argTypes := #[t, t] })
    {w0 w : World} {B : Nat} {v : Value} {n m : Nat} {xs : List α} (ys : List α) (us : Array Value) {H : Nat} (hs : a.eval s = v) (hx : a.eval x = .slice (some ⟨H, 0, none⟩) m m) (hH : H = w.heap.size) (hus : us.size = m * size) (one : ∀ u ∈ us.toList, u.oneCell' = true)
    (own : OwnSl R size w B e v n xs) (hread : Reads R size w us.toList ys) (hy : ys.length = m) (hb : Below B w0 w) (hB : B ≤ w.heap.size) (h63 : n + m ≤ 281474976710656) (hn : (n + m) * bytes ≤ 140737488355328)
    (hkeep : ∀ w', w.grownBy w' v.ownBlock → ∀ vs y, R w vs y → R w' vs y)
    (K : ∀ v' w', OwnSl R size w' B e v' (n + m) (xs ++ ys) → w.grownBy w' v.ownBlock → Below B w0 w' → wpList Try.prog ops Q rest (a.put o.dst v') w') :
    wpList Try.prog ops Q (o :: rest) a (w.alloc (.cells us e)) := by
  obtain ⟨cells, h1, h2, h3⟩ := own
  refine wpList_app T hgd s x ho us hs hx hH hus one h1 hb hB h63 hn (fun v' w' h4 h5 h6 => K v' w' ⟨_, h4, ?_, by rw [List.length_append, h3, hy]⟩ h5 h6)
  have := h2.append hread
  exact ⟨this.1, fun i x hx => by obtain ⟨vs, a, b⟩ := this.2 i x hx; exact ⟨vs, a, hkeep _ h5 _ _ b⟩⟩
/-- Append of one integer. -/
theorem wpList_appInt {ops : Array Oper} {rest : List Oper} {o : Oper} {a : Act} {Q : Exit → Act → World → Prop} (hgd : o.guard = none) (s x : Operand)
    (ho : o.op = .call { callee := .builtin .append, args := #[s, x], argTypes := #[35, 35] })
    {w0 w : World} {B : Nat} {v : Value} {n : Nat} {xs : List Int} {y : Int} {H : Nat} (hs : a.eval s = v) (hx : a.eval x = .slice (some ⟨H, 0, none⟩) 1 1) (hH : H = w.heap.size)
    (own : OwnInts w B v n xs) (hb : Below B w0 w) (hB : B ≤ w.heap.size) (hn : (n + 1) * 8 ≤ 140737488355328)
    (K : ∀ v' w', OwnInts w' B v' (n + 1) (xs ++ [y]) → w.grownBy w' v.ownBlock → Below B w0 w' → wpList Try.prog ops Q rest (a.put o.dst v') w') :
    wpList Try.prog ops Q (o :: rest) a (w.alloc (.cells #[.int .i64 y] 3)) :=
  wpList_appNew tyInts hgd s x ho [y] #[.int .i64 y] hs hx hH rfl (by simp [Value.oneCell']) own (Reads.one (vs := fun _ => .int .i64 y) rfl rfl (fun j hj => (by obtain rfl : j = 0 := (by omega); rfl))) rfl hb hB (by omega) hn (fun _ _ _ _ h => h) K
end Go.Proofs.Ytnfppolgaeibeaa
