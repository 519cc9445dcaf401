/- The memory of the reference's tree: the knots' row, and the row of their lines. Conditions: none. -/
import Derived.Test.YtcjjmfppkfmheaaCoverK
import Derived.Test.YtcjjmfppkfmheaaCoverL
import Derived.Test.YtcjjmfppkfmheaaAppW
namespace Go.Proofs.Ytcjjmfppkfmheaa
open Go.RowKit

theorem tyLs : SlTy 47 33 1 24 := SlTy.mk' (z := .slice none 0 0) Try.underlying47 (by kernel_rfl) rfl (by decide)
theorem tyLss : SlTy 106 47 1 24 := SlTy.mk' (z := .slice none 0 0) Try.underlying106 (by kernel_rfl) rfl (by decide)
/-- A block that stays: below N, a row of ints, a row of lists of ints. -/
def SafeL (N : Nat) (w : World) (b : Nat) : Prop := SafeB N w b ∨ ∃ cs fr, w.heap[b]? = some (.cells cs 33 fr)
theorem SafeL.ne {N : Nat} {w : World} {b g : Nat} (h : SafeL N w b) (hg : N ≤ g) {cs : Array Value} {ty : Nat} {fr : Nat × Nat} (ht : w.heap[g]? = some (.cells cs ty fr)) (hne : ty ≠ 3) (hne2 : ty ≠ 33) : b ≠ g := by
  rcases h with h | ⟨cs', fr', h⟩
  · exact h.ne hg ht hne
  · rintro rfl
    rw [ht] at h
    injection h with h
    injection h with _ h
    exact hne2 h
/-- A mark, in a list. -/
def RefR (N : Nat) : World → (Nat → Value) → List Int → Prop := fun w vs m => ∃ A n c, vs 0 = .slice A n c ∧ Ints w A n c m ∧ Far N w A n
theorem RefR.same {N : Nat} {w w' : World} (hs : w.heap.size ≤ w'.heap.size) (hb : ∀ b, b < w.heap.size → SafeB N w b → w'.heap[b]? = w.heap[b]?) {vs : Nat → Value} {m : List Int} (h : RefR N w vs m) : RefR N w' vs m := by
  obtain ⟨A, n, c, h2, h3, h4⟩ := h
  have := h4.same h3 hs hb
  exact ⟨A, n, c, h2, this.2, this.1⟩
theorem RefR.kept (N : Nat) : Kept (RefR N) := fun _ _ _ _ hb h => RefR.same hb.size (fun b hlt _ => hb.block b hlt) h
theorem RefR.good (N : Nat) : Good (RefR N) 1 where
  kept := RefR.kept N
  one := fun w vs x h j hj => by
    obtain rfl : j = 0 := by omega
    obtain ⟨A, n, c, e, _⟩ := h
    rw [e]; rfl
  pos := by omega
abbrev Refs (N : Nat) (w : World) (A : Option Addr) (n c : Nat) (l : List (List Int)) : Prop := Sl (RefR N) 1 w A n c l
/-- A list of marks in a row of its own. -/
def FarL (w : World) (A : Option Addr) (n : Nat) : Prop := ∀ b off, A = some ⟨b, off, none⟩ → 0 < n → ∃ cs fr, w.heap[b]? = some (.cells cs 33 fr)
theorem Refs.same {N : Nat} {w w' : World} {A : Option Addr} {n c : Nat} {l : List (List Int)} (h : FarL w A n) (i : Refs N w A n c l) (hs : w.heap.size ≤ w'.heap.size) (hb : ∀ b, b < w.heap.size → SafeL N w b → w'.heap[b]? = w.heap[b]?) : FarL w' A n ∧ Refs N w' A n c l := by
  constructor
  · intro b off hA hn
    obtain ⟨cs, fr, h1⟩ := h b off hA hn
    exact ⟨cs, fr, (hb b (Array.getElem?_eq_some_iff.1 h1).1 (.inr ⟨cs, fr, h1⟩)).trans h1⟩
  · refine ⟨i.len, i.le, i.cap, i.small, i.nul, fun hn => ?_⟩
    obtain ⟨b, off, e, hlt, hc⟩ := i.cells hn
    refine ⟨b, off, e, Nat.lt_of_lt_of_le hlt hs, fun j x hx => ?_⟩
    obtain ⟨vs, h1, h2⟩ := hc j x hx
    exact ⟨vs, fun q hq => (World.cell?_of_block (hb b hlt (.inr (h b off e hn)))).trans (h1 q hq), RefR.same hs (fun b h1 h2 => hb b h1 (.inl h2)) h2⟩
theorem FarL.own {N B n c : Nat} {w : World} {A : Option Addr} {l : List (List Int)} (h : OwnSl (RefR N) 1 w B 33 (.slice A n c) n l) : FarL w A n := by
  intro b off hA hn
  obtain ⟨cells, h1, _⟩ := h
  rcases h1.2 with ⟨e, _⟩ | ⟨g, cap, cur, e, _, hh, _⟩
  · subst hA; cases e
  · subst hA
    injection e with e1 _ _
    injection e1 with e1
    injection e1 with e1
    subst e1
    exact ⟨cur, _, hh⟩
theorem FarL.nil (w : World) (A : Option Addr) : FarL w A 0 := fun _ _ _ h => absurd h (by omega)
def LnR (N : Nat) : World → (Nat → Value) → List (List Int) → Prop := fun w vs l => ∃ A n c, vs 0 = .slice A n c ∧ Refs N w A n c l ∧ FarL w A n
theorem LnR.same {N : Nat} {w w' : World} (hs : w.heap.size ≤ w'.heap.size) (hb : ∀ b, b < w.heap.size → SafeL N w b → w'.heap[b]? = w.heap[b]?) {vs : Nat → Value} {l : List (List Int)} (h : LnR N w vs l) : LnR N w' vs l := by
  obtain ⟨A, n, c, h2, h3, h4⟩ := h
  have := Refs.same h4 h3 hs hb
  exact ⟨A, n, c, h2, this.2, this.1⟩
theorem LnR.kept (N : Nat) : Kept (LnR N) := fun _ _ _ _ hb h => LnR.same hb.size (fun b hlt _ => hb.block b hlt) h
abbrev Lines (N : Nat) (w : World) (A : Option Addr) (n c : Nat) (ls : List (List (List Int))) : Prop := Sl (LnR N) 1 w A n c ls
theorem Lines.get {N : Nat} {w : World} {A : Option Addr} {n c k : Nat} {ls : List (List (List Int))} (h : Lines N w A n c ls) (hk : k < n) :
    ∃ b off x B m d, A = some ⟨b, off, none⟩ ∧ b < w.heap.size ∧ Hid (ls[k]? = some x) ∧ w.cell? ⟨b, off + k, none⟩ = some (.slice B m d) ∧ Hid (Refs N w B m d x) ∧ Hid (FarL w B m) := by
  obtain ⟨b, off, x, vs, h1, h2, h3, h4, B, m, d, e, i, f⟩ := Sl.get h hk
  refine ⟨b, off, x, B, m, d, h1, h2, h3, ?_, i, f⟩
  have := h4 0 (by omega)
  rw [e] at this
  simpa using this
theorem Refs.get {N : Nat} {w : World} {A : Option Addr} {n c k : Nat} {ls : List (List Int)} (h : Refs N w A n c ls) (hk : k < n) :
    ∃ b off x B m d, A = some ⟨b, off, none⟩ ∧ b < w.heap.size ∧ Hid (ls[k]? = some x) ∧ w.cell? ⟨b, off + k, none⟩ = some (.slice B m d) ∧ Hid (Ints w B m d x) := by
  obtain ⟨b, off, x, vs, h1, h2, h3, h4, B, m, d, e, i, f⟩ := Sl.get h hk
  refine ⟨b, off, x, B, m, d, h1, h2, h3, ?_, i⟩
  have := h4 0 (by omega)
  rw [e] at this
  simpa using this
/-- Marks as knots. -/
def KnR (N : Nat) : World → (Nat → Value) → PKnot → Prop := MkR N

structure ETreeM (N : Nat) (kl : List PKnot) (ll : List (List (List Int))) (v u : Value) (W : World) : Prop where
  own : OwnSl (MkR N) 3 W N 100 v kl.length kl
  lin : OwnSl (LnR N) 1 W N 47 u ll.length ll
section
variable {N : Nat} {kl : List PKnot} {ll : List (List (List Int))} {v u v' u' : Value} {W W' : World}
theorem ETreeM.keep (h : ETreeM N kl ll v u W) (hb : Below W.heap.size W W') : ETreeM N kl ll v u W' := ⟨h.own.keep (MkR.kept N) hb, h.lin.keep (LnR.kept N) hb⟩
theorem MkR.knots {N n c : Nat} {w : World} {A : Option Addr} {kl : List PKnot} (h : Sl (MkR N) 3 w A n c kl) : Knots w A n c kl := by
  refine ⟨h.len, h.le, h.cap, h.small, h.nul, fun hn => ?_⟩
  obtain ⟨b, off, e, hlt, hc⟩ := h.cells hn
  refine ⟨b, off, e, hlt, fun i x hx => ?_⟩
  obtain ⟨vs, h1, h2⟩ := hc i x hx
  exact ⟨vs, h1, h2.knot⟩
theorem ETreeM.rows (h : ETreeM N kl ll v u W) (h1 : kl.length ≤ 301) (h2 : ll.length ≤ 301) : ∃ A c B d, v = .slice A kl.length c ∧ u = .slice B ll.length d ∧ Knots W A kl.length c kl ∧ Lines N W B ll.length d ll ∧ Sl (MkR N) 3 W A kl.length c kl := by
  obtain ⟨A, c, hv, hs⟩ := h.own.sl (by omega)
  obtain ⟨B, d, hu, ht⟩ := h.lin.sl (by omega)
  exact ⟨A, c, B, d, hv, hu, MkR.knots hs, ht, hs⟩
theorem ETreeM.knotMk {A : Option Addr} {n c : Nat} (h : Sl (MkR N) 3 W A n c kl) {k : Nat} (hk : k < n) : ∃ b off x B m d, A = some ⟨b, off, none⟩ ∧ b < W.heap.size ∧ Hid (kl[k]? = some x) ∧ W.cell? ⟨b, off + k * 3 + 2, none⟩ = some (.slice B m d) ∧ Hid (Ints W B m d x.mark) ∧ Hid (Far N W B m) := by
  obtain ⟨b, off, x, vs, h1, h2, h3, h4, e0, e1, B, m, d, e2, e3, e4⟩ := Sl.get h hk
  refine ⟨b, off, x, B, m, d, h1, h2, h3, ?_, e3, e4⟩
  rw [← e2]; exact h4 2 (by omega)
/-- A knot more. -/
theorem ETreeM.knot (h : ETreeM N kl ll v u W) {x : PKnot} {n : Nat} (own : OwnSl (MkR N) 3 W' N 100 v' n (kl ++ [x])) (hg : W.grownBy W' v.ownBlock) : ETreeM N (kl ++ [x]) ll v' u W' := by
  have hn := own.len
  refine ⟨by rw [hn]; exact own, ?_⟩
  obtain ⟨cells, o1, _⟩ := h.own
  obtain ⟨cells2, o2, _⟩ := h.lin
  exact h.lin.kept hg (own_ne o2 o1 (by decide)) (fun vs y hy => LnR.same hg.size (fun b hlt hs => hg.block b hlt (fun e => by
    obtain ⟨h1, cur, h2⟩ := own_at o1 e.symm
    exact hs.ne h1 h2 (by decide) (by decide) rfl)) hy)
/-- A line more. -/
theorem ETreeM.line (h : ETreeM N kl ll v u W) {x : List (List Int)} {n : Nat} (own : OwnSl (LnR N) 1 W' N 47 u' n (ll ++ [x])) (hg : W.grownBy W' u.ownBlock) : ETreeM N kl (ll ++ [x]) v u' W' := by
  have hn := own.len
  refine ⟨?_, by rw [hn]; exact own⟩
  obtain ⟨cells, o1, _⟩ := h.own
  obtain ⟨cells2, o2, _⟩ := h.lin
  exact h.own.kept hg (own_ne o1 o2 (by decide)) (fun vs y hy => MkR.same hg.size (fun b hlt hs => hg.block b hlt (fun e => by
    obtain ⟨h1, cur, h2⟩ := own_at o2 e.symm
    exact hs.ne h1 h2 (by decide) rfl)) hy)
theorem ETreeM.keepKnots (h : ETreeM N kl ll v u W) : ∀ w', W.grownBy w' v.ownBlock → ∀ vs y, MkR N W vs y → MkR N w' vs y := by
  obtain ⟨cells, o1, _⟩ := h.own
  exact fun w' hg vs y hk => MkR.grown o1 hg hk
theorem ETreeM.keepLines (h : ETreeM N kl ll v u W) : ∀ w', W.grownBy w' u.ownBlock → ∀ vs y, LnR N W vs y → LnR N w' vs y := by
  obtain ⟨cells, o1, _⟩ := h.lin
  exact fun w' hg vs y hk => LnR.same hg.size (fun b hlt hs => hg.block b hlt (fun e => by
    obtain ⟨h1, cur, h2⟩ := own_at o1 e.symm
    exact hs.ne h1 h2 (by decide) (by decide) rfl)) hk
/-- A box beside the rows, as they grow. -/
theorem ETreeM.boxK (h : ETreeM N kl ll v u W) (hg : W.grownBy W' v.ownBlock) {b ty : Nat} {cs : Array Value} (hx : Box W b ty cs) (hne : ty ≠ 100) : Box W' b ty cs := by
  obtain ⟨cells, o1, _⟩ := h.own
  exact hx.grown hg (fun e => by
    obtain ⟨_, cur, h2⟩ := own_at o1 e
    unfold Box at hx
    rw [h2] at hx
    injection hx with h3
    injection h3 with _ h3
    exact absurd h3.symm hne)
theorem ETreeM.boxL (h : ETreeM N kl ll v u W) (hg : W.grownBy W' u.ownBlock) {b ty : Nat} {cs : Array Value} (hx : Box W b ty cs) (hne : ty ≠ 47) : Box W' b ty cs := by
  obtain ⟨cells, o1, _⟩ := h.lin
  exact hx.grown hg (fun e => by
    obtain ⟨_, cur, h2⟩ := own_at o1 e
    unfold Box at hx
    rw [h2] at hx
    injection hx with h3
    injection h3 with _ h3
    exact absurd h3.symm hne)
/-- The mine-list stays as the rows grow. -/
theorem ETreeM.refsK (h : ETreeM N kl ll v u W) (hg : W.grownBy W' v.ownBlock) {A : Option Addr} {n c : Nat} {l : List (List Int)} (hf : FarL W A n) (hr : Refs N W A n c l) : FarL W' A n ∧ Refs N W' A n c l := by
  obtain ⟨cells, o1, _⟩ := h.own
  exact Refs.same hf hr hg.size (fun b hlt hs => hg.block b hlt (fun e => by
    obtain ⟨h1, cur, h2⟩ := own_at o1 e.symm
    exact hs.ne h1 h2 (by decide) (by decide) rfl))
theorem ETreeM.refsL (h : ETreeM N kl ll v u W) (hg : W.grownBy W' u.ownBlock) {A : Option Addr} {n c : Nat} {l : List (List Int)} (hf : FarL W A n) (hr : Refs N W A n c l) : FarL W' A n ∧ Refs N W' A n c l := by
  obtain ⟨cells, o1, _⟩ := h.lin
  exact Refs.same hf hr hg.size (fun b hlt hs => hg.block b hlt (fun e => by
    obtain ⟨h1, cur, h2⟩ := own_at o1 e.symm
    exact hs.ne h1 h2 (by decide) (by decide) rfl))
/-- The first knot and its empty line: two rows. -/
theorem ETreeM.start {Ac : Option Addr} {m cc : Nat} {xs : List Int} (i : Ints W Ac m cc xs) (far : Far N W Ac m) (hN : N ≤ W.heap.size) :
    ETreeM N [⟨-1, -1, xs⟩] [[]] (.slice (some ⟨W.heap.size, 0, none⟩) 1 1) (.slice (some ⟨W.heap.size + 1, 0, none⟩) 1 1) ((W.alloc (.cells #[.int .i64 (-1), .int .i64 (-1), .slice Ac m cc] 100)).alloc (.cells #[.slice none 0 0] 47)) := by
  have b0 : Below W.heap.size W ((W.alloc (.cells #[.int .i64 (-1), .int .i64 (-1), .slice Ac m cc] 100)).alloc (.cells #[.slice none 0 0] 47)) := ((Below.refl _ W).alloc (Nat.le_refl _) _).alloc (by simp) _
  have hk := far.same i b0.size (fun b hlt _ => b0.block b hlt)
  have hr : Box ((W.alloc (.cells #[.int .i64 (-1), .int .i64 (-1), .slice Ac m cc] 100)).alloc (.cells #[.slice none 0 0] 47)) W.heap.size 100 #[.int .i64 (-1), .int .i64 (-1), .slice Ac m cc] := (Box.new W _ _).old _
  have hr2 : Box ((W.alloc (.cells #[.int .i64 (-1), .int .i64 (-1), .slice Ac m cc] 100)).alloc (.cells #[.slice none 0 0] 47)) (W.heap.size + 1) 47 #[.slice none 0 0] := Box.newAt (by simp) _ _
  refine ⟨⟨[.int .i64 (-1), .int .i64 (-1), .slice Ac m cc], ⟨rfl, .inr ⟨W.heap.size, 1, _, rfl, hN, hr, Nat.le_refl _, by simp [maxLen], rfl, rfl⟩⟩, Reads.one (vs := fun j => match j with | 0 => .int .i64 (-1) | 1 => .int .i64 (-1) | _ => .slice Ac m cc) ⟨rfl, rfl, Ac, m, cc, rfl, hk.2, hk.1⟩ rfl (fun j hj => ?_), rfl⟩, ⟨[.slice none 0 0], ⟨rfl, .inr ⟨W.heap.size + 1, 1, _, rfl, by omega, hr2, Nat.le_refl _, by simp [maxLen], rfl, rfl⟩⟩, Reads.one (vs := fun _ => .slice none 0 0) ⟨none, 0, 0, rfl, Sl.nil0, FarL.nil _ _⟩ rfl (fun j hj => ?_), rfl⟩⟩
  · match j, hj with
    | 0, _ => rfl
    | 1, _ => rfl
    | 2, _ => rfl
  · obtain rfl : j = 0 := by omega
    rfl
end
end Go.Proofs.Ytcjjmfppkfmheaa
