/- Append of a whole slice to a slice of the call's own; slices.Clone on integers and on transitions. Conditions: the lengths stay below what memory bears. | Append of new elements inside a region that draws its order; transitions whose lists are the call's own. Conditions: the lengths stay below what memory bears. -/
import Derived.Test.YtcgdjpelcfofgaaDoorTextTellsK03
import Derived.Deep.AppendLies
namespace Go.Proofs.YtcgdjpelcfofgaaDoor
open Go.RowKit

theorem tyTrans : SlTy 22 44 3 56 := SlTy.mk' (z := .agg #[.int .i64 0, .slice none 0 0, .slice none 0 0]) Tryd.underlying22 (by kernel_rfl) rfl (by decide)
end Go.Proofs.YtcgdjpelcfofgaaDoor
namespace Go.Proofs.YtcgdjpelcfofgaaDoor
open Go.RowKit

theorem OwnSl.base {α : Type} {R : World → (Nat → Value) → α → Prop} {sz : Nat} {w : World} {B B' e : Nat} {v : Value} {n : Nat} {xs : List α} (h : OwnSl R sz w B e v n xs) (hB : B' ≤ B) : OwnSl R sz w B' e v n xs := by
  obtain ⟨cells, ⟨h0, h1⟩, h2, h3⟩ := h
  refine ⟨cells, ⟨h0, ?_⟩, h2, h3⟩
  rcases h1 with h1 | ⟨g, cap, cur, hv, hg, r⟩
  · exact .inl h1
  · exact .inr ⟨g, cap, cur, hv, by omega, r⟩
/-- Two rows of different element types never share a block. -/
theorem own_ne {w : World} {B1 B2 e1 e2 s1 s2 n1 n2 : Nat} {v1 v2 : Value} {c1 c2 : List Value} (h1 : w.ownsRow B1 e1 s1 v1 n1 c1) (h2 : w.ownsRow B2 e2 s2 v2 n2 c2) (hne : e1 ≠ e2) : v1.ownBlock = none ∨ v1.ownBlock ≠ v2.ownBlock := by
  rcases h1.2 with ⟨rfl, _⟩ | ⟨g1, cap1, cur1, rfl, _, hh1, _⟩
  · exact .inl rfl
  · refine .inr (fun e => ?_)
    rcases h2.2 with ⟨rfl, _⟩ | ⟨g2, cap2, cur2, rfl, _, hh2, _⟩
    · simp [Value.ownBlock] at e
    · simp only [Value.ownBlock, Option.some.injEq] at e
      subst e
      rw [hh1] at hh2
      injection hh2 with hh2
      injection hh2 with _ ht
      exact hne ht

/-- A transition whose two lists are the call's own. -/
def OwnTranR (B : Nat) : World → (Nat → Value) → PTran → Prop := fun w vs t =>
  vs 0 = .int .i64 t.label ∧ ∃ n1 n2, OwnInts w B (vs 1) n1 t.pre ∧ OwnInts w B (vs 2) n2 t.post ∧ n1 ≤ 17592186044416 ∧ n2 ≤ 17592186044416
theorem OwnTranR.kept (B : Nat) : Kept (OwnTranR B) := fun _ _ _ _ hb ⟨h0, n1, n2, h1, h2, h3⟩ => ⟨h0, n1, n2, h1.keep IntR.kept hb, h2.keep IntR.kept hb, h3⟩
theorem OwnTranR.tran {B : Nat} {w : World} {vs : Nat → Value} {t : PTran} (h : OwnTranR B w vs t) : TranR w vs t := by
  obtain ⟨h0, n1, n2, h1, h2, h3, h4⟩ := h
  obtain ⟨A1, c1, e1, i1⟩ := h1.sl (by omega)
  obtain ⟨A2, c2, e2, i2⟩ := h2.sl (by omega)
  exact ⟨h0, A1, n1, c1, A2, n2, c2, e1, e2, i1, i2, h3, h4⟩
theorem OwnTranR.grown {B : Nat} {w w' : World} {v : Value} {n : Nat} {cells : List Value} {B2 : Nat} (hown : w.ownsRow B2 44 3 v n cells) (hg : w.grownBy w' v.ownBlock) {vs : Nat → Value} {t : PTran} (h : OwnTranR B w vs t) : OwnTranR B w' vs t := by
  obtain ⟨h0, n1, n2, ⟨c1, a1, a2, a3⟩, ⟨c2, b1, b2, b3⟩, h3⟩ := h
  exact ⟨h0, n1, n2, ⟨c1, a1.kept hg (own_ne a1 hown (by decide)), ⟨a2.1, a2.2⟩, a3⟩, ⟨c2, b1.kept hg (own_ne b1 hown (by decide)), ⟨b2.1, b2.2⟩, b3⟩, h3⟩
theorem OwnSl.ofOwnTran {B w e v n} {xs : List PTran} (h : OwnSl (OwnTranR B) 3 w B e v n xs) : OwnSl TranR 3 w B e v n xs := by
  obtain ⟨cells, h1, h2, h3⟩ := h
  exact ⟨cells, h1, ⟨h2.1, fun i x hx => by obtain ⟨vs, a, b⟩ := h2.2 i x hx; exact ⟨vs, a, b.tran⟩⟩, h3⟩
/-- A store that is none of the owned rows' blocks. -/
theorem OwnTranR.far {B : Nat} {w w' : World} {g : Nat} (hg : w.grownBy w' (some g)) (hlt : g < B) {vs : Nat → Value} {t : PTran} (h : OwnTranR B w vs t) : OwnTranR B w' vs t := by
  obtain ⟨h0, n1, n2, ⟨c1, a1, a2, a3⟩, ⟨c2, b1, b2, b3⟩, h3⟩ := h
  refine ⟨h0, n1, n2, ⟨c1, a1.kept hg (.inr (fun e => ?_)), ⟨a2.1, a2.2⟩, a3⟩, ⟨c2, b1.kept hg (.inr (fun e => ?_)), ⟨b2.1, b2.2⟩, b3⟩, h3⟩
  · have := (a1.lt g e).1; omega
  · have := (b1.lt g e).1; omega
end Go.Proofs.YtcgdjpelcfofgaaDoor
