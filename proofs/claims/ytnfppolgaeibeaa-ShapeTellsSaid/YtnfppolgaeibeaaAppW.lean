/- Append of any list to one that the call owns. Conditions: the two read as lists. -/
import Derived.Test.YtnfppolgaeibeaaOwnB
import Derived.Maps.AppendAt
namespace Go.Proofs.Ytnfppolgaeibeaa
open Go.RowKit

/-- Append of any list (nil too) to one that the call owns. -/
theorem run_appAny {α : Type} {R : World → (Nat → Value) → α → Prop} {t e size bytes : Nat} (T : SlTy t e size bytes) (G : Good R size) {w : World} {B : Nat} {v : Value} {n m c : Nat} {A : Option Addr} {xs ys : List α} (ty : TypeId) (own : OwnSl R size w B e v n xs) (src : Sl R size w A m c ys) (hB : B ≤ w.heap.size) (h63 : n + m ≤ 281474976710656) (hn : (n + m) * bytes ≤ 140737488355328)
    (hkeep : ∀ w', w.grownBy w' v.ownBlock → ∀ vs y, R w vs y → R w' vs y) :
    ∃ v' w', (Builtin.append_ #[t, t] ty #[v, .slice A m c]).run Try.prog w = .ok v' w' ∧ OwnSl R size w' B e v' (n + m) (xs ++ ys) ∧ w.grownBy w' v.ownBlock ∧ (v'.ownBlock = v.ownBlock ∨ v'.ownBlock = some w.heap.size) := by
  obtain ⟨i, z, h1, h2, h3, h4, h5⟩ := T.info
  obtain ⟨cells, o1, o2, o3⟩ := own
  cases hA : A with
  | none =>
    subst hA
    have hc := src.nul rfl
    have hm : m = 0 := by have := src.le; omega
    subst hc hm
    have hy := List.eq_nil_of_length_eq_zero src.len
    subst hy
    refine ⟨v, w, run_append_owned_none (P := Try.prog) (w := w) B t ty e i size T.und h1 v n _ o1, ⟨cells, by simpa using o1, by simpa using o2, by simpa using o3⟩, World.grownBy.refl _ _, .inl rfl⟩
  | some ad =>
    subst hA
    obtain ⟨ds, d1, d2, d3, d4, d5⟩ := Sl.flat G src
    obtain ⟨v', w', hr, r1, r2, _, r5⟩ := run_append_own_at (P := Try.prog) w B t ty e i z size bytes T.und h1 h2 h3 h4 h5 T.pos v n cells o1 ad m c ds d1 (d3 ad rfl) d4 (by simp only [maxLen]; omega) hn hB
    have ap := o2.append d5
    exact ⟨v', w', hr, ⟨_, r1, ⟨ap.1, fun i x hx => by obtain ⟨vs, a, b⟩ := ap.2 i x hx; exact ⟨vs, a, hkeep _ r2 _ _ b⟩⟩, by rw [List.length_append, o3, src.len]⟩, r2, r5⟩
theorem step_appAny {α : Type} {R : World → (Nat → Value) → α → Prop} {t e size bytes : Nat} (T : SlTy t e size bytes) (G : Good R size) {ops : Array Oper} {o : Oper} {a : Act} {K : Act → World → Prop} {Q : Exit → Act → World → Prop} {E : Prop} (hgd : o.guard = none) (s x : Operand)
    (ho : o.op = .call { callee := .builtin .append, args := #[s, x], argTypes := #[t, t] })
    {w0 w : World} {B B0 : Nat} {v : Value} {n m c : Nat} {A : Option Addr} {xs ys : List α} (hs : a.eval s = v) (hx : a.eval x = .slice A m c) (own : OwnSl R size w B e v n xs) (src : Sl R size w A m c ys) (hB : B ≤ w.heap.size) (h63 : n + m ≤ 281474976710656) (hn : (n + m) * bytes ≤ 140737488355328)
    (hkeep : ∀ w', w.grownBy w' v.ownBlock → ∀ vs y, R w vs y → R w' vs y) (hb : Below B0 w0 w) (hB0 : B0 ≤ B)
    (hK : ∀ v' w', OwnSl R size w' B e v' (n + m) (xs ++ ys) → w.grownBy w' v.ownBlock → Below B0 w0 w' → (v'.ownBlock = v.ownBlock ∨ v'.ownBlock = some w.heap.size) → K (a.put o.dst v') w') :
    if Region.wanted o (yielded ops a.tmps) = true then Oper.wp Try.prog o a w K Q else E := by
  rw [if_pos (by simp [Region.wanted, hgd])]
  obtain ⟨v', w', hr, r1, r2, r5⟩ := run_appAny T G o.type own src hB h63 hn hkeep
  have h := hK v' w' r1 r2 (hb.grown r2 (Nat.le_trans hB0 hB) (fun k hk => Nat.le_trans hB0 (own.lt k hk).1)) r5
  unfold Oper.wp execOp
  simp only [ho, resolve, invoke, builtin, Sem.run_bind, Sem.run_pure, Result.andThen_ok, List.map_toArray, List.map_cons, List.map_nil, hs, hx, hr]
  exact h
end Go.Proofs.Ytnfppolgaeibeaa
