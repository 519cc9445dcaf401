/- Append of any list of integers (nil too) to one that the call owns, in plain regions and in those that draw their order. Conditions: the lengths stay below what memory bears. -/
import Derived.Test.YtpagenlealddhaaCaseE
import Derived.Maps.AppendAt
namespace Go.Proofs.Ytpagenlealddhaa
open Go.RowKit

theorem run_appOwn {w : World} {B : Nat} {v : Value} {n m c : Nat} {A : Option Addr} {xs ys : List Int} (ty : TypeId) (own : OwnInts w B v n xs) (src : Ints w A m c ys) (hB : B ≤ w.heap.size) (h63 : n + m ≤ 17592186044416) :
    ∃ v' w', (Builtin.append_ #[49, 49] ty #[v, .slice A m c]).run Try.prog w = .ok v' w' ∧ OwnInts w' B v' (n + m) (xs ++ ys) ∧ w.grownBy w' v.ownBlock ∧ (v'.ownBlock = v.ownBlock ∨ v'.ownBlock = some w.heap.size) := by
  obtain ⟨i, z, h1, h2, h3, h4, h5⟩ := tyInts.info
  cases hA : A with
  | none =>
    subst hA
    have hc := src.nul rfl
    have hm : m = 0 := by have := src.le; omega
    subst hc hm
    have hy := List.eq_nil_of_length_eq_zero src.len
    subst hy
    refine ⟨v, w, run_append_owned_none (P := Try.prog) (w := w) B 49 ty 3 i 1 tyInts.und h1 v n _ own.row, by simpa using own, World.grownBy.refl _ _, .inl rfl⟩
  | some ad =>
    subst hA
    obtain ⟨ds, d1, d2, d3, d4, d5⟩ := Sl.flat IntR.good src
    obtain ⟨v', w', hr, r1, r2, _, r5⟩ := run_append_own_at (P := Try.prog) w B 49 ty 3 i z 1 8 tyInts.und h1 h2 h3 h4 h5 tyInts.pos v n (xs.map (Value.int .i64)) own.row ad m c ds (by simpa using d1) (d3 ad rfl) d4 (by simp only [maxLen]; omega) (by omega) hB
    have DS : ds = ys.map (Value.int .i64) := by
      apply List.ext_getElem?
      intro j
      cases hx : ys[j]? with
      | none =>
        rw [List.getElem?_map, hx, List.getElem?_eq_none (by have := d5.1; have := List.getElem?_eq_none_iff.1 hx; omega)]; rfl
      | some x =>
        obtain ⟨vs, a, e⟩ := d5.2 j x hx
        have := a 0 (by omega)
        simp only [Nat.mul_one, Nat.add_zero] at this
        rw [this, List.getElem?_map, hx, e]; rfl
    rw [DS, ← List.map_append] at r1
    exact ⟨v', w', hr, OwnInts.of_row r1, r2, r5⟩
theorem wp_appOwn {o : Oper} {a : Act} {K : Act → World → Prop} {Q : Exit → Act → World → Prop} (s x : Operand)
    (ho : o.op = .call { callee := .builtin .append, args := #[s, x], argTypes := #[49, 49] })
    {w0 w : World} {B B0 : Nat} {v : Value} {n m c : Nat} {A : Option Addr} {xs ys : List Int} (hs : a.eval s = v) (hx : a.eval x = .slice A m c) (own : OwnInts w B v n xs) (src : Ints w A m c ys) (hB : B ≤ w.heap.size) (h63 : n + m ≤ 17592186044416)
    (hb : Below B0 w0 w) (hB0 : B0 ≤ B)
    (hK : ∀ v' w', OwnInts w' B v' (n + m) (xs ++ ys) → w.grownBy w' v.ownBlock → Below B0 w0 w' → (v'.ownBlock = v.ownBlock ∨ v'.ownBlock = some w.heap.size) → K (a.put o.dst v') w') : o.wp Try.prog a w K Q := by
  obtain ⟨v', w', hr, r1, r2, r5⟩ := run_appOwn o.type own src hB h63
  have h := hK v' w' r1 r2 (hb.grown r2 (Nat.le_trans hB0 hB) (fun k hk => Nat.le_trans hB0 (own.lt k hk).1)) r5
  unfold Oper.wp execOp
  simp only [ho, resolve, invoke, builtin, Sem.run_bind, Sem.run_pure, Result.andThen_ok, List.map_toArray, List.map_cons, List.map_nil, hs, hx, hr]
  exact h
theorem wpList_appOwn {ops : Array Oper} {rest : List Oper} {o : Oper} {a : Act} {Q : Exit → Act → World → Prop} (hgd : o.guard = none) (s x : Operand)
    (ho : o.op = .call { callee := .builtin .append, args := #[s, x], argTypes := #[49, 49] })
    {w0 w : World} {B B0 : Nat} {v : Value} {n m c : Nat} {A : Option Addr} {xs ys : List Int} (hs : a.eval s = v) (hx : a.eval x = .slice A m c) (own : OwnInts w B v n xs) (src : Ints w A m c ys) (hB : B ≤ w.heap.size) (h63 : n + m ≤ 17592186044416)
    (hb : Below B0 w0 w) (hB0 : B0 ≤ B)
    (hK : ∀ v' w', OwnInts w' B v' (n + m) (xs ++ ys) → w.grownBy w' v.ownBlock → Below B0 w0 w' → (v'.ownBlock = v.ownBlock ∨ v'.ownBlock = some w.heap.size) → wpList Try.prog ops Q rest (a.put o.dst v') w') : wpList Try.prog ops Q (o :: rest) a w :=
  wpList_plain hgd fun _ hK' => wp_appOwn s x ho hs hx own src hB h63 hb hB0 fun v' w' h1 h2 h3 h4 => hK' _ _ (hK v' w' h1 h2 h3 h4)
theorem step_appOwn {ops : Array Oper} {o : Oper} {a : Act} {K : Act → World → Prop} {Q : Exit → Act → World → Prop} {E : Prop} (hgd : o.guard = none) (s x : Operand)
    (ho : o.op = .call { callee := .builtin .append, args := #[s, x], argTypes := #[49, 49] })
    {w0 w : World} {B B0 : Nat} {v : Value} {n m c : Nat} {A : Option Addr} {xs ys : List Int} (hs : a.eval s = v) (hx : a.eval x = .slice A m c) (own : OwnInts w B v n xs) (src : Ints w A m c ys) (hB : B ≤ w.heap.size) (h63 : n + m ≤ 17592186044416)
    (hb : Below B0 w0 w) (hB0 : B0 ≤ B)
    (hK : ∀ v' w', OwnInts w' B v' (n + m) (xs ++ ys) → w.grownBy w' v.ownBlock → Below B0 w0 w' → (v'.ownBlock = v.ownBlock ∨ v'.ownBlock = some w.heap.size) → K (a.put o.dst v') w') :
    if Region.wanted o (yielded ops a.tmps) = true then Oper.wp Try.prog o a w K Q else E := by
  rw [if_pos (by simp [Region.wanted, hgd])]
  exact wp_appOwn s x ho hs hx own src hB h63 hb hB0 hK
end Go.Proofs.Ytpagenlealddhaa
