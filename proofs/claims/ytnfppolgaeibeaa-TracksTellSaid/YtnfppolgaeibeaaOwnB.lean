/- Append of a whole slice to a slice of the call's own; slices.Clone on integers and on transitions. Conditions: the lengths stay below what memory bears. | Append of new elements inside a region that draws its order; transitions whose lists are the call's own. Conditions: the lengths stay below what memory bears. -/
import Derived.Test.YtnfppolgaeibeaaOwn
import Derived.Deep.AppendLies
namespace Go.Proofs.Ytnfppolgaeibeaa
open Go.RowKit

theorem tyTrans : SlTy 25 78 3 56 := SlTy.mk' (z := .agg #[.int .i64 0, .slice none 0 0, .slice none 0 0]) Try.underlying25 (by kernel_rfl) rfl (by decide)
abbrev OwnTrans (w : World) (B : Nat) (v : Value) (n : Nat) (xs : List PTran) : Prop := OwnSl TranR 3 w B 78 v n xs

/-- Append of a slice (not nil) that reads as ys. -/
theorem wpList_appSl {α : Type} {R : World → (Nat → Value) → α → Prop} {t e size bytes : Nat} (T : SlTy t e size bytes) (G : Good R size) {ops : Array Oper} {rest : List Oper} {o : Oper} {a : Act} {Q : Exit → Act → World → Prop} (hgd : o.guard = none) (s x : Operand)
    (ho : o.op = .call { callee := .builtin .append, args := #[s, x], argTypes := #[t, t] })
    {w0 w : World} {B : Nat} {v : Value} {n m c : Nat} {ad : Addr} {xs ys : List α} (hs : a.eval s = v) (hx : a.eval x = .slice (some ad) m c)
    (own : OwnSl R size w B e v n xs) (src : Sl R size w (some ad) m c ys) (hb : Below B w0 w) (hB : B ≤ w.heap.size) (h63 : n + m ≤ 281474976710656) (hn : (n + m) * bytes ≤ 140737488355328)
    (hkeep : ∀ w', w.grownBy w' v.ownBlock → ∀ vs y, R w vs y → R w' vs y)
    (K : ∀ v' w', OwnSl R size w' B e v' (n + m) (xs ++ ys) → w.grownBy w' v.ownBlock → Below B w0 w' → wpList Try.prog ops Q rest (a.put o.dst v') w') :
    wpList Try.prog ops Q (o :: rest) a w := by
  obtain ⟨i, z, h1, h2, h3, h4, h5⟩ := T.info
  obtain ⟨cells, o1, o2, o3⟩ := own
  obtain ⟨ds, d1, d2, d3, d4, d5⟩ := src.flat G
  refine wpList_append_own _ hgd s x t ho B e i z size bytes T.und h1 h2 h3 h4 h5 T.pos v n cells hs o1 ad m c ds hx d1 (d3 ad rfl) d4 (by simp only [maxLen]; omega) hn hB (fun v' w' h6 h7 _ => ?_)
  refine K v' w' ⟨_, h6, ?_, by rw [List.length_append, o3, src.len]⟩ h7 (hb.grown h7 hB (fun k hk => (o1.lt k hk).1))
  have := o2.append d5
  exact ⟨this.1, fun i x hx => by obtain ⟨vs, a, b⟩ := this.2 i x hx; exact ⟨vs, a, hkeep _ h7 _ _ b⟩⟩

theorem OwnSl.empty {α : Type} {R : World → (Nat → Value) → α → Prop} {sz : Nat} {w : World} {B e : Nat} (hB : B ≤ w.heap.size) : OwnSl R sz (w.alloc (.cells #[] e)) B e (.slice (some ⟨w.heap.size, 0, none⟩) 0 0) 0 ([] : List α) :=
  ⟨[], World.ownsRow_made w #[] 0 hB (by simp [maxLen]) (by simp), Reads.nil, rfl⟩

/-- What a call answers that hands back a slice of its own. -/
def AnsOwn {α : Type} (R : World → (Nat → Value) → α → Prop) (sz e n : Nat) (xs : List α) (w : World) (e1 : Ending) (w' : World) : Prop :=
  ∃ v, e1 = .returned v ∧ OwnSl R sz w' w.heap.size e v n xs ∧ Below w.heap.size w w'

set_option maxRecDepth 100000 in
theorem cloneInts_calls {w : World} {A : Option Addr} {n c : Nat} {xs : List Int} (h : Ints w A n c xs) (hn : n ≤ 17592186044416) :
    Calls Try.prog 46 #[.slice A n c] w (AnsOwn IntR 1 3 n xs w) := by
  have HB := hide2 (show ∀ o, Below w.heap.size w (w.alloc o) from fun o => (Below.refl _ _).alloc (Nat.le_refl _) _)
  rcases A with _ | ad
  · have hc := h.nul rfl
    have hn0 : n = 0 := by have := h.le; omega
    subst hc hn0
    have hx := List.eq_nil_of_length_eq_zero h.len
    subst hx
    clear h
    have he := fun (w : World) => Lib.run_eql_slice_nil (P := Try.prog) w 35 3 none 0 0 0 0 Try.underlying35
    go_enter Try.func46, Try.ntmps46
    go_wp2
    go_ret
    exact ⟨_, rfl, OwnSl.nil, Below.refl _ _⟩
  · have H := hide2 h
    have O := hide2 (OwnSl.empty (R := IntR) (sz := 1) (w := w) (B := w.heap.size) (e := 3) (Nat.le_refl _))
    clear h
    have he := fun (w : World) => Lib.run_eql_slice_nil (P := Try.prog) w 35 3 (some ad) n c 0 0 Try.underlying35
    go_enter Try.func46, Try.ntmps46
    go_wp2_with (at_builtin; refine wpList_appSl tyInts IntR.good rfl _ _ rfl rfl rfl O.out (H.out.keep (HB.out _)) (HB.out _) (by simp) (by omega) (by omega) (fun _ _ _ _ h => h) ?_; intro v1 w1 own1 hg1 hb1)
    go_ret
    exact ⟨_, rfl, by simpa using own1, hb1⟩
end Go.Proofs.Ytnfppolgaeibeaa
namespace Go.Proofs.Ytnfppolgaeibeaa
open Go.RowKit

theorem step_appNew {α : Type} {R : World → (Nat → Value) → α → Prop} {t e size bytes : Nat} (T : SlTy t e size bytes) {ops : Array Oper} {o : Oper} {a : Act} {K : Act → World → Prop} {Q : Exit → Act → World → Prop} {E : Prop} (hgd : o.guard = none) (s x : Operand)
    (ho : o.op = .call { callee := .builtin .append, args := #[s, x], argTypes := #[t, t] })
    {w0 w W : World} {B : Nat} {v : Value} {n m : Nat} {xs : List α} (ys : List α) (us : Array Value) {H : Nat} (hs : a.eval s = v) (hx : a.eval x = .slice (some ⟨H, 0, none⟩) m m) (hH : H = w.heap.size) (hW : W = w.alloc (.cells us e)) (hus : us.size = m * size) (hm : 0 < m) (one : ∀ u ∈ us.toList, u.oneCell' = true)
    (own : OwnSl R size w B e v n xs) (hread : Reads R size w us.toList ys) (hy : ys.length = m) (hb : Below B w0 w) (hB : B ≤ w.heap.size) (h63 : n + m ≤ 281474976710656) (hn : (n + m) * bytes ≤ 140737488355328)
    (hkeep : ∀ w', w.grownBy w' v.ownBlock → ∀ vs y, R w vs y → R w' vs y)
    (hK : ∀ g cap w', OwnSl R size w' B e (.slice (some ⟨g, 0, none⟩) (n + m) cap) (n + m) (xs ++ ys) → w.grownBy w' v.ownBlock → Below B w0 w' → B ≤ g → g < w'.heap.size → K (a.put o.dst (.slice (some ⟨g, 0, none⟩) (n + m) cap)) w') :
    if Region.wanted o (yielded ops a.tmps) = true then Oper.wp Try.prog o a W K Q else E := by
  subst hH hW
  obtain ⟨i, z, h1, h2, h3, h4, h5⟩ := T.info
  obtain ⟨cells, o1, o2, o3⟩ := own
  have hlt : ∀ k, v.ownBlock = some k → B ≤ k ∧ k < w.heap.size := o1.lt
  refine step_append_lies _ hgd s x t ho B e i z size bytes T.und h1 h2 h3 h4 h5 T.pos v n cells hs (o1.alloc _) ⟨w.heap.size, 0, none⟩ m m us.toList hx (by simpa using hus) (fun j u hj => ?_) one hm (by simp only [maxLen]; omega) hn (by simp; omega) _ rfl (fun g cap w' h6 h7 h8 h9 => ?_)
  · have hz : ((⟨w.heap.size, 0, none⟩ : Addr).add j) = ⟨w.heap.size, j, none⟩ := by unfold Addr.add; split <;> simp_all
    rw [hz]
    have : (w.alloc (.cells us e)).cell? ⟨w.heap.size, j, none⟩ = us[j]? := cell_of_row _ _ _ _ _ (0, 0) (heap_alloc_new w _)
    rw [this]
    simpa using hj
  · have hg : w.grownBy w' v.ownBlock := ⟨h7.os, h7.tape, h7.output, Nat.le_trans (by simp) h7.size, fun k hk hne => (h7.block k (by simp; omega) hne).trans (heap_alloc_old w _ hk)⟩
    refine hK g cap w' ⟨_, h6, ?_, by rw [List.length_append, o3, hy]⟩ hg (hb.grown hg hB (fun k hk => (hlt k hk).1)) (h6.lt g rfl).1 h9
    have := o2.append hread
    exact ⟨this.1, fun i x hx => by obtain ⟨vs, a, b⟩ := this.2 i x hx; exact ⟨vs, a, hkeep _ hg _ _ b⟩⟩

theorem OwnSl.base {α : Type} {R : World → (Nat → Value) → α → Prop} {sz : Nat} {w : World} {B B' e : Nat} {v : Value} {n : Nat} {xs : List α} (h : OwnSl R sz w B e v n xs) (hB : B' ≤ B) : OwnSl R sz w B' e v n xs := by
  obtain ⟨cells, ⟨h0, h1⟩, h2, h3⟩ := h
  refine ⟨cells, ⟨h0, ?_⟩, h2, h3⟩
  rcases h1 with h1 | ⟨g, cap, cur, hv, hg, r⟩
  · exact .inl h1
  · exact .inr ⟨g, cap, cur, hv, by omega, r⟩
/-- Two rows of different element types never share a block. -/
theorem own_ne {w : World} {B1 B2 e1 e2 s1 s2 n1 n2 : Nat} {v1 v2 : Value} {c1 c2 : List Value} (h1 : w.ownsRow B1 e1 s1 v1 n1 c1) (h2 : w.ownsRow B2 e2 s2 v2 n2 c2) (hne : e1 ≠ e2) : v1.ownBlock = none ∨ v1.ownBlock ≠ v2.ownBlock := by
  rcases h1.2 with ⟨rfl, _⟩ | ⟨g1, cap1, cur1, rfl, _, hh1, _⟩
  · exact .inl rfl
  · refine .inr (fun e => ?_)
    rcases h2.2 with ⟨rfl, _⟩ | ⟨g2, cap2, cur2, rfl, _, hh2, _⟩
    · simp [Value.ownBlock] at e
    · simp only [Value.ownBlock, Option.some.injEq] at e
      subst e
      rw [hh1] at hh2
      injection hh2 with hh2
      injection hh2 with _ ht
      exact hne ht

/-- A transition whose two lists are the call's own. -/
def OwnTranR (B : Nat) : World → (Nat → Value) → PTran → Prop := fun w vs t =>
  vs 0 = .int .i64 t.label ∧ ∃ n1 n2, OwnInts w B (vs 1) n1 t.pre ∧ OwnInts w B (vs 2) n2 t.post ∧ n1 ≤ 17592186044416 ∧ n2 ≤ 17592186044416
theorem OwnTranR.kept (B : Nat) : Kept (OwnTranR B) := fun _ _ _ _ hb ⟨h0, n1, n2, h1, h2, h3⟩ => ⟨h0, n1, n2, h1.keep IntR.kept hb, h2.keep IntR.kept hb, h3⟩
theorem OwnTranR.tran {B : Nat} {w : World} {vs : Nat → Value} {t : PTran} (h : OwnTranR B w vs t) : TranR w vs t := by
  obtain ⟨h0, n1, n2, h1, h2, h3, h4⟩ := h
  obtain ⟨A1, c1, e1, i1⟩ := h1.sl (by omega)
  obtain ⟨A2, c2, e2, i2⟩ := h2.sl (by omega)
  exact ⟨h0, A1, n1, c1, A2, n2, c2, e1, e2, i1, i2, h3, h4⟩
theorem OwnTranR.grown {B : Nat} {w w' : World} {v : Value} {n : Nat} {cells : List Value} {B2 : Nat} (hown : w.ownsRow B2 78 3 v n cells) (hg : w.grownBy w' v.ownBlock) {vs : Nat → Value} {t : PTran} (h : OwnTranR B w vs t) : OwnTranR B w' vs t := by
  obtain ⟨h0, n1, n2, ⟨c1, a1, a2, a3⟩, ⟨c2, b1, b2, b3⟩, h3⟩ := h
  exact ⟨h0, n1, n2, ⟨c1, a1.kept hg (own_ne a1 hown (by decide)), ⟨a2.1, a2.2⟩, a3⟩, ⟨c2, b1.kept hg (own_ne b1 hown (by decide)), ⟨b2.1, b2.2⟩, b3⟩, h3⟩
theorem OwnSl.ofOwnTran {B w e v n} {xs : List PTran} (h : OwnSl (OwnTranR B) 3 w B e v n xs) : OwnSl TranR 3 w B e v n xs := by
  obtain ⟨cells, h1, h2, h3⟩ := h
  exact ⟨cells, h1, ⟨h2.1, fun i x hx => by obtain ⟨vs, a, b⟩ := h2.2 i x hx; exact ⟨vs, a, b.tran⟩⟩, h3⟩
/-- A store that is none of the owned rows' blocks. -/
theorem OwnTranR.far {B : Nat} {w w' : World} {g : Nat} (hg : w.grownBy w' (some g)) (hlt : g < B) {vs : Nat → Value} {t : PTran} (h : OwnTranR B w vs t) : OwnTranR B w' vs t := by
  obtain ⟨h0, n1, n2, ⟨c1, a1, a2, a3⟩, ⟨c2, b1, b2, b3⟩, h3⟩ := h
  refine ⟨h0, n1, n2, ⟨c1, a1.kept hg (.inr (fun e => ?_)), ⟨a2.1, a2.2⟩, a3⟩, ⟨c2, b1.kept hg (.inr (fun e => ?_)), ⟨b2.1, b2.2⟩, b3⟩, h3⟩
  · have := (a1.lt g e).1; omega
  · have := (b1.lt g e).1; omega
end Go.Proofs.Ytnfppolgaeibeaa
