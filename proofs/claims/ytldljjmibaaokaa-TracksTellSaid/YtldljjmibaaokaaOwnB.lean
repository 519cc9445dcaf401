/- Append of a whole slice to a slice of the call's own; slices.Clone on integers and on transitions. Conditions: the lengths stay below what memory bears. -/
import Derived.Test.YtldljjmibaaokaaOwn
namespace Go.Proofs.Ytldljjmibaaokaa
open Go.RowKit

theorem tyTrans : SlTy 22 79 3 56 := SlTy.mk' (z := .agg #[.int .i64 0, .slice none 0 0, .slice none 0 0]) Try.underlying22 (by kernel_rfl) rfl (by decide)
abbrev OwnTrans (w : World) (B : Nat) (v : Value) (n : Nat) (xs : List PTran) : Prop := OwnSl TranR 3 w B 79 v n xs

/-- Append of a slice (not nil) that reads as ys. -/
theorem wpList_appSl {α : Type} {R : World → (Nat → Value) → α → Prop} {t e size bytes : Nat} (T : SlTy t e size bytes) (G : Good R size) {ops : Array Oper} {rest : List Oper} {o : Oper} {a : Act} {Q : Exit → Act → World → Prop} (hgd : o.guard = none) (s x : Operand)
    (ho : o.op = .call { callee := .builtin .append, args := #[s, x], argTypes := #[t, t] })
    {w0 w : World} {B : Nat} {v : Value} {n m c : Nat} {ad : Addr} {xs ys : List α} (hs : a.eval s = v) (hx : a.eval x = .slice (some ad) m c)
    (own : OwnSl R size w B e v n xs) (src : Sl R size w (some ad) m c ys) (hb : Below B w0 w) (hB : B ≤ w.heap.size) (h63 : n + m ≤ 281474976710656) (hn : (n + m) * bytes ≤ 140737488355328)
    (hkeep : ∀ w', w.grownBy w' v.ownBlock → ∀ vs y, R w vs y → R w' vs y)
    (K : ∀ v' w', OwnSl R size w' B e v' (n + m) (xs ++ ys) → w.grownBy w' v.ownBlock → Below B w0 w' → wpList Try.prog ops Q rest (a.put o.dst v') w') :
    wpList Try.prog ops Q (o :: rest) a w := by
  obtain ⟨i, z, h1, h2, h3, h4, h5⟩ := T.info
  obtain ⟨cells, o1, o2, o3⟩ := own
  obtain ⟨ds, d1, d2, d3, d4, d5⟩ := src.flat G
  refine wpList_append_own _ hgd s x t ho B e i z size bytes T.und h1 h2 h3 h4 h5 T.pos v n cells hs o1 ad m c ds hx d1 (d3 ad rfl) d4 (by simp only [maxLen]; omega) hn hB (fun v' w' h6 h7 _ => ?_)
  refine K v' w' ⟨_, h6, ?_, by rw [List.length_append, o3, src.len]⟩ h7 (hb.grown h7 hB (fun k hk => (o1.lt k hk).1))
  have := o2.append d5
  exact ⟨this.1, fun i x hx => by obtain ⟨vs, a, b⟩ := this.2 i x hx; exact ⟨vs, a, hkeep _ h7 _ _ b⟩⟩

theorem OwnSl.empty {α : Type} {R : World → (Nat → Value) → α → Prop} {sz : Nat} {w : World} {B e : Nat} (hB : B ≤ w.heap.size) : OwnSl R sz (w.alloc (.cells #[] e)) B e (.slice (some ⟨w.heap.size, 0, none⟩) 0 0) 0 ([] : List α) :=
  ⟨[], World.ownsRow_made w #[] 0 hB (by simp [maxLen]) (by simp), Reads.nil, rfl⟩

/-- What a call answers that hands back a slice of its own. -/
def AnsOwn {α : Type} (R : World → (Nat → Value) → α → Prop) (sz e n : Nat) (xs : List α) (w : World) (e1 : Ending) (w' : World) : Prop :=
  ∃ v, e1 = .returned v ∧ OwnSl R sz w' w.heap.size e v n xs ∧ Below w.heap.size w w'

set_option maxRecDepth 100000 in
theorem cloneInts_calls {w : World} {A : Option Addr} {n c : Nat} {xs : List Int} (h : Ints w A n c xs) (hn : n ≤ 17592186044416) :
    Calls Try.prog 59 #[.slice A n c] w (AnsOwn IntR 1 3 n xs w) := by
  have HB := hide2 (show ∀ o, Below w.heap.size w (w.alloc o) from fun o => (Below.refl _ _).alloc (Nat.le_refl _) _)
  rcases A with _ | ad
  · have hc := h.nul rfl
    have hn0 : n = 0 := by have := h.le; omega
    subst hc hn0
    have hx := List.eq_nil_of_length_eq_zero h.len
    subst hx
    clear h
    have he := fun (w : World) => Lib.run_eql_slice_nil (P := Try.prog) w 25 3 none 0 0 0 0 Try.underlying25
    go_enter Try.func59, Try.ntmps59
    go_wp2
    go_ret
    exact ⟨_, rfl, OwnSl.nil, Below.refl _ _⟩
  · have H := hide2 h
    have O := hide2 (OwnSl.empty (R := IntR) (sz := 1) (w := w) (B := w.heap.size) (e := 3) (Nat.le_refl _))
    clear h
    have he := fun (w : World) => Lib.run_eql_slice_nil (P := Try.prog) w 25 3 (some ad) n c 0 0 Try.underlying25
    go_enter Try.func59, Try.ntmps59
    go_wp2_with (at_builtin; refine wpList_appSl tyInts IntR.good rfl _ _ rfl rfl rfl O.out (H.out.keep (HB.out _)) (HB.out _) (by simp) (by omega) (by omega) (fun _ _ _ _ h => h) ?_; intro v1 w1 own1 hg1 hb1)
    go_ret
    exact ⟨_, rfl, by simpa using own1, hb1⟩
end Go.Proofs.Ytldljjmibaaokaa
