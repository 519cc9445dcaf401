/- Contracts of slices.Grow (of a nil slice) and slices.Concat (of two slices) on integers. Conditions: the lengths together stay below what memory bears. -/
import Derived.Test.YtnfppolgaeibeaaNetA
import Derived.Lib.AppendZeros
import Derived.Handy
namespace Go.Proofs.Ytnfppolgaeibeaa
open Go.RowKit

theorem zeroCells_size (z : Array Value) (hz : z.size = 1) (n : Nat) : (Builtin.zeroCells z n).size = n := by simp [Builtin.zeroCells, hz]

/-- A row of the call's own with room for n, or nil where n is 0. -/
def GrowAns (n : Nat) (w : World) (e : Ending) (w' : World) : Prop :=
  Below w.heap.size w w' ∧ ((n = 0 ∧ e = .returned (.slice none 0 0)) ∨ ∃ cap, n ≤ cap ∧ e = .returned (.slice (some ⟨w.heap.size, 0, none⟩) 0 cap) ∧ w'.ownsRow w.heap.size 3 1 (.slice (some ⟨w.heap.size, 0, none⟩) 0 cap) 0 [])

set_option maxRecDepth 100000 in
theorem growInts_calls (w : World) (n : Nat) (hn : n ≤ 35184372088832) :
    Calls Try.prog 122 #[.slice none 0 0, .int .i64 n] w (GrowAns n w) := by
  by_cases h0 : n = 0
  · subst h0
    go_enter Try.func122, Try.ntmps122
    go_wp2
    go_ret
    exact ⟨Below.refl _ _, .inl ⟨rfl, rfl⟩⟩
  · have hpos : 0 < n := by omega
    obtain ⟨i, hi, hz0, hz1, hz2⟩ := info_parts infoInt
    have hrun := Lib.run_append_nil_zeros (P := Try.prog) w 35 3 35 3 i (.int .i64 0) .i64 .i64 Try.underlying35 Try.underlying3 hi hz0 n hpos (by omega) (by omega) (by rw [hz2]; omega)
    have hcap := grownCap_ge w n 0 3
    have hcapm := grownCap_le_maxLen w n 0 3 (by simp only [maxLen]; omega)
    obtain ⟨cap, hc⟩ : ∃ cap, grownCap w n 0 3 = cap := ⟨_, rfl⟩
    rw [hc] at hrun hcap hcapm
    obtain ⟨cs, hcs⟩ : ∃ cs, Builtin.zeroCells (Value.int .i64 0).cells n ++ Builtin.zeroCells (Value.int .i64 0).cells (cap - n) = cs := ⟨_, rfl⟩
    have hsize : cs.size = cap := by
      rw [← hcs, Array.size_append, zeroCells_size _ rfl, zeroCells_size _ rfl]; omega
    rw [hcs] at hrun
    have HR := hide2 hrun
    have HS := hide2 hsize
    have HM := hide2 hcapm
    clear hrun hc hi hz0 hz1 hz2 hcapm hcs hsize
    go_enter Try.func122, Try.ntmps122
    go_wp2_with (at_builtin; refine Lib.wpList_append_run _ rfl _ _ _ _ rfl _ _ rfl rfl _ _ HR.out ?_)
    go_ret
    refine ⟨((Below.refl _ _).drew).alloc (Nat.le_refl _) _, .inr ⟨cap, hcap, rfl, ?_⟩⟩
    exact ⟨by simp, .inr ⟨w.heap.size, cap, cs, rfl, Nat.le_refl _, heap_alloc_new w.drew _, Nat.zero_le _, HM.out, by rw [HS.out]; omega, by simp⟩⟩

/-- Append of a slice that reads as ys to a row of the call's own that has room. -/
theorem wpList_appFits {α : Type} {R : World → (Nat → Value) → α → Prop} {t e size bytes : Nat} (T : SlTy t e size bytes) (G : Good R size) {ops : Array Oper} {rest : List Oper} {o : Oper} {a : Act} {Q : Exit → Act → World → Prop} (hgd : o.guard = none) (s x : Operand)
    (ho : o.op = .call { callee := .builtin .append, args := #[s, x], argTypes := #[t, t] })
    {w0 w : World} {B : Nat} {g k cap : Nat} {A : Option Addr} {m c : Nat} {xs ys : List α} (hs : a.eval s = .slice (some ⟨g, 0, none⟩) k cap) (hx : a.eval x = .slice A m c)
    (own : OwnSl R size w B e (.slice (some ⟨g, 0, none⟩) k cap) k xs) (hy : Sl R size w A m c ys) (hroom : k + m ≤ cap) (hb : Below B w0 w) (hB : B ≤ w.heap.size)
    (hkeep : ∀ w', w.grownBy w' (some g) → ∀ vs y, R w vs y → R w' vs y)
    (K : ∀ w', OwnSl R size w' B e (.slice (some ⟨g, 0, none⟩) (k + m) cap) (k + m) (xs ++ ys) → w.grownBy w' (some g) → Below B w0 w' → wpList Try.prog ops Q rest (a.put o.dst (.slice (some ⟨g, 0, none⟩) (k + m) cap)) w') :
    wpList Try.prog ops Q (o :: rest) a w := by
  obtain ⟨i, z, h1, h2, h3, h4, h5⟩ := T.info
  obtain ⟨cells, o1, o2, o3⟩ := own
  obtain ⟨ds, d1, d2, d3, d4, d5⟩ := hy.flat G
  refine wpList_append_fits_any w hgd s x t ho B e i size T.und h1 h3 g k cap cells hs o1 A m c ds hx d1 d2 d3 d4 hroom (fun w' h6 h7 => ?_)
  refine K w' ⟨_, h6, ?_, by rw [List.length_append, o3, hy.len]⟩ h7 (hb.grown h7 hB (fun k hk => (o1.lt k (by rw [← hk]; rfl)).1))
  have := o2.append d5
  exact ⟨this.1, fun i x hx => by obtain ⟨vs, a, b⟩ := this.2 i x hx; exact ⟨vs, a, hkeep _ h7 _ _ b⟩⟩

/-- What a call answers that hands back a list of integers, so many. -/
def AnsI (n : Nat) (xs : List Int) (w : World) (e : Ending) (w' : World) : Prop :=
  ∃ C k, e = .returned (.slice C n k) ∧ Ints w' C n k xs ∧ Below w.heap.size w w'

set_option maxRecDepth 100000 in
set_option maxHeartbeats 1000000 in
theorem concat2_calls {w : World} {g : Nat} {A1 A2 : Option Addr} {n1 c1 n2 c2 : Nat} {xs ys : List Int} (q0 : w.cell? ⟨g, 0, none⟩ = some (.slice A1 n1 c1)) (q1 : w.cell? ⟨g, 1, none⟩ = some (.slice A2 n2 c2))
    (h1 : Ints w A1 n1 c1 xs) (h2 : Ints w A2 n2 c2 ys) (hn : n1 + n2 ≤ 35184372088832) :
    Calls Try.prog 107 #[.slice (some ⟨g, 0, none⟩) 2 2] w (AnsI (n1 + n2) (xs ++ ys) w) := by
  have hg : g < w.heap.size := World.block_lt_of_cell? w _ q0
  have H1 := hide2 h1
  have H2 := hide2 h2
  clear h1 h2
  go_enter Try.func107, Try.ntmps107
  go_wp2
  refine wp_loop_rounds 3 ?_
  rw [rounds_succ]
  go_wp2
  rw [rounds_succ]
  go_wp2
  rw [rounds_succ]
  go_wp2_with fail
  rw [show (n1 : Int) + (n2 : Int) = ((n1 + n2 : Nat) : Int) from by omega]
  refine (growInts_calls w (n1 + n2) hn).mono ?_
  rintro e w1 ⟨hb1, ⟨h0, rfl⟩ | ⟨cap, hcap, rfl, own⟩⟩
  · obtain rfl : n1 = 0 := by omega
    obtain rfl : n2 = 0 := by omega
    have e1 := List.eq_nil_of_length_eq_zero H1.out.len
    have e2 := List.eq_nil_of_length_eq_zero H2.out.len
    subst e1 e2
    have q0' := (hb1.cell (p := ⟨g, 0, none⟩) hg).trans q0
    have q1' := (hb1.cell (p := ⟨g, 1, none⟩) hg).trans q1
    rcases A1 with _ | a1 <;> rcases A2 with _ | a2
    all_goals
      go_wp2
      refine wp_loop_rounds 3 ?_
      rw [rounds_succ]
      go_wp2
      rw [rounds_succ]
      go_wp2
      rw [rounds_succ]
      go_wp2
      go_ret
      exact ⟨none, 0, rfl, Sl.nil0, hb1⟩
  · have q0' := (hb1.cell (p := ⟨g, 0, none⟩) hg).trans q0
    have q1' := (hb1.cell (p := ⟨g, 1, none⟩) hg).trans q1
    have I1 := hide2 (H1.out.keep hb1)
    have I2 := hide2 (H2.out.keep hb1)
    have HN := hide2 hn
    have HC := hide2 hcap
    have O0 := hide2 (show OwnInts w1 w.heap.size (.slice (some ⟨w.heap.size, 0, none⟩) 0 cap) 0 [] from ⟨[], own, Reads.nil, rfl⟩)
    clear own hcap hn
    go_wp2
    refine wp_loop_rounds 3 ?_
    rw [rounds_succ]
    go_wp2_with (at_builtin; refine wpList_appFits tyInts IntR.good rfl _ _ rfl rfl rfl O0.out I1.out (by have := HC.out; omega) hb1 hb1.size (fun _ _ _ _ h => h) ?_; intro w2 own2 hg2 hb2)
    simp only [Nat.zero_add, List.nil_append] at own2
    have hlt : w.heap.size < w1.heap.size := by
      obtain ⟨cells, o, _⟩ := O0.out
      exact (o.lt w.heap.size rfl).2
    have hb12 : ∀ p : Addr, p.block < w.heap.size → w2.cell? p = w1.cell? p := fun p hp => World.cell?_of_block (hg2.block p.block (by omega) (fun e => by injection e with e; omega))
    have q0'' := (hb12 ⟨g, 0, none⟩ hg).trans q0'
    have q1'' := (hb12 ⟨g, 1, none⟩ hg).trans q1'
    have I2' := hide2 (H2.out.keep hb2)
    have O1 := hide2 own2
    clear own2 hb12
    go_wp2
    rw [rounds_succ]
    go_wp2_with (at_builtin; refine wpList_appFits tyInts IntR.good rfl _ _ rfl rfl rfl O1.out I2'.out (by have := HC.out; omega) hb2 hb2.size (fun _ _ _ _ h => h) ?_; intro w3 own3 hg3 hb3)
    have O2 := hide2 own3
    clear own3
    go_wp2
    rw [rounds_succ]
    go_wp2
    go_ret
    obtain ⟨C, k, hv, hi⟩ := O2.out.sl (by have := HN.out; omega)
    injection hv with hv1 hv2 hv3
    subst hv1 hv3
    exact ⟨_, _, rfl, hi, hb3⟩
end Go.Proofs.Ytnfppolgaeibeaa
