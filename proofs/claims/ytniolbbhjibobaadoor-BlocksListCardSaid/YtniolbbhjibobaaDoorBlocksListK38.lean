/- The contracts of jjoin and jmix. Conditions: the words read as lists; they have at most sixteen letters together. -/
import Derived.Test.YtniolbbhjibobaaDoorBlocksListK16
import Derived.Test.YtniolbbhjibobaaDoorBlocksListK37
set_option linter.all false
namespace Go.Proofs.YtniolbbhjibobaaDoor
open Go.RowKit

/-- A new list of integers. -/
def AnsIO (n : Nat) (xs : List Int) (w : World) (e : Ending) (w' : World) : Prop := ∃ C k, e = .returned (.slice C n k) ∧ OwnInts w' w.heap.size (.slice C n k) n xs ∧ Below w.heap.size w w'
set_option maxRecDepth 100000 in
set_option maxHeartbeats 1000000 in
theorem concatO_calls {w : World} {g : Nat} {A1 A2 : Option Addr} {n1 c1 n2 c2 : Nat} {xs ys : List Int} (q0 : w.cell? ⟨g, 0, none⟩ = some (.slice A1 n1 c1)) (q1 : w.cell? ⟨g, 1, none⟩ = some (.slice A2 n2 c2))
    (h1 : Ints w A1 n1 c1 xs) (h2 : Ints w A2 n2 c2 ys) (hn : n1 + n2 ≤ 35184372088832) :
    Calls Tryd.prog 43 #[.slice (some ⟨g, 0, none⟩) 2 2] w (AnsIO (n1 + n2) (xs ++ ys) w) := by
  have hg : g < w.heap.size := World.block_lt_of_cell? w _ q0
  have H1 := hide2 h1
  have H2 := hide2 h2
  clear h1 h2
  go_enter Tryd.func43, Tryd.ntmps43
  go_wp2
  refine wp_loop_rounds 3 ?_
  rw [rounds_succ]
  go_wp2
  rw [rounds_succ]
  go_wp2
  rw [rounds_succ]
  go_wp2_with fail
  rw [show (n1 : Int) + (n2 : Int) = ((n1 + n2 : Nat) : Int) from by omega]
  refine (growInts_calls w (n1 + n2) hn).mono ?_
  rintro e w1 ⟨hb1, ⟨h0, rfl⟩ | ⟨cap, hcap, rfl, own⟩⟩
  · obtain rfl : n1 = 0 := by omega
    obtain rfl : n2 = 0 := by omega
    have e1 := List.eq_nil_of_length_eq_zero H1.out.len
    have e2 := List.eq_nil_of_length_eq_zero H2.out.len
    subst e1 e2
    have q0' := (hb1.cell (p := ⟨g, 0, none⟩) hg).trans q0
    have q1' := (hb1.cell (p := ⟨g, 1, none⟩) hg).trans q1
    rcases A1 with _ | a1 <;> rcases A2 with _ | a2
    all_goals
      go_wp2
      refine wp_loop_rounds 3 ?_
      rw [rounds_succ]
      go_wp2
      rw [rounds_succ]
      go_wp2
      rw [rounds_succ]
      go_wp2
      go_ret
      exact ⟨none, 0, rfl, OwnSl.nil, hb1⟩
  · have q0' := (hb1.cell (p := ⟨g, 0, none⟩) hg).trans q0
    have q1' := (hb1.cell (p := ⟨g, 1, none⟩) hg).trans q1
    have I1 := hide2 (H1.out.keep hb1)
    have I2 := hide2 (H2.out.keep hb1)
    have HN := hide2 hn
    have HC := hide2 hcap
    have O0 := hide2 (show OwnInts w1 w.heap.size (.slice (some ⟨w.heap.size, 0, none⟩) 0 cap) 0 [] from ⟨[], own, Reads.nil, rfl⟩)
    clear own hcap hn
    go_wp2
    refine wp_loop_rounds 3 ?_
    rw [rounds_succ]
    go_wp2_with (at_builtin; refine wpList_appFits tyInts IntR.good rfl _ _ rfl rfl rfl O0.out I1.out (by have := HC.out; omega) hb1 hb1.size (fun _ _ _ _ h => h) ?_; intro w2 own2 hg2 hb2)
    simp only [Nat.zero_add, List.nil_append] at own2
    have hlt : w.heap.size < w1.heap.size := by
      obtain ⟨cells, o, _⟩ := O0.out
      exact (o.lt w.heap.size rfl).2
    have hb12 : ∀ p : Addr, p.block < w.heap.size → w2.cell? p = w1.cell? p := fun p hp => World.cell?_of_block (hg2.block p.block (by omega) (fun e => by injection e with e; omega))
    have q0'' := (hb12 ⟨g, 0, none⟩ hg).trans q0'
    have q1'' := (hb12 ⟨g, 1, none⟩ hg).trans q1'
    have I2' := hide2 (H2.out.keep hb2)
    have O1 := hide2 own2
    clear own2 hb12
    go_wp2
    rw [rounds_succ]
    go_wp2_with (at_builtin; refine wpList_appFits tyInts IntR.good rfl _ _ rfl rfl rfl O1.out I2'.out (by have := HC.out; omega) hb2 hb2.size (fun _ _ _ _ h => h) ?_; intro w3 own3 hg3 hb3)
    have O2 := hide2 own3
    clear own3
    go_wp2
    rw [rounds_succ]
    go_wp2
    go_ret
    obtain ⟨C, k, hv, hi⟩ := O2.out.sl (by have := HN.out; omega)
    injection hv with hv1 hv2 hv3
    subst hv1 hv3
    exact ⟨_, _, rfl, O2.out, hb3⟩

/-- A new row of new lists. -/
def AnsRow (L : List (List Int)) (w : World) (e : Ending) (w' : World) : Prop := ∃ A n c, e = .returned (.slice A n c) ∧ RowL w' w.heap.size w.heap.size (.slice A n c) n L ∧ Below w.heap.size w w'
theorem rowL_base {w : World} {B B2 B' B2' n : Nat} {v : Value} {L : List (List Int)} (h : RowL w B B2 v n L) (hB : B' ≤ B) (hB2 : B2' ≤ B2) : RowL w B' B2' v n L := by
  have h := OwnSl.base h hB2
  obtain ⟨cs, a1, a2, a3⟩ := h
  exact ⟨cs, a1, ⟨a2.1, fun i x hx => by obtain ⟨vs, e, r⟩ := a2.2 i x hx; exact ⟨vs, e, r.base hB⟩⟩, a3⟩
theorem rowL_one {w : World} {B m : Nat} {v : Value} {x : List Int} (h : OwnInts w B v m x) (hm : m ≤ 17592186043904) (hB : B ≤ w.heap.size) : RowL (w.alloc (.cells #[v] 32)) B B (.slice (some ⟨w.heap.size, 0, none⟩) 1 1) 1 [x] :=
  ⟨[v], ⟨by simp, .inr ⟨w.heap.size, 1, #[v], rfl, hB, heap_alloc_new w _, Nat.le_refl _, by simp [maxLen], by simp, by simp⟩⟩, Reads.list1 ⟨m, OwnSl.keep IntR.kept h ((Below.refl _ _).alloc (Nat.le_refl _) _), hm⟩, rfl⟩
/-- Beside another row of lists. -/
theorem rowL_beside {w w' : World} {B B2 B3 B4 n m : Nat} {v u : Value} {L M : List (List Int)} (h : RowL w B B2 v n L) (o : RowL w B3 B4 u m M) (hne : ∀ k, v.ownBlock = some k → u.ownBlock ≠ some k) (hg : w.grownBy w' u.ownBlock) : RowL w' B B2 v n L := by
  obtain ⟨cs, a1, a2, a3⟩ := h
  obtain ⟨c3, b1, _⟩ := o
  refine ⟨cs, a1.kept hg ?_, ⟨a2.1, fun i x hx => by obtain ⟨vs, e, r⟩ := a2.2 i x hx; exact ⟨vs, e, OwnListR.grown b1 (by decide) hg r⟩⟩, a3⟩
  cases e : v.ownBlock with
  | none => exact .inl rfl
  | some k => exact .inr (fun h => hne k e h.symm)
set_option maxRecDepth 100000 in
theorem jjoin_calls {w : World} {A B : Option Addr} {n c m d : Nat} {x y : List Int} (h : Ints w A n c x) (g : Ints w B m d y) (hn : n + m ≤ 1000) :
    Calls Tryd.prog 26 #[.slice A n c, .slice B m d] w (AnsRow (joinL x y) w) := by
  have bb := boxBelow w (.cells #[.slice A n c, .slice B m d] 32)
  have X := Box.new w #[.slice A n c, .slice B m d] 32
  have CC := hide2 (concatO_calls (X.two.1) (X.two.2) (Ints.keep h bb) (Ints.keep g bb) (by omega))
  have B0 := hide2 bb
  clear h g bb X
  go_enter Tryd.func26, Tryd.ntmps26
  go_wp2_with fail
  refine CC.out.mono ?_
  rintro e w2 ⟨C, k, rfl, o2, hb2⟩
  have O2 := hide2 (OwnSl.base o2 B0.out.size)
  have B2 := hide2 (B0.out.trans (hb2.mono B0.out.size))
  clear o2 hb2
  go_wp2_with fail
  go_ret
  exact ⟨_, 1, 1, rfl, rowL_one O2.out (by omega) B2.out.size, B2.out.trans ((boxBelow _ _).mono B2.out.size)⟩
theorem mixN_le : ∀ i j : Nat, mixN i j ≤ 2 ^ (i + j)
  | 0, j => by rw [mixN_0]; exact Nat.one_le_two_pow
  | i + 1, 0 => by rw [mixN_0']; exact Nat.one_le_two_pow
  | i + 1, j + 1 => by
    have h1 := mixN_le i (j + 1)
    have h2 := mixN_le (i + 1) j
    rw [mixN_S]
    have e1 : 2 ^ (i + 1 + (j + 1)) = 2 ^ (i + j + 1) + 2 ^ (i + j + 1) := by rw [show i + 1 + (j + 1) = (i + j + 1) + 1 by omega, Nat.pow_succ]; omega
    rw [show i + (j + 1) = i + j + 1 by omega] at h1
    rw [show i + 1 + j = i + j + 1 by omega] at h2
    omega
theorem mix_small {x y : List Int} (h : x.length + y.length ≤ 16) : (jmixL x y).length ≤ 65536 := by
  rw [mix_len]
  exact Nat.le_trans (mixN_le _ _) (Nat.pow_le_pow_right (by omega) h)
end Go.Proofs.YtniolbbhjibobaaDoor
