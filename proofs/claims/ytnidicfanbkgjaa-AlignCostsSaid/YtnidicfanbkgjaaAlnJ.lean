/- The contract of Reverse on an own row of moves: it ends. Conditions: the row's cells are numbers. | The moves as they are appended; Reverse on them; spots side by side. Conditions: the row is the call's own. | The test of Align on marks: is it the end? Conditions: the net and the goal lie in boxes. -/
import Derived.Test.YtnidicfanbkgjaaFacts
import Derived.Test.YtnidicfanbkgjaaBox
import Derived.Test.YtnidicfanbkgjaaHeld
import Derived.Test.YtnidicfanbkgjaaAlnF
import Derived.Test.YtnidicfanbkgjaaOwnB
import Derived.ChangeKeysEq
import Derived.Test.YtnidicfanbkgjaaReachJ
import Derived.Test.YtnidicfanbkgjaaTongF
namespace Go.Proofs.Ytnidicfanbkgjaa
open Go.RowKit

/-- A row of n moves whose cells are numbers. -/
def MovS (w : World) (g n : Nat) : Prop := ∃ cs : Array Value, Box w g 48 cs ∧ n * 3 ≤ cs.size ∧ ∀ (j : Nat) (v : Value), j < n * 3 → cs[j]? = some v → ∃ x : Int, v = .int .i64 x
section
variable {w w' : World} {g n : Nat}
theorem MovS.at (h : MovS w g n) {j : Nat} (hj : j < n * 3) : ∃ x : Int, w.cell? ⟨g, j, none⟩ = some (.int .i64 x) := by
  obtain ⟨cs, h1, h2, h3⟩ := h
  obtain ⟨x, hx⟩ := h3 j _ hj (Array.getElem?_eq_getElem (by omega))
  exact ⟨x, by rw [h1.cell, Array.getElem?_eq_getElem (by omega), hx]⟩
theorem MovS.frozen (h : MovS w g n) (j : Nat) : w.frozen? ⟨g, j, none⟩ = false := by
  obtain ⟨cs, h1, _⟩ := h
  exact h1.frozen j
theorem MovS.put (h : MovS w g n) (j : Nat) (x : Int) : MovS (w.setCell ⟨g, j, none⟩ (.int .i64 x)) g n := by
  obtain ⟨cs, h1, h2, h3⟩ := h
  refine ⟨_, h1.set j (.int .i64 x), by simpa using h2, fun i v hi hv => ?_⟩
  rw [Array.getElem?_setIfInBounds] at hv
  split at hv
  · split at hv
    · injection hv with hv; exact ⟨x, hv.symm⟩
    · cases hv
  · exact h3 i v hi hv
theorem MovS.keep (h : MovS w g n) (hb : Below w.heap.size w w') : MovS w' g n := by
  obtain ⟨cs, h1, h2⟩ := h
  exact ⟨cs, h1.keep hb, h2⟩
end
/-- Three cells are laid anew. -/
def lay3 (w : World) (b j : Nat) (x0 x1 x2 : Int) : World := ((w.setCell ⟨b, j, none⟩ (.int .i64 x0)).setCell ⟨b, j + 1, none⟩ (.int .i64 x1)).setCell ⟨b, j + 2, none⟩ (.int .i64 x2)
theorem MovS.lay {w : World} {g n : Nat} (h : MovS w g n) (j : Nat) (x0 x1 x2 : Int) : MovS (lay3 w g j x0 x1 x2) g n := ((h.put j x0).put (j + 1) x1).put (j + 2) x2
theorem grownL (w : World) (b j : Nat) (v : Value) : w.grownBy (w.setCell ⟨b, j, none⟩ v) (some b) :=
  ⟨rfl, rfl, rfl, by simp [World.setCell], fun k _ hne => heap_setCell_other _ _ _ _ (fun e => hne (by rw [e]))⟩
theorem grown_lay3 (w : World) (b j : Nat) (x0 x1 x2 : Int) : w.grownBy (lay3 w b j x0 x1 x2) (some b) := ((grownL w b j _).trans (grownL _ b (j + 1) _)).trans (grownL _ b (j + 2) _)

set_option maxRecDepth 100000 in
set_option maxHeartbeats 4000000 in
theorem reverseM_calls {w : World} {g n cap : Nat} (h : MovS w g n) (hn : n ≤ 100000) :
    Calls Try.prog 14 #[.slice (some ⟨g, 0, none⟩) n cap] w fun e w' => (∃ y, e = .returned y) ∧ MovS w' g n ∧ w.grownBy w' (some g) := by
  have H := hide2 h
  clear h
  go_enter Try.func14, Try.ntmps14
  go_wp2
  go_loopw [2, 3] (fun iv jv wr => ∃ (i : Nat) (j : Int), iv = .int .i64 i ∧ jv = .int .i64 j ∧ j + i + 1 = n ∧ Hid (MovS wr g n) ∧ Hid (w.grownBy wr (some g))) (fun iv _ _ => n - (intOf iv).toNat)
  case atStart => exact ⟨0, (n : Int) - 1, rfl, rfl, by omega, H, hide2 ⟨rfl, rfl, rfl, Nat.le_refl _, fun _ _ _ => rfl⟩⟩
  case round =>
    obtain ⟨i, j, rfl, rfl, hij, O, D⟩ := hrel
    by_cases hlt : (i : Int) < j
    · obtain ⟨j, rfl⟩ : ∃ q : Nat, j = (q : Int) := ⟨j.toNat, by omega⟩
      have hjn : j < n := by omega
      have hin : i < n := by omega
      have hjni : (j : Int) < (n : Int) := by omega
      have hini : (i : Int) < (n : Int) := by omega
      have O1 := hide2 (O.out.keep (show Below wr.heap.size wr wr.drew from ⟨rfl, rfl, rfl, Nat.le_refl _, fun _ _ => rfl⟩))
      have D1 := hide2 (show w.grownBy wr.drew (some g) from D.out.trans ⟨rfl, rfl, rfl, Nat.le_refl _, fun _ _ _ => rfl⟩)
      obtain ⟨x0, i0⟩ := O1.out.at (j := i * 3) (by omega)
      obtain ⟨x1, i1⟩ := O1.out.at (j := i * 3 + 1) (by omega)
      obtain ⟨x2, i2⟩ := O1.out.at (j := i * 3 + 2) (by omega)
      obtain ⟨y0, j0⟩ := O1.out.at (j := j * 3) (by omega)
      obtain ⟨y1, j1⟩ := O1.out.at (j := j * 3 + 1) (by omega)
      obtain ⟨y2, j2⟩ := O1.out.at (j := j * 3 + 2) (by omega)
      have hji : (j : Int) + i + 1 = n := hij
      clear hij O D
      go_upto_region 3 with fail
      refine wp_region_scrPP 13 2 3 14 (.takes [0, 1, 4, 5, 8, 9, 6, 7, 10, 11] (.one 12 (.fin 13 (.fin 14 (.fin 15 .done))))) (fun w' => (w'.cell? ⟨g, i * 3, none⟩ = some (.int .i64 x0) ∧ w'.cell? ⟨g, i * 3 + 1, none⟩ = some (.int .i64 x1) ∧ w'.cell? ⟨g, i * 3 + 2, none⟩ = some (.int .i64 x2)) ∧ w'.cell? ⟨g, j * 3, none⟩ = some (.int .i64 y0) ∧ w'.cell? ⟨g, j * 3 + 1, none⟩ = some (.int .i64 y1) ∧ w'.cell? ⟨g, j * 3 + 2, none⟩ = some (.int .i64 y2)) (v := ?_) (u := ?_) (by kernel_rfl) (by kernel_rfl) (by kernel_rfl) rfl (by kernel_rfl) (fun _ _ _ _ _ h => h) rfl (by rfl) (fun w' => ?_) rfl (by rfl) (fun w' => ?_) ⟨⟨i0, i1, i2⟩, j0, j1, j2⟩ (fun hHeld => ?_)
      rotate_left 2
      · (go_simp; try with_reducible rfl)
      · (go_simp; try with_reducible rfl)
      simp only [Act.put, List.setIfInBounds_toArray, List.set_cons_zero, List.set_cons_succ]
      simp only [Scr.takes]
      generalize wr.drew = u0 at *
      iterate 10
        refine tkTake (v := ?_) rfl (by rfl) hHeld (fun w' hSw => ?_) ?_
        rotate_left
        · (go_simp; try with_reducible rfl)
        simp only [Act.put, List.setIfInBounds_toArray, List.set_cons_zero, List.set_cons_succ]
      have fi := O1.out.frozen (i * 3)
      have fi1 := O1.out.frozen (i * 3 + 1)
      have fi2 := O1.out.frozen (i * 3 + 2)
      refine tkOne rfl (fun K hK => ?_)
      go_simp
      refine hK.out _ _ ⟨⟨i0, i1, i2⟩, j0, j1, j2⟩ (fun hHeld => ?_)
      clear hK
      try simp only [Act.put, List.setIfInBounds_toArray, List.set_cons_zero, List.set_cons_succ]
      refine tkEnd rfl (fun K hK => ?_)
      go_simp
      have O2 := hide2 (O1.out.lay (i * 3) y0 y1 y2)
      have D2 := hide2 (D1.out.trans (grown_lay3 u0 g (i * 3) y0 y1 y2))
      rw [show ((u0.setCell ⟨g, i * 3, none⟩ (.int .i64 y0)).setCell ⟨g, i * 3 + 1, none⟩ (.int .i64 y1)).setCell ⟨g, i * 3 + 2, none⟩ (.int .i64 y2) = lay3 u0 g (i * 3) y0 y1 y2 from rfl]
      clear hHeld fi fi1 fi2 i0 i1 i2 j0 j1 j2
      generalize lay3 u0 g (i * 3) y0 y1 y2 = u2 at *
      refine hK.out _ _ ?_
      clear hK
      try simp only [Act.put, List.setIfInBounds_toArray, List.set_cons_zero, List.set_cons_succ]
      refine tkEnd rfl (fun K hK => ?_)
      go_simp
      refine hK.out _ _ ?_
      clear hK
      try simp only [Act.put, List.setIfInBounds_toArray, List.set_cons_zero, List.set_cons_succ]
      obtain ⟨w0, j0⟩ := O2.out.at (j := j * 3) (by omega)
      obtain ⟨w1, j1⟩ := O2.out.at (j := j * 3 + 1) (by omega)
      obtain ⟨w2, j2⟩ := O2.out.at (j := j * 3 + 2) (by omega)
      have fj := O2.out.frozen (j * 3)
      have fj1 := O2.out.frozen (j * 3 + 1)
      have fj2 := O2.out.frozen (j * 3 + 2)
      have O3 := hide2 (O2.out.lay (j * 3) x0 x1 x2)
      have D3 := hide2 (D2.out.trans (grown_lay3 u2 g (j * 3) x0 x1 x2))
      refine tkEnd rfl (fun K hK => ?_)
      go_simp
      rw [show ((u2.setCell ⟨g, j * 3, none⟩ (.int .i64 x0)).setCell ⟨g, j * 3 + 1, none⟩ (.int .i64 x1)).setCell ⟨g, j * 3 + 2, none⟩ (.int .i64 x2) = lay3 u2 g (j * 3) x0 x1 x2 from rfl]
      clear fj fj1 fj2 j0 j1 j2
      generalize lay3 u2 g (j * 3) x0 x1 x2 = u3 at *
      refine hK.out _ _ ?_
      clear hK
      try simp only [Act.put, List.setIfInBounds_toArray, List.set_cons_zero, List.set_cons_succ]
      refine tkDone ?_
      go_wp2
      go_roundw
      case rel => exact ⟨i + 1, (j : Int) - 1, by go_num, by go_num, by omega, O3, D3⟩
      case measure => simp [intOf]; omega
    · go_wp2
      exact bodyPost_end (v := .tuple #[]) (by simp [results, Try.results14, go_sem]) rfl ⟨⟨_, rfl⟩, O.out, D.out⟩
end Go.Proofs.Ytnidicfanbkgjaa
namespace Go.Proofs.Ytnidicfanbkgjaa
open Go.RowKit

/-- A move: three numbers. -/
def MovR : World → (Nat → Value) → Unit → Prop := fun _ vs _ => ∀ j, j < 3 → ∃ x : Int, vs j = .int .i64 x
theorem MovR.kept : Kept MovR := fun _ _ _ _ _ h => h
theorem tyMovs : SlTy 26 48 3 24 := SlTy.mk' (z := .agg #[.int .i64 0, .int .i64 0, .int .i64 0]) Try.underlying26 (by kernel_rfl) rfl (by decide)
abbrev OwnMov (w : World) (B : Nat) (v : Value) (n : Nat) : Prop := ∃ xs : List Unit, OwnSl MovR 3 w B 48 v n xs
theorem MovR.reads (w : World) (a b c : Int) : Reads MovR 3 w (#[Value.int .i64 a, .int .i64 b, .int .i64 c] : Array Value).toList [()] :=
  Reads.one (vs := fun j => [Value.int .i64 a, .int .i64 b, .int .i64 c].getD j undef) (fun j hj => by
    rcases (show j = 0 ∨ j = 1 ∨ j = 2 by omega) with rfl | rfl | rfl
    · exact ⟨a, rfl⟩
    · exact ⟨b, rfl⟩
    · exact ⟨c, rfl⟩) rfl (fun j hj => by
    rcases (show j = 0 ∨ j = 1 ∨ j = 2 by omega) with rfl | rfl | rfl <;> rfl)
theorem MovS.of_own {w : World} {B g n cap : Nat} {xs : List Unit} (h : OwnSl MovR 3 w B 48 (.slice (some ⟨g, 0, none⟩) n cap) n xs) : MovS w g n := by
  obtain ⟨cells, ⟨h1, h2⟩, h3, h4⟩ := h
  rcases h2 with ⟨e, _⟩ | ⟨g', cap', cur, e, hB, hh, hn, hc, hs, ht⟩
  · cases e
  · injection e with e1 e2 e3
    injection e1 with e1
    injection e1 with e1
    subst e1
    refine ⟨cur, hh, by rw [hs]; exact Nat.mul_le_mul_right _ hn, fun j v hj hv => ?_⟩
    have hx : xs[j / 3]? = some () := by
      rw [List.getElem?_eq_getElem (by rw [h4]; omega)]
    obtain ⟨vs, hvs, hR⟩ := h3.2 _ _ hx
    obtain ⟨x, hx⟩ := hR (j % 3) (by omega)
    have hcell := hvs (j % 3) (by omega)
    rw [show j / 3 * 3 + j % 3 = j by omega] at hcell
    rw [← ht, List.getElem?_take, if_pos hj, ← Array.getElem?_toList] at *
    first
      | exact ⟨x, by rw [hv] at hcell; injection hcell with hcell; rw [hcell, hx]⟩
      | skip
theorem OwnMov.form {w : World} {B n : Nat} {v : Value} (h : OwnMov w B v n) : ∃ A c, v = .slice A n c := by
  obtain ⟨xs, cells, ⟨h1, h2⟩, h3, h4⟩ := h
  rcases h2 with ⟨rfl, rfl⟩ | ⟨g, cap, cur, rfl, hB, hh, hc⟩
  · exact ⟨none, 0, rfl⟩
  · exact ⟨_, _, rfl⟩
theorem OwnMov.lo {w : World} {B n : Nat} {v : Value} (h : OwnMov w B v n) : ∀ k, v.ownBlock = some k → B ≤ k := by
  obtain ⟨xs, h⟩ := h
  exact fun k hk => (h.lt k hk).1
theorem reverseM0_calls (w : World) :
    Calls Try.prog 14 #[.slice none 0 0] w fun e w' => (∃ y, e = .returned y) ∧ Below w.heap.size w w' := by
  go_enter Try.func14, Try.ntmps14
  go_wp2
  go_loopw [2, 3] (fun i j wr => i = .int .i64 0 ∧ j = .int .i64 (-1) ∧ wr = w) (fun _ _ _ => 0)
  case atStart => exact ⟨rfl, rfl, rfl⟩
  case round =>
    obtain ⟨rfl, rfl, rfl⟩ := hrel
    go_wp2
    exact bodyPost_end (v := .tuple #[]) (by simp [results, Try.results14, go_sem]) rfl ⟨⟨_, rfl⟩, Below.refl _ _⟩
/-- Reverse on a row of moves of the call's own. -/
theorem reverseO_calls {w : World} {B n : Nat} {v : Value} (h : OwnMov w B v n) (hn : n ≤ 100000) :
    Calls Try.prog 14 #[v] w fun e w' => (∃ y, e = .returned y) ∧ w.grownBy w' v.ownBlock := by
  obtain ⟨xs, h⟩ := h
  have h0 := h
  obtain ⟨cells, ⟨h1, h2⟩, h3, h4⟩ := h0
  rcases h2 with ⟨rfl, rfl⟩ | ⟨g, cap, cur, rfl, hB, hh, hc⟩
  · refine (reverseM0_calls w).mono ?_
    rintro e w' ⟨hy, hb⟩
    exact ⟨hy, hb.os, hb.tape, hb.output, hb.size, fun k hk _ => hb.block k hk⟩
  · refine (reverseM_calls (cap := cap) (MovS.of_own h) hn).mono ?_
    rintro e w' ⟨hy, _, hg⟩
    exact ⟨hy, hg⟩

/-! ### spots -/
theorem eqSpot (w : World) (a b c d : Int) : (Op.equalIn 10000 46 (.agg #[.int .i64 a, .int .i64 b]) (.agg #[.int .i64 c, .int .i64 d])).run Try.prog w = .ok (a == c && b == d) w := by
  have hu : Try.prog.underlying 46 = some (.struct (Try.prog.fieldsOf 46)) := by
    simp [Program.fieldsOf, Try.underlying46]
  have hp : ∀ (xs : Array Value) (k : Nat) (x : Int), xs[k]? = some (.int .i64 x) → (part 3 xs k).run Try.prog w = .ok (.int .i64 x) w := fun xs k x hx => run_part_plain w (show Try.prog.plainKey 3 = true by kernel_rfl) hx
  have he : ∀ x y : Int, (Op.equalIn 9999 3 (.int .i64 x) (.int .i64 y)).run Try.prog w = .ok (x == y) w := fun x y => run_equalIn_int w 9998 3 .i64 .i64 x y Try.underlying3
  rw [show (10000 : Nat) = 9999 + 1 from rfl, run_equalIn_struct w 9999 _ _ _ hu (by kernel_rfl)]
  simp only [Program.fieldsOf, Try.underlying46, Op.eqFields]
  generalize (9999 : Nat) = q at *
  cases hac : (a == c) <;> cases hbd : (b == d) <;> simp [hp, he, hac, hbd]
theorem fieldCost (a b c d e f : Int) (g : Bool) (w : World) : (Instr.field 50 (.agg #[.int .i64 a, .int .i64 b, .int .i64 c, .int .i64 d, .int .i64 e, .int .i64 f, .bool g]) 0).run Try.prog w = .ok (.int .i64 a) w := by kernel_rfl
theorem fieldFrom (a b c d e f : Int) (g : Bool) (w : World) : (Instr.field 50 (.agg #[.int .i64 a, .int .i64 b, .int .i64 c, .int .i64 d, .int .i64 e, .int .i64 f, .bool g]) 1).run Try.prog w = .ok (.agg #[.int .i64 b, .int .i64 c]) w := by kernel_rfl
theorem fieldMove (a b c d e f : Int) (g : Bool) (w : World) : (Instr.field 50 (.agg #[.int .i64 a, .int .i64 b, .int .i64 c, .int .i64 d, .int .i64 e, .int .i64 f, .bool g]) 2).run Try.prog w = .ok (.agg #[.int .i64 d, .int .i64 e, .int .i64 f]) w := by kernel_rfl
theorem guardSpot : Try.prog.eqGuardType Try.prog.depth 46 = false := by kernel_rfl
theorem eqlSpot (w : World) (a b c d : Int) : (binOp .eql 46 (.agg #[.int .i64 a, .int .i64 b]) (.agg #[.int .i64 c, .int .i64 d])).run Try.prog w = .ok (.bool (a == c && b == d)) w := by
  rw [run_eql_struct, eqSpot]; rfl
theorem neqSpot (w : World) (a b c d : Int) : (binOp .neq 46 (.agg #[.int .i64 a, .int .i64 b]) (.agg #[.int .i64 c, .int .i64 d])).run Try.prog w = .ok (.bool (!(a == c && b == d))) w := by
  rw [run_neq_struct, eqSpot]; rfl
end Go.Proofs.Ytnidicfanbkgjaa
namespace Go.Proofs.Ytnidicfanbkgjaa
open Go.RowKit

set_option maxRecDepth 100000 in
theorem end_pred {w : World} {bn bo n c : Nat} {A : Option Addr} {P o : Int} {ts : List PTran} (x : Box w bn 24 #[.int .i64 P, .slice A n c]) (y : Box w bo 3 #[.int .i64 o]) : IsPredL 10 #[.pointer (some ⟨bn, 0, none⟩), .pointer (some ⟨bo, 0, none⟩)] w (fun m => m == endL ⟨P, ts⟩ o) where
  enters := fun args w => by kernel_rfl
  calls := fun wr A1 n1 c1 m hb hi => by
    obtain ⟨x0, x1⟩ := (x.keep hb).two
    have y0 := (y.keep hb).cell 0
    simp only [List.getElem?_toArray, List.getElem?_cons_zero] at y0
    have HI := hide2 hi
    have EL := hide2 (show endL ⟨P, ts⟩ o = oneL (min P 16).toNat o from rfl)
    show Calls Try.prog 10 #[.slice A1 n1 c1, .pointer (some ⟨bn, 0, none⟩), .pointer (some ⟨bo, 0, none⟩)] wr _
    clear hb x y hi
    obtain ⟨pn, hpn⟩ : ∃ pn, (min P 16).toNat = pn := ⟨_, rfl⟩
    have HPN := hide2 hpn
    rw [hpn] at EL
    clear hpn
    obtain ⟨s, hs⟩ : ∃ s, (m == oneL pn o) = s := ⟨_, rfl⟩
    have HS := hide2 hs
    have HS2 := hide2 (show (m == endL ⟨P, ts⟩ o) = s by rw [EL.out]; exact hs)
    clear hs
    go_enter Try.func10, Try.ntmps10
    go_wp2_with fail
    refine (start_calls wr P o A n c).mono ?_
    rw [HPN.out]
    rintro e w5 ⟨C, kc, rfl, hi5, hb5, _⟩
    have I5 := hide2 hi5
    have H5 := hide2 (HI.out.keep hb5)
    have B5 := hide2 hb5
    clear hi5 hb5 x0 x1 y0
    go_wp2_with fail
    refine (equalInts_calls H5.out I5.out).mono ?_
    rw [HS.out]
    rintro e w6 ⟨rfl, dr⟩
    have B6 := hide2 (B5.out.trans (dr.below.mono B5.out.size))
    clear dr
    go_wp2
    go_ret
    exact ⟨by rw [HS2.out]; rfl, B6.out⟩
end Go.Proofs.Ytnidicfanbkgjaa
