/- Contracts of cases.busy and of the closure no of cases.Do; integers that the call owns, one turned. Conditions: the slices read as lists of integers. -/
import Derived.Test.YtmnacahoamkokaaCaseD
namespace Go.Proofs.Ytmnacahoamkokaa
open Go.RowKit

theorem OwnInts.row {w : World} {B : Nat} {v : Value} {n : Nat} {xs : List Int} (h : OwnInts w B v n xs) : w.ownsRow B 3 1 v n (xs.map (Value.int .i64)) := by
  obtain ⟨cells, h1, h2, h3⟩ := h
  have e : cells = xs.map (Value.int .i64) := by
    apply List.ext_getElem?
    intro j
    cases hx : xs[j]? with
    | none =>
      rw [List.getElem?_map, hx, List.getElem?_eq_none (by have := h2.1; have := List.getElem?_eq_none_iff.1 hx; omega)]; rfl
    | some x =>
      obtain ⟨vs, a, b⟩ := h2.2 j x hx
      have := a 0 (by omega)
      simp only [Nat.mul_one, Nat.add_zero] at this
      rw [this, List.getElem?_map, hx, b]; rfl
  rw [← e]; exact h1
theorem OwnInts.form {w : World} {B : Nat} {v : Value} {n : Nat} {xs : List Int} (h : OwnInts w B v n xs) (hn : 0 < n) : ∃ g cap, v = .slice (some ⟨g, 0, none⟩) n cap ∧ B ≤ g ∧ g < w.heap.size := h.row.form hn
section
variable {w : World} {B g cap n : Nat} {xs : List Int}
theorem OwnInts.at (h : OwnInts w B (.slice (some ⟨g, 0, none⟩) n cap) n xs) {j : Nat} {x : Int} (hx : xs[j]? = some x) : w.cell? ⟨g, j, none⟩ = some (.int .i64 x) := by
  have hj : j < n := by rw [← h.len]; exact (List.getElem?_eq_some_iff.1 hx).1
  rw [h.row.cellAt j (by omega), List.getElem?_map, hx]; rfl
theorem OwnInts.frozen (h : OwnInts w B (.slice (some ⟨g, 0, none⟩) n cap) n xs) (j : Nat) : w.frozen? ⟨g, j, none⟩ = false := h.row.frozenAt j
theorem OwnInts.put (h : OwnInts w B (.slice (some ⟨g, 0, none⟩) n cap) n xs) (j : Nat) (y : Int) : OwnInts (w.setCell ⟨g, j, none⟩ (.int .i64 y)) B (.slice (some ⟨g, 0, none⟩) n cap) n (xs.set j y) := by
  have := (h.row.stored j (.int .i64 y)).1
  rw [← List.map_set] at this
  exact OwnInts.of_row this
theorem OwnInts.ints (h : OwnInts w B (.slice (some ⟨g, 0, none⟩) n cap) n xs) (hn : n ≤ 281474976710656) : Ints w (some ⟨g, 0, none⟩) n cap xs := by
  obtain ⟨A, c, hv, hi⟩ := h.sl hn
  injection hv with h1 h2 h3
  subst h1 h3
  exact hi
end

theorem caseNo_calls (w : World) (e : Int) : Calls Try.prog 220 #[.int .i64 e] w fun x w' => x = .returned (.tuple #[.agg #[.slice none 0 0, .slice none 0 0], .int .i64 e]) ∧ Below w.heap.size w w' := by
  have X1 : Box (w.alloc (.cells #[.slice none 0 0, .slice none 0 0] 75)) w.heap.size 75 #[.slice none 0 0, .slice none 0 0] := Box.new _ _ _
  go_enter Try.func220, Try.ntmps220
  go_wp2
  obtain ⟨r0, r1⟩ := X1.two
  exact bodyPost_ret (v := .tuple #[.agg #[.slice none 0 0, .slice none 0 0], .int .i64 e]) (by simp [results, Try.results220, go_sem, r0, r1]) rfl ⟨rfl, boxBelow w _⟩

set_option maxRecDepth 100000 in
set_option maxHeartbeats 1000000 in
theorem busy_calls {w : World} {B D : Option Addr} {m d l k : Nat} {ys : List Int} (i : Nat) (more : Int) (h : Ints w D l k ys) (hl : l ≤ 17592186044416) (hi : i < l) (hr : rightB ys = true) (m0 : -1 ≤ more) (m1 : more ≤ 1) :
    Calls Try.prog 222 #[.agg #[.slice B m d, .slice D l k], .int .i64 i, .int .i64 more] w (AnsIEF (busyL ys i more) w) := by
  have HB := hide2 (boxBelow w (.cells #[.slice B m d, .slice D l k] 75))
  have H := hide2 (h.keep HB.out)
  have hL := h.len
  obtain ⟨z, hz⟩ : ∃ z, ys[i]? = some z := ⟨ys[i]'(by omega), List.getElem?_eq_getElem _⟩
  have hzr := (rightB_iff _).1 hr z (List.mem_iff_getElem?.2 ⟨i, hz⟩)
  have z0 := hzr.1
  have z1 := hzr.2
  have hat : atL ys i = z := atL_some hz
  have HZ := hide2 hz
  have HL := hide2 hL
  have F1 := hide2 (show z + more < 0 → busyL ys i more = ([], 3) from fun h => by rw [busyL, hat, if_pos h])
  have F2 := hide2 (show 1000000 < z + more → busyL ys i more = ([], 4) from fun h => by rw [busyL, hat, if_neg (by omega), if_pos h])
  have F3 := hide2 (show ¬ z + more < 0 → ¬ 1000000 < z + more → busyL ys i more = (ys.set i (z + more), 0) from fun h g => by rw [busyL, hat, if_neg h, if_neg g])
  have hii : (i : Int) < (l : Int) := by omega
  have hi0 : (0 : Int) ≤ (i : Int) := by omega
  clear h hat hz hzr hr hL
  go_enter Try.func222, Try.ntmps222
  go_wp2_with fail
  refine (cloneInts_calls H.out hl).mono ?_
  rintro e w1 ⟨v, rfl, own, hb⟩
  obtain ⟨g, cap, rfl, hg, hgl⟩ := OwnInts.form own (by omega)
  have c0 := OwnInts.at own HZ.out
  have cf := OwnInts.frozen own i
  have OW := hide2 (OwnInts.put own i (z + more))
  have B1 := hide2 (HB.out.trans (hb.mono HB.out.size))
  have hgw : w.heap.size ≤ g := Nat.le_trans HB.out.size hg
  have hlc : l ≤ cap := (OwnInts.ints own (by omega)).le
  clear own hb
  by_cases hneg : z + more < 0
  · have FIN := hide2 (F1.out hneg)
    go_wp2
    go_ret2
    exact ⟨none, 0, 0, by rw [FIN.out]; rfl, by rw [FIN.out]; exact Sl.nil0, B1.out.setCell hgw _, Fresh.none⟩
  · by_cases hbig : 1000000 < z + more
    · have FIN := hide2 (F2.out hbig)
      go_wp2
      go_ret2
      exact ⟨none, 0, 0, by rw [FIN.out]; rfl, by rw [FIN.out]; exact Sl.nil0, B1.out.setCell hgw _, Fresh.none⟩
    · have FIN := hide2 (F3.out (by omega) (by omega))
      go_wp2
      go_ret2
      exact ⟨_, _, _, by rw [FIN.out]; rfl, by rw [FIN.out]; exact OwnInts.ints OW.out (by omega), B1.out.setCell hgw _, Fresh.at hgw⟩
end Go.Proofs.Ytmnacahoamkokaa
