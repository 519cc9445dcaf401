/- The contracts of the counter's put and take. Conditions: the weights and the tokens are small; the weights' list stays readable. -/
import Derived.Test.YtnfppolgaeibeaaPlainJ
import Derived.Test.YtnfppolgaeibeaaPlainH
namespace Go.Proofs.Ytnfppolgaeibeaa
open Go.RowKit

/-- All but blocks b and c is as it was. -/
structure Oth (b c : Nat) (w w' : World) : Prop where
  os : w'.os = w.os
  tape : w'.tape = w.tape
  output : w'.output = w.output
  size : w'.heap.size = w.heap.size
  block : ∀ k, k ≠ b → k ≠ c → w'.heap[k]? = w.heap[k]?
theorem Oth.refl (b c : Nat) (w : World) : Oth b c w w := ⟨rfl, rfl, rfl, rfl, fun _ _ _ => rfl⟩
theorem Oth.trans {b c : Nat} {w w' w'' : World} (h : Oth b c w w') (g : Oth b c w' w'') : Oth b c w w'' :=
  ⟨g.os.trans h.os, g.tape.trans h.tape, g.output.trans h.output, g.size.trans h.size, fun k h1 h2 => (g.block k h1 h2).trans (h.block k h1 h2)⟩
theorem Oth.set1 (b c : Nat) (w : World) (j : Nat) (v : Value) : Oth b c w (w.setCell ⟨b, j, none⟩ v) := ⟨rfl, rfl, rfl, by simp [World.setCell], fun _ h _ => heap_setCell_other _ _ _ _ h⟩
theorem Oth.set2 (b c : Nat) (w : World) (j : Nat) (v : Value) : Oth b c w (w.setCell ⟨c, j, none⟩ v) := ⟨rfl, rfl, rfl, by simp [World.setCell], fun _ _ h => heap_setCell_other _ _ _ _ h⟩
theorem Oth.below {b c B : Nat} {w0 w w' : World} (h : Oth b c w w') (hb : Below B w0 w) (h1 : B ≤ b) (h2 : B ≤ c) : Below B w0 w' :=
  ⟨h.os.trans hb.os, h.tape.trans hb.tape, h.output.trans hb.output, by rw [h.size]; exact hb.size, fun k hk => (h.block k (by omega) (by omega)).trans (hb.block k hk)⟩
theorem Oth.box {b c k ty : Nat} {cs : Array Value} {w w' : World} (h : Oth b c w w') (g : Box w k ty cs) (h1 : k ≠ b) (h2 : k ≠ c) : Box w' k ty cs := (h.block k h1 h2).trans g

/-- Block b holds just these integers. -/
def BoxI (w : World) (b : Nat) (xs : List Int) : Prop := Box w b 3 (xs.map (Value.int .i64)).toArray
theorem BoxI.at {w : World} {b : Nat} {xs : List Int} (h : BoxI w b xs) {j : Nat} {x : Int} (hx : xs[j]? = some x) : w.cell? ⟨b, j, none⟩ = some (.int .i64 x) := by
  rw [Box.cell h]; simp [hx]
theorem BoxI.put {w : World} {b : Nat} {xs : List Int} (h : BoxI w b xs) (j : Nat) (x : Int) : BoxI (w.setCell ⟨b, j, none⟩ (.int .i64 x)) b (xs.set j x) := by
  have := Box.set h j (.int .i64 x)
  unfold BoxI
  simpa [List.map_set] using this
theorem Box.five {w : World} {b ty : Nat} {u0 u1 u2 u3 u4 : Value} (h : Box w b ty #[u0, u1, u2, u3, u4]) : w.cell? ⟨b, 0, none⟩ = some u0 ∧ w.cell? ⟨b, 1, none⟩ = some u1 ∧ w.cell? ⟨b, 2, none⟩ = some u2 ∧ w.cell? ⟨b, 3, none⟩ = some u3 ∧ w.cell? ⟨b, 4, none⟩ = some u4 :=
  ⟨h.cell 0, h.cell 1, h.cell 2, h.cell 3, h.cell 4⟩
/-- Block b is a counter. -/
abbrev BoxC (w : World) (b : Nat) (pu ta la le : Int) (bm n : Nat) : Prop := Box w b 102 #[.int .i64 pu, .int .i64 ta, .int .i64 la, .int .i64 le, .slice (some ⟨bm, 0, none⟩) n n]

set_option maxRecDepth 100000 in
set_option maxHeartbeats 2000000 in
theorem put_calls {w : World} {bc bm n : Nat} {A : Option Addr} {c : Nat} {xs ws : List Int} {pu ta la le : Int} (hne : bc ≠ bm) (hc : BoxC w bc pu ta la le bm n) (hm : BoxI w bm xs) (hl : xs.length = n) (hn : n ≤ 16)
    (hI : ∀ w', Oth bc bm w w' → Ints w' A n c ws) (hx : ∀ p, p < n → 0 ≤ atL xs p ∧ atL xs p ≤ 1000000) (hw : ∀ p, p < n → 0 ≤ atL ws p ∧ atL ws p ≤ 9) (hp : 0 ≤ pu ∧ pu ≤ 1000000) :
    Calls Try.prog 56 #[.pointer (some ⟨bc, 0, none⟩), .slice A n c] w
      (fun e w' => e = .returned (.tuple #[]) ∧ BoxC w' bc (pu + sumN n (atL ws)) ta la le bm n ∧ BoxI w' bm (putV xs ws n) ∧ Oth bc bm w w') := by
  have HC := hide2 hc
  have HM := hide2 hm
  have HL := hide2 hl
  have HI := hide2 hI
  have HX := hide2 hx
  have HW := hide2 hw
  obtain ⟨hp0, hp1⟩ := hp
  clear hc hm hl hI hx hw
  go_enter Try.func56, Try.ntmps56
  go_wp2
  go_loopw [8] (fun v wr => ∃ j : Nat, j ≤ n ∧ v = .int .i64 j ∧ Hid (BoxC wr bc (pu + sumN j (atL ws)) ta la le bm n) ∧ Hid (BoxI wr bm (putV xs ws j)) ∧ Hid (Oth bc bm w wr)) (fun v _ => n - (intOf v).toNat)
  case atStart => exact ⟨0, Nat.zero_le _, rfl, by rw [sumN_zero, Int.add_zero]; exact HC, by rw [putV_zero]; exact HM, Oth.refl _ _ _⟩
  case round =>
    obtain ⟨j, hj, rfl, C, M, O⟩ := hrel
    by_cases hlt : j < n
    · have hji : (j : Int) < (n : Int) := by omega
      obtain ⟨b, off, y, rfl, hb, hy, qy⟩ := Ints.get (HI.out _ O.out) hlt
      obtain ⟨x, hx⟩ : ∃ x, atL xs j = x := ⟨_, rfl⟩
      have hxb := HX.out j hlt
      have hyb := HW.out j hlt
      rw [atL_some hy.out] at hyb
      rw [hx] at hxb
      obtain ⟨x0, x1⟩ := hxb
      obtain ⟨y0, y1⟩ := hyb
      have m0 := BoxI.at M.out (j := j) (x := x) (by rw [putV_get (by have := HL.out; omega), if_neg (by omega), hx])
      have mf := Box.frozen M.out j
      obtain ⟨s, hs⟩ : ∃ s, pu + sumN j (atL ws) = s := ⟨_, rfl⟩
      have hsb := sumN_bd (n := j) (f := atL ws) (B := 9) (fun p hp => HW.out p (by omega))
      have SS := hide2 (show pu + sumN (j + 1) (atL ws) = s + y by rw [sumN_succ, atL_some hy.out, ← hs]; omega)
      have s0 : 0 ≤ s := by omega
      have s1 : s ≤ 2000000 := by omega
      rw [hs] at C
      have PV := hide2 (show (putV xs ws j).set j (x + y) = putV xs ws (j + 1) by rw [← hx, ← atL_some hy.out]; exact putV_succ (by have := HL.out; omega))
      obtain ⟨c0, c1, c2, c3, c4⟩ := C.out.five
      clear hx hs hsb
      go_upto_region 4 with fail
      obtain ⟨w2, hw2⟩ : ∃ w2, w2 = wr.setCell ⟨bm, j, none⟩ (.int .i64 (x + y)) := ⟨_, rfl⟩
      rw [← hw2]
      have O2 := hide2 (show Oth bc bm wr w2 by rw [hw2]; exact Oth.set2 _ _ _ _ _)
      have M2 := hide2 (show BoxI w2 bm (putV xs ws (j + 1)) by rw [hw2, ← PV.out]; exact BoxI.put M.out j (x + y))
      have C2 := hide2 (show BoxC w2 bc s ta la le bm n by rw [hw2]; exact (Beside.set wr bm j _).box C.out hne)
      clear hw2 c0 c1 c2 c3 c4 m0 mf qy
      obtain ⟨c0, c1, c2, c3, c4⟩ := C2.out.five
      have cf := C2.out.frozen 0
      have OF := hide2 ((O.out.trans O2.out).trans (Oth.set1 bc bm w2 0 (.int .i64 (s + y))))
      have CF := hide2 (show BoxC (w2.setCell ⟨bc, 0, none⟩ (.int .i64 (s + y))) bc (s + y) ta la le bm n by simpa using C2.out.set 0 (.int .i64 (s + y)))
      have MF := hide2 (show BoxI (w2.setCell ⟨bc, 0, none⟩ (.int .i64 (s + y))) bm (putV xs ws (j + 1)) from (Beside.set w2 bc 0 _).box M2.out hne.symm)
      go_wp2
      go_roundw
      case rel => exact ⟨j + 1, by omega, by go_num, by rw [SS.out]; exact CF, MF, OF⟩
      case measure => simp [intOf]; omega
    · obtain rfl : j = n := by omega
      go_wp2
      exact bodyPost_end (v := .tuple #[]) (by simp [results, Try.results56, go_sem]) rfl ⟨rfl, C.out, M.out, O.out⟩

set_option maxRecDepth 100000 in
set_option maxHeartbeats 4000000 in
theorem take_calls {w : World} {bc bm n : Nat} {A : Option Addr} {c : Nat} {xs ws : List Int} {pu ta la le : Int} (hne : bc ≠ bm) (hc : BoxC w bc pu ta la le bm n) (hm : BoxI w bm xs) (hl : xs.length = n) (hn : n ≤ 16)
    (hI : ∀ w', Oth bc bm w w' → Ints w' A n c ws) (hx : ∀ p, p < n → 0 ≤ atL xs p ∧ atL xs p ≤ 1000000) (hw : ∀ p, p < n → 0 ≤ atL ws p ∧ atL ws p ≤ 9) (hp : 0 ≤ ta ∧ ta ≤ 1000000) (hq : 0 ≤ la ∧ la ≤ 1000000) :
    Calls Try.prog 59 #[.pointer (some ⟨bc, 0, none⟩), .slice A n c] w
      (fun e w' => e = .returned (.tuple #[]) ∧ BoxC w' bc pu (ta + sumN n (atL ws)) (la + sumN n (fun p => max (atL ws p - atL xs p) 0)) le bm n ∧ BoxI w' bm (lackV xs ws n) ∧ Oth bc bm w w') := by
  have HC := hide2 hc
  have HM := hide2 hm
  have HL := hide2 hl
  have HI := hide2 hI
  have HX := hide2 hx
  have HW := hide2 hw
  obtain ⟨hp0, hp1⟩ := hp
  obtain ⟨hq0, hq1⟩ := hq
  clear hc hm hl hI hx hw
  go_enter Try.func59, Try.ntmps59
  go_wp2
  go_loopw [9] (fun v wr => ∃ j : Nat, j ≤ n ∧ v = .int .i64 j ∧ Hid (BoxC wr bc pu (ta + sumN j (atL ws)) (la + sumN j (fun p => max (atL ws p - atL xs p) 0)) le bm n) ∧ Hid (BoxI wr bm (lackV xs ws j)) ∧ Hid (Oth bc bm w wr)) (fun v _ => n - (intOf v).toNat)
  case atStart => exact ⟨0, Nat.zero_le _, rfl, by rw [sumN_zero, sumN_zero, Int.add_zero, Int.add_zero]; exact HC, by rw [lackV_zero]; exact HM, Oth.refl _ _ _⟩
  case round =>
    obtain ⟨j, hj, rfl, C, M, O⟩ := hrel
    by_cases hlt : j < n
    · have hji : (j : Int) < (n : Int) := by omega
      obtain ⟨b, off, y, rfl, hb, hy, qy⟩ := Ints.get (HI.out _ O.out) hlt
      obtain ⟨x, hx⟩ : ∃ x, atL xs j = x := ⟨_, rfl⟩
      have hxb := HX.out j hlt
      have hyb := HW.out j hlt
      rw [atL_some hy.out] at hyb
      rw [hx] at hxb
      obtain ⟨x0, x1⟩ := hxb
      obtain ⟨y0, y1⟩ := hyb
      have m0 := BoxI.at M.out (j := j) (x := x) (by rw [lackV_get (by have := HL.out; omega), if_neg (by omega), hx])
      have mf := Box.frozen M.out j
      obtain ⟨s, hs⟩ : ∃ s, ta + sumN j (atL ws) = s := ⟨_, rfl⟩
      obtain ⟨u, hu⟩ : ∃ u, la + sumN j (fun p => max (atL ws p - atL xs p) 0) = u := ⟨_, rfl⟩
      have hsb := sumN_bd (n := j) (f := atL ws) (B := 9) (fun p hp => HW.out p (by omega))
      have hub := sumN_bd (n := j) (f := fun p => max (atL ws p - atL xs p) 0) (B := 9) (fun p hp => by have := HW.out p (by omega); have := HX.out p (by omega); show 0 ≤ max _ _ ∧ max _ _ ≤ _; omega)
      have SS := hide2 (show ta + sumN (j + 1) (atL ws) = s + y by rw [sumN_succ, atL_some hy.out, ← hs]; omega)
      have UU := hide2 (show la + sumN (j + 1) (fun p => max (atL ws p - atL xs p) 0) = u + max (y - x) 0 by rw [sumN_succ, atL_some hy.out, hx, ← hu]; omega)
      have s0 : 0 ≤ s := by omega
      have s1 : s ≤ 2000000 := by omega
      have u0 : 0 ≤ u := by omega
      have u1 : u ≤ 2000000 := by omega
      rw [hs, hu] at C
      have LV := hide2 (show (lackV xs ws j).set j (x + max (y - x) 0 - y) = lackV xs ws (j + 1) by rw [← hx, ← atL_some hy.out]; exact lackV_succ (by have := HL.out; omega))
      obtain ⟨c0, c1, c2, c3, c4⟩ := C.out.five
      have cf2 := C.out.frozen 2
      clear hx hs hsb hu hub
      by_cases hpos : 0 < y - x
      · have hmx : max (y - x) 0 = y - x := by omega
        rw [hmx] at UU LV
        clear hmx
        go_upto_region 6 with fail
        obtain ⟨w2, hw2⟩ : ∃ w2, w2 = wr.setCell ⟨bc, 2, none⟩ (.int .i64 (u + (y - x))) := ⟨_, rfl⟩
        rw [← hw2]
        have O2 := hide2 (show Oth bc bm wr w2 by rw [hw2]; exact Oth.set1 _ _ _ _ _)
        have C2 := hide2 (show BoxC w2 bc pu s (u + (y - x)) le bm n by rw [hw2]; simpa using C.out.set 2 (.int .i64 (u + (y - x))))
        have M2 := hide2 (show BoxI w2 bm (lackV xs ws j) by rw [hw2]; exact (Beside.set wr bc 2 _).box M.out hne.symm)
        have LG := hide2 (show (lackV xs ws j)[j]? = some x by rw [lackV_get (by have := HL.out; omega), if_neg (by omega)]; have := BoxI.at M.out (j := j) (x := x); exact congrArg some (by
          have e1 := lackV_get (xs := xs) (ws := ws) (j := j) (p := j) (by have := HL.out; omega)
          rw [if_neg (by omega)] at e1
          have e2 := BoxI.at M.out e1
          rw [m0] at e2
          injection e2 with e2
          injection e2 with _ e2
          exact e2.symm))
        clear hw2 c0 c1 c2 c3 c4 cf2 m0 mf qy
        obtain ⟨c0, c1, c2, c3, c4⟩ := C2.out.five
        have m0 := BoxI.at M2.out LG.out
        have mf := Box.frozen M2.out j
        go_upto_region 7 with fail
        obtain ⟨w3, hw3⟩ : ∃ w3, w3 = w2.setCell ⟨bm, j, none⟩ (.int .i64 (x + (y - x))) := ⟨_, rfl⟩
        rw [← hw3]
        have O3 := hide2 (show Oth bc bm w2 w3 by rw [hw3]; exact Oth.set2 _ _ _ _ _)
        have C3 := hide2 (show BoxC w3 bc pu s (u + (y - x)) le bm n by rw [hw3]; exact (Beside.set w2 bm j _).box C2.out hne)
        have M3 := hide2 (show BoxI w3 bm ((lackV xs ws j).set j (x + (y - x))) by rw [hw3]; exact BoxI.put M2.out j _)
        clear hw3 c0 c1 c2 c3 c4 m0 mf
        obtain ⟨c0, c1, c2, c3, c4⟩ := C3.out.five
        have m0 := BoxI.at M3.out (j := j) (x := x + (y - x)) (by rw [List.getElem?_set_self (by rw [lackV_length]; have := HL.out; omega)])
        have mf := Box.frozen M3.out j
        go_upto_region 8 with fail
        obtain ⟨w4, hw4⟩ : ∃ w4, w4 = w3.setCell ⟨bm, j, none⟩ (.int .i64 (x + (y - x) - y)) := ⟨_, rfl⟩
        rw [← hw4]
        have O4 := hide2 (show Oth bc bm w3 w4 by rw [hw4]; exact Oth.set2 _ _ _ _ _)
        have C4 := hide2 (show BoxC w4 bc pu s (u + (y - x)) le bm n by rw [hw4]; exact (Beside.set w3 bm j _).box C3.out hne)
        have M4 := hide2 (show BoxI w4 bm (lackV xs ws (j + 1)) by
          rw [hw4, ← LV.out]
          have := BoxI.put M3.out j (x + (y - x) - y)
          rwa [List.set_set] at this)
        clear hw4 c0 c1 c2 c3 c4 m0 mf
        obtain ⟨c0, c1, c2, c3, c4⟩ := C4.out.five
        have cf := C4.out.frozen 1
        have OF := hide2 ((((O.out.trans O2.out).trans O3.out).trans O4.out).trans (Oth.set1 bc bm w4 1 (.int .i64 (s + y))))
        have CF := hide2 (show BoxC (w4.setCell ⟨bc, 1, none⟩ (.int .i64 (s + y))) bc pu (s + y) (u + (y - x)) le bm n by simpa using C4.out.set 1 (.int .i64 (s + y)))
        have MF := hide2 (show BoxI (w4.setCell ⟨bc, 1, none⟩ (.int .i64 (s + y))) bm (lackV xs ws (j + 1)) from (Beside.set w4 bc 1 _).box M4.out hne.symm)
        go_wp2
        go_roundw
        case rel => exact ⟨j + 1, by omega, by go_num, by rw [SS.out, UU.out]; exact CF, MF, OF⟩
        case measure => simp [intOf]; omega
      · have hmx : max (y - x) 0 = 0 := by omega
        rw [hmx] at UU LV
        clear hmx
        go_upto_region 8 with fail
        obtain ⟨w4, hw4⟩ : ∃ w4, w4 = wr.setCell ⟨bm, j, none⟩ (.int .i64 (x - y)) := ⟨_, rfl⟩
        rw [← hw4]
        have O4 := hide2 (show Oth bc bm wr w4 by rw [hw4]; exact Oth.set2 _ _ _ _ _)
        have C4 := hide2 (show BoxC w4 bc pu s u le bm n by rw [hw4]; exact (Beside.set wr bm j _).box C.out hne)
        have M4 := hide2 (show BoxI w4 bm (lackV xs ws (j + 1)) by
          rw [hw4, ← LV.out, Int.add_zero]
          exact BoxI.put M.out j (x - y))
        clear hw4 c0 c1 c2 c3 c4 cf2 m0 mf qy
        obtain ⟨c0, c1, c2, c3, c4⟩ := C4.out.five
        have cf := C4.out.frozen 1
        have OF := hide2 ((O.out.trans O4.out).trans (Oth.set1 bc bm w4 1 (.int .i64 (s + y))))
        have CF := hide2 (show BoxC (w4.setCell ⟨bc, 1, none⟩ (.int .i64 (s + y))) bc pu (s + y) u le bm n by simpa using C4.out.set 1 (.int .i64 (s + y)))
        have MF := hide2 (show BoxI (w4.setCell ⟨bc, 1, none⟩ (.int .i64 (s + y))) bm (lackV xs ws (j + 1)) from (Beside.set w4 bc 1 _).box M4.out hne.symm)
        go_wp2
        go_roundw
        case rel => exact ⟨j + 1, by omega, by go_num, by rw [SS.out, UU.out, Int.add_zero]; exact CF, MF, OF⟩
        case measure => simp [intOf]; omega
    · obtain rfl : j = n := by omega
      go_wp2
      exact bodyPost_end (v := .tuple #[]) (by simp [results, Try.results59, go_sem]) rfl ⟨rfl, C.out, M.out, O.out⟩
end Go.Proofs.Ytnfppolgaeibeaa
