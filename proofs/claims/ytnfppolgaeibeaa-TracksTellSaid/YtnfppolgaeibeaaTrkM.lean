/- The law TracksTell as a call: it returns true. Conditions: the log and the labels read as lists. -/
import Derived.Test.YtnfppolgaeibeaaTrkL
import Derived.Test.YtnfppolgaeibeaaSameL
import Derived.ChangeKeysEq
namespace Go.Proofs.Ytnfppolgaeibeaa
open Go.RowKit

theorem undPair : Try.prog.underlying 137 = some (.array 2 3) := by kernel_rfl
theorem guardPair : Try.prog.eqGuardType Try.prog.depth 137 = false := by kernel_rfl
theorem neq_pair (a b : Int) (w : World) : (binOp .neq 137 (.agg #[.int .i64 a, .int .i64 b]) (.agg #[.int .i64 a, .int .i64 b])).run Try.prog w = .ok (.bool false) w := by
  obtain ⟨i, hi⟩ := info_of_underlying (P := Try.prog) (t := 3) Try.underlying3
  have hc : Try.prog.cellsOf 3 = 1 := by kernel_rfl
  rw [run_neq_struct, run_equalIn_array w 9999 _ _ undPair hi, hc]
  simp [Op.eqItems, List.range_succ, part, isAgg, run_underlying Try.underlying3, run_equalIn_int w 9998 3 .i64 .i64 _ _ Try.underlying3]

set_option maxRecDepth 100000 in
theorem equalPairs_same {w : World} {A B : Option Addr} {n c m d : Nat} {xs : List (Int × Int)} (h : Pairs w A n c xs) (g : Pairs w B m d xs) :
    Calls Try.prog 94 #[.slice A n c, .slice B m d] w fun e w' => e = .returned (.bool true) ∧ Below w.heap.size w w' := by
  have hn := h.small
  have hne := neq_pair
  have hgd := guardPair
  obtain rfl : n = m := by rw [← h.len, ← g.len]
  have H := hide2 h
  have G := hide2 g
  clear h g
  go_enter Try.func94, Try.ntmps94
  go_wp2
  go_loopw [13] (fun i wr => ∃ k : Nat, k ≤ n ∧ i = .int .i64 k ∧ Hid (Below w.heap.size w wr)) (fun i _ => n - (intOf i).toNat)
  case atStart => exact ⟨0, Nat.zero_le _, rfl, hide2 (Below.refl _ _)⟩
  case round =>
    obtain ⟨k, hk, rfl, D⟩ := hrel
    by_cases hlt : k < n
    · have hki : (k : Int) < (n : Int) := by omega
      obtain ⟨b, off, t, vs, rfl, hb, ht, hc, e0, e1⟩ := Sl.get (Sl.keep PairR.kept H.out D.out) hlt
      obtain ⟨b', off', t', vs', rfl, hb', ht', hc', e0', e1'⟩ := Sl.get (Sl.keep PairR.kept G.out D.out) hlt
      obtain rfl : t = t' := by rw [ht] at ht'; injection ht'
      have q0 : wr.cell? ⟨b, off + k * 2, none⟩ = some (.int .i64 t.1) := by have := hc 0 (by omega); rw [e0] at this; simpa using this
      have q1 : wr.cell? ⟨b, off + k * 2 + 1, none⟩ = some (.int .i64 t.2) := by have := hc 1 (by omega); rw [e1] at this; simpa [Nat.add_assoc] using this
      have r0 : wr.cell? ⟨b', off' + k * 2, none⟩ = some (.int .i64 t.1) := by have := hc' 0 (by omega); rw [e0'] at this; simpa using this
      have r1 : wr.cell? ⟨b', off' + k * 2 + 1, none⟩ = some (.int .i64 t.2) := by have := hc' 1 (by omega); rw [e1'] at this; simpa [Nat.add_assoc] using this
      clear ht ht' hc hc' e0 e1 e0' e1'
      go_wp2
      go_quiet (fail)
      go_wp2
      go_roundw
      case rel => exact ⟨k + 1, by omega, by go_num, hide2 (D.out.trans ((show Below wr.heap.size wr (wr.drewN nq) from ⟨rfl, rfl, rfl, Nat.le_refl _, fun _ _ => rfl⟩).mono D.out.size))⟩
      case measure => simp [intOf]; omega
    · go_wp2
      go_ret
      exact ⟨rfl, D.out⟩
/-- What the print's four lists read as. -/
structure PrI (w : World) (A1 A2 A3 A4 : Option Addr) (n1 c1 n2 c2 n3 c3 n4 c4 : Nat) (p : PPrints) : Prop where
  i1 : Ints w A1 n1 c1 p.labels
  i2 : Ints w A2 n2 c2 p.first
  i3 : Ints w A3 n3 c3 p.last
  i4 : Pairs w A4 n4 c4 p.behind
theorem PrI.keep {w w' : World} {A1 A2 A3 A4 : Option Addr} {n1 c1 n2 c2 n3 c3 n4 c4 : Nat} {p : PPrints} (h : PrI w A1 A2 A3 A4 n1 c1 n2 c2 n3 c3 n4 c4 p) (hb : Below w.heap.size w w') : PrI w' A1 A2 A3 A4 n1 c1 n2 c2 n3 c3 n4 c4 p :=
  ⟨h.i1.keep hb, h.i2.keep hb, h.i3.keep hb, Sl.keep PairR.kept h.i4 hb⟩
theorem Box.four {w : World} {b ty : Nat} {u0 u1 u2 u3 : Value} (h : Box w b ty #[u0, u1, u2, u3]) : w.cell? ⟨b, 0, none⟩ = some u0 ∧ w.cell? ⟨b, 1, none⟩ = some u1 ∧ w.cell? ⟨b, 2, none⟩ = some u2 ∧ w.cell? ⟨b, 3, none⟩ = some u3 := ⟨h.cell 0, h.cell 1, h.cell 2, h.cell 3⟩
set_option maxRecDepth 100000 in
set_option maxHeartbeats 4000000 in
theorem samePrints_same {w : World} {A1 A2 A3 A4 B1 B2 B3 B4 : Option Addr} {n1 c1 n2 c2 n3 c3 n4 c4 m1 d1 m2 d2 m3 d3 m4 d4 : Nat} {p : PPrints} (h : PrI w A1 A2 A3 A4 n1 c1 n2 c2 n3 c3 n4 c4 p) (g : PrI w B1 B2 B3 B4 m1 d1 m2 d2 m3 d3 m4 d4 p) :
    Calls Try.prog 32 #[.agg #[.slice A1 n1 c1, .slice A2 n2 c2, .slice A3 n3 c3, .slice A4 n4 c4], .agg #[.slice B1 m1 d1, .slice B2 m2 d2, .slice B3 m3 d3, .slice B4 m4 d4]] w fun e w' => e = .returned (.bool true) ∧ Below w.heap.size w w' := by
  have X0 := hide2 ((Box.new w #[.slice A1 n1 c1, .slice A2 n2 c2, .slice A3 n3 c3, .slice A4 n4 c4] 57).old (.cells #[.slice B1 m1 d1, .slice B2 m2 d2, .slice B3 m3 d3, .slice B4 m4 d4] 57))
  have X1 := hide2 (Box.newAt (w := w.alloc (.cells #[.slice A1 n1 c1, .slice A2 n2 c2, .slice A3 n3 c3, .slice A4 n4 c4] 57)) (n := w.heap.size + 1) (by simp) #[.slice B1 m1 d1, .slice B2 m2 d2, .slice B3 m3 d3, .slice B4 m4 d4] 57)
  have B0 := hide2 ((boxBelow w (.cells #[.slice A1 n1 c1, .slice A2 n2 c2, .slice A3 n3 c3, .slice A4 n4 c4] 57)).alloc (by simp) (.cells #[.slice B1 m1 d1, .slice B2 m2 d2, .slice B3 m3 d3, .slice B4 m4 d4] 57))
  have H := hide2 h
  have G := hide2 g
  clear h g
  go_enter Try.func32, Try.ntmps32
  go_upto_region 1 with fail
  generalize (w.alloc (.cells #[.slice A1 n1 c1, .slice A2 n2 c2, .slice A3 n3 c3, .slice A4 n4 c4] 57)).alloc (.cells #[.slice B1 m1 d1, .slice B2 m2 d2, .slice B3 m3 d3, .slice B4 m4 d4] 57) = w0 at *
  obtain ⟨a0, a1, a2, a3⟩ := X0.out.four
  obtain ⟨b0, b1, b2, b3⟩ := X1.out.four
  go_wp2_with fail
  refine (equalInts_calls (H.out.keep B0.out).i1 (G.out.keep B0.out).i1).mono ?_
  rintro e w1 ⟨rfl, hd⟩
  rw [beq_self_eq_true]
  have Y0 := hide2 (X0.out.keep hd.below)
  have Y1 := hide2 (X1.out.keep hd.below)
  have F1 := hide2 (B0.out.trans (hd.below.mono B0.out.size))
  clear hd a0 a1 a2 a3 b0 b1 b2 b3
  obtain ⟨a0, a1, a2, a3⟩ := Y0.out.four
  obtain ⟨b0, b1, b2, b3⟩ := Y1.out.four
  go_wp2_with fail
  refine (equalInts_calls (H.out.keep F1.out).i2 (G.out.keep F1.out).i2).mono ?_
  rintro e w2 ⟨rfl, hd⟩
  rw [beq_self_eq_true]
  have Z0 := hide2 (Y0.out.keep hd.below)
  have Z1 := hide2 (Y1.out.keep hd.below)
  have F2 := hide2 (F1.out.trans (hd.below.mono F1.out.size))
  clear hd a0 a1 a2 a3 b0 b1 b2 b3
  obtain ⟨a0, a1, a2, a3⟩ := Z0.out.four
  obtain ⟨b0, b1, b2, b3⟩ := Z1.out.four
  go_wp2_with fail
  refine (equalInts_calls (H.out.keep F2.out).i3 (G.out.keep F2.out).i3).mono ?_
  rintro e w3 ⟨rfl, hd⟩
  rw [beq_self_eq_true]
  have V0 := hide2 (Z0.out.keep hd.below)
  have V1 := hide2 (Z1.out.keep hd.below)
  have F3 := hide2 (F2.out.trans (hd.below.mono F2.out.size))
  clear hd a0 a1 a2 a3 b0 b1 b2 b3
  obtain ⟨a0, a1, a2, a3⟩ := V0.out.four
  obtain ⟨b0, b1, b2, b3⟩ := V1.out.four
  go_wp2_with fail
  refine (equalPairs_same (H.out.keep F3.out).i4 (G.out.keep F3.out).i4).mono ?_
  rintro e w4 ⟨rfl, hb⟩
  have F4 := hide2 (F3.out.trans (hb.mono F3.out.size))
  clear hb a0 a1 a2 a3 b0 b1 b2 b3
  go_wp2
  go_ret
  exact ⟨rfl, F4.out⟩

theorem Sl.impT {α : Type} {R R' : World → (Nat → Value) → α → Prop} {sz : Nat} {w : World} {A : Option Addr} {n c : Nat} {xs : List α} (h : Sl R sz w A n c xs) (hR : ∀ vs x, R w vs x → R' w vs x) : Sl R' sz w A n c xs :=
  ⟨h.len, h.le, h.cap, h.small, h.nul, fun hn => by obtain ⟨b, off, e, hb, hx⟩ := h.cells hn; exact ⟨b, off, e, hb, fun i x hi => by obtain ⟨vs, a, r⟩ := hx i x hi; exact ⟨vs, a, hR _ _ r⟩⟩⟩
theorem OwnSl.lists {w : World} {B B2 n : Nat} {v : Value} {xs : List (List Int)} (h : OwnSl (OwnListR B) 1 w B2 35 v n xs) (hn : n ≤ 5864062014805) : ∃ A c, v = .slice A n c ∧ Lists w A n c xs := by
  obtain ⟨A, c, rfl, s⟩ := h.sl (by omega)
  exact ⟨A, c, rfl, Sl.impT s (fun _ _ h => h.list)⟩
set_option maxRecDepth 100000 in
set_option maxHeartbeats 8000000 in
theorem tracksTell_walk {w : World} {A B : Option Addr} {n c m d : Nat} {log : List (List Int)} {labels : List Int} (h : Lists w A n c log) (hn : n ≤ 5864062014634) (g : Ints w B m d labels) (_ : m ≤ 17592186044416) :
    Calls Try.prog 8 #[.slice A n c, .slice B m d] w fun e w' => e = .returned (.bool true) ∧ Below w.heap.size w w' := by
  have H := hide2 h
  have G := hide2 g
  have HN := hide2 hn
  clear h g hn
  go_enter Try.func8, Try.ntmps8
  go_wp2_with fail
  refine (of_tracks_calls H.out).mono ?_
  rintro e w1 ⟨p, er, A1, A2, A3, A4, n1, c1, n2, c2, n3, c3, n4, c4, of1, rfl, i1, i2, i3, i4, hb1⟩
  have OF := hide2 of1
  have I1 := hide2 (show PrI w1 A1 A2 A3 A4 n1 c1 n2 c2 n3 c3 n4 c4 p from ⟨i1, i2, i3, i4⟩)
  have F1 := hide2 hb1
  clear i1 i2 i3 i4 of1 hb1
  have X0 := hide2 (Box.new w1 #[.slice A1 n1 c1, .slice A2 n2 c2, .slice A3 n3 c3, .slice A4 n4 c4] 57)
  have bb := boxBelow w1 (.cells #[.slice A1 n1 c1, .slice A2 n2 c2, .slice A3 n3 c3, .slice A4 n4 c4] 57)
  have I2 := hide2 (I1.out.keep bb)
  have F2 := hide2 (F1.out.trans (bb.mono F1.out.size))
  clear bb
  go_upto_region 2 with fail
  generalize w1.alloc (.cells #[.slice A1 n1 c1, .slice A2 n2 c2, .slice A3 n3 c3, .slice A4 n4 c4] 57) = w2 at *
  go_wp2_with fail
  refine (vof_calls (Sl.keep ListR.kept H.out F2.out)).mono ?_
  rintro e w3 ⟨p', er', B1, B2, B3, B4, m1, d1, m2, d2, m3, d3, m4, d4, of2, rfl, j1, j2, j3, j4, hb2⟩
  obtain ⟨rfl, rfl⟩ := OF.out.uniq of2
  have J1 := hide2 (show PrI w3 B1 B2 B3 B4 m1 d1 m2 d2 m3 d3 m4 d4 p from ⟨j1, j2, j3, j4⟩)
  have X1 := hide2 (X0.out.keep hb2)
  have I3 := hide2 (I2.out.keep hb2)
  have F3 := hide2 (F2.out.trans (hb2.mono F2.out.size))
  clear j1 j2 j3 j4 of2 hb2
  have Y0 := hide2 (Box.new w3 #[.slice B1 m1 d1, .slice B2 m2 d2, .slice B3 m3 d3, .slice B4 m4 d4] 57)
  have bb := boxBelow w3 (.cells #[.slice B1 m1 d1, .slice B2 m2 d2, .slice B3 m3 d3, .slice B4 m4 d4] 57)
  have I4 := hide2 (I3.out.keep bb)
  have J4 := hide2 (J1.out.keep bb)
  have X4 := hide2 (X1.out.keep bb)
  have F4 := hide2 (F3.out.trans (bb.mono F3.out.size))
  clear bb
  go_upto_region 3 with fail
  generalize w3.alloc (.cells #[.slice B1 m1 d1, .slice B2 m2 d2, .slice B3 m3 d3, .slice B4 m4 d4] 57) = w4 at *
  generalize w3.heap.size = b3 at *
  generalize w1.heap.size = b1 at *
  obtain ⟨x0, x1, x2, x3⟩ := X4.out.four
  obtain ⟨y0, y1, y2, y3⟩ := Y0.out.four
  go_wp2_with fail
  refine (tracksWrong_calls (Sl.keep ListR.kept H.out F4.out)).mono ?_
  rintro e w5 ⟨rfl, rfl⟩
  go_wp2_with fail
  refine (vwrong_calls (Sl.keep ListR.kept H.out F4.out)).mono ?_
  rintro e w5 ⟨rfl, rfl⟩
  go_wp2_with fail
  refine (samePrints_same I4.out J4.out).mono ?_
  rintro e w6 ⟨rfl, hb6⟩
  have F6 := hide2 (F4.out.trans (hb6.mono F4.out.size))
  clear hb6 x0 x1 x2 x3 y0 y1 y2 y3
  go_wp2_with fail
  refine (onto_calls (Sl.keep ListR.kept H.out F6.out) (G.out.keep F6.out) (by have := HN.out; omega)).mono ?_
  rintro e w7 ⟨v7, n7, rfl, o7, h7, hb7⟩
  obtain ⟨A7, c7, rfl, s7⟩ := o7.lists h7
  have S7 := hide2 s7
  have F7 := hide2 (F6.out.trans (hb7.mono F6.out.size))
  clear o7 s7 hb7
  go_wp2_with fail
  refine (vonto_calls (Sl.keep ListR.kept H.out F7.out) (G.out.keep F7.out) (by have := HN.out; omega)).mono ?_
  rintro e w8 ⟨v8, n8, rfl, o8, h8, hb8⟩
  obtain ⟨A8, c8, rfl, s8⟩ := o8.lists h8
  have S8 := hide2 s8
  have S78 := hide2 (Sl.keep ListR.kept S7.out hb8)
  have F8 := hide2 (F7.out.trans (hb8.mono F7.out.size))
  clear o8 s8 hb8
  go_wp2_with fail
  refine (sameLists_same S78.out S8.out).mono ?_
  rintro e w9 ⟨rfl, hb9⟩
  have F9 := hide2 (F8.out.trans (hb9.mono F8.out.size))
  clear hb9
  go_wp2
  go_ret
  exact ⟨by first | rfl | simp, F9.out⟩
end Go.Proofs.Ytnfppolgaeibeaa
