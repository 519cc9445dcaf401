/- mine's of; two blocks side by side in a row. Conditions: the log reads as lists and nothing is wrong with it. -/
import Derived.Test.YtcopnfdknclhnaaGreatMineTellsK36
namespace Go.Proofs.YtcopnfdknclhnaaGreat
open Go.RowKit Go.Maps

def AnsLog (log : List (List Int)) (A : Option Addr) (n c : Nat) (w : World) (e : Ending) (w' : World) : Prop :=
  ∃ (p : PPrints) (A1 A2 A3 A4 : Option Addr) (n1 c1 n2 c2 n3 c3 n4 c4 : Nat), e = .returned (logV A A1 A2 A3 A4 n c n1 c1 n2 c2 n3 c3 n4 c4) ∧ LogI w' A A1 A2 A3 A4 n c n1 c1 n2 c2 n3 c3 n4 c4 log p ∧ ShowsP log p ∧ Below w.heap.size w w'
theorem Box.set5m {w : World} {b ty : Nat} {u0 u1 u2 u3 u4 : Value} (h : Box w b ty #[u0, u1, u2, u3, u4]) (v0 v1 v2 v3 v4 : Value) : Box (((((w.setCell ⟨b, 0, none⟩ v0).setCell ⟨b, 1, none⟩ v1).setCell ⟨b, 2, none⟩ v2).setCell ⟨b, 3, none⟩ v3).setCell ⟨b, 4, none⟩ v4) b ty #[v0, v1, v2, v3, v4] := by
  have := ((((h.set 0 v0).set 1 v1).set 2 v2).set 3 v3).set 4 v4
  simpa using this
theorem grown_set5 (w : World) (b : Nat) (v0 v1 v2 v3 v4 : Value) : w.grownBy (((((w.setCell ⟨b, 0, none⟩ v0).setCell ⟨b, 1, none⟩ v1).setCell ⟨b, 2, none⟩ v2).setCell ⟨b, 3, none⟩ v3).setCell ⟨b, 4, none⟩ v4) (some b) :=
  ((grown_set3 w b v0 v1 v2).trans (grown_set1 _ b 3 v3)).trans (grown_set1 _ b 4 v4)
/-- Two blocks in a row that is made. -/
theorem row_two {P : Nat → Prop} {w : World} {d : Nat} {k1 l1 k2 l2 : Int} {S1 S2 : Option Addr} {m1 d1 m2 d2 : Nat} {T1 T2 : PBlk} (h1 : BlkA P d w (.agg #[.int .i64 k1, .int .i64 l1, .slice S1 m1 d1]) T1) (h2 : BlkA P d w (.agg #[.int .i64 k2, .int .i64 l2, .slice S2 m2 d2]) T2) :
    Sl (BlkQ P (d + 1)) 3 (w.alloc (.cells #[.int .i64 k1, .int .i64 l1, .slice S1 m1 d1, .int .i64 k2, .int .i64 l2, .slice S2 m2 d2] 25)) (some ⟨w.heap.size, 0, none⟩) 2 2 [T1, T2] := by
  have bb := boxBelow w (.cells #[.int .i64 k1, .int .i64 l1, .slice S1 m1 d1, .int .i64 k2, .int .i64 l2, .slice S2 m2 d2] 25)
  have hb := Box.new w #[.int .i64 k1, .int .i64 l1, .slice S1 m1 d1, .int .i64 k2, .int .i64 l2, .slice S2 m2 d2] 25
  obtain ⟨A, n, c, e, s, p⟩ := h1.keep bb
  obtain ⟨A', n', c', e', s', p'⟩ := h2.keep bb
  simp only [Value.agg.injEq, Array.mk.injEq, List.cons.injEq, Value.int.injEq, Value.slice.injEq, true_and, and_true] at e e'
  obtain ⟨a1, a2, a3, a4, a5⟩ := e
  obtain ⟨b1, b2, b3, b4, b5⟩ := e'
  subst a3 a4 a5 b3 b4 b5
  refine ⟨rfl, Nat.le_refl _, by simp [maxLen], by omega, fun h => (by cases h), fun _ => ⟨w.heap.size, 0, rfl, hb.lt, fun i x hx => ?_⟩⟩
  match i, hx with
  | 0, hx =>
    injection hx with hx
    subst hx
    refine ⟨vs3 (.int .i64 k1) (.int .i64 l1) (.slice S1 m1 d1), fun j hj => ?_, by rw [a1]; rfl, by rw [a2]; rfl, S1, m1, d1, rfl, s, p⟩
    rw [show 0 + (0 * 3 + j) = j by omega, hb.cell j]
    match j, hj with
    | 0, _ => rfl
    | 1, _ => rfl
    | 2, _ => rfl
  | 1, hx =>
    injection hx with hx
    subst hx
    refine ⟨vs3 (.int .i64 k2) (.int .i64 l2) (.slice S2 m2 d2), fun j hj => ?_, by rw [b1]; rfl, by rw [b2]; rfl, S2, m2, d2, rfl, s', p'⟩
    rw [show 0 + (1 * 3 + j) = 3 + j by omega, hb.cell (3 + j)]
    match j, hj with
    | 0, _ => rfl
    | 1, _ => rfl
    | 2, _ => rfl
  | i + 2, hx => simp at hx
theorem ints_apart {w : World} {A : Option Addr} {m d b ty : Nat} {l : List Int} {cs : Array Value} (i : Ints w A m d l) (x : Box w b ty cs) (hcs : ∀ (j : Nat) (z : Int), cs[j]? ≠ some (Value.int .i64 z)) (hm : 0 < m) : ∀ a, A = some a → a.block ≠ b := fun a ha e => by
  obtain ⟨b', off, y, rfl, _, _, q⟩ := Ints.get i hm
  injection ha with ha
  subst ha
  change b' = b at e
  subst e
  rw [x.cell] at q
  exact hcs _ _ q
theorem pairs_apart {w : World} {A : Option Addr} {m d b ty : Nat} {l : List (Int × Int)} {cs : Array Value} (i : Pairs w A m d l) (x : Box w b ty cs) (hcs : ∀ (j : Nat) (z : Int), cs[j]? ≠ some (Value.int .i64 z)) (hm : 0 < m) : ∀ a, A = some a → a.block ≠ b := fun a ha e => by
  obtain ⟨b', off, t, vs, rfl, _, _, hc, e0, _⟩ := Sl.get i hm
  injection ha with ha
  subst ha
  change b' = b at e
  subst e
  have := hc 0 (by omega)
  rw [x.cell, e0] at this
  exact hcs _ _ this
set_option maxRecDepth 100000 in
set_option maxHeartbeats 2000000 in
theorem mnOf_calls {w : World} {A : Option Addr} {n c : Nat} {log : List (List Int)} (h : Lists w A n c log) (h0 : wrongV log = 0) :
    Calls Tryz.prog 21 #[.slice A n c] w (AnsLog log A n c w) := by
  have B0 := hide2 (boxBelow w (.cells #[.slice none 0 0, .slice none 0 0, .slice none 0 0, .slice none 0 0, .slice none 0 0] 47))
  have X0 := hide2 (Box.new w #[.slice none 0 0, .slice none 0 0, .slice none 0 0, .slice none 0 0, .slice none 0 0] 47)
  have H := hide2 (Sl.keep ListR.kept h B0.out)
  have H0 := hide2 h0
  have HW := hide2 h
  have CO := hide2 (of_tracks_calls (Sl.keep ListR.kept h B0.out))
  clear h h0
  go_enter Tryz.func21, Tryz.ntmps21
  go_upto_region 1 with fail
  generalize hw1 : w.alloc (.cells #[.slice none 0 0, .slice none 0 0, .slice none 0 0, .slice none 0 0, .slice none 0 0] 47) = w1 at *
  clear hw1
  go_wp2_with fail
  refine CO.out.mono ?_
  rintro e w2 ⟨p, er, A1, A2, A3, A4, n1, c1, n2, c2, n3, c3, n4, c4, hof, rfl, i1, i2, i3, i4, hb2⟩
  have SP := hide2 (show ShowsP log p from by have := hof.2; rwa [if_pos H0.out] at this)
  have BB := hide2 (boxBelow w2 (.cells #[.slice A1 n1 c1, .slice A2 n2 c2, .slice A3 n3 c3, .slice A4 n4 c4] 45))
  have B2 := hide2 (hb2.trans (BB.out.mono hb2.size))
  have LI := hide2 (show LogI (w2.alloc (.cells #[.slice A1 n1 c1, .slice A2 n2 c2, .slice A3 n3 c3, .slice A4 n4 c4] 45)) A A1 A2 A3 A4 n c n1 c1 n2 c2 n3 c3 n4 c4 log p from ⟨Sl.keep ListR.kept H.out B2.out, (PrI.mk i1 i2 i3 i4).keep BB.out⟩)
  have TB := hide2 (Box.new w2 #[.slice A1 n1 c1, .slice A2 n2 c2, .slice A3 n3 c3, .slice A4 n4 c4] 45)
  have X2 := hide2 (X0.out.keep B2.out)
  clear hof i1 i2 i3 i4 hb2 CO
  go_upto_region 2 with fail
  generalize w2.alloc (.cells #[.slice A1 n1 c1, .slice A2 n2 c2, .slice A3 n3 c3, .slice A4 n4 c4] 45) = w3 at *
  generalize w2.heap.size = bx at *
  obtain ⟨t0, t1, t2, t3⟩ := TB.out.four
  have x0 := X2.out.cell 0
  have x1 := X2.out.cell 1
  have x2 := X2.out.cell 2
  have x3 := X2.out.cell 3
  have x4 := X2.out.cell 4
  have fz := fun j => X2.out.frozen j
  have X3 := hide2 (X2.out.set5m (.slice A n c) (.slice A1 n1 c1) (.slice A2 n2 c2) (.slice A3 n3 c3) (.slice A4 n4 c4))
  have G3 := hide2 (grown_set5 w3 w.heap.size (.slice A n c) (.slice A1 n1 c1) (.slice A2 n2 c2) (.slice A3 n3 c3) (.slice A4 n4 c4))
  go_wp2
  generalize (((((w3.setCell ⟨w.heap.size, 0, none⟩ (.slice A n c)).setCell ⟨w.heap.size, 1, none⟩ (.slice A1 n1 c1)).setCell ⟨w.heap.size, 2, none⟩ (.slice A2 n2 c2)).setCell ⟨w.heap.size, 3, none⟩ (.slice A3 n3 c3)).setCell ⟨w.heap.size, 4, none⟩ (.slice A4 n4 c4)) = w4 at *
  have z0 := X3.out.cell 0
  have z1 := X3.out.cell 1
  have z2 := X3.out.cell 2
  have z3 := X3.out.cell 3
  have z4 := X3.out.cell 4
  have D4 : Below w.heap.size w w4 := (B0.out.trans (B2.out.mono B0.out.size)).grown G3.out (Nat.le_trans B0.out.size B2.out.size) (fun k hk => by injection hk with hk; omega)
  have hcs : ∀ (j : Nat) (z : Int), (#[.slice none 0 0, .slice none 0 0, .slice none 0 0, .slice none 0 0, .slice none 0 0] : Array Value)[j]? ≠ some (Value.int .i64 z) := fun j z e => by
    match j, e with
    | 0, e => cases e
    | 1, e => cases e
    | 2, e => cases e
    | 3, e => cases e
    | 4, e => cases e
    | j + 5, e => simp at e
  have ne : ∀ {A : Option Addr} {m d : Nat} {l : List Int}, Ints w3 A m d l → Ints w4 A m d l := fun i => Ints.same i G3.out.size (fun b off e hn hb => G3.out.block b hb (fun e2 => by
    injection e2 with e2
    exact ints_apart i X2.out hcs hn _ e e2))
  have np : Pairs w4 A4 n4 c4 p.behind := LI.out.ip.i4.far G3.out.size (fun hn a ha => by
    obtain ⟨b, off, e, hb, _⟩ := LI.out.ip.i4.cells hn
    have h1 := pairs_apart LI.out.ip.i4 X2.out hcs hn a ha
    rw [e] at ha
    injection ha with ha
    subst ha
    exact G3.out.block b hb (fun e2 => h1 (by injection e2))) (fun _ _ r => r)
  exact bodyPost_ret (v := .agg #[.slice A n c, .slice A1 n1 c1, .slice A2 n2 c2, .slice A3 n3 c3, .slice A4 n4 c4]) (by simp [results, Tryz.results21, go_sem, z0, z1, z2, z3, z4]) rfl ⟨p, A1, A2, A3, A4, n1, c1, n2, c2, n3, c3, n4, c4, rfl, ⟨Sl.keep ListR.kept HW.out D4, ne LI.out.ip.i1, ne LI.out.ip.i2, ne LI.out.ip.i3, np⟩, SP.out, D4⟩
end Go.Proofs.YtcopnfdknclhnaaGreat
