/- The contract of BTurned. Conditions: the net's transitions read as a list. | The contract of net.Turned. Conditions: the net's transitions read as a list. | Append of any list of integers (nil too) to one that the call owns, in plain regions and in those that draw their order. Conditions: the lengths stay below what memory bears. -/
import Derived.Test.YtnfppolgaeibeaaNetF
import Derived.Test.YtnfppolgaeibeaaPlainC
import Derived.Test.YtnfppolgaeibeaaOwnB
import Derived.Test.YtnfppolgaeibeaaHeld
import Derived.Test.YtnfppolgaeibeaaCaseC
import Derived.Maps.AppendAt
namespace Go.Proofs.Ytnfppolgaeibeaa
open Go.RowKit

/-- What a call answers that hands back a net. -/
def AnsNet (N : PNet) (w : World) (e : Ending) (w' : World) : Prop :=
  ∃ A n c, e = .returned (.agg #[.int .i64 N.places, .slice A n c]) ∧ Trans w' A n c N.trans ∧ Below w.heap.size w w'

/-- A transition's cells, read in a world that is past: nothing of it has turned since. -/
def TranR0 (w0 : World) : World → (Nat → Value) → PTran → Prop := fun _ vs t => TranR w0 vs t
theorem TranR0.kept (w0 : World) : Kept (TranR0 w0) := fun _ _ _ _ _ h => h
theorem OwnSl.of0 {w0 w : World} {B e : Nat} {v : Value} {n : Nat} {xs : List PTran} (h : OwnSl (TranR0 w0) 3 w B e v n xs) (hb : Below w0.heap.size w0 w) : OwnSl TranR 3 w B e v n xs := by
  obtain ⟨cells, h1, h2, h3⟩ := h
  exact ⟨cells, h1, ⟨h2.1, fun i x hx => by obtain ⟨vs, a, b⟩ := h2.2 i x hx; exact ⟨vs, a, TranR.kept _ _ _ _ hb b⟩⟩, h3⟩
theorem Reads.tran {w : World} {v0 v1 v2 : Value} {t : PTran} {R : World → (Nat → Value) → PTran → Prop} (h : R w (fun j => [v0, v1, v2].getD j undef) t) : Reads R 3 w [v0, v1, v2] [t] :=
  Reads.one h rfl (fun j hj => by
    match j, hj with
    | 0, _ => rfl
    | 1, _ => rfl
    | 2, _ => rfl)

theorem grown_set2 (w : World) (p q : Addr) (u v : Value) (h : q.block = p.block) : w.grownBy ((w.setCell p u).setCell q v) (some p.block) :=
  ⟨rfl, rfl, rfl, by simp [World.setCell], fun k _ hk => by
    have h1 : k ≠ p.block := fun e => hk (by rw [e])
    rw [Below.heap_setCell _ _ _ _ (by rw [h]; exact h1), Below.heap_setCell _ _ _ _ h1]⟩
theorem turned_take {ts : List PTran} {k : Nat} {t : PTran} (h : ts[k]? = some t) : (ts.take (k + 1)).map turnT = (ts.take k).map turnT ++ [turnT t] := by
  rw [take_snoc h, List.map_append]; rfl

set_option maxRecDepth 100000 in
set_option maxHeartbeats 1000000 in
theorem refTurned_calls {w : World} {P : Int} {A : Option Addr} {n c : Nat} {ts : List PTran} (h : Trans w A n c ts) (hn : n ≤ 2513169434916) :
    Calls Try.prog 54 #[.agg #[.int .i64 P, .slice A n c]] w (AnsNet (turned ⟨P, ts⟩) w) := by
  have HB := hide2 (boxBelow w)
  have H := hide2 h
  have HL := hide2 h.len
  clear h
  go_enter Try.func54, Try.ntmps54
  go_wp2
  generalize hw1 : (w.alloc (.cells #[.int .i64 P, .slice A n c] 27)).alloc (.cells #[.int .i64 0, .slice none 0 0] 27) = w1
  have hb1 : Below w.heap.size w w1 := by rw [← hw1]; exact ((Below.refl _ _).alloc (Nat.le_refl _) _).alloc (by simp) _
  have hc0 : w1.cell? ⟨w.heap.size, 0, none⟩ = some (.int .i64 P) := by rw [← hw1]; simp
  have hz0 : w1.cell? ⟨w.heap.size + 1, 0, none⟩ = some (.int .i64 0) := by rw [← hw1]; simp
  have hz1 : w1.cell? ⟨w.heap.size + 1, 1, none⟩ = some (.slice none 0 0) := by rw [← hw1]; simp
  have hf0 : w1.frozen? ⟨w.heap.size + 1, 0, none⟩ = false := by rw [← hw1]; simp
  have hf1 : w1.frozen? ⟨w.heap.size + 1, 1, none⟩ = false := by rw [← hw1]; simp
  have hs1 : w.heap.size + 1 < w1.heap.size := by rw [← hw1]; simp
  have B1 := hide2 hb1
  clear hw1 hb1
  go_loopw [3, 9] (fun v i wr => ∃ k : Nat, k ≤ n ∧ i = .int .i64 k ∧ OwnSl (TranR0 w) 3 wr w1.heap.size 78 v k ((ts.take k).map turnT) ∧ Below w1.heap.size w1 wr) (fun _ i _ => n - (intOf i).toNat)
  case atStart => exact ⟨0, Nat.zero_le _, rfl, OwnSl.nil, Below.refl _ _⟩
  case round =>
    obtain ⟨k, hk, rfl, own, hb⟩ := hrel
    by_cases hlt : k < n
    · obtain ⟨bl, off, t, A1, n1, c1, A2, n2, c2, rfl, hbl, ht, q0, q1, q2, i1, i2, m1, m2⟩ := Trans.get H.out hlt
      have hbw := B1.out.trans (hb.mono B1.out.size)
      have q0' := (hbw.cell (p := ⟨bl, off + k * 3, none⟩) hbl).trans q0
      have q1' := (hbw.cell (p := ⟨bl, off + k * 3 + 1, none⟩) hbl).trans q1
      have q2' := (hbw.cell (p := ⟨bl, off + k * 3 + 2, none⟩) hbl).trans q2
      have OW := hide2 (own.keep (TranR0.kept w) (boxBelow wr (.cells #[.int .i64 t.label, .slice A1 n1 c1, .slice A2 n2 c2] 78)))
      have HB1 := hide2 (hb.alloc hb.size (.cells #[.int .i64 t.label, .slice A1 n1 c1, .slice A2 n2 c2] 78))
      have RD := hide2 (show TranR0 w wr (fun j => [Value.int .i64 t.label, .slice A2 n2 c2, .slice A1 n1 c1].getD j undef) (turnT t) from ⟨rfl, A2, n2, c2, A1, n1, c1, rfl, rfl, i2, i1, m2, m1⟩)
      have hst := hide2 (turned_take ht.out)
      clear own hb hbw q0 q1 q2 i1 i2
      go_wp2_with (at_builtin; refine wpList_appNew tyTrans rfl _ _ rfl [turnT t] #[.int .i64 t.label, .slice A2 n2 c2, .slice A1 n1 c1] rfl rfl (by simp) rfl (by simp [Value.oneCell']) OW.out (Reads.tran RD.out) rfl HB1.out HB1.out.size (by omega) (by omega) (fun _ _ _ _ h => h) ?_; intro v2 w2 own2 hg2 hb2)
      go_roundw
      case rel => exact ⟨k + 1, by omega, by go_num, by rw [hst.out]; exact own2, hb2⟩
      case measure => simp [intOf]; omega
    · obtain rfl : k = n := by omega
      have c0 := (hb.cell (p := ⟨w.heap.size, 0, none⟩) (Nat.lt_of_succ_lt hs1)).trans hc0
      have z0 := (hb.cell (p := ⟨w.heap.size + 1, 0, none⟩) hs1).trans hz0
      have z1 := (hb.cell (p := ⟨w.heap.size + 1, 1, none⟩) hs1).trans hz1
      have f0 := (hb.frozen (p := ⟨w.heap.size + 1, 0, none⟩) hs1).trans hf0
      have f1 := (hb.frozen (p := ⟨w.heap.size + 1, 1, none⟩) hs1).trans hf1
      have HBW := hide2 (B1.out.trans (hb.mono B1.out.size))
      have hst := hide2 (show (ts.take k).map turnT = ts.map turnT from by rw [List.take_of_length_le (by rw [HL.out]; exact Nat.le_refl _)])
      have OW := hide2 own
      obtain ⟨C, cc, hv, hi⟩ := (own.of0 HBW.out).sl (by omega)
      subst hv
      have OWL := hide2 own.lt
      clear own hb hi
      go_wp2
      have r0 : ((wr.setCell ⟨w.heap.size + 1, 0, none⟩ (.int .i64 P)).setCell ⟨w.heap.size + 1, 1, none⟩ (.slice C k cc)).cell? ⟨w.heap.size + 1, 0, none⟩ = some (.int .i64 P) := by
        rw [World.cell?_setCell_other _ _ _ _ (by simp), World.cell?_setCell_same _ _ _ z0]
      have r1 : ((wr.setCell ⟨w.heap.size + 1, 0, none⟩ (.int .i64 P)).setCell ⟨w.heap.size + 1, 1, none⟩ (.slice C k cc)).cell? ⟨w.heap.size + 1, 1, none⟩ = some (.slice C k cc) := by
        rw [World.cell?_setCell_same _ _ _ ((World.cell?_setCell_other _ _ _ _ (by simp)).trans z1)]
      refine bodyPost_ret (v := .agg #[.int .i64 P, .slice C k cc]) (by simp [results, Try.results54, go_sem, r0, r1]) rfl ?_
      refine ⟨C, k, cc, rfl, ?_, ?_⟩
      · have hg := grown_set2 wr ⟨w.heap.size + 1, 0, none⟩ ⟨w.heap.size + 1, 1, none⟩ (.int .i64 P) (.slice C k cc) rfl
        have hne : (Value.slice C k cc).ownBlock ≠ some (w.heap.size + 1) := fun e => by
          have := (OWL.out _ e).1
          omega
        have o2 := (OW.out.kept hg (.inr hne) (fun _ _ h => h)).of0 ((HBW.out.setCell (by simp) _).setCell (by simp) _)
        obtain ⟨C', c', e', hs⟩ := o2.sl (by omega)
        injection e' with e1 e2 e3
        subst e1 e3
        rw [hst.out] at hs
        exact hs
      · exact (HBW.out.setCell (by simp) _).setCell (by simp) _
end Go.Proofs.Ytnfppolgaeibeaa
namespace Go.Proofs.Ytnfppolgaeibeaa
open Go.RowKit

theorem alloc3 (w : World) (x y z : Array Value) (tx ty tz : Nat) :
    (∀ j, (((w.alloc (.cells x tx)).alloc (.cells y ty)).alloc (.cells z tz)).cell? ⟨w.heap.size, j, none⟩ = x[j]?) ∧
    (∀ j, (((w.alloc (.cells x tx)).alloc (.cells y ty)).alloc (.cells z tz)).cell? ⟨w.heap.size + 1, j, none⟩ = y[j]?) ∧
    (∀ j, (((w.alloc (.cells x tx)).alloc (.cells y ty)).alloc (.cells z tz)).cell? ⟨w.heap.size + 1 + 1, j, none⟩ = z[j]?) ∧
    (∀ j, (((w.alloc (.cells x tx)).alloc (.cells y ty)).alloc (.cells z tz)).frozen? ⟨w.heap.size + 1, j, none⟩ = false) ∧
    (∀ j, (((w.alloc (.cells x tx)).alloc (.cells y ty)).alloc (.cells z tz)).frozen? ⟨w.heap.size + 1 + 1, j, none⟩ = false) ∧
    (((w.alloc (.cells x tx)).alloc (.cells y ty)).alloc (.cells z tz)).heap.size = w.heap.size + 3 := by
  have s1 : (w.alloc (.cells x tx)).heap.size = w.heap.size + 1 := by simp
  have s2 : ((w.alloc (.cells x tx)).alloc (.cells y ty)).heap.size = w.heap.size + 1 + 1 := by simp
  have h1 : (((w.alloc (.cells x tx)).alloc (.cells y ty)).alloc (.cells z tz)).heap[w.heap.size]? = some (.cells x tx (0, 0)) := by
    rw [heap_alloc_old _ _ (by omega), heap_alloc_old _ _ (by omega)]; exact heap_alloc_new w _
  have h2 : (((w.alloc (.cells x tx)).alloc (.cells y ty)).alloc (.cells z tz)).heap[w.heap.size + 1]? = some (.cells y ty (0, 0)) := by
    rw [heap_alloc_old _ _ (by omega), ← s1]; exact heap_alloc_new _ _
  have h3 : (((w.alloc (.cells x tx)).alloc (.cells y ty)).alloc (.cells z tz)).heap[w.heap.size + 1 + 1]? = some (.cells z tz (0, 0)) := by
    rw [← s2]; exact heap_alloc_new _ _
  exact ⟨fun j => cell_of_row _ _ _ _ _ (0, 0) h1, fun j => cell_of_row _ _ _ _ _ (0, 0) h2, fun j => cell_of_row _ _ _ _ _ (0, 0) h3, fun j => frozen_of_row _ _ _ _ _ h2, fun j => frozen_of_row _ _ _ _ _ h3, by simp⟩

theorem turnedEnd {B g0 : Nat} {w : World} {v u : Value} {n : Nat} {xs : List PTran} {j : Nat} (h : OwnSl (OwnTranR B) 3 w B 78 v n xs) (hg : g0 < B) : Hid (OwnSl (OwnTranR B) 3 (w.setCell ⟨g0, j, none⟩ u) B 78 v n xs) := by
  have gr : w.grownBy (w.setCell ⟨g0, j, none⟩ u) (some g0) := ⟨rfl, rfl, rfl, by simp [World.setCell], fun k _ hk => Below.heap_setCell _ _ _ _ (fun e => hk (by rw [e]))⟩
  exact h.kept gr (.inr (fun e => by have := (h.lt _ e).1; omega)) (fun vs x hx => hx.far gr hg)
theorem turnedBelow {B : Nat} {w1 w2 w4 w5 : World} {j : Nat} {u : Value} (h1 : Below B w1 w2) (h5 : Below w1.heap.size w4 w5) (h4 : Below w2.heap.size w2 w4) (hB : B < w1.heap.size) : Hid (Below B w1 (w5.setCell ⟨B, j, none⟩ u)) :=
  ((h1.trans (h4.mono (by have := h1.size; omega))).trans (h5.mono (by omega))).setCell (by simp) _
theorem Sl.imp {α : Type} {R R' : World → (Nat → Value) → α → Prop} {sz : Nat} {w : World} {A : Option Addr} {n c : Nat} {xs : List α} (h : Sl R sz w A n c xs) (hR : ∀ vs x, R w vs x → R' w vs x) : Sl R' sz w A n c xs :=
  ⟨h.len, h.le, h.cap, h.small, h.nul, fun hn => by obtain ⟨b, off, e, hb, hx⟩ := h.cells hn; exact ⟨b, off, e, hb, fun i x hi => by obtain ⟨vs, a, r⟩ := hx i x hi; exact ⟨vs, a, hR _ _ r⟩⟩⟩
theorem keepTran {B : Nat} {w : World} {v : Value} {n : Nat} {xs : List PTran} (h : OwnSl (OwnTranR B) 3 w B 78 v n xs) : ∀ w', w.grownBy w' v.ownBlock → ∀ vs y, OwnTranR B w vs y → OwnTranR B w' vs y := by
  obtain ⟨cells, h1, _⟩ := h
  exact fun w' hg vs y hy => hy.grown h1 hg

/-- A net whose rows are all the call's own. -/
def AnsNetO (N : PNet) (w : World) (e : Ending) (w' : World) : Prop :=
  ∃ A n c, e = .returned (.agg #[.int .i64 N.places, .slice A n c]) ∧ OwnSl (OwnTranR w.heap.size) 3 w' w.heap.size 78 (.slice A n c) n N.trans ∧ Below w.heap.size w w'
theorem OwnTranR.base {B B' : Nat} (hB : B' ≤ B) {w : World} {vs : Nat → Value} {t : PTran} (h : OwnTranR B w vs t) : OwnTranR B' w vs t := by
  obtain ⟨h0, n1, n2, h1, h2, h3⟩ := h
  exact ⟨h0, n1, n2, h1.base hB, h2.base hB, h3⟩
set_option maxRecDepth 100000 in
set_option maxHeartbeats 4000000 in
theorem netTurnedO_calls {w : World} {P : Int} {A : Option Addr} {n c : Nat} {ts : List PTran} (h : Trans w A n c ts) (hn : n ≤ 2513169434916) :
    Calls Try.prog 51 #[.agg #[.int .i64 P, .slice A n c]] w (AnsNetO (turned ⟨P, ts⟩) w) := by
  have HB := hide2 (boxBelow w)
  have H := hide2 h
  have HL := hide2 h.len
  clear h
  go_enter Try.func51, Try.ntmps51
  go_wp2
  generalize hw1 : ((w.alloc (.cells #[.int .i64 P, .slice A n c] 27)).alloc (.cells #[.int .i64 0, .slice none 0 0] 27)).alloc (.cells #[.int .i64 P, .slice none 0 0] 27) = w1
  have hb1 : Below w.heap.size w w1 := by rw [← hw1]; exact (((Below.refl _ _).alloc (Nat.le_refl _) _).alloc (by simp) _).alloc (by simp; omega) _
  obtain ⟨f1, f2, f3, f4, f5, f6⟩ := alloc3 w #[.int .i64 P, .slice A n c] #[.int .i64 0, .slice none 0 0] #[.int .i64 P, .slice none 0 0] 27 27 27
  rw [hw1] at f1 f2 f3 f4 f5 f6
  have hz0 : w1.cell? ⟨w.heap.size + 1, 0, none⟩ = some (.int .i64 0) := f2 0
  have hz1 : w1.cell? ⟨w.heap.size + 1, 1, none⟩ = some (.slice none 0 0) := f2 1
  have hf0 : w1.frozen? ⟨w.heap.size + 1, 0, none⟩ = false := f4 0
  have hf1 : w1.frozen? ⟨w.heap.size + 1, 1, none⟩ = false := f4 1
  have ho0 : w1.cell? ⟨w.heap.size + 1 + 1, 0, none⟩ = some (.int .i64 P) := f3 0
  have ho1 : w1.cell? ⟨w.heap.size + 1 + 1, 1, none⟩ = some (.slice none 0 0) := f3 1
  have hof : w1.frozen? ⟨w.heap.size + 1 + 1, 1, none⟩ = false := f5 1
  have hs1 : w1.heap.size = w.heap.size + 3 := f6
  clear f1 f2 f3 f4 f5 f6
  have HS1 := hide2 hs1
  have hs2 : w.heap.size + 2 < w1.heap.size := by omega
  have B1 := hide2 hb1
  clear hw1 hb1 hs1
  go_loopg [12] n (fun gk i wr => ∃ (k : Nat) (A' : Option Addr) (c' : Nat), k + gk = n ∧ i = .int .i64 k ∧ wr.cell? ⟨w.heap.size + 1 + 1, 0, none⟩ = some (.int .i64 P) ∧ wr.cell? ⟨w.heap.size + 1 + 1, 1, none⟩ = some (.slice A' k c') ∧ wr.frozen? ⟨w.heap.size + 1 + 1, 1, none⟩ = false ∧
    Hid (OwnSl (OwnTranR w1.heap.size) 3 wr w1.heap.size 78 (.slice A' k c') k ((ts.take k).map turnT)) ∧ Hid (Below (w.heap.size + 2) w1 wr) ∧ w1.heap.size ≤ wr.heap.size)
  case atStart => exact ⟨0, none, 0, by omega, rfl, ho0, ho1, hof, OwnSl.nil, Below.refl _ _, Nat.le_refl _⟩
  case round =>
    obtain ⟨k, A', c', hk, rfl, u0, u1, uf, own, hb, hsz⟩ := hrel
    by_cases hlt : k < n
    · obtain ⟨bl, off, t, A1, n1, c1, A2, n2, c2, rfl, hbl, ht, q0, q1, q2, i1, i2, m1, m2⟩ := Trans.get H.out hlt
      have hbw := B1.out.trans (hb.out.mono (by omega))
      have q0' := (hbw.cell (p := ⟨bl, off + k * 3, none⟩) hbl).trans q0
      have q1' := (hbw.cell (p := ⟨bl, off + k * 3 + 1, none⟩) hbl).trans q1
      have q2' := (hbw.cell (p := ⟨bl, off + k * 3 + 2, none⟩) hbl).trans q2
      have I1 := hide2 (i1.keep hbw)
      have I2 := hide2 (i2.keep hbw)
      have hst := hide2 (turned_take ht.out)
      clear hbw q0 q1 q2 i1 i2
      go_upto_region 5 with fail
      generalize hw2 : wr.alloc (.cells #[.int .i64 t.label, .slice A1 n1 c1, .slice A2 n2 c2] 78) = w2
      have hb2 : Below wr.heap.size wr w2 := by rw [← hw2]; exact boxBelow _ _
      have x0 : w2.cell? ⟨wr.heap.size, 0, none⟩ = some (.int .i64 t.label) := by rw [← hw2]; simp
      have x1 : w2.cell? ⟨wr.heap.size, 1, none⟩ = some (.slice A1 n1 c1) := by rw [← hw2]; simp
      have x2 : w2.cell? ⟨wr.heap.size, 2, none⟩ = some (.slice A2 n2 c2) := by rw [← hw2]; simp
      have sz2 : wr.heap.size < w2.heap.size := by rw [← hw2]; simp
      have y1 : w2.cell? ⟨w.heap.size + 1 + 1, 1, none⟩ = some (.slice A' k c') := (hb2.cell (p := ⟨w.heap.size + 1 + 1, 1, none⟩) (by show w.heap.size + 1 + 1 < wr.heap.size; omega)).trans u1
      have y0 : w2.cell? ⟨w.heap.size + 1 + 1, 0, none⟩ = some (.int .i64 P) := (hb2.cell (p := ⟨w.heap.size + 1 + 1, 0, none⟩) (by show w.heap.size + 1 + 1 < wr.heap.size; omega)).trans u0
      have yf : w2.frozen? ⟨w.heap.size + 1 + 1, 1, none⟩ = false := (hb2.frozen (p := ⟨w.heap.size + 1 + 1, 1, none⟩) (by show w.heap.size + 1 + 1 < wr.heap.size; omega)).trans uf
      have D0 := hide2 (hb2.trans ((Below.refl _ _).drew : Below wr.heap.size w2 w2.drew))
      have D1 := hide2 ((Below.refl _ _).drew : Below w2.heap.size w2 w2.drew)
      have J1 := hide2 (I1.out.keep D0.out)
      have J2 := hide2 (I2.out.keep D0.out)
      have ow2 := hide2 (own.out.keep (OwnTranR.kept _) D0.out)
      have sob : w.heap.size + 1 + 1 < w2.heap.size := by omega
      have sb : w1.heap.size ≤ w2.heap.size := by omega
      have hbx := hide2 (hb.out.trans (D0.out.mono (by omega)))
      have Y0 := hide2 y0
      have SOB := hide2 (show w.heap.size + 1 + 1 < w1.heap.size by omega)
      have YF := hide2 yf
      clear hw2 hb2 u0 u1 uf own hb y0 yf
      refine wp_region_script 12 [(0, 0), (0, 1), (0, 2), (0, 3), (0, 4), (0, 5), (0, 7), (0, 8), (1, 6), (1, 9), (0, 10), (1, 11), (2, 12), (2, 13), (2, 14)] (fun w' => w'.cell? ⟨wr.heap.size, 0, none⟩ = some (.int .i64 t.label) ∧ w'.cell? ⟨wr.heap.size, 1, none⟩ = some (.slice A1 n1 c1) ∧ w'.cell? ⟨wr.heap.size, 2, none⟩ = some (.slice A2 n2 c2) ∧ w'.cell? ⟨w.heap.size + 1 + 1, 1, none⟩ = some (.slice A' k c')) (by kernel_rfl) (by kernel_rfl) (by kernel_rfl) (fun _ _ _ _ _ h => h) ⟨x0, x1, x2, y1⟩ (fun hHeld => ?_)
      refine scTake (v := ?_) rfl (by rfl) hHeld (fun w' hSw => ?_) ?_
      rotate_left
      · (go_simp; try with_reducible rfl)
      simp only [Act.put, List.setIfInBounds_toArray, List.set_cons_zero, List.set_cons_succ]
      refine scTake (v := ?_) rfl (by rfl) hHeld (fun w' hSw => ?_) ?_
      rotate_left
      · (go_simp; try with_reducible rfl)
      simp only [Act.put, List.setIfInBounds_toArray, List.set_cons_zero, List.set_cons_succ]
      refine scTake (v := ?_) rfl (by rfl) hHeld (fun w' hSw => ?_) ?_
      rotate_left
      · (go_simp; try with_reducible rfl)
      simp only [Act.put, List.setIfInBounds_toArray, List.set_cons_zero, List.set_cons_succ]
      refine scTake (v := ?_) rfl (by rfl) hHeld (fun w' hSw => ?_) ?_
      rotate_left
      · (go_simp; try with_reducible rfl)
      simp only [Act.put, List.setIfInBounds_toArray, List.set_cons_zero, List.set_cons_succ]
      refine scTake (v := ?_) rfl (by rfl) hHeld (fun w' hSw => ?_) ?_
      rotate_left
      · (go_simp; try with_reducible rfl)
      simp only [Act.put, List.setIfInBounds_toArray, List.set_cons_zero, List.set_cons_succ]
      refine scTake (v := ?_) rfl (by rfl) hHeld (fun w' hSw => ?_) ?_
      rotate_left
      · (go_simp; try with_reducible rfl)
      simp only [Act.put, List.setIfInBounds_toArray, List.set_cons_zero, List.set_cons_succ]
      refine scTake (v := ?_) rfl (by rfl) hHeld (fun w' hSw => ?_) ?_
      rotate_left
      · (go_simp; try with_reducible rfl)
      simp only [Act.put, List.setIfInBounds_toArray, List.set_cons_zero, List.set_cons_succ]
      refine scTake (v := ?_) rfl (by rfl) hHeld (fun w' hSw => ?_) ?_
      rotate_left
      · (go_simp; try with_reducible rfl)
      simp only [Act.put, List.setIfInBounds_toArray, List.set_cons_zero, List.set_cons_succ]
      refine scOne rfl (fun K hK => ?_)
      go_simp; go_at_call 46
      (with_reducible refine (cloneInts_calls J2.out m2).mono ?_)
      rintro e w3 ⟨v3, rfl, o3, b3⟩
      obtain ⟨C3, k3, hv3, _⟩ := o3.sl (by omega)
      subst hv3
      have p0 := (b3.cell (p := ⟨wr.heap.size, 0, none⟩) sz2).trans x0
      have p1 := (b3.cell (p := ⟨wr.heap.size, 1, none⟩) sz2).trans x1
      have p3 := (b3.cell (p := ⟨wr.heap.size, 2, none⟩) sz2).trans x2
      have p2 := (b3.cell (p := ⟨w.heap.size + 1 + 1, 1, none⟩) sob).trans y1
      have O3 := hide2 o3
      have E3 := hide2 b3
      have K1 := hide2 (J1.out.keep b3)
      have sz3 := Nat.lt_of_lt_of_le sz2 b3.size
      have sob3 := Nat.lt_of_lt_of_le sob b3.size
      clear b3 o3
      refine hK.out _ _ ⟨p0, p1, p3, p2⟩ (fun hHeld => ?_)
      clear hK
      refine scOne rfl (fun K hK => ?_)
      go_simp; go_at_call 46
      (with_reducible refine (cloneInts_calls K1.out m1).mono ?_)
      rintro e w4 ⟨v4, rfl, o4, b4⟩
      obtain ⟨C4, k4, hv4, _⟩ := o4.sl (by omega)
      subst hv4
      have r0 := (b4.cell (p := ⟨wr.heap.size, 0, none⟩) sz3).trans p0
      have r1 := (b4.cell (p := ⟨wr.heap.size, 1, none⟩) sz3).trans p1
      have r3 := (b4.cell (p := ⟨wr.heap.size, 2, none⟩) sz3).trans p3
      have r2 := (b4.cell (p := ⟨w.heap.size + 1 + 1, 1, none⟩) sob3).trans p2
      have E4 := hide2 (E3.out.trans (b4.mono E3.out.size))
      have s0 := (E4.out.cell (p := ⟨w.heap.size + 1 + 1, 0, none⟩) sob).trans Y0.out
      have sf := (E4.out.frozen (p := ⟨w.heap.size + 1 + 1, 1, none⟩) sob).trans YF.out
      have OW4 := hide2 (ow2.out.keep (OwnTranR.kept _) E4.out)
      have SB4 := hide2 (Nat.le_trans sb E4.out.size)
      have so4 := Nat.lt_of_lt_of_le sob E4.out.size
      have sz4 := Nat.lt_of_lt_of_le sz2 E4.out.size
      have KP4 := hide2 (keepTran OW4.out)
      have RD4 := hide2 (show OwnTranR w1.heap.size w4 (fun j => [Value.int .i64 t.label, .slice C3 n2 k3, .slice C4 n1 k4].getD j undef) (turnT t) from ⟨rfl, n2, n1, (O3.out.keep IntR.kept b4).base sb, o4.base (Nat.le_trans sb E3.out.size), m2, m1⟩)
      clear b4 o4
      refine hK.out _ _ ⟨r0, r1, r3, r2⟩ (fun hHeld => ?_)
      clear hK
      refine scTake (v := ?_) rfl (by rfl) hHeld (fun w' hSw => ?_) ?_
      rotate_left
      · (go_simp; try with_reducible rfl)
      simp only [Act.put, List.setIfInBounds_toArray, List.set_cons_zero, List.set_cons_succ]
      refine scOne rfl (fun K hK => ?_)
      go_simp
      refine hK.out _ _ (by simp [*, World.cell?_alloc_some]) (fun hHeld => ?_)
      clear hK
      refine scEnd rfl (fun K hK => ?_)
      refine step_appNew tyTrans rfl (.tmp 17) (.tmp 27) rfl [turnT t] #[.int .i64 t.label, .slice C3 n2 k3, .slice C4 n1 k4] rfl rfl (by first | rfl | simp) rfl rfl (by omega) (by simp [Value.oneCell']) OW4.out (Reads.tran RD4.out) rfl (Below.refl w1.heap.size w4) SB4.out (by omega) (by omega) KP4.out ?_
      intro g cap w5 own5 hg5 hb5 hBg hgl
      have t0 := (hb5.cell (p := ⟨w.heap.size + 1 + 1, 0, none⟩) SOB.out).trans s0
      have t1 := (hb5.cell (p := ⟨w.heap.size + 1 + 1, 1, none⟩) SOB.out).trans r2
      have t2 := (hb5.frozen (p := ⟨w.heap.size + 1 + 1, 1, none⟩) SOB.out).trans sf
      have O5 := hide2 own5
      have HB5 := hide2 hb5
      clear own5 hg5 hb5
      refine hK.out _ _ ?_
      clear hK
      simp only [Act.put, List.setIfInBounds_toArray, List.set_cons_zero, List.set_cons_succ]
      refine scEnd rfl (fun K hK => ?_)
      go_simp
      refine hK.out _ _ ?_
      clear hK
      refine scEnd rfl (fun K hK => ?_)
      go_simp
      refine hK.out _ _ ?_
      clear hK
      simp only [wpScript]
      all_goals
        go_wp2
        go_roundg (gk - 1)
        case measure => omega
        case rel =>
          refine ⟨k + 1, some ⟨g, 0, none⟩, cap, by omega, ?_, ?_, ?_, ?_, by rw [hst.out]; exact turnedEnd O5.out (by omega), turnedBelow hbx.out HB5.out E4.out (by omega), by have := HB5.out.size; have := SB4.out; simp [World.setCell]; omega⟩
          · simp
          · exact (World.cell?_setCell_other _ _ _ _ (by simp)).trans t0
          · exact World.cell?_setCell_same _ _ _ t1
          · rw [World.frozen?_setCell]; exact t2
    · obtain rfl : k = n := by omega
      have hst := hide2 (show (ts.take k).map turnT = (turned ⟨P, ts⟩).trans by rw [List.take_of_length_le (by rw [HL.out]; omega)]; rfl)
      have hbw := B1.out.trans (hb.out.mono (by omega))
      have z0 := (hb.out.cell (p := ⟨w.heap.size + 1, 0, none⟩) (by show w.heap.size + 1 < w.heap.size + 2; omega)).trans hz0
      have z1 := (hb.out.cell (p := ⟨w.heap.size + 1, 1, none⟩) (by show w.heap.size + 1 < w.heap.size + 2; omega)).trans hz1
      have zf0 := (hb.out.frozen (p := ⟨w.heap.size + 1, 0, none⟩) (by show w.heap.size + 1 < w.heap.size + 2; omega)).trans hf0
      have zf1 := (hb.out.frozen (p := ⟨w.heap.size + 1, 1, none⟩) (by show w.heap.size + 1 < w.heap.size + 2; omega)).trans hf1
      have HBW := hide2 hbw
      have OW := hide2 own.out
      have SW := hide2 HS1.out
      clear own hb hbw
      go_wp2
      have r0 : ((wr.setCell ⟨w.heap.size + 1, 0, none⟩ (.int .i64 P)).setCell ⟨w.heap.size + 1, 1, none⟩ (.slice A' k c')).cell? ⟨w.heap.size + 1, 0, none⟩ = some (.int .i64 P) := by
        rw [World.cell?_setCell_other _ _ _ _ (by simp), World.cell?_setCell_same _ _ _ z0]
      have r1 : ((wr.setCell ⟨w.heap.size + 1, 0, none⟩ (.int .i64 P)).setCell ⟨w.heap.size + 1, 1, none⟩ (.slice A' k c')).cell? ⟨w.heap.size + 1, 1, none⟩ = some (.slice A' k c') := by
        rw [World.cell?_setCell_same _ _ _ ((World.cell?_setCell_other _ _ _ _ (by simp)).trans z1)]
      refine bodyPost_ret (v := .agg #[.int .i64 P, .slice A' k c']) (by simp [results, Try.results51, go_sem, r0, r1]) rfl ?_
      refine ⟨A', k, c', rfl, ?_, (HBW.out.setCell (by simp) _).setCell (by simp) _⟩
      have s1 := (turnedEnd (j := 0) (u := .int .i64 P) OW.out (show w.heap.size + 1 < w1.heap.size by have := SW.out; omega)).out
      have s2 := (turnedEnd (j := 1) (u := .slice A' k c') s1 (show w.heap.size + 1 < w1.heap.size by have := SW.out; omega)).out
      rw [hst.out] at s2
      obtain ⟨cells, q1, q2, q3⟩ := s2.base (show w.heap.size ≤ w1.heap.size by have := SW.out; omega)
      exact ⟨cells, q1, ⟨q2.1, fun i x hx => by obtain ⟨vs, a, b⟩ := q2.2 i x hx; exact ⟨vs, a, b.base (by have := SW.out; omega)⟩⟩, q3⟩
theorem netTurned_calls {w : World} {P : Int} {A : Option Addr} {n c : Nat} {ts : List PTran} (h : Trans w A n c ts) (hn : n ≤ 2513169434916) :
    Calls Try.prog 51 #[.agg #[.int .i64 P, .slice A n c]] w (AnsNet (turned ⟨P, ts⟩) w) := by
  refine (netTurnedO_calls h hn).mono ?_
  rintro e w' ⟨A', n', c', rfl, own, hb⟩
  have hn' : n' ≤ 2513169434916 := by
    have h1 := own.len
    have h2 := h.len
    simp only [turned, List.length_map] at h1
    omega
  obtain ⟨C, cc, hv, hs⟩ := own.sl (by omega)
  injection hv with e1 e2 e3
  subst e1 e3
  exact ⟨_, _, _, rfl, hs.imp fun _ _ h => h.tran, hb⟩
end Go.Proofs.Ytnfppolgaeibeaa
namespace Go.Proofs.Ytnfppolgaeibeaa
open Go.RowKit

theorem run_appOwn {w : World} {B : Nat} {v : Value} {n m c : Nat} {A : Option Addr} {xs ys : List Int} (ty : TypeId) (own : OwnInts w B v n xs) (src : Ints w A m c ys) (hB : B ≤ w.heap.size) (h63 : n + m ≤ 17592186044416) :
    ∃ v' w', (Builtin.append_ #[35, 35] ty #[v, .slice A m c]).run Try.prog w = .ok v' w' ∧ OwnInts w' B v' (n + m) (xs ++ ys) ∧ w.grownBy w' v.ownBlock ∧ (v'.ownBlock = v.ownBlock ∨ v'.ownBlock = some w.heap.size) := by
  obtain ⟨i, z, h1, h2, h3, h4, h5⟩ := tyInts.info
  cases hA : A with
  | none =>
    subst hA
    have hc := src.nul rfl
    have hm : m = 0 := by have := src.le; omega
    subst hc hm
    have hy := List.eq_nil_of_length_eq_zero src.len
    subst hy
    refine ⟨v, w, run_append_owned_none (P := Try.prog) (w := w) B 35 ty 3 i 1 tyInts.und h1 v n _ own.row, by simpa using own, World.grownBy.refl _ _, .inl rfl⟩
  | some ad =>
    subst hA
    obtain ⟨ds, d1, d2, d3, d4, d5⟩ := Sl.flat IntR.good src
    obtain ⟨v', w', hr, r1, r2, _, r5⟩ := run_append_own_at (P := Try.prog) w B 35 ty 3 i z 1 8 tyInts.und h1 h2 h3 h4 h5 tyInts.pos v n (xs.map (Value.int .i64)) own.row ad m c ds (by simpa using d1) (d3 ad rfl) d4 (by simp only [maxLen]; omega) (by omega) hB
    have DS : ds = ys.map (Value.int .i64) := by
      apply List.ext_getElem?
      intro j
      cases hx : ys[j]? with
      | none =>
        rw [List.getElem?_map, hx, List.getElem?_eq_none (by have := d5.1; have := List.getElem?_eq_none_iff.1 hx; omega)]; rfl
      | some x =>
        obtain ⟨vs, a, e⟩ := d5.2 j x hx
        have := a 0 (by omega)
        simp only [Nat.mul_one, Nat.add_zero] at this
        rw [this, List.getElem?_map, hx, e]; rfl
    rw [DS, ← List.map_append] at r1
    exact ⟨v', w', hr, OwnInts.of_row r1, r2, r5⟩
theorem wp_appOwn {o : Oper} {a : Act} {K : Act → World → Prop} {Q : Exit → Act → World → Prop} (s x : Operand)
    (ho : o.op = .call { callee := .builtin .append, args := #[s, x], argTypes := #[35, 35] })
    {w0 w : World} {B B0 : Nat} {v : Value} {n m c : Nat} {A : Option Addr} {xs ys : List Int} (hs : a.eval s = v) (hx : a.eval x = .slice A m c) (own : OwnInts w B v n xs) (src : Ints w A m c ys) (hB : B ≤ w.heap.size) (h63 : n + m ≤ 17592186044416)
    (hb : Below B0 w0 w) (hB0 : B0 ≤ B)
    (hK : ∀ v' w', OwnInts w' B v' (n + m) (xs ++ ys) → w.grownBy w' v.ownBlock → Below B0 w0 w' → (v'.ownBlock = v.ownBlock ∨ v'.ownBlock = some w.heap.size) → K (a.put o.dst v') w') : o.wp Try.prog a w K Q := by
  obtain ⟨v', w', hr, r1, r2, r5⟩ := run_appOwn o.type own src hB h63
  have h := hK v' w' r1 r2 (hb.grown r2 (Nat.le_trans hB0 hB) (fun k hk => Nat.le_trans hB0 (own.lt k hk).1)) r5
  unfold Oper.wp execOp
  simp only [ho, resolve, invoke, builtin, Sem.run_bind, Sem.run_pure, Result.andThen_ok, List.map_toArray, List.map_cons, List.map_nil, hs, hx, hr]
  exact h
theorem wpList_appOwn {ops : Array Oper} {rest : List Oper} {o : Oper} {a : Act} {Q : Exit → Act → World → Prop} (hgd : o.guard = none) (s x : Operand)
    (ho : o.op = .call { callee := .builtin .append, args := #[s, x], argTypes := #[35, 35] })
    {w0 w : World} {B B0 : Nat} {v : Value} {n m c : Nat} {A : Option Addr} {xs ys : List Int} (hs : a.eval s = v) (hx : a.eval x = .slice A m c) (own : OwnInts w B v n xs) (src : Ints w A m c ys) (hB : B ≤ w.heap.size) (h63 : n + m ≤ 17592186044416)
    (hb : Below B0 w0 w) (hB0 : B0 ≤ B)
    (hK : ∀ v' w', OwnInts w' B v' (n + m) (xs ++ ys) → w.grownBy w' v.ownBlock → Below B0 w0 w' → (v'.ownBlock = v.ownBlock ∨ v'.ownBlock = some w.heap.size) → wpList Try.prog ops Q rest (a.put o.dst v') w') : wpList Try.prog ops Q (o :: rest) a w :=
  wpList_plain hgd fun _ hK' => wp_appOwn s x ho hs hx own src hB h63 hb hB0 fun v' w' h1 h2 h3 h4 => hK' _ _ (hK v' w' h1 h2 h3 h4)
theorem step_appOwn {ops : Array Oper} {o : Oper} {a : Act} {K : Act → World → Prop} {Q : Exit → Act → World → Prop} {E : Prop} (hgd : o.guard = none) (s x : Operand)
    (ho : o.op = .call { callee := .builtin .append, args := #[s, x], argTypes := #[35, 35] })
    {w0 w : World} {B B0 : Nat} {v : Value} {n m c : Nat} {A : Option Addr} {xs ys : List Int} (hs : a.eval s = v) (hx : a.eval x = .slice A m c) (own : OwnInts w B v n xs) (src : Ints w A m c ys) (hB : B ≤ w.heap.size) (h63 : n + m ≤ 17592186044416)
    (hb : Below B0 w0 w) (hB0 : B0 ≤ B)
    (hK : ∀ v' w', OwnInts w' B v' (n + m) (xs ++ ys) → w.grownBy w' v.ownBlock → Below B0 w0 w' → (v'.ownBlock = v.ownBlock ∨ v'.ownBlock = some w.heap.size) → K (a.put o.dst v') w') :
    if Region.wanted o (yielded ops a.tmps) = true then Oper.wp Try.prog o a w K Q else E := by
  rw [if_pos (by simp [Region.wanted, hgd])]
  exact wp_appOwn s x ho hs hx own src hB h63 hb hB0 hK
end Go.Proofs.Ytnfppolgaeibeaa
