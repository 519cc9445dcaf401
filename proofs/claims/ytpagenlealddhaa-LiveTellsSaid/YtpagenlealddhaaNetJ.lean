/- The contract of BTurned. Conditions: the net's transitions read as a list. -/
import Derived.Test.YtpagenlealddhaaNetG
import Derived.Test.YtpagenlealddhaaPlainC
import Derived.Test.YtpagenlealddhaaOwnB
namespace Go.Proofs.Ytpagenlealddhaa
open Go.RowKit

/-- What a call answers that hands back a net. -/
def AnsNet (N : PNet) (w : World) (e : Ending) (w' : World) : Prop :=
  ∃ A n c, e = .returned (.agg #[.int .i64 N.places, .slice A n c]) ∧ Trans w' A n c N.trans ∧ Below w.heap.size w w'

/-- A transition's cells, read in a world that is past: nothing of it has turned since. -/
def TranR0 (w0 : World) : World → (Nat → Value) → PTran → Prop := fun _ vs t => TranR w0 vs t
theorem TranR0.kept (w0 : World) : Kept (TranR0 w0) := fun _ _ _ _ _ h => h
theorem OwnSl.of0 {w0 w : World} {B e : Nat} {v : Value} {n : Nat} {xs : List PTran} (h : OwnSl (TranR0 w0) 3 w B e v n xs) (hb : Below w0.heap.size w0 w) : OwnSl TranR 3 w B e v n xs := by
  obtain ⟨cells, h1, h2, h3⟩ := h
  exact ⟨cells, h1, ⟨h2.1, fun i x hx => by obtain ⟨vs, a, b⟩ := h2.2 i x hx; exact ⟨vs, a, TranR.kept _ _ _ _ hb b⟩⟩, h3⟩
theorem Reads.tran {w : World} {v0 v1 v2 : Value} {t : PTran} {R : World → (Nat → Value) → PTran → Prop} (h : R w (fun j => [v0, v1, v2].getD j undef) t) : Reads R 3 w [v0, v1, v2] [t] :=
  Reads.one h rfl (fun j hj => by
    match j, hj with
    | 0, _ => rfl
    | 1, _ => rfl
    | 2, _ => rfl)

theorem grown_set2 (w : World) (p q : Addr) (u v : Value) (h : q.block = p.block) : w.grownBy ((w.setCell p u).setCell q v) (some p.block) :=
  ⟨rfl, rfl, rfl, by simp [World.setCell], fun k _ hk => by
    have h1 : k ≠ p.block := fun e => hk (by rw [e])
    rw [Below.heap_setCell _ _ _ _ (by rw [h]; exact h1), Below.heap_setCell _ _ _ _ h1]⟩
theorem turned_take {ts : List PTran} {k : Nat} {t : PTran} (h : ts[k]? = some t) : (ts.take (k + 1)).map turnT = (ts.take k).map turnT ++ [turnT t] := by
  rw [take_snoc h, List.map_append]; rfl

set_option maxRecDepth 100000 in
set_option maxHeartbeats 1000000 in
theorem refTurned_calls {w : World} {P : Int} {A : Option Addr} {n c : Nat} {ts : List PTran} (h : Trans w A n c ts) (hn : n ≤ 2513169434916) :
    Calls Try.prog 142 #[.agg #[.int .i64 P, .slice A n c]] w (AnsNet (turned ⟨P, ts⟩) w) := by
  have HB := hide2 (boxBelow w)
  have H := hide2 h
  have HL := hide2 h.len
  clear h
  go_enter Try.func142, Try.ntmps142
  go_wp2
  generalize hw1 : (w.alloc (.cells #[.int .i64 P, .slice A n c] 38)).alloc (.cells #[.int .i64 0, .slice none 0 0] 38) = w1
  have hb1 : Below w.heap.size w w1 := by rw [← hw1]; exact ((Below.refl _ _).alloc (Nat.le_refl _) _).alloc (by simp) _
  have hc0 : w1.cell? ⟨w.heap.size, 0, none⟩ = some (.int .i64 P) := by rw [← hw1]; simp
  have hz0 : w1.cell? ⟨w.heap.size + 1, 0, none⟩ = some (.int .i64 0) := by rw [← hw1]; simp
  have hz1 : w1.cell? ⟨w.heap.size + 1, 1, none⟩ = some (.slice none 0 0) := by rw [← hw1]; simp
  have hf0 : w1.frozen? ⟨w.heap.size + 1, 0, none⟩ = false := by rw [← hw1]; simp
  have hf1 : w1.frozen? ⟨w.heap.size + 1, 1, none⟩ = false := by rw [← hw1]; simp
  have hs1 : w.heap.size + 1 < w1.heap.size := by rw [← hw1]; simp
  have B1 := hide2 hb1
  clear hw1 hb1
  go_loopw [3, 9] (fun v i wr => ∃ k : Nat, k ≤ n ∧ i = .int .i64 k ∧ OwnSl (TranR0 w) 3 wr w1.heap.size 107 v k ((ts.take k).map turnT) ∧ Below w1.heap.size w1 wr) (fun _ i _ => n - (intOf i).toNat)
  case atStart => exact ⟨0, Nat.zero_le _, rfl, OwnSl.nil, Below.refl _ _⟩
  case round =>
    obtain ⟨k, hk, rfl, own, hb⟩ := hrel
    by_cases hlt : k < n
    · obtain ⟨bl, off, t, A1, n1, c1, A2, n2, c2, rfl, hbl, ht, q0, q1, q2, i1, i2, m1, m2⟩ := Trans.get H.out hlt
      have hbw := B1.out.trans (hb.mono B1.out.size)
      have q0' := (hbw.cell (p := ⟨bl, off + k * 3, none⟩) hbl).trans q0
      have q1' := (hbw.cell (p := ⟨bl, off + k * 3 + 1, none⟩) hbl).trans q1
      have q2' := (hbw.cell (p := ⟨bl, off + k * 3 + 2, none⟩) hbl).trans q2
      have OW := hide2 (own.keep (TranR0.kept w) (boxBelow wr (.cells #[.int .i64 t.label, .slice A1 n1 c1, .slice A2 n2 c2] 107)))
      have HB1 := hide2 (hb.alloc hb.size (.cells #[.int .i64 t.label, .slice A1 n1 c1, .slice A2 n2 c2] 107))
      have RD := hide2 (show TranR0 w wr (fun j => [Value.int .i64 t.label, .slice A2 n2 c2, .slice A1 n1 c1].getD j undef) (turnT t) from ⟨rfl, A2, n2, c2, A1, n1, c1, rfl, rfl, i2, i1, m2, m1⟩)
      have hst := hide2 (turned_take ht.out)
      clear own hb hbw q0 q1 q2 i1 i2
      go_wp2_with (at_builtin; refine wpList_appNew tyTrans rfl _ _ rfl [turnT t] #[.int .i64 t.label, .slice A2 n2 c2, .slice A1 n1 c1] rfl rfl (by simp) rfl (by simp [Value.oneCell']) OW.out (Reads.tran RD.out) rfl HB1.out HB1.out.size (by omega) (by omega) (fun _ _ _ _ h => h) ?_; intro v2 w2 own2 hg2 hb2)
      go_roundw
      case rel => exact ⟨k + 1, by omega, by go_num, by rw [hst.out]; exact own2, hb2⟩
      case measure => simp [intOf]; omega
    · obtain rfl : k = n := by omega
      have c0 := (hb.cell (p := ⟨w.heap.size, 0, none⟩) (Nat.lt_of_succ_lt hs1)).trans hc0
      have z0 := (hb.cell (p := ⟨w.heap.size + 1, 0, none⟩) hs1).trans hz0
      have z1 := (hb.cell (p := ⟨w.heap.size + 1, 1, none⟩) hs1).trans hz1
      have f0 := (hb.frozen (p := ⟨w.heap.size + 1, 0, none⟩) hs1).trans hf0
      have f1 := (hb.frozen (p := ⟨w.heap.size + 1, 1, none⟩) hs1).trans hf1
      have HBW := hide2 (B1.out.trans (hb.mono B1.out.size))
      have hst := hide2 (show (ts.take k).map turnT = ts.map turnT from by rw [List.take_of_length_le (by rw [HL.out]; exact Nat.le_refl _)])
      have OW := hide2 own
      obtain ⟨C, cc, hv, hi⟩ := (own.of0 HBW.out).sl (by omega)
      subst hv
      have OWL := hide2 own.lt
      clear own hb hi
      go_wp2
      have r0 : ((wr.setCell ⟨w.heap.size + 1, 0, none⟩ (.int .i64 P)).setCell ⟨w.heap.size + 1, 1, none⟩ (.slice C k cc)).cell? ⟨w.heap.size + 1, 0, none⟩ = some (.int .i64 P) := by
        rw [World.cell?_setCell_other _ _ _ _ (by simp), World.cell?_setCell_same _ _ _ z0]
      have r1 : ((wr.setCell ⟨w.heap.size + 1, 0, none⟩ (.int .i64 P)).setCell ⟨w.heap.size + 1, 1, none⟩ (.slice C k cc)).cell? ⟨w.heap.size + 1, 1, none⟩ = some (.slice C k cc) := by
        rw [World.cell?_setCell_same _ _ _ ((World.cell?_setCell_other _ _ _ _ (by simp)).trans z1)]
      refine bodyPost_ret (v := .agg #[.int .i64 P, .slice C k cc]) (by simp [results, Try.results142, go_sem, r0, r1]) rfl ?_
      refine ⟨C, k, cc, rfl, ?_, ?_⟩
      · have hg := grown_set2 wr ⟨w.heap.size + 1, 0, none⟩ ⟨w.heap.size + 1, 1, none⟩ (.int .i64 P) (.slice C k cc) rfl
        have hne : (Value.slice C k cc).ownBlock ≠ some (w.heap.size + 1) := fun e => by
          have := (OWL.out _ e).1
          omega
        have o2 := (OW.out.kept hg (.inr hne) (fun _ _ h => h)).of0 ((HBW.out.setCell (by simp) _).setCell (by simp) _)
        obtain ⟨C', c', e', hs⟩ := o2.sl (by omega)
        injection e' with e1 e2 e3
        subst e1 e3
        rw [hst.out] at hs
        exact hs
      · exact (HBW.out.setCell (by simp) _).setCell (by simp) _
end Go.Proofs.Ytpagenlealddhaa
