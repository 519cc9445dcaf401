/- The contract of net.Turned. Conditions: the net's transitions read as a list. -/
import Derived.Test.YtpagenlealddhaaNetJ
import Derived.Test.YtpagenlealddhaaOwnC
import Derived.Test.YtpagenlealddhaaHeld
namespace Go.Proofs.Ytpagenlealddhaa
open Go.RowKit

theorem alloc3 (w : World) (x y z : Array Value) (tx ty tz : Nat) :
    (∀ j, (((w.alloc (.cells x tx)).alloc (.cells y ty)).alloc (.cells z tz)).cell? ⟨w.heap.size, j, none⟩ = x[j]?) ∧
    (∀ j, (((w.alloc (.cells x tx)).alloc (.cells y ty)).alloc (.cells z tz)).cell? ⟨w.heap.size + 1, j, none⟩ = y[j]?) ∧
    (∀ j, (((w.alloc (.cells x tx)).alloc (.cells y ty)).alloc (.cells z tz)).cell? ⟨w.heap.size + 1 + 1, j, none⟩ = z[j]?) ∧
    (∀ j, (((w.alloc (.cells x tx)).alloc (.cells y ty)).alloc (.cells z tz)).frozen? ⟨w.heap.size + 1, j, none⟩ = false) ∧
    (∀ j, (((w.alloc (.cells x tx)).alloc (.cells y ty)).alloc (.cells z tz)).frozen? ⟨w.heap.size + 1 + 1, j, none⟩ = false) ∧
    (((w.alloc (.cells x tx)).alloc (.cells y ty)).alloc (.cells z tz)).heap.size = w.heap.size + 3 := by
  have s1 : (w.alloc (.cells x tx)).heap.size = w.heap.size + 1 := by simp
  have s2 : ((w.alloc (.cells x tx)).alloc (.cells y ty)).heap.size = w.heap.size + 1 + 1 := by simp
  have h1 : (((w.alloc (.cells x tx)).alloc (.cells y ty)).alloc (.cells z tz)).heap[w.heap.size]? = some (.cells x tx (0, 0)) := by
    rw [heap_alloc_old _ _ (by omega), heap_alloc_old _ _ (by omega)]; exact heap_alloc_new w _
  have h2 : (((w.alloc (.cells x tx)).alloc (.cells y ty)).alloc (.cells z tz)).heap[w.heap.size + 1]? = some (.cells y ty (0, 0)) := by
    rw [heap_alloc_old _ _ (by omega), ← s1]; exact heap_alloc_new _ _
  have h3 : (((w.alloc (.cells x tx)).alloc (.cells y ty)).alloc (.cells z tz)).heap[w.heap.size + 1 + 1]? = some (.cells z tz (0, 0)) := by
    rw [← s2]; exact heap_alloc_new _ _
  exact ⟨fun j => cell_of_row _ _ _ _ _ (0, 0) h1, fun j => cell_of_row _ _ _ _ _ (0, 0) h2, fun j => cell_of_row _ _ _ _ _ (0, 0) h3, fun j => frozen_of_row _ _ _ _ _ h2, fun j => frozen_of_row _ _ _ _ _ h3, by simp⟩

theorem turnedEnd {B g0 : Nat} {w : World} {v u : Value} {n : Nat} {xs : List PTran} {j : Nat} (h : OwnSl (OwnTranR B) 3 w B 107 v n xs) (hg : g0 < B) : Hid (OwnSl (OwnTranR B) 3 (w.setCell ⟨g0, j, none⟩ u) B 107 v n xs) := by
  have gr : w.grownBy (w.setCell ⟨g0, j, none⟩ u) (some g0) := ⟨rfl, rfl, rfl, by simp [World.setCell], fun k _ hk => Below.heap_setCell _ _ _ _ (fun e => hk (by rw [e]))⟩
  exact h.kept gr (.inr (fun e => by have := (h.lt _ e).1; omega)) (fun vs x hx => hx.far gr hg)
theorem turnedBelow {B : Nat} {w1 w2 w4 w5 : World} {j : Nat} {u : Value} (h1 : Below B w1 w2) (h5 : Below w1.heap.size w4 w5) (h4 : Below w2.heap.size w2 w4) (hB : B < w1.heap.size) : Hid (Below B w1 (w5.setCell ⟨B, j, none⟩ u)) :=
  ((h1.trans (h4.mono (by have := h1.size; omega))).trans (h5.mono (by omega))).setCell (by simp) _
theorem Sl.imp {α : Type} {R R' : World → (Nat → Value) → α → Prop} {sz : Nat} {w : World} {A : Option Addr} {n c : Nat} {xs : List α} (h : Sl R sz w A n c xs) (hR : ∀ vs x, R w vs x → R' w vs x) : Sl R' sz w A n c xs :=
  ⟨h.len, h.le, h.cap, h.small, h.nul, fun hn => by obtain ⟨b, off, e, hb, hx⟩ := h.cells hn; exact ⟨b, off, e, hb, fun i x hi => by obtain ⟨vs, a, r⟩ := hx i x hi; exact ⟨vs, a, hR _ _ r⟩⟩⟩
theorem keepTran {B : Nat} {w : World} {v : Value} {n : Nat} {xs : List PTran} (h : OwnSl (OwnTranR B) 3 w B 107 v n xs) : ∀ w', w.grownBy w' v.ownBlock → ∀ vs y, OwnTranR B w vs y → OwnTranR B w' vs y := by
  obtain ⟨cells, h1, _⟩ := h
  exact fun w' hg vs y hy => hy.grown h1 hg

set_option maxRecDepth 100000 in
set_option maxHeartbeats 4000000 in
theorem netTurned_calls {w : World} {P : Int} {A : Option Addr} {n c : Nat} {ts : List PTran} (h : Trans w A n c ts) (hn : n ≤ 2513169434916) :
    Calls Try.prog 88 #[.agg #[.int .i64 P, .slice A n c]] w (AnsNet (turned ⟨P, ts⟩) w) := by
  have HB := hide2 (boxBelow w)
  have H := hide2 h
  have HL := hide2 h.len
  clear h
  go_enter Try.func88, Try.ntmps88
  go_wp2
  generalize hw1 : ((w.alloc (.cells #[.int .i64 P, .slice A n c] 38)).alloc (.cells #[.int .i64 0, .slice none 0 0] 38)).alloc (.cells #[.int .i64 P, .slice none 0 0] 38) = w1
  have hb1 : Below w.heap.size w w1 := by rw [← hw1]; exact (((Below.refl _ _).alloc (Nat.le_refl _) _).alloc (by simp) _).alloc (by simp; omega) _
  obtain ⟨f1, f2, f3, f4, f5, f6⟩ := alloc3 w #[.int .i64 P, .slice A n c] #[.int .i64 0, .slice none 0 0] #[.int .i64 P, .slice none 0 0] 38 38 38
  rw [hw1] at f1 f2 f3 f4 f5 f6
  have hz0 : w1.cell? ⟨w.heap.size + 1, 0, none⟩ = some (.int .i64 0) := f2 0
  have hz1 : w1.cell? ⟨w.heap.size + 1, 1, none⟩ = some (.slice none 0 0) := f2 1
  have hf0 : w1.frozen? ⟨w.heap.size + 1, 0, none⟩ = false := f4 0
  have hf1 : w1.frozen? ⟨w.heap.size + 1, 1, none⟩ = false := f4 1
  have ho0 : w1.cell? ⟨w.heap.size + 1 + 1, 0, none⟩ = some (.int .i64 P) := f3 0
  have ho1 : w1.cell? ⟨w.heap.size + 1 + 1, 1, none⟩ = some (.slice none 0 0) := f3 1
  have hof : w1.frozen? ⟨w.heap.size + 1 + 1, 1, none⟩ = false := f5 1
  have hs1 : w1.heap.size = w.heap.size + 3 := f6
  clear f1 f2 f3 f4 f5 f6
  have HS1 := hide2 hs1
  have hs2 : w.heap.size + 2 < w1.heap.size := by omega
  have B1 := hide2 hb1
  clear hw1 hb1 hs1
  go_loopg [12] n (fun gk i wr => ∃ (k : Nat) (A' : Option Addr) (c' : Nat), k + gk = n ∧ i = .int .i64 k ∧ wr.cell? ⟨w.heap.size + 1 + 1, 0, none⟩ = some (.int .i64 P) ∧ wr.cell? ⟨w.heap.size + 1 + 1, 1, none⟩ = some (.slice A' k c') ∧ wr.frozen? ⟨w.heap.size + 1 + 1, 1, none⟩ = false ∧
    Hid (OwnSl (OwnTranR w1.heap.size) 3 wr w1.heap.size 107 (.slice A' k c') k ((ts.take k).map turnT)) ∧ Hid (Below (w.heap.size + 2) w1 wr) ∧ w1.heap.size ≤ wr.heap.size)
  case atStart => exact ⟨0, none, 0, by omega, rfl, ho0, ho1, hof, OwnSl.nil, Below.refl _ _, Nat.le_refl _⟩
  case round =>
    obtain ⟨k, A', c', hk, rfl, u0, u1, uf, own, hb, hsz⟩ := hrel
    by_cases hlt : k < n
    · obtain ⟨bl, off, t, A1, n1, c1, A2, n2, c2, rfl, hbl, ht, q0, q1, q2, i1, i2, m1, m2⟩ := Trans.get H.out hlt
      have hbw := B1.out.trans (hb.out.mono (by omega))
      have q0' := (hbw.cell (p := ⟨bl, off + k * 3, none⟩) hbl).trans q0
      have q1' := (hbw.cell (p := ⟨bl, off + k * 3 + 1, none⟩) hbl).trans q1
      have q2' := (hbw.cell (p := ⟨bl, off + k * 3 + 2, none⟩) hbl).trans q2
      have I1 := hide2 (i1.keep hbw)
      have I2 := hide2 (i2.keep hbw)
      have hst := hide2 (turned_take ht.out)
      clear hbw q0 q1 q2 i1 i2
      go_upto_region 5 with fail
      generalize hw2 : wr.alloc (.cells #[.int .i64 t.label, .slice A1 n1 c1, .slice A2 n2 c2] 107) = w2
      have hb2 : Below wr.heap.size wr w2 := by rw [← hw2]; exact boxBelow _ _
      have x0 : w2.cell? ⟨wr.heap.size, 0, none⟩ = some (.int .i64 t.label) := by rw [← hw2]; simp
      have x1 : w2.cell? ⟨wr.heap.size, 1, none⟩ = some (.slice A1 n1 c1) := by rw [← hw2]; simp
      have x2 : w2.cell? ⟨wr.heap.size, 2, none⟩ = some (.slice A2 n2 c2) := by rw [← hw2]; simp
      have sz2 : wr.heap.size < w2.heap.size := by rw [← hw2]; simp
      have y1 : w2.cell? ⟨w.heap.size + 1 + 1, 1, none⟩ = some (.slice A' k c') := (hb2.cell (p := ⟨w.heap.size + 1 + 1, 1, none⟩) (by show w.heap.size + 1 + 1 < wr.heap.size; omega)).trans u1
      have y0 : w2.cell? ⟨w.heap.size + 1 + 1, 0, none⟩ = some (.int .i64 P) := (hb2.cell (p := ⟨w.heap.size + 1 + 1, 0, none⟩) (by show w.heap.size + 1 + 1 < wr.heap.size; omega)).trans u0
      have yf : w2.frozen? ⟨w.heap.size + 1 + 1, 1, none⟩ = false := (hb2.frozen (p := ⟨w.heap.size + 1 + 1, 1, none⟩) (by show w.heap.size + 1 + 1 < wr.heap.size; omega)).trans uf
      have D0 := hide2 (hb2.trans ((Below.refl _ _).drew : Below wr.heap.size w2 w2.drew))
      have D1 := hide2 ((Below.refl _ _).drew : Below w2.heap.size w2 w2.drew)
      have J1 := hide2 (I1.out.keep D0.out)
      have J2 := hide2 (I2.out.keep D0.out)
      have ow2 := hide2 (own.out.keep (OwnTranR.kept _) D0.out)
      have sob : w.heap.size + 1 + 1 < w2.heap.size := by omega
      have sb : w1.heap.size ≤ w2.heap.size := by omega
      have hbx := hide2 (hb.out.trans (D0.out.mono (by omega)))
      have Y0 := hide2 y0
      have SOB := hide2 (show w.heap.size + 1 + 1 < w1.heap.size by omega)
      have YF := hide2 yf
      clear hw2 hb2 u0 u1 uf own hb y0 yf
      refine wp_region_script 12 [(0, 0), (0, 1), (0, 2), (0, 3), (0, 4), (0, 5), (0, 7), (0, 8), (1, 6), (1, 9), (0, 10), (1, 11), (2, 12), (2, 13), (2, 14)] (fun w' => w'.cell? ⟨wr.heap.size, 0, none⟩ = some (.int .i64 t.label) ∧ w'.cell? ⟨wr.heap.size, 1, none⟩ = some (.slice A1 n1 c1) ∧ w'.cell? ⟨wr.heap.size, 2, none⟩ = some (.slice A2 n2 c2) ∧ w'.cell? ⟨w.heap.size + 1 + 1, 1, none⟩ = some (.slice A' k c')) (by kernel_rfl) (by kernel_rfl) (by kernel_rfl) (fun _ _ _ _ _ h => h) ⟨x0, x1, x2, y1⟩ (fun hHeld => ?_)
      refine scTake (v := ?_) rfl (by rfl) hHeld (fun w' hSw => ?_) ?_
      rotate_left
      · (go_simp; try with_reducible rfl)
      simp only [Act.put, List.setIfInBounds_toArray, List.set_cons_zero, List.set_cons_succ]
      refine scTake (v := ?_) rfl (by rfl) hHeld (fun w' hSw => ?_) ?_
      rotate_left
      · (go_simp; try with_reducible rfl)
      simp only [Act.put, List.setIfInBounds_toArray, List.set_cons_zero, List.set_cons_succ]
      refine scTake (v := ?_) rfl (by rfl) hHeld (fun w' hSw => ?_) ?_
      rotate_left
      · (go_simp; try with_reducible rfl)
      simp only [Act.put, List.setIfInBounds_toArray, List.set_cons_zero, List.set_cons_succ]
      refine scTake (v := ?_) rfl (by rfl) hHeld (fun w' hSw => ?_) ?_
      rotate_left
      · (go_simp; try with_reducible rfl)
      simp only [Act.put, List.setIfInBounds_toArray, List.set_cons_zero, List.set_cons_succ]
      refine scTake (v := ?_) rfl (by rfl) hHeld (fun w' hSw => ?_) ?_
      rotate_left
      · (go_simp; try with_reducible rfl)
      simp only [Act.put, List.setIfInBounds_toArray, List.set_cons_zero, List.set_cons_succ]
      refine scTake (v := ?_) rfl (by rfl) hHeld (fun w' hSw => ?_) ?_
      rotate_left
      · (go_simp; try with_reducible rfl)
      simp only [Act.put, List.setIfInBounds_toArray, List.set_cons_zero, List.set_cons_succ]
      refine scTake (v := ?_) rfl (by rfl) hHeld (fun w' hSw => ?_) ?_
      rotate_left
      · (go_simp; try with_reducible rfl)
      simp only [Act.put, List.setIfInBounds_toArray, List.set_cons_zero, List.set_cons_succ]
      refine scTake (v := ?_) rfl (by rfl) hHeld (fun w' hSw => ?_) ?_
      rotate_left
      · (go_simp; try with_reducible rfl)
      simp only [Act.put, List.setIfInBounds_toArray, List.set_cons_zero, List.set_cons_succ]
      refine scOne rfl (fun K hK => ?_)
      go_simp; go_at_call 75
      (with_reducible refine (cloneInts_calls J2.out m2).mono ?_)
      rintro e w3 ⟨v3, rfl, o3, b3⟩
      obtain ⟨C3, k3, hv3, _⟩ := o3.sl (by omega)
      subst hv3
      have p0 := (b3.cell (p := ⟨wr.heap.size, 0, none⟩) sz2).trans x0
      have p1 := (b3.cell (p := ⟨wr.heap.size, 1, none⟩) sz2).trans x1
      have p3 := (b3.cell (p := ⟨wr.heap.size, 2, none⟩) sz2).trans x2
      have p2 := (b3.cell (p := ⟨w.heap.size + 1 + 1, 1, none⟩) sob).trans y1
      have O3 := hide2 o3
      have E3 := hide2 b3
      have K1 := hide2 (J1.out.keep b3)
      have sz3 := Nat.lt_of_lt_of_le sz2 b3.size
      have sob3 := Nat.lt_of_lt_of_le sob b3.size
      clear b3 o3
      refine hK.out _ _ ⟨p0, p1, p3, p2⟩ (fun hHeld => ?_)
      clear hK
      refine scOne rfl (fun K hK => ?_)
      go_simp; go_at_call 75
      (with_reducible refine (cloneInts_calls K1.out m1).mono ?_)
      rintro e w4 ⟨v4, rfl, o4, b4⟩
      obtain ⟨C4, k4, hv4, _⟩ := o4.sl (by omega)
      subst hv4
      have r0 := (b4.cell (p := ⟨wr.heap.size, 0, none⟩) sz3).trans p0
      have r1 := (b4.cell (p := ⟨wr.heap.size, 1, none⟩) sz3).trans p1
      have r3 := (b4.cell (p := ⟨wr.heap.size, 2, none⟩) sz3).trans p3
      have r2 := (b4.cell (p := ⟨w.heap.size + 1 + 1, 1, none⟩) sob3).trans p2
      have E4 := hide2 (E3.out.trans (b4.mono E3.out.size))
      have s0 := (E4.out.cell (p := ⟨w.heap.size + 1 + 1, 0, none⟩) sob).trans Y0.out
      have sf := (E4.out.frozen (p := ⟨w.heap.size + 1 + 1, 1, none⟩) sob).trans YF.out
      have OW4 := hide2 (ow2.out.keep (OwnTranR.kept _) E4.out)
      have SB4 := hide2 (Nat.le_trans sb E4.out.size)
      have so4 := Nat.lt_of_lt_of_le sob E4.out.size
      have sz4 := Nat.lt_of_lt_of_le sz2 E4.out.size
      have KP4 := hide2 (keepTran OW4.out)
      have RD4 := hide2 (show OwnTranR w1.heap.size w4 (fun j => [Value.int .i64 t.label, .slice C3 n2 k3, .slice C4 n1 k4].getD j undef) (turnT t) from ⟨rfl, n2, n1, (O3.out.keep IntR.kept b4).base sb, o4.base (Nat.le_trans sb E3.out.size), m2, m1⟩)
      clear b4 o4
      refine hK.out _ _ ⟨r0, r1, r3, r2⟩ (fun hHeld => ?_)
      clear hK
      refine scTake (v := ?_) rfl (by rfl) hHeld (fun w' hSw => ?_) ?_
      rotate_left
      · (go_simp; try with_reducible rfl)
      simp only [Act.put, List.setIfInBounds_toArray, List.set_cons_zero, List.set_cons_succ]
      refine scOne rfl (fun K hK => ?_)
      go_simp
      refine hK.out _ _ (by simp [*, World.cell?_alloc_some]) (fun hHeld => ?_)
      clear hK
      refine scEnd rfl (fun K hK => ?_)
      refine step_appNew tyTrans rfl (.tmp 17) (.tmp 27) rfl [turnT t] #[.int .i64 t.label, .slice C3 n2 k3, .slice C4 n1 k4] rfl rfl (by first | rfl | simp) rfl rfl (by omega) (by simp [Value.oneCell']) OW4.out (Reads.tran RD4.out) rfl (Below.refl w1.heap.size w4) SB4.out (by omega) (by omega) KP4.out ?_
      intro g cap w5 own5 hg5 hb5 hBg hgl
      have t0 := (hb5.cell (p := ⟨w.heap.size + 1 + 1, 0, none⟩) SOB.out).trans s0
      have t1 := (hb5.cell (p := ⟨w.heap.size + 1 + 1, 1, none⟩) SOB.out).trans r2
      have t2 := (hb5.frozen (p := ⟨w.heap.size + 1 + 1, 1, none⟩) SOB.out).trans sf
      have O5 := hide2 own5
      have HB5 := hide2 hb5
      clear own5 hg5 hb5
      refine hK.out _ _ ?_
      clear hK
      simp only [Act.put, List.setIfInBounds_toArray, List.set_cons_zero, List.set_cons_succ]
      refine scEnd rfl (fun K hK => ?_)
      go_simp
      refine hK.out _ _ ?_
      clear hK
      refine scEnd rfl (fun K hK => ?_)
      go_simp
      refine hK.out _ _ ?_
      clear hK
      simp only [wpScript]
      all_goals
        go_wp2
        go_roundg (gk - 1)
        case measure => omega
        case rel =>
          refine ⟨k + 1, some ⟨g, 0, none⟩, cap, by omega, ?_, ?_, ?_, ?_, by rw [hst.out]; exact turnedEnd O5.out (by omega), turnedBelow hbx.out HB5.out E4.out (by omega), by have := HB5.out.size; have := SB4.out; simp [World.setCell]; omega⟩
          · simp
          · exact (World.cell?_setCell_other _ _ _ _ (by simp)).trans t0
          · exact World.cell?_setCell_same _ _ _ t1
          · rw [World.frozen?_setCell]; exact t2
    · obtain rfl : k = n := by omega
      have hst := hide2 (show (ts.take k).map turnT = (turned ⟨P, ts⟩).trans by rw [List.take_of_length_le (by rw [HL.out]; omega)]; rfl)
      have hbw := B1.out.trans (hb.out.mono (by omega))
      have z0 := (hb.out.cell (p := ⟨w.heap.size + 1, 0, none⟩) (by show w.heap.size + 1 < w.heap.size + 2; omega)).trans hz0
      have z1 := (hb.out.cell (p := ⟨w.heap.size + 1, 1, none⟩) (by show w.heap.size + 1 < w.heap.size + 2; omega)).trans hz1
      have zf0 := (hb.out.frozen (p := ⟨w.heap.size + 1, 0, none⟩) (by show w.heap.size + 1 < w.heap.size + 2; omega)).trans hf0
      have zf1 := (hb.out.frozen (p := ⟨w.heap.size + 1, 1, none⟩) (by show w.heap.size + 1 < w.heap.size + 2; omega)).trans hf1
      have HBW := hide2 hbw
      have OW := hide2 own.out
      have SW := hide2 HS1.out
      clear own hb hbw
      go_wp2
      have r0 : ((wr.setCell ⟨w.heap.size + 1, 0, none⟩ (.int .i64 P)).setCell ⟨w.heap.size + 1, 1, none⟩ (.slice A' k c')).cell? ⟨w.heap.size + 1, 0, none⟩ = some (.int .i64 P) := by
        rw [World.cell?_setCell_other _ _ _ _ (by simp), World.cell?_setCell_same _ _ _ z0]
      have r1 : ((wr.setCell ⟨w.heap.size + 1, 0, none⟩ (.int .i64 P)).setCell ⟨w.heap.size + 1, 1, none⟩ (.slice A' k c')).cell? ⟨w.heap.size + 1, 1, none⟩ = some (.slice A' k c') := by
        rw [World.cell?_setCell_same _ _ _ ((World.cell?_setCell_other _ _ _ _ (by simp)).trans z1)]
      refine bodyPost_ret (v := .agg #[.int .i64 P, .slice A' k c']) (by simp [results, Try.results88, go_sem, r0, r1]) rfl ?_
      refine ⟨A', k, c', rfl, ?_, (HBW.out.setCell (by simp) _).setCell (by simp) _⟩
      have s1 := (turnedEnd (j := 0) (u := .int .i64 P) OW.out (show w.heap.size + 1 < w1.heap.size by have := SW.out; omega)).out
      have s2 := (turnedEnd (j := 1) (u := .slice A' k c') s1 (show w.heap.size + 1 < w1.heap.size by have := SW.out; omega)).out
      rw [hst.out] at s2
      obtain ⟨C, cc, hv, hs⟩ := s2.sl (by omega)
      injection hv with e1 e2 e3
      subst e1 e3
      exact hs.imp fun _ _ h => h.tran
end Go.Proofs.Ytpagenlealddhaa
