/- The contract of shape.walk. Conditions: the net is right; the place is one of it. -/
import Derived.Test.YtmhcinmadelaeaaShapeC
import Derived.Laws.EntriesVeiled
namespace Go.Proofs.Ytmhcinmadelaeaa
open Go.RowKit Go.Maps

/-- What shape.walk answers: a map of so many nodes. -/
def AnsM (had : List PNode) (w : World) (e : Ending) (w' : World) : Prop := ∃ b, e = .returned (.map (some b)) ∧ SetM w' b had ∧ Below w.heap.size w w'

set_option maxRecDepth 100000 in
set_option maxHeartbeats 2000000 in
theorem walk_calls {w : World} {P : Int} {A : Option Addr} {n c : Nat} {ts : List PTran} {i : Nat} (h : Trans w A n c ts) (hok : netOk ⟨P, ts⟩ = true) (hi : i < P.toNat) :
    Calls Try.prog 79 #[.agg #[.int .i64 P, .slice A n c], .int .i64 i] w (AnsM (walkL ⟨P, ts⟩ i) w) := by
  have hmm := @run_makeMap Try.prog
  have H := hide2 h
  have HO := hide2 hok
  clear h hok
  go_enter Try.func79, Try.ntmps79
  go_upto_region 3 with fail
  generalize hw4 : (((w.alloc (.cells #[.int .i64 P, .slice A n c] 38)).alloc (.map #[] 0)).alloc (.cells #[.map (some (w.heap.size + 1))] 122)).alloc (.cells #[.nilFunc] 191) = w4
  have D4 : Below w.heap.size w w4 := by rw [← hw4]; exact ((((Below.refl _ _).alloc (Nat.le_refl _) _).alloc (by simp) _).alloc (by simp; omega) _).alloc (by simp; omega) _
  have Y0 : Box w4 w.heap.size 38 #[.int .i64 P, .slice A n c] := by rw [← hw4]; exact (((Box.new _ _ _).old _).old _).old _
  have Y1 : SetM w4 (w.heap.size + 1) [] := by
    rw [← hw4]
    have := SetM.made (w.alloc (.cells #[.int .i64 P, .slice A n c] 38))
    rw [show (w.alloc (.cells #[.int .i64 P, .slice A n c] 38)).heap.size = w.heap.size + 1 by simp] at this
    exact (this.alloc _).alloc _
  have Y2 : Box w4 (w.heap.size + 1 + 1) 122 #[.map (some (w.heap.size + 1))] := by rw [← hw4]; exact (Box.newAt (by simp) _ _).old _
  have Y3 : Box w4 (w.heap.size + 1 + 1 + 1) 191 #[.nilFunc] := by rw [← hw4]; exact Box.newAt (by simp) _ _
  clear hw4 hmm
  have f0 := Y3.frozen 0
  have n0 := Y3.cell 0
  simp only [List.getElem?_toArray, List.getElem?_cons_zero] at n0
  go_upto_region 4 with fail
  generalize hw5 : w4.setCell ⟨w.heap.size + 1 + 1 + 1, 0, none⟩ (visitV (w.heap.size + 1 + 1) w.heap.size (w.heap.size + 1 + 1 + 1)) = w5
  have hbs : Beside (w.heap.size + 1 + 1 + 1) w4 w5 := by rw [← hw5]; exact Beside.set _ _ _ _
  have D5 := hide2 (show Below w.heap.size w w5 by rw [← hw5]; exact D4.setCell (show w.heap.size ≤ w.heap.size + 1 + 1 + 1 by omega) _)
  have Z0 := hide2 (hbs.box Y0 (by omega))
  have Z1 := hide2 (Y1.of_block (hbs.2 _ (by omega)))
  have Z2 := hide2 (hbs.box Y2 (by omega))
  have Z3 : Box w5 (w.heap.size + 1 + 1 + 1) 191 #[visitV (w.heap.size + 1 + 1) w.heap.size (w.heap.size + 1 + 1 + 1)] := by rw [← hw5]; simpa using Y3.set 0 (visitV (w.heap.size + 1 + 1) w.heap.size (w.heap.size + 1 + 1 + 1))
  have fn0 := Z3.cell 0
  simp only [List.getElem?_toArray, List.getElem?_cons_zero] at fn0
  have CL := hide2 (visit_calls (P := P) H.out HO.out (bm := w.heap.size + 1) (bh := w.heap.size + 1 + 1) (bn := w.heap.size) (bv := w.heap.size + 1 + 1 + 1) (by omega) (by omega) (by omega) (by omega) (P.toNat + ts.length) [] (false, i) w5
    ⟨List.nodup_nil, fun x h => by simp at h⟩ (mem_nodes_place.2 hi) (by rw [nodes_length]; simp) Z1.out Z2.out Z0.out Z3 D5.out)
  clear hw5 hbs Y0 Y1 Y2 Y3 f0 n0 D4 Z3
  go_wp2_with fail
  refine CL.out.mono ?_
  rintro e w6 ⟨rfl, sm, gr⟩
  have m0 := (Z2.out.grown gr (by simp)).cell 0
  simp only [List.getElem?_toArray, List.getElem?_cons_zero] at m0
  have SM := hide2 sm
  have D6 := hide2 (show Below w.heap.size w w6 from D5.out.grown gr D5.out.size (fun k hk => by cases hk; omega))
  clear sm gr fn0
  go_wp2
  go_ret
  exact ⟨_, rfl, SM.out, D6.out⟩
end Go.Proofs.Ytmhcinmadelaeaa
