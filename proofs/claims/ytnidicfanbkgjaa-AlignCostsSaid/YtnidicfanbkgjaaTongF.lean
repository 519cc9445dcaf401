/- The contract of speak. Conditions: the net reads as a list. | The contracts of tongue.Has and tongue.Least. Conditions: the net and the word read as lists. -/
import Derived.Test.YtnidicfanbkgjaaTongC
import Derived.Test.YtnidicfanbkgjaaReachA
import Derived.Test.YtnidicfanbkgjaaSoundA
namespace Go.Proofs.Ytnidicfanbkgjaa
open Go.RowKit

theorem keepTrans {w : World} {A : Option Addr} {n c : Nat} {ts : List PTran} (h : Trans w A n c ts) : Trans w.drew A n c ts := h.keep ⟨rfl, rfl, rfl, Nat.le_refl _, fun _ _ => rfl⟩
/-- The space of a net that goes from i to o, or what is wrong. -/
noncomputable def tongS (N : PNet) (i o : Int) : PSp × Int := if shapeL N i o = 0 then graphL N (oneL (min N.places 16).toNat i) 300 else (PSp.nil, shapeL N i o)
theorem tongS_wrong {N : PNet} {i o : Int} (h : shapeL N i o ≠ 0) : tongS N i o = (PSp.nil, shapeL N i o) := by rw [tongS, if_neg h]
theorem tongS_graph {N : PNet} {i o : Int} (h : shapeL N i o = 0) : tongS N i o = graphL N (oneL (min N.places 16).toNat i) 300 := by rw [tongS, if_pos h]
def endL (N : PNet) (o : Int) : List Int := oneL (min N.places 16).toNat o
def labL (N : PNet) : List Int := N.trans.map fun t => t.label
def endsL (N : PNet) (o : Int) (ms : List (List Int)) : List Bool := ms.map fun m => m == endL N o
section
variable {N NE : Nat} {w0 w w' : World} {A : Option Addr} {n c : Nat} {D : Option Addr} {m d : Nat} {vl : Value} {ll : List Int} {ve : Value} {el : List Bool}
/-- A list that lies below NE and not at N. -/
def EndAt (N NE : Nat) (w : World) (C : Option Addr) (n c : Nat) (xs : List Int) : Prop := NE ≤ w.heap.size ∧ Ints w C n c xs ∧ ∀ b off, C = some ⟨b, off, none⟩ → 0 < n → b ≠ N ∧ b < NE
theorem EndAt.next {C : Option Addr} {n c : Nat} {xs : List Int} (h : EndAt N NE w C n c xs) (hb : Below NE w w') : EndAt N NE w' C n c xs :=
  ⟨Nat.le_trans h.1 hb.size, h.2.1.same hb.size (fun b off e h0 _ => hb.block b (h.2.2 b off e h0).2), h.2.2⟩
theorem EndAt.set {C : Option Addr} {n c : Nat} {xs : List Int} (h : EndAt N NE w C n c xs) (i : Nat) (v : Value) : EndAt N NE (w.setCell ⟨N, i, none⟩ v) C n c xs :=
  ⟨by simpa [World.setCell] using h.1, h.2.1.same (by simp [World.setCell]) (fun b off e h0 _ => heap_setCell_other _ _ _ _ (h.2.2 b off e h0).1), h.2.2⟩
end
theorem labL_take {N : PNet} {k : Nat} {t : PTran} (h : N.trans[k]? = some t) : (labL N).take (k + 1) = (labL N).take k ++ [t.label] := by
  unfold labL
  rw [List.take_add_one, List.getElem?_map, h]; rfl
theorem endsL_take {N : PNet} {o : Int} {ms : List (List Int)} {k : Nat} {x : List Int} (h : ms[k]? = some x) : (endsL N o ms).take (k + 1) = (endsL N o ms).take k ++ [x == endL N o] := by
  unfold endsL
  rw [List.take_add_one, List.getElem?_map, h]; rfl

end Go.Proofs.Ytnidicfanbkgjaa
namespace Go.Proofs.Ytnidicfanbkgjaa
open Go.RowKit

noncomputable def hasB (N : PNet) (i o : Int) (wd : List Int) : Bool × Int :=
  if (tongS N i o).2 = 0 then (meetB (toldL (tongS N i o).1.arcs (atI (labL N)) wd (tongS N i o).1.marks.length wd.length) (endsL N o (tongS N i o).1.marks) (tongS N i o).1.marks.length, 0) else (false, (tongS N i o).2)
noncomputable def leastB (N : PNet) (i o : Int) : Int × Int :=
  if (tongS N i o).2 = 0 then (if distI (tongS N i o).1.arcs (atI (labL N)) (fun m => on (endsL N o (tongS N i o).1.marks) m) 0 < 0 then (0, 3) else (distI (tongS N i o).1.arcs (atI (labL N)) (fun m => on (endsL N o (tongS N i o).1.marks) m) 0, 0)) else (0, (tongS N i o).2)
theorem hasB_err {N : PNet} {i o : Int} {wd : List Int} {r : PSp × Int} (h : tongS N i o = r) (he : r.2 ≠ 0) : hasB N i o wd = (false, r.2) := by rw [hasB, h, if_neg he]
theorem hasB_ok {N : PNet} {i o : Int} {wd : List Int} {s : PSp} (h : tongS N i o = (s, 0)) : hasB N i o wd = (meetB (toldL s.arcs (atI (labL N)) wd s.marks.length wd.length) (endsL N o s.marks) s.marks.length, 0) := by rw [hasB, h, if_pos rfl]
theorem leastB_err {N : PNet} {i o : Int} {r : PSp × Int} (h : tongS N i o = r) (he : r.2 ≠ 0) : leastB N i o = (0, r.2) := by rw [leastB, h, if_neg he]
theorem leastB_ok {N : PNet} {i o : Int} {s : PSp} (h : tongS N i o = (s, 0)) : leastB N i o = (if distI s.arcs (atI (labL N)) (fun m => on (endsL N o s.marks) m) 0 < 0 then (0, 3) else (distI s.arcs (atI (labL N)) (fun m => on (endsL N o s.marks) m) 0, 0)) := by rw [leastB, h, if_pos rfl]
theorem told_none {ars : List PArc} {lb : Int → Int} {wd : List Int} {es : List Bool} {n k : Nat} (h : ∀ m, ¬ Told ars lb wd k m) (hk : k ≤ wd.length) : meetB (toldL ars lb wd n wd.length) es n = false := by
  cases hm : meetB (toldL ars lb wd n wd.length) es n with
  | false => rfl
  | true =>
    exfalso
    unfold meetB at hm
    rw [List.any_eq_true] at hm
    obtain ⟨j, hj, hm⟩ := hm
    have hjn : j < n := List.mem_range.1 hj
    have h1 : (toldL ars lb wd n wd.length).getD j false = true := by
      cases h2 : (toldL ars lb wd n wd.length).getD j false with
      | true => rfl
      | false => rw [h2] at hm; simp at hm
    have h3 : on (toldL ars lb wd n wd.length) (j : Int) := by unfold on; simpa using h1
    obtain ⟨m', hm'⟩ := ((told_on ⟨by omega, by omega⟩).1 h3).less k hk
    exact h m' hm'
theorem farL_dist {ars : List PArc} {lb : Int → Int} {es : List Bool} {n : Nat} (hf : ∀ a ∈ ars, Inn n a.from_) (ht : ∀ a ∈ ars, Inn n a.to_) : ∀ k : Nat, k < n → IsDist ars lb (fun m => on es m) (k : Int) (atI (farL ars lb es n) (k : Int)) := fun k hk => by
  rw [farL_at hk]
  exact (far_short hf ht hk).1
def AnsHas (p : Bool × Int) (w : World) (e : Ending) (w' : World) : Prop := e = .returned (.tuple #[.bool p.1, .int .i64 p.2]) ∧ Below w.heap.size w w'
def AnsLeast (p : Int × Int) (w : World) (e : Ending) (w' : World) : Prop := e = .returned (.tuple #[.int .i64 p.1, .int .i64 p.2]) ∧ Below w.heap.size w w'

end Go.Proofs.Ytnidicfanbkgjaa
