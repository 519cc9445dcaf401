/- Contracts of cases.Begin and PBegin. Conditions: the net reads as a list. | The contract of PBegin. Conditions: the net reads as a list. -/
import Derived.Test.YtnidicfanbkgjaaCaseA
namespace Go.Proofs.Ytnidicfanbkgjaa
open Go.RowKit

/-- What a call answers that hands back a case and what is wrong. -/
def AnsCE (p : PCase × Int) (w : World) (e : Ending) (w' : World) : Prop :=
  ∃ A n c B m d, e = .returned (.tuple #[.agg #[.slice A n c, .slice B m d], .int .i64 p.2]) ∧ Ints w' A n c p.1.mark ∧ Ints w' B m d p.1.busy ∧ Below w.heap.size w w' ∧ Fresh w A ∧ Fresh w B
theorem AnsCE.no {e : Int} {w w' : World} (hb : Below w.heap.size w w') : AnsCE (PCase.nil, e) w (.returned (.tuple #[.agg #[.slice none 0 0, .slice none 0 0], .int .i64 e])) w' :=
  ⟨none, 0, 0, none, 0, 0, rfl, Sl.nil0, Sl.nil0, hb, Fresh.none, Fresh.none⟩

theorem start_small (w : World) (P i : Int) (A : Option Addr) (n c : Nat) (hP : P ≤ 16) :
    Calls Try.prog 8 #[.agg #[.int .i64 P, .slice A n c], .int .i64 i] w (AnsIF P.toNat (oneL P.toNat i) w) := by
  have := start_calls w P i A n c
  rwa [show min P 16 = P by omega] at this
theorem refStart_small (w : World) (P i : Int) (A : Option Addr) (n c : Nat) (hP : P ≤ 16) :
    Calls Try.prog 27 #[.agg #[.int .i64 P, .slice A n c], .int .i64 i] w (AnsIF P.toNat (oneL P.toNat i) w) := by
  have := refStart_calls w P i A n c
  rwa [show min P 16 = P by omega] at this
theorem ints_made {w : World} {B n : Nat} {a : Addr} (own : w.ownsRow B 3 1 (.slice (some a) n n) n (List.replicate n (.int .i64 0))) (hn : n ≤ 281474976710656) : Ints w (some a) n n (List.replicate n 0) := by
  rw [show List.replicate n (Value.int .i64 0) = (List.replicate n (0 : Int)).map (Value.int .i64) by rw [List.map_replicate]] at own
  obtain ⟨C, cc, hv, hi⟩ := Ints.of_own own hn
  injection hv with h1 h2 h3
  subst h1 h3
  exact hi
theorem beginL_wrong {N : PNet} {i : Int} (h : netOk N = false) : beginL N i = (PCase.nil, 2) := by rw [beginL, h]; rfl
theorem beginL_none {N : PNet} {i : Int} (h : netOk N = true) (hi : ¬ (0 ≤ i ∧ i < N.places)) : beginL N i = (PCase.nil, 3) := by rw [beginL, if_pos h, if_neg hi]
theorem beginL_yes {N : PNet} {i : Int} (h : netOk N = true) (hi : 0 ≤ i ∧ i < N.places) : beginL N i = (⟨oneL N.places.toNat i, List.replicate N.trans.length 0⟩, 0) := by rw [beginL, if_pos h, if_pos hi]

end Go.Proofs.Ytnidicfanbkgjaa
namespace Go.Proofs.Ytnidicfanbkgjaa
open Go.RowKit

end Go.Proofs.Ytnidicfanbkgjaa
