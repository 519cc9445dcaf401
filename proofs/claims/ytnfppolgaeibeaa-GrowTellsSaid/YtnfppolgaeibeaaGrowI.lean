/- The contract of grow, on every right block. Conditions: the block reads as a tree and is right. | The contracts of Grow's deferred closure: of a Grow that panics, of one that returns. Conditions: the results' boxes lie apart. -/
import Derived.Test.YtnfppolgaeibeaaGrowD
import Derived.Test.YtnfppolgaeibeaaGrowH
import Derived.Tactics
import Derived.Defers
import Derived.Recover
namespace Go.Proofs.Ytnfppolgaeibeaa
open Go.RowKit

theorem grow_all (w0 : World) (bg : Nat) : ∀ f, GrowIH w0 bg f := by
  intro f
  induction f with
  | zero =>
    intro d kd lb A n c had ks p q v g w hc
    rw [chkB] at hc
    cases hc
  | succ f ih =>
    intro d kd lb A n c had ks p q v g w hc hK hG hB hf
    obtain ⟨_, hhd, _⟩ := chkB_inv hc
    obtain ⟨k1, k6, _, _⟩ := headB_ok hhd
    simp only [PBlk.kind] at k1 k6
    have hk : kd = 1 ∨ kd = 2 ∨ kd = 3 ∨ kd = 4 ∨ kd = 5 ∨ kd = 6 := by omega
    rcases hk with rfl | rfl | rfl | rfl | rfl | rfl
    · exact grow_leaf (.inl rfl) hG hB hf
    · exact grow_leaf (.inr rfl) hG hB hf
    · exact grow_seq ih hc hK hG hB hf
    · exact grow_alt ih hc hK hG hB hf
    · exact grow_both ih hc hK hG hB hf
    · exact grow_loop ih hc hK hG hB hf
end Go.Proofs.Ytnfppolgaeibeaa
namespace Go.Proofs.Ytnfppolgaeibeaa
open Go.RowKit

def AnsCatch (N b2 b3 : Nat) (w : World) (e : Ending) (u' : FrameMode) (w' : World) : Prop :=
  e = .returned (.tuple #[]) ∧ u' = .panicking [{ fullP with recovered := true }] ∧ Box w' b2 27 #[.int .i64 0, .slice none 0 0] ∧ Box w' b3 28 #[.int .i64 4] ∧ Below N w w'

set_option maxRecDepth 100000 in
set_option maxHeartbeats 4000000 in
theorem catch_full {N b2 b3 : Nat} {w : World} {x y : Int} {v : Value} (h2 : Box w b2 27 #[.int .i64 x, v]) (h3 : Box w b3 28 #[.int .i64 y]) (n2 : N ≤ b2) (n3 : N ≤ b3) (hne : b2 ≠ b3) :
    CallsD Try.prog 37 #[.pointer (some ⟨b2, 0, none⟩), .pointer (some ⟨b3, 0, none⟩)] (.panicking [fullP]) w (AnsCatch N b2 b3 w) := by
  have bb := boxBelow w (.cells #[] 67)
  have H2 := hide2 (h2.keep bb)
  have H3 := hide2 (h3.keep bb)
  have HB := hide2 (show Below N w (w.alloc (.cells #[] 67)) from bb.mono (by have := h2.lt; omega))
  clear h2 h3 bb
  have hrep : Array.replicate 15 undef = #[undef, undef, undef, undef, undef, undef, undef, undef, undef, undef, undef, undef, undef, undef, undef] := rfl
  have hta : ∀ w : World, (Instr.typeAssert (.iface 67 (.agg #[])) 20 67 true).run Try.prog w = .ok (.tuple #[.agg #[], .bool true]) w := fun w => by kernel_rfl
  refine callsD_of_wpS Try.func37 rfl fun c₀ cs hu => ?_
  apply wpS_seq
  apply wpS_region
  simp [wpOpsS, go_sem, recoverD, hu, hrep, Try.ntmps37, Exit.thenS]
  refine wpS_of_wp ?_
  go_upto_region 5 with fail
  generalize w.alloc (.cells #[] 67) = u at *
  obtain ⟨c0, c1⟩ := H2.out.two
  have f0 := H2.out.frozen 0
  have f1 := H2.out.frozen 1
  have d0 : u.cell? ⟨b3, 0, none⟩ = some (.int .i64 y) := H3.out.cell 0
  have g0 := H3.out.frozen 0
  have n0 := hide2 n2
  have n1 := hide2 n3
  have ne := hide2 hne
  clear n2 n3
  go_wp2
  obtain ⟨fn, tm, td, df, md, kd, ro⟩ := c₀
  simp only at hu
  subst hu
  have S2 := (H2.out.set2 (.int .i64 0) (.slice none 0 0)).other (a := ⟨b3, 0, none⟩) (.int .i64 4) ne.out
  have S3 := (((H3.out.other (a := ⟨b2, 0, none⟩) (.int .i64 0) (fun e => ne.out e.symm)).other (a := ⟨b2, 1, none⟩) (.slice none 0 0) (fun e => ne.out e.symm)).set 0 (.int .i64 4))
  refine ⟨rfl, _, rfl, .tuple #[], (by simp [results, Try.results37, go_sem]), ?_⟩
  exact ⟨rfl, rfl, S2, S3, ((HB.out.setCell (p := ⟨b2, 0, none⟩) n0.out _).setCell (p := ⟨b2, 1, none⟩) n0.out _).setCell (p := ⟨b3, 0, none⟩) n1.out _⟩

set_option maxRecDepth 100000 in
theorem catch_idle {b2 b3 : Nat} {w : World} :
    CallsD Try.prog 37 #[.pointer (some ⟨b2, 0, none⟩), .pointer (some ⟨b3, 0, none⟩)] .returning w (fun e u' w' => e = .returned (.tuple #[]) ∧ u' = .returning ∧ w' = w) := by
  have hrep : Array.replicate 15 undef = #[undef, undef, undef, undef, undef, undef, undef, undef, undef, undef, undef, undef, undef, undef, undef] := rfl
  refine callsD_of_wpS Try.func37 rfl fun c₀ cs hu => ?_
  apply wpS_seq
  apply wpS_region
  simp [wpOpsS, go_sem, recoverD, hu, hrep, Try.ntmps37, Exit.thenS]
  refine wpS_of_wp ?_
  go_wp2
  obtain ⟨fn, tm, td, df, md, kd, ro⟩ := c₀
  simp only at hu
  subst hu
  exact ⟨rfl, _, rfl, .tuple #[], (by simp [results, Try.results37, go_sem]), rfl, rfl, rfl⟩
end Go.Proofs.Ytnfppolgaeibeaa
