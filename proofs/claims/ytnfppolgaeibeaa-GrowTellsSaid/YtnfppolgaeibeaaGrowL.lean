/- The contract of Grow, where the block is wrong or its net too big. Conditions: the block reads as a tree. -/
import Derived.Test.YtnfppolgaeibeaaGrowI
import Derived.Test.YtnfppolgaeibeaaGrowK
import Derived.Test.YtnfppolgaeibeaaBlkB
namespace Go.Proofs.Ytnfppolgaeibeaa
open Go.RowKit

def AnsG (r : PNet × Int) (w : World) (e : Ending) (w' : World) : Prop :=
  ∃ A n c, e = .returned (.tuple #[.agg #[.int .i64 r.1.places, .slice A n c], .int .i64 r.2]) ∧ Trans w' A n c r.1.trans ∧ Below w.heap.size w w'
/-- The world as Grow has laid out its argument and its results. -/
structure Laid (w u : World) (b : Nat) (blk : Array Value) : Prop where
  below : Below w.heap.size w u
  arg : Box u b 24 blk
  net : Box u (b + 1) 27 #[.int .i64 0, .slice none 0 0]
  err : Box u (b + 1 + 1) 28 #[.int .i64 0]
  at_ : b = w.heap.size
theorem Laid.new (w : World) (blk : Array Value) : Laid w (((w.alloc (.cells blk 24)).alloc (.cells #[.int .i64 0, .slice none 0 0] 27)).alloc (.cells #[.int .i64 0] 28)) w.heap.size blk where
  below := (((Below.refl _ _).alloc (Nat.le_refl _) _).alloc (by simp) _).alloc (by simp; omega) _
  arg := ((Box.new w blk _).old _).old _
  net := (Box.newAt (by simp) _ _).old _
  err := Box.newAt (by simp) _ _
  at_ := rfl
theorem Laid.keep {w u u' : World} {b : Nat} {blk : Array Value} (h : Laid w u b blk) (hb : Below u.heap.size u u') : Laid w u' b blk :=
  ⟨h.below.trans (hb.mono h.below.size), h.arg.keep hb, h.net.keep hb, h.err.keep hb, h.at_⟩
/-- Both results told anew. -/
theorem told {w u : World} {b : Nat} {x y : Int} {v : Value} (hB : Below w.heap.size w u) (hb : w.heap.size ≤ b) (h2 : Box u (b + 1) 27 #[.int .i64 x, v]) (h3 : Box u (b + 1 + 1) 28 #[.int .i64 y]) (x' y' : Int) (v' : Value) :
    Box (((u.setCell ⟨b + 1, 0, none⟩ (.int .i64 x')).setCell ⟨b + 1, 1, none⟩ v').setCell ⟨b + 1 + 1, 0, none⟩ (.int .i64 y')) (b + 1) 27 #[.int .i64 x', v'] ∧
    Box (((u.setCell ⟨b + 1, 0, none⟩ (.int .i64 x')).setCell ⟨b + 1, 1, none⟩ v').setCell ⟨b + 1 + 1, 0, none⟩ (.int .i64 y')) (b + 1 + 1) 28 #[.int .i64 y'] ∧
    Below w.heap.size w (((u.setCell ⟨b + 1, 0, none⟩ (.int .i64 x')).setCell ⟨b + 1, 1, none⟩ v').setCell ⟨b + 1 + 1, 0, none⟩ (.int .i64 y')) :=
  ⟨(h2.set2 (.int .i64 x') v').other (a := ⟨b + 1 + 1, 0, none⟩) (.int .i64 y') (by simp only; omega), ((h3.other (a := ⟨b + 1, 0, none⟩) (.int .i64 x') (by simp only; omega)).other (a := ⟨b + 1, 1, none⟩) v' (by simp only; omega)).set 0 (.int .i64 y'),
    ((hB.setCell (p := ⟨b + 1, 0, none⟩) (by simp only; omega) _).setCell (p := ⟨b + 1, 1, none⟩) (by simp only; omega) _).setCell (p := ⟨b + 1 + 1, 0, none⟩) (by simp only; omega) _⟩

set_option maxRecDepth 100000 in
set_option maxHeartbeats 4000000 in
theorem grow_wrong {d : Nat} {w : World} {kd lb : Int} {A : Option Addr} {n c : Nat} {ks : List PBlk} (h : Blks d w A n c ks) (hw : wrongB (.mk kd lb ks) ≠ 0) :
    Calls Try.prog 9 #[.agg #[.int .i64 kd, .int .i64 lb, .slice A n c]] w (AnsG (growP (.mk kd lb ks)) w) := by
  have GP := hide2 (growP_wrong hw)
  rw [GP.out]
  obtain ⟨r, hr⟩ : ∃ r, wrongB (.mk kd lb ks) = r := ⟨_, rfl⟩
  have LD := hide2 (Laid.new w #[.int .i64 kd, .int .i64 lb, .slice A n c])
  have CW := hide2 (blkWrong_calls (h.keep LD.out.below) (kd := kd) (lb := lb))
  rw [hr] at hw ⊢
  rw [hr] at CW
  clear h GP hr
  go_enter_defers Try.func9, Try.ntmps9
  go_upto_region 1 with fail
  generalize ((w.alloc (.cells #[.int .i64 kd, .int .i64 lb, .slice A n c] 24)).alloc (.cells #[.int .i64 0, .slice none 0 0] 27)).alloc (.cells #[.int .i64 0] 28) = u at *
  have a0 := LD.out.arg.three
  go_upto_region 2 with (go_at_call 36; (with_reducible refine CW.out.mono ?_); rintro e w1 ⟨rfl, hb⟩; have L1 := hide2 (LD.out.keep hb); clear hb)
  obtain ⟨c0, c1⟩ := L1.out.net.two
  have f0 := L1.out.net.frozen 0
  have f1 := L1.out.net.frozen 1
  have d0 : w1.cell? ⟨w.heap.size + 1 + 1, 0, none⟩ = some (.int .i64 0) := L1.out.err.cell 0
  have g0 := L1.out.err.frozen 0
  go_wp2
  obtain ⟨t2, t3, tb⟩ := told L1.out.below (Nat.le_refl _) L1.out.net L1.out.err 0 r (.slice none 0 0)
  have e0 := t2.cell 0
  have e1 := t2.cell 1
  have e2 := t3.cell 0
  refine ⟨.tuple #[.agg #[.int .i64 0, .slice none 0 0], .int .i64 r], (by simp [results, Try.results9, go_sem, e0, e1, e2]), none, 0, 0, rfl, ?_, tb⟩
  exact Sl.nil0

set_option maxRecDepth 100000 in
set_option maxHeartbeats 4000000 in
theorem grow_over {d : Nat} {w : World} {kd lb : Int} {A : Option Addr} {n c : Nat} {ks : List PBlk} (h : Blks d w A n c ks) (hw : wrongB (.mk kd lb ks) = 0) (hf : ¬ fitsK (grown0 (.mk kd lb ks))) :
    Calls Try.prog 9 #[.agg #[.int .i64 kd, .int .i64 lb, .slice A n c]] w (AnsG (growP (.mk kd lb ks)) w) := by
  have hmf : ∀ (fn : Fn) (first cap : Array Value) (w : World), (Instr.makeFunc fn first cap).run Try.prog w = .ok (.func fn first cap) w := fun _ _ _ _ => rfl
  have GP := hide2 (growP_full hw hf)
  rw [GP.out]
  have LD := hide2 (Laid.new w #[.int .i64 kd, .int .i64 lb, .slice A n c])
  have CW := hide2 (blkWrong_calls (h.keep LD.out.below) (kd := kd) (lb := lb))
  have HW := hide2 hw
  have HF := hide2 hf
  have H := hide2 h
  rw [hw] at CW
  clear h GP hw hf
  go_enter_defers Try.func9, Try.ntmps9
  go_upto_region 1 with fail
  generalize ((w.alloc (.cells #[.int .i64 kd, .int .i64 lb, .slice A n c] 24)).alloc (.cells #[.int .i64 0, .slice none 0 0] 27)).alloc (.cells #[.int .i64 0] 28) = u at *
  have a0 := LD.out.arg.three
  go_upto_region 5 with (go_at_call 36; (with_reducible refine CW.out.mono ?_); rintro e w1 ⟨rfl, hb⟩; have L1 := hide2 (LD.out.keep hb); clear hb)
  go_upto_region 6 with fail
  have bb := boxBelow w1 (.cells #[.int .i64 2, .slice none 0 0] 72)
  have CG := hide2 (callsNo (grow_all w1 w1.heap.size 41 d kd lb A n c 0 ks 0 1 (.slice none 0 0) ⟨2, []⟩ _ HW.out (H.out.keep L1.out.below) ⟨Nat.le_refl _, Box.new w1 _ _, OwnSl.nil⟩ bb (by decide)) HF.out)
  generalize w1.alloc (.cells #[.int .i64 2, .slice none 0 0] 72) = w2 at *
  have a1 := (L1.out.keep bb).arg.three
  clear bb a0
  go_wp2_with (go_at_call 38; (with_reducible refine CG.out.mono ?_); rintro e w3 ⟨rfl, hb⟩; have L3 := hide2 (L1.out.keep hb); clear hb)
  refine leaves_cons (f := 37) (args := #[.pointer (some ⟨w.heap.size + 1, 0, none⟩), .pointer (some ⟨w.heap.size + 1 + 1, 0, none⟩)]) (by simp) (by simp [go_sem]) ?_
  refine (catch_full (N := w.heap.size) L3.out.net L3.out.err (by omega) (by omega) (by omega)).mono ?_
  rintro e u' w'' ⟨rfl, rfl, x2, x3, xb⟩
  have e0 := x2.cell 0
  have e1 := x2.cell 1
  have e2 := x3.cell 0
  refine ⟨.tuple #[.agg #[.int .i64 0, .slice none 0 0], .int .i64 4], (by simp [results, Try.results9, go_sem, e0, e1, e2]), none, 0, 0, rfl, ?_, L3.out.below.trans xb⟩
  exact Sl.nil0
end Go.Proofs.Ytnfppolgaeibeaa
