/- The contract of the reference's kbetween, on every right block; of KGrow, where the block is wrong or its net too big. Conditions: the block reads as a tree. -/
import Derived.Test.YtnfppolgaeibeaaGrowO
import Derived.Test.YtnfppolgaeibeaaGrowS
import Derived.Test.YtnfppolgaeibeaaGrowM
namespace Go.Proofs.Ytnfppolgaeibeaa
open Go.RowKit

theorem kb_all (w0 : World) : ∀ f, KbIH w0 f := by
  intro f
  induction f with
  | zero =>
    intro d kd lb A n c had ks p q C cc g w hc
    rw [chkB] at hc
    cases hc
  | succ f ih =>
    intro d kd lb A n c had ks p q C cc g w hc hK hL hB hf
    obtain ⟨_, hhd, _⟩ := chkB_inv hc
    obtain ⟨k1, k6, _, _⟩ := headB_ok hhd
    simp only [PBlk.kind] at k1 k6
    have hk : kd = 1 ∨ kd = 2 ∨ kd = 3 ∨ kd = 4 ∨ kd = 5 ∨ kd = 6 := by omega
    rcases hk with rfl | rfl | rfl | rfl | rfl | rfl
    · exact kb_leaf (.inl rfl) hL hB hf
    · exact kb_leaf (.inr rfl) hL hB hf
    · exact kb_seq ih hc hK hL hB hf
    · exact kb_alt ih hc hK hL hB hf
    · exact kb_both ih hc hK hL hB hf
    · exact kb_loop ih hc hK hL hB hf
theorem kgrown_calls {d : Nat} {w0 w : World} {kd lb : Int} {A : Option Addr} {n c : Nat} {ks : List PBlk} (h : Blks d w0 A n c ks) (hB : Below w0.heap.size w0 w) (hw : wrongB (.mk kd lb ks) = 0) :
    Calls Try.prog 41 #[.agg #[.int .i64 kd, .int .i64 lb, .slice A n c], .int .i64 0, .int .i64 1, .agg #[.int .i64 2, .slice none 0 0]] w (AnsK w0.heap.size (grown0 (.mk kd lb ks)) w) := by
  have hb := grown0_le hw
  exact kb_all w0 41 d kd lb A n c 0 ks 0 1 none 0 ⟨2, []⟩ w hw h ⟨Sl.nil0, fun b off e _ => by cases e⟩ hB ⟨by unfold grown0 at hb; omega, by unfold grown0 at hb; omega⟩
/-- What KGrow has laid out at first. -/
structure Laid2 (w u : World) (blk : Array Value) : Prop where
  below : Below w.heap.size w u
  arg : Box u w.heap.size 24 blk
  net : Box u (w.heap.size + 1) 27 #[.int .i64 0, .slice none 0 0]
theorem Laid2.new (w : World) (blk : Array Value) : Laid2 w ((w.alloc (.cells blk 24)).alloc (.cells #[.int .i64 0, .slice none 0 0] 27)) blk where
  below := ((Below.refl _ _).alloc (Nat.le_refl _) _).alloc (by simp) _
  arg := (Box.new w blk _).old _
  net := Box.newAt (by simp) _ _
theorem Laid2.keep {w u u' : World} {blk : Array Value} (h : Laid2 w u blk) (hb : Below u.heap.size u u') : Laid2 w u' blk :=
  ⟨h.below.trans (hb.mono h.below.size), h.arg.keep hb, h.net.keep hb⟩
theorem told2 {w u : World} {x : Int} {v : Value} (hB : Below w.heap.size w u) (h2 : Box u (w.heap.size + 1) 27 #[.int .i64 x, v]) (x' : Int) (v' : Value) :
    Box ((u.setCell ⟨w.heap.size + 1, 0, none⟩ (.int .i64 x')).setCell ⟨w.heap.size + 1, 1, none⟩ v') (w.heap.size + 1) 27 #[.int .i64 x', v'] ∧
    Below w.heap.size w ((u.setCell ⟨w.heap.size + 1, 0, none⟩ (.int .i64 x')).setCell ⟨w.heap.size + 1, 1, none⟩ v') :=
  ⟨h2.set2 (.int .i64 x') v', (hB.setCell (p := ⟨w.heap.size + 1, 0, none⟩) (by simp only; omega) _).setCell (p := ⟨w.heap.size + 1, 1, none⟩) (by simp only; omega) _⟩

set_option maxRecDepth 100000 in
set_option maxHeartbeats 4000000 in
theorem kgrow_wrong {d : Nat} {w : World} {kd lb : Int} {A : Option Addr} {n c : Nat} {ks : List PBlk} (h : Blks d w A n c ks) (hw : wrongB (.mk kd lb ks) ≠ 0) :
    Calls Try.prog 10 #[.agg #[.int .i64 kd, .int .i64 lb, .slice A n c]] w (AnsG (growP (.mk kd lb ks)) w) := by
  have GP := hide2 (growP_wrong hw)
  rw [GP.out]
  obtain ⟨r, hr⟩ : ∃ r, wrongB (.mk kd lb ks) = r := ⟨_, rfl⟩
  have LD := hide2 (Laid2.new w #[.int .i64 kd, .int .i64 lb, .slice A n c])
  have CW := hide2 (jWrong_calls (h.keep LD.out.below) (kd := kd) (lb := lb))
  rw [hr] at hw ⊢
  rw [hr] at CW
  clear h GP hr
  go_enter Try.func10, Try.ntmps10
  go_upto_region 1 with fail
  generalize (w.alloc (.cells #[.int .i64 kd, .int .i64 lb, .slice A n c] 24)).alloc (.cells #[.int .i64 0, .slice none 0 0] 27) = u at *
  have a0 := LD.out.arg.three
  go_upto_region 2 with (go_at_call 40; (with_reducible refine CW.out.mono ?_); rintro e w1 ⟨rfl, hb⟩; have L1 := hide2 (LD.out.keep hb); clear hb)
  obtain ⟨c0, c1⟩ := L1.out.net.two
  have f0 := L1.out.net.frozen 0
  have f1 := L1.out.net.frozen 1
  go_wp2
  obtain ⟨t2, tb⟩ := told2 L1.out.below L1.out.net 0 (.slice none 0 0)
  have e0 := t2.cell 0
  have e1 := t2.cell 1
  exact bodyPost_ret (v := .tuple #[.agg #[.int .i64 0, .slice none 0 0], .int .i64 r]) (by simp [results, Try.results10, go_sem, e0, e1]) rfl ⟨none, 0, 0, rfl, Sl.nil0, tb⟩

set_option maxRecDepth 100000 in
set_option maxHeartbeats 4000000 in
theorem kgrow_over {d : Nat} {w : World} {kd lb : Int} {A : Option Addr} {n c : Nat} {ks : List PBlk} (h : Blks d w A n c ks) (hw : wrongB (.mk kd lb ks) = 0) (hf : ¬ fitsK (grown0 (.mk kd lb ks))) :
    Calls Try.prog 10 #[.agg #[.int .i64 kd, .int .i64 lb, .slice A n c]] w (AnsG (growP (.mk kd lb ks)) w) := by
  have GP := hide2 (growP_full hw hf)
  rw [GP.out]
  have LD := hide2 (Laid2.new w #[.int .i64 kd, .int .i64 lb, .slice A n c])
  have CW := hide2 (jWrong_calls (h.keep LD.out.below) (kd := kd) (lb := lb))
  have HW := hide2 hw
  have H := hide2 h
  have LE := grown0_le hw
  have CG := hide2 (fun (w1 : World) (hB : Below w.heap.size w w1) => kgrown_calls (kd := kd) (lb := lb) H.out hB hw)
  obtain ⟨r, hr⟩ : ∃ r, grown0 (.mk kd lb ks) = r := ⟨_, rfl⟩
  rw [hr] at hf CG LE
  obtain ⟨P, hP⟩ : ∃ P, r.places = P := ⟨_, rfl⟩
  obtain ⟨K, hK⟩ : ∃ K, r.links.length = K := ⟨_, rfl⟩
  have big : ¬ (P ≤ 16 ∧ K ≤ 24) := fun hh => hf ⟨by omega, by omega⟩
  have HP := hide2 hP
  have HK := hide2 hK
  rw [hw] at CW
  rw [hP, hK] at LE
  clear h GP hw hf hr hP hK
  go_enter Try.func10, Try.ntmps10
  go_upto_region 1 with fail
  generalize (w.alloc (.cells #[.int .i64 kd, .int .i64 lb, .slice A n c] 24)).alloc (.cells #[.int .i64 0, .slice none 0 0] 27) = u at *
  have a0 := LD.out.arg.three
  go_upto_region 4 with (go_at_call 40; (with_reducible refine CW.out.mono ?_); rintro e w1 ⟨rfl, hb⟩; have L1 := hide2 (LD.out.keep hb); clear hb)
  clear a0
  have a1 := L1.out.arg.three
  have CK := hide2 (CG.out w1 L1.out.below)
  go_upto_region 5 with (go_at_call 41; (with_reducible refine CK.out.mono ?_); rintro e w2 ⟨C2, c2, rfl, lm, bl⟩; have L2 := hide2 (L1.out.keep bl); rw [HP.out, HK.out]; clear lm bl)
  have bb := boxBelow w2 (.cells #[.int .i64 P, .slice C2 K c2] 81)
  have X := hide2 (Box.new w2 #[.int .i64 P, .slice C2 K c2] 81)
  have L3 := hide2 (L2.out.keep bb)
  generalize w2.alloc (.cells #[.int .i64 P, .slice C2 K c2] 81) = w3 at *
  generalize w2.heap.size = bx at *
  obtain ⟨x0, x1⟩ := X.out.two
  obtain ⟨c0, c1⟩ := L3.out.net.two
  have f0 := L3.out.net.frozen 0
  have f1 := L3.out.net.frozen 1
  clear a1 bb
  have BG := hide2 big
  clear big
  by_cases h16 : (16 : Int) < (P : Int)
  · go_wp2
    obtain ⟨t2, tb⟩ := told2 L3.out.below L3.out.net 0 (.slice none 0 0)
    have e0 := t2.cell 0
    have e1 := t2.cell 1
    exact bodyPost_ret (v := .tuple #[.agg #[.int .i64 0, .slice none 0 0], .int .i64 4]) (by simp [results, Try.results10, go_sem, e0, e1]) rfl ⟨none, 0, 0, rfl, Sl.nil0, tb⟩
  · have h24 : (24 : Int) < (K : Int) := by have := BG.out; omega
    go_wp2
    obtain ⟨t2, tb⟩ := told2 L3.out.below L3.out.net 0 (.slice none 0 0)
    have e0 := t2.cell 0
    have e1 := t2.cell 1
    exact bodyPost_ret (v := .tuple #[.agg #[.int .i64 0, .slice none 0 0], .int .i64 4]) (by simp [results, Try.results10, go_sem, e0, e1]) rfl ⟨none, 0, 0, rfl, Sl.nil0, tb⟩
end Go.Proofs.Ytnfppolgaeibeaa
