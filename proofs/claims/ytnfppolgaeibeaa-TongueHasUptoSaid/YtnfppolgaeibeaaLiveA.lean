/- What a space reads ars: lists of lists of integers, and arcs; live.Right and GRight. Conditions: the slices read ars lists. | The contracts of GRight, live.Dead and GDead. Conditions: the slices read as lists. | The contracts of GDead, GStuck, slices.Max, live.Bound and GBound. Conditions: the slices read as lists. | The contracts of slices.Max on integers, live.Bound and GBound. Conditions: the slices read as lists. | Lists that a call owns, side by side in a row that it owns; the contract of live.links. Conditions: the slices read as lists; the ends that links takes for places lie among the marks. | The contract of live.links, both ways. Conditions: the slices read as lists; the ends that links takes for places lie among the marks. | What live.spread finds: the plain law of its rounds. Conditions: the arcs are between marks. | The contracts of live.spread and of slices.Contains on bools. Conditions: the arcs are between marks; what to start from are marks. | The contracts of slices.Contains on bools and of live.Home. Conditions: the slices read as lists. | The contract of live.Live. Conditions: the slices read as lists. | What GReach finds: the plain law of its rounds; Home and Live told by it. Conditions: the arcs are between marks. | Rows of bools that a call owns, side by side in a row that it owns, and how many are false. Conditions: none. | The contract of GReach. Conditions: the arcs are between marks. | The contract of GHome. Conditions: the slices read as lists. | The contract of GLive. Conditions: the slices read as lists. -/
import Derived.Test.YtnfppolgaeibeaaPlainH
import Derived.Test.YtnfppolgaeibeaaListW
import Derived.Test.YtnfppolgaeibeaaArcW
import Derived.Test.YtnfppolgaeibeaaCaseA
import Derived.Test.YtnfppolgaeibeaaOwnB
import Derived.Test.YtnfppolgaeibeaaCaseC
import Derived.Test.YtnfppolgaeibeaaCaseL
import Derived.Test.YtnfppolgaeibeaaNetJ
import Derived.Test.YtnfppolgaeibeaaHeld
namespace Go.Proofs.Ytnfppolgaeibeaa
open Go.RowKit

/-! ### between marks? -/
def arcBad (n : Nat) (a : PArc) : Bool := decide (a.from_ < 0) || decide (a.to_ < 0) || decide ((n : Int) ≤ a.from_) || decide ((n : Int) ≤ a.to_)
def rightG (n : Nat) (ars : List PArc) : Bool := !ars.any (arcBad n)

/-- Function F, with what it captured, is a test of arcs. -/
structure IsPredA (F : FuncId) (cap : Array Value) (w : World) (p : PArc → Bool) : Prop where
  enters : ∀ args w, (callFunc F args).run Try.prog w = .ok (.enter F args) w
  calls : ∀ (wr : World) (a : PArc), Below w.heap.size w wr →
    Calls Try.prog F (#[.agg #[.int .i64 a.from_, .int .i64 a.tran, .int .i64 a.to_]] ++ cap) wr fun e w' => e = .returned (.bool (p a)) ∧ Below wr.heap.size wr w'

end Go.Proofs.Ytnfppolgaeibeaa
namespace Go.Proofs.Ytnfppolgaeibeaa
open Go.RowKit Go.Maps

theorem rightG_not {n : Nat} {ars : List PArc} {a : PArc} (ha : a ∈ ars) (h : arcBad n a = true) : rightG n ars = false := by
  unfold rightG
  rw [List.any_eq_true.2 ⟨a, ha, h⟩]; rfl
theorem rightG_of {n : Nat} {ars : List PArc} (h : ∀ (j : Nat) (a : PArc), ars[j]? = some a → arcBad n a = false) : rightG n ars = true := by
  unfold rightG
  rw [Bool.not_eq_true', List.any_eq_false]
  intro a ha
  obtain ⟨j, hj, rfl⟩ := List.getElem_of_mem ha
  rw [h j _ (List.getElem?_eq_getElem hj)]
  simp

/-! ### transitions that never fire -/
def cntA (ars : List PArc) (t : Int) : Nat := (ars.filter fun a => a.tran == t).length
theorem cntA_snoc (l : List PArc) (a : PArc) (t : Int) : cntA (l ++ [a]) t = cntA l t + if a.tran = t then 1 else 0 := by
  unfold cntA
  rw [List.filter_append, List.length_append]
  by_cases h : a.tran = t <;> simp [h]
def deadL (ars : List PArc) (N : Nat) : List Int := ((List.range N).filter fun (t : Nat) => cntA ars (t : Int) == 0).map fun (t : Nat) => (t : Int)
theorem deadL_succ (ars : List PArc) (k : Nat) : deadL ars (k + 1) = deadL ars k ++ if cntA ars (k : Int) = 0 then [(k : Int)] else [] := by
  unfold deadL
  rw [List.range_succ, List.filter_append, List.map_append]
  congr 1
  by_cases h : cntA ars (k : Int) = 0 <;> simp [h]
theorem deadL_len (ars : List PArc) (k : Nat) : (deadL ars k).length ≤ k := by
  unfold deadL
  rw [List.length_map]
  exact Nat.le_trans (List.length_filter_le _ _) (by simp)
/-- Block b is a map that counts, by transitions, these arcs. -/
def CountM (w : World) (b : Nat) (l : List PArc) : Prop :=
  ∃ D : DataW Unit, w.ownsMap Try.prog 3 (plainElem Try.prog 3) b l.length D ∧ ∀ t : Int, (Lit.int .i64 t).wf = true → D.atKey (.int .i64 t) (.lit (.int .i64 0)) = .lit (.int .i64 (cntA l t))
theorem intLaw : Keyed Try.prog 3 := int_keyed Try.underlying3
theorem zeroInt' (w : World) : (zeroValue 3).run Try.prog w = .ok (.int .i64 0) w := by kernel_rfl
theorem CountM.made (w : World) : CountM (w.alloc (.map #[] 0)) w.heap.size [] := ⟨.map [], World.ownsMap_made _ _ _ _, fun _ _ => rfl⟩
theorem CountM.of_block {w w' : World} {b : Nat} {l : List PArc} (h : CountM w b l) (hb : w'.heap[b]? = w.heap[b]?) : CountM w' b l := by
  obtain ⟨D, h1, h2⟩ := h
  exact ⟨D, ownsMap_of_block h1 hb, h2⟩
theorem CountM.lt {w : World} {b : Nat} {l : List PArc} (h : CountM w b l) : b < w.heap.size := by
  obtain ⟨D, h1, _⟩ := h
  exact h1.lt
theorem CountM.keep {w w' : World} {b : Nat} {l : List PArc} (h : CountM w b l) (hb : Below w.heap.size w w') : CountM w' b l := h.of_block (hb.block b h.lt)
theorem CountM.look {w : World} {b : Nat} {l : List PArc} (h : CountM w b l) {t : Int} (ht : (Lit.int .i64 t).wf = true) : (Instr.lookup 169 (.map (some b)) (.int .i64 t) false).run Try.prog w = .ok (.int .i64 (cntA l t)) w := by
  obtain ⟨D, h1, h2⟩ := h
  obtain ⟨c, hrun, hat, _⟩ := h1.lookup_int intLaw Try.underlying169 Try.underlying3 (zeroInt' w) (keyOf_int_mk Try.underlying3 ht)
  rw [h2 t ht] at hat
  simp only [DataW.lit.injEq, Lit.int.injEq, true_and] at hat
  rw [hrun, ← hat]
set_option maxRecDepth 100000 in
theorem CountM.more {w : World} {b : Nat} {l : List PArc} (h : CountM w b l) {a : PArc} (ht : (Lit.int .i64 a.tran).wf = true) (hl : l.length ≤ 17592186044416) :
    ∃ w', (Instr.mapUpdate 169 (.map (some b)) (.int .i64 a.tran) (.int .i64 ((cntA l a.tran : Int) + 1))).run Try.prog w = .ok () w' ∧ CountM w' b (l ++ [a]) ∧ w.grownBy w' (some b) := by
  obtain ⟨D, h1, h2⟩ := h
  have hc : cntA l a.tran ≤ l.length := List.length_filter_le _ _
  have hk := keyOf_int_mk Try.underlying3 ht
  obtain ⟨w', r1, r2, r3⟩ := h1.update intLaw Try.underlying169 (by rw [maxLen]; omega) hk (plainElem_int Try.underlying3 (a := (cntA l a.tran : Int) + 1) (WalkArith.wf_i64 (by omega)))
  refine ⟨w', r1, ⟨_, by rw [List.length_append]; exact r2, fun t hw => ?_⟩, r3⟩
  rw [cntA_snoc]
  by_cases e : a.tran = t
  · subst e
    rw [Maps.atKey_put_same (h1.tidy intLaw).isMap (intLaw.key hk), if_pos rfl]
    simp
  · rw [Maps.atKey_put_other (fun e' => e (by injection e' with _ e'; exact e'.symm)), h2 t hw, if_neg e, Nat.add_zero]

set_option maxRecDepth 100000 in
set_option maxHeartbeats 2000000 in
theorem dead_calls {w : World} {A D : Option Addr} {n c m d : Nat} {ms : List (List Int)} {ars : List PArc} (tr : Int) (h : Lists w A n c ms) (g : Arcs w D m d ars) (hm : m ≤ 17592186044416) :
    Calls Try.prog 65 #[.agg #[.slice A n c, .slice D m d], .int .i64 tr] w (AnsIF (deadL ars (min tr 24).toNat).length (deadL ars (min tr 24).toNat) w) := by
  obtain ⟨M, hM⟩ : ∃ M, min tr 24 = M := ⟨_, rfl⟩
  have hmm := @run_makeMap Try.prog
  have G := hide2 g
  rw [hM]
  have hM24 : M ≤ 24 := by omega
  have hn := h.small
  clear h g
  go_enter Try.func65, Try.ntmps65
  go_upto_region 3 with fail
  clear hM hmm
  generalize hw1 : (w.alloc (.cells #[.slice A n c, .slice D m d] 107)).alloc (.map #[] 0) = w1
  have D1 := hide2 (show Below w.heap.size w w1 by rw [← hw1]; exact ((Below.refl _ _).alloc (Nat.le_refl _) _).alloc (by simp) _)
  have X0 := hide2 (show Box w1 w.heap.size 107 #[.slice A n c, .slice D m d] by rw [← hw1]; exact (Box.new _ _ _).old _)
  have X1 := hide2 (show CountM w1 (w.heap.size + 1) [] by
    rw [← hw1]
    have := CountM.made (w.alloc (.cells #[.slice A n c, .slice D m d] 107))
    rwa [show (w.alloc (.cells #[.slice A n c, .slice D m d] 107)).heap.size = w.heap.size + 1 by simp] at this)
  clear hw1
  obtain ⟨c0, c1⟩ := X0.out.two
  go_wp2
  go_loopw [16] (fun v wr => ∃ k : Nat, k ≤ m ∧ v = .int .i64 k ∧ Hid (CountM wr (w.heap.size + 1) (ars.take k)) ∧ Hid (Below w.heap.size w wr)) (fun v _ => m - (intOf v).toNat)
  case atStart => exact ⟨0, Nat.zero_le _, rfl, X1, D1⟩
  case round =>
    clear c0 c1
    obtain ⟨k, hk, rfl, CM, BR⟩ := hrel
    by_cases hlt : k < m
    · have hki : (k : Int) < (m : Int) := by omega
      obtain ⟨bl, off, a, rfl, hbl, ha, q0, q1, q2, hwf⟩ := Arcs.get (Sl.keep ArcR.kept G.out BR.out) hlt
      have bb := boxBelow wr (.cells #[.int .i64 a.from_, .int .i64 a.tran, .int .i64 a.to_] 130)
      have WA := hide2 (Box.new wr #[.int .i64 a.from_, .int .i64 a.tran, .int .i64 a.to_] 130)
      have CW := hide2 (CM.out.keep bb)
      have BW := hide2 (BR.out.trans (bb.mono BR.out.size))
      go_upto_region 6 with fail
      clear bb q0 q1 q2 CM BR
      generalize wr.alloc (.cells #[.int .i64 a.from_, .int .i64 a.tran, .int .i64 a.to_] 130) = u0 at *
      generalize wr.heap.size = bx at *
      obtain ⟨t0, t1, t2⟩ := WA.out.three
      have LK := CW.out.look hwf.out
      obtain ⟨u1, up, cm, gr⟩ := CW.out.more hwf.out (by rw [List.length_take]; omega)
      have CX := hide2 (show CountM u1 (w.heap.size + 1) (ars.take (k + 1)) by rw [take_snoc ha.out]; exact cm)
      have BX := hide2 (BW.out.grown gr BW.out.size (fun k hk => by cases hk; omega))
      have hcb : cntA (ars.take k) a.tran ≤ k := Nat.le_trans (List.length_filter_le _ _) (by rw [List.length_take]; omega)
      obtain ⟨cc, hcc⟩ : ∃ x, cntA (ars.take k) a.tran = x := ⟨_, rfl⟩
      rw [hcc] at LK up hcb
      clear hcc cm gr
      go_wp2
      go_roundw
      case rel => exact ⟨k + 1, by omega, by go_num, CX, BX⟩
      case measure => simp [intOf]; omega
    · obtain rfl : k = m := by omega
      have CF := hide2 (show CountM wr (w.heap.size + 1) ars by have := CM.out; rwa [List.take_of_length_le (by rw [G.out.len]; exact Nat.le_refl _)] at this)
      obtain ⟨wq, hwq⟩ : ∃ wq : World, wq = wr := ⟨_, rfl⟩
      subst hwq
      obtain ⟨N, hN⟩ : ∃ N, M.toNat = N := ⟨_, rfl⟩
      have HN := hide2 hN
      have hN24 : N ≤ 24 := by omega
      clear hN
      go_wp2
      go_loopw [8, 27] (fun u v wr => ∃ j : Nat, j ≤ N ∧ v = .int .i64 j ∧ Hid (OwnInts wr wq.heap.size u (deadL ars j).length (deadL ars j)) ∧ Hid (Below wq.heap.size wq wr)) (fun _ v _ => N - (intOf v).toNat)
      case atStart => exact ⟨0, Nat.zero_le _, rfl, OwnSl.nil, Below.refl _ _⟩
      case round =>
        obtain ⟨j, hj, rfl, OW, BQ⟩ := hrel
        by_cases hlj : j < N
        · have hji : (j : Int) < M := by have := HN.out; omega
          have LK := (CF.out.keep BQ.out).look (t := (j : Int)) (WalkArith.wf_i64 (by omega))
          have DS := hide2 (deadL_succ ars j)
          have hdl := deadL_len ars j
          obtain ⟨cc, hcc⟩ : ∃ x, cntA ars (j : Int) = x := ⟨_, rfl⟩
          rw [hcc] at LK DS
          clear hcc
          by_cases hz : cc = 0
          · subst hz
            rw [if_pos rfl] at DS
            have HDL := hide2 (show (deadL ars (j + 1)).length = (deadL ars j).length + 1 by rw [DS.out]; simp)
            go_wp2_with (at_builtin; refine wpList_appInt rfl _ _ rfl rfl rfl (by first | rfl | simp) OW.out BQ.out BQ.out.size (by omega) ?_; intro v2 w2 own2' hg2 hb2'; have own2 := hide2 own2'; have hb2 := hide2 hb2'; clear own2' hg2 hb2')
            go_roundw
            case rel => exact ⟨j + 1, by omega, by go_num, by rw [HDL.out, DS.out]; exact own2, hb2⟩
            case measure => simp [intOf]; omega
          · have hne : ((cc : Int) == 0) = false := by simp; omega
            rw [if_neg hz, List.append_nil] at DS
            clear hz
            go_wp2
            go_roundw
            case rel => exact ⟨j + 1, by omega, by go_num, by rw [DS.out]; exact OW, BQ⟩
            case measure => simp [intOf]; omega
        · obtain rfl : N = j := by omega
          have hji : M ≤ (N : Int) := by have := HN.out; omega
          have hdl := deadL_len ars N
          obtain ⟨Au, cu, hu, iu⟩ := OW.out.sl (by omega)
          have hfr := OW.out.fresh hu
          have FR := hide2 (hfr.mono BR.out.size)
          have IU := hide2 iu
          have BF := hide2 (BR.out.trans (BQ.out.mono BR.out.size))
          subst hu
          clear iu hfr
          go_wp2
          go_ret
          rw [HN.out]
          exact ⟨Au, cu, rfl, IU.out, BF.out, FR.out⟩
end Go.Proofs.Ytnfppolgaeibeaa
namespace Go.Proofs.Ytnfppolgaeibeaa
open Go.RowKit Go.Maps

/-! ### indices that no arc has -/
def noneL (f : PArc → Int) (ars : List PArc) (N : Nat) : List Int := ((List.range N).filter fun (t : Nat) => ars.all fun a => f a != (t : Int)).map fun (t : Nat) => (t : Int)
theorem noneL_succ (f : PArc → Int) (ars : List PArc) (k : Nat) : noneL f ars (k + 1) = noneL f ars k ++ if (ars.all fun a => f a != (k : Int)) = true then [(k : Int)] else [] := by
  unfold noneL
  rw [List.range_succ, List.filter_append, List.map_append]
  congr 1
  by_cases h : (ars.all fun a => f a != (k : Int)) = true
  · rw [if_pos h]; simp only [List.filter, h, List.map]
  · rw [if_neg h]; have h' : (ars.all fun a => f a != (k : Int)) = false := by simpa using h
    simp only [List.filter, h', List.map]
theorem noneL_len (f : PArc → Int) (ars : List PArc) (k : Nat) : (noneL f ars k).length ≤ k := by
  unfold noneL
  rw [List.length_map]
  exact Nat.le_trans (List.length_filter_le _ _) (by simp)
theorem cntA_zero (ars : List PArc) (t : Int) : (cntA ars t == 0) = ars.all fun a => a.tran != t := by
  unfold cntA
  rw [Bool.eq_iff_iff]
  simp only [beq_iff_eq, List.length_eq_zero_iff, List.filter_eq_nil_iff, List.all_eq_true, bne_iff_ne, ne_eq]
theorem deadL_none (ars : List PArc) (N : Nat) : deadL ars N = noneL PArc.tran ars N := by
  unfold deadL noneL
  congr 1
  congr 1
  funext t
  exact cntA_zero ars _
theorem all_snoc {f : PArc → Bool} {l : List PArc} {a : PArc} : (l ++ [a]).all f = (l.all f && f a) := by simp

set_option maxRecDepth 100000 in
set_option maxHeartbeats 2000000 in
theorem refDead_calls {w : World} {A D : Option Addr} {n c m d : Nat} {ms : List (List Int)} {ars : List PArc} (tr : Int) (h : Lists w A n c ms) (g : Arcs w D m d ars) :
    Calls Try.prog 69 #[.agg #[.slice A n c, .slice D m d], .int .i64 tr] w (AnsIF (deadL ars (min tr 24).toNat).length (deadL ars (min tr 24).toNat) w) := by
  rw [deadL_none]
  have HB := hide2 (boxBelow w (.cells #[.slice A n c, .slice D m d] 107))
  obtain ⟨M, hM⟩ : ∃ M, min tr 24 = M := ⟨_, rfl⟩
  obtain ⟨N, hN⟩ : ∃ N, M.toNat = N := ⟨_, rfl⟩
  have HN := hide2 hN
  rw [hM, hN]
  have hN24 : N ≤ 24 := by omega
  clear hN
  have hn := h.small
  have hm' := g.small
  clear h
  go_enter Try.func69, Try.ntmps69
  go_upto_region 3 with fail
  generalize hw0 : w.alloc (.cells #[.slice A n c, .slice D m d] 107) = w0
  have D0 := hide2 (show Below w.heap.size w w0 by rw [← hw0]; exact HB.out)
  have X0 := hide2 (show Box w0 w.heap.size 107 #[.slice A n c, .slice D m d] by rw [← hw0]; exact Box.new _ _ _)
  have G := hide2 (Sl.keep ArcR.kept g D0.out)
  clear hM hw0 g
  go_loopw [5, 12] (fun u v wr => ∃ j : Nat, j ≤ N ∧ v = .int .i64 j ∧ Hid (OwnInts wr w0.heap.size u (noneL PArc.tran ars j).length (noneL PArc.tran ars j)) ∧ Hid (Below w0.heap.size w0 wr)) (fun _ v _ => N - (intOf v).toNat)
  case atStart => exact ⟨0, Nat.zero_le _, rfl, OwnSl.nil, Below.refl _ _⟩
  case round =>
    obtain ⟨j, hj, rfl, OW, BQ⟩ := hrel
    by_cases hlj : j < N
    · have hji : (j : Int) < M := by have := HN.out; omega
      have DS := hide2 (noneL_succ PArc.tran ars j)
      have hdl := noneL_len PArc.tran ars j
      obtain ⟨c0, c1⟩ := (X0.out.keep BQ.out).two
      obtain ⟨wq, hwq⟩ : ∃ wq : World, wq = wr := ⟨_, rfl⟩
      subst hwq
      go_wp2
      clear c0 c1
      go_loopw [7, 18] (fun u v wr => ∃ k : Nat, k ≤ m ∧ v = .int .i64 k ∧ (∃ b : Bool, u = .bool b ∧ Hid (b = (ars.take k).all fun a => a.tran != (j : Int))) ∧ Hid (Below wq.heap.size wq wr)) (fun _ v _ => m - (intOf v).toNat)
      case atStart => exact ⟨0, Nat.zero_le _, rfl, ⟨true, rfl, rfl⟩, Below.refl _ _⟩
      case round =>
        obtain ⟨k, hk, rfl, ⟨ok, rfl, OK⟩, BR⟩ := hrel
        by_cases hlt : k < m
        · have hki : (k : Int) < (m : Int) := by omega
          obtain ⟨bl, off, a, rfl, hbl, ha, q0, q1, q2, _⟩ := Arcs.get (Sl.keep ArcR.kept G.out (BQ.out.trans (BR.out.mono BQ.out.size))) hlt
          have bb := boxBelow wr (.cells #[.int .i64 a.from_, .int .i64 a.tran, .int .i64 a.to_] 130)
          have WA := hide2 (Box.new wr #[.int .i64 a.from_, .int .i64 a.tran, .int .i64 a.to_] 130)
          have BW := hide2 (BR.out.trans (bb.mono BR.out.size))
          go_upto_region 9 with fail
          clear bb q0 q1 q2 BR
          generalize wr.alloc (.cells #[.int .i64 a.from_, .int .i64 a.tran, .int .i64 a.to_] 130) = u0 at *
          generalize wr.heap.size = bx at *
          obtain ⟨t0, t1, t2⟩ := WA.out.three
          have NX := hide2 (show (ars.take (k + 1)).all (fun a => a.tran != (j : Int)) = (ok && (a.tran != (j : Int))) by
            rw [take_snoc ha.out, all_snoc, ← OK.out])
          clear OK
          cases ok
          · have N2 := hide2 (show false = (ars.take (k + 1)).all (fun a => a.tran != (j : Int)) by rw [NX.out, Bool.false_and])
            go_wp2
            go_roundw
            case rel => exact ⟨k + 1, by omega, by go_num, ⟨false, rfl, N2⟩, BW⟩
            case measure => simp [intOf]; omega
          · have N2 := hide2 (show (a.tran != (j : Int)) = (ars.take (k + 1)).all (fun a => a.tran != (j : Int)) by rw [NX.out, Bool.true_and])
            go_wp2
            go_roundw
            case rel => exact ⟨k + 1, by omega, by go_num, ⟨_, rfl, N2⟩, BW⟩
            case measure => simp [intOf]; omega
        · obtain rfl : k = m := by omega
          have OF := hide2 (show ok = ars.all fun a => a.tran != (j : Int) by have := OK.out; rwa [List.take_of_length_le (by rw [G.out.len]; exact Nat.le_refl _)] at this)
          have BS := hide2 (BQ.out.trans (BR.out.mono BQ.out.size))
          have OX := hide2 (OW.out.keep IntR.kept BR.out)
          clear OK
          cases ok
          · have D2 := hide2 (show noneL PArc.tran ars (j + 1) = noneL PArc.tran ars j by rw [DS.out, if_neg (by rw [← OF.out]; simp), List.append_nil])
            go_wp2
            go_roundw
            case rel => exact ⟨j + 1, by omega, by go_num, by rw [D2.out]; exact OX, BS⟩
            case measure => simp [intOf]; omega
          · have D2 := hide2 (show noneL PArc.tran ars (j + 1) = noneL PArc.tran ars j ++ [(j : Int)] by rw [DS.out, if_pos OF.out.symm])
            have HDL := hide2 (show (noneL PArc.tran ars (j + 1)).length = (noneL PArc.tran ars j).length + 1 by rw [D2.out]; simp)
            have SZ := hide2 BS.out.size
            go_wp2_with (at_builtin; refine wpList_appInt rfl _ _ rfl rfl rfl (by first | rfl | simp) OX.out BS.out SZ.out (by omega) ?_; intro v2 w2 own2' hg2 hb2'; have own2 := hide2 own2'; have hb2 := hide2 hb2'; clear own2' hg2 hb2')
            go_roundw
            case rel => exact ⟨j + 1, by omega, by go_num, by rw [HDL.out, D2.out]; exact own2, hb2⟩
            case measure => simp [intOf]; omega
    · obtain rfl : N = j := by omega
      have hji : M ≤ (N : Int) := by have := HN.out; omega
      have hdl := noneL_len PArc.tran ars N
      obtain ⟨Au, cu, hu, iu⟩ := OW.out.sl (by omega)
      have FR := hide2 ((OW.out.fresh hu).mono D0.out.size)
      have IU := hide2 iu
      subst hu
      clear iu
      go_wp2
      go_ret
      exact ⟨Au, cu, rfl, IU.out, D0.out.trans (BQ.out.mono D0.out.size), FR.out⟩

end Go.Proofs.Ytnfppolgaeibeaa
namespace Go.Proofs.Ytnfppolgaeibeaa
open Go.RowKit

def maxF (xs : List Int) (x : Int) : Int := xs.foldl max x
theorem maxF_snoc (l : List Int) (x y : Int) : maxF (l ++ [y]) x = max (maxF l x) y := by simp [maxF]
theorem maxF_pull : ∀ (l : List Int) (x y : Int), maxF l (max x y) = max x (maxF l y)
  | [], _, _ => rfl
  | z :: l, x, y => by
    show maxF l (max (max x y) z) = max x (maxF l (max y z))
    rw [← maxF_pull l x (max y z)]
    congr 1
    omega
def boundL (ms : List (List Int)) : Int := ms.foldl (fun n m => if rightB m = true then maxF m n else n) 0
def boundAt (ms : List (List Int)) (k : Nat) : Int := boundL (ms.take k)
theorem boundAt_succ {ms : List (List Int)} {k : Nat} {m : List Int} (h : ms[k]? = some m) : boundAt ms (k + 1) = if rightB m = true then maxF m (boundAt ms k) else boundAt ms k := by
  unfold boundAt boundL
  rw [take_snoc h, List.foldl_append]
  rfl
theorem maxF_ge : ∀ (l : List Int) (x : Int), x ≤ maxF l x
  | [], _ => Int.le_refl _
  | z :: l, x => by
    have := maxF_ge l (max x z)
    show x ≤ maxF l (max x z)
    omega
theorem boundAt_nonneg (ms : List (List Int)) : ∀ k, 0 ≤ boundAt ms k
  | 0 => Int.le_refl _
  | k + 1 => by
    have ih := boundAt_nonneg ms k
    by_cases hk : k < ms.length
    · rw [boundAt_succ (List.getElem?_eq_getElem hk)]
      split
      · exact Int.le_trans ih (maxF_ge _ _)
      · exact ih
    · unfold boundAt at ih ⊢
      rw [List.take_of_length_le (show ms.length ≤ k by omega)] at ih
      rwa [List.take_of_length_le (show ms.length ≤ k + 1 by omega)]
/-- The most of a list and 0. -/
theorem max_zero {m l : List Int} {x n : Int} (h : m ++ [0] = x :: l) (hn : 0 ≤ n) : max n (maxF l x) = maxF m n := by
  have h1 : maxF (m ++ [0]) n = maxF m n := by
    rw [maxF_snoc]
    have := maxF_ge m n
    omega
  rw [← h1, h, ← maxF_pull]
  rfl

end Go.Proofs.Ytnfppolgaeibeaa
namespace Go.Proofs.Ytnfppolgaeibeaa
open Go.RowKit

def LinkW (w : World) (B g n : Nat) (ls : List (List Int)) : Prop :=
  ∃ cells : List Value, w.ownsRow B 35 1 (.slice (some ⟨g, 0, none⟩) n n) n cells ∧ ls.length = n ∧ (∀ (k : Nat) (x : List Int), ls[k]? = some x → ∃ v, cells[k]? = some v ∧ OwnInts w B v x.length x) ∧
    (∀ (k l : Nat) (u v : Value), k ≠ l → cells[k]? = some u → cells[l]? = some v → u.ownBlock = none ∨ u.ownBlock ≠ v.ownBlock)
section
variable {w w' : World} {B g n : Nat} {ls : List (List Int)}
theorem LinkW.made (h : w.ownsRow B 35 1 (.slice (some ⟨g, 0, none⟩) n n) n (List.replicate n (.slice none 0 0))) : LinkW w B g n (List.replicate n []) := by
  refine ⟨_, h, List.length_replicate, fun k x hx => ?_, fun k l u v _ hu _ => ?_⟩
  · obtain ⟨hk, rfl⟩ := List.getElem?_eq_some_iff.1 hx
    rw [List.length_replicate] at hk
    refine ⟨_, List.getElem?_replicate_of_lt hk, ?_⟩
    rw [List.getElem_replicate]
    exact OwnSl.nil
  · obtain ⟨hk, rfl⟩ := List.getElem?_eq_some_iff.1 hu
    rw [List.getElem_replicate]
    exact .inl rfl
theorem LinkW.keep (h : LinkW w B g n ls) (hb : Below w.heap.size w w') : LinkW w' B g n ls := by
  obtain ⟨cells, h1, h2, h3, h4⟩ := h
  refine ⟨cells, h1.kept (row := none) ⟨hb.os, hb.tape, hb.output, hb.size, fun k hk _ => hb.block k hk⟩ (.inr (by simp [Value.ownBlock])), h2, fun k x hx => ?_, h4⟩
  obtain ⟨v, a, b⟩ := h3 k x hx
  exact ⟨v, a, b.keep IntR.kept hb⟩
theorem LinkW.base {B' : Nat} (h : LinkW w B g n ls) (hB : B' ≤ B) : LinkW w B' g n ls := by
  obtain ⟨cells, h1, h2, h3, h4⟩ := h
  refine ⟨cells, ⟨h1.1, ?_⟩, h2, fun k x hx => ?_, h4⟩
  · rcases h1.2 with e | ⟨g1, cap, cur, e1, e2, e3⟩
    · exact .inl e
    · exact .inr ⟨g1, cap, cur, e1, Nat.le_trans hB e2, e3⟩
  obtain ⟨v, a, b⟩ := h3 k x hx
  exact ⟨v, a, b.base hB⟩
theorem LinkW.lt (h : LinkW w B g n ls) : B ≤ g ∧ g < w.heap.size := by
  obtain ⟨cells, h1, _⟩ := h
  exact h1.lt g rfl
theorem LinkW.get (h : LinkW w B g n ls) {k : Nat} (hk : k < n) : ∃ v x, ls[k]? = some x ∧ w.cell? ⟨g, k, none⟩ = some v ∧ OwnInts w B v x.length x := by
  obtain ⟨cells, h1, h2, h3, _⟩ := h
  have hx : ls[k]? = some (ls[k]'(by omega)) := List.getElem?_eq_getElem _
  obtain ⟨v, a, b⟩ := h3 k _ hx
  exact ⟨v, _, hx, by rw [h1.cellAt k (by omega)]; exact a, b⟩
/-- One list, appended to, and laid in its place again. -/
theorem LinkW.put {w1 : World} (h : LinkW w B g n ls) {i g' cap : Nat} {x : List Int} {y : Int} {v : Value} (hx : ls[i]? = some x) (hv : w.cell? ⟨g, i, none⟩ = some v) (hg : w.grownBy w1 v.ownBlock)
    (own : OwnInts w1 B (.slice (some ⟨g', 0, none⟩) (x.length + 1) cap) (x.length + 1) (x ++ [y])) (lies : v.ownBlock = some g' ∨ w.heap.size ≤ g') :
    w1.cell? ⟨g, i, none⟩ = some v ∧ w1.frozen? ⟨g, i, none⟩ = false ∧ LinkW (w1.setCell ⟨g, i, none⟩ (.slice (some ⟨g', 0, none⟩) (x.length + 1) cap)) B g n (ls.set i (x ++ [y])) := by
  obtain ⟨cells, h1, h2, h3, h4⟩ := h
  have hi : i < n := by rw [← h2]; exact (List.getElem?_eq_some_iff.1 hx).1
  obtain ⟨v', a, b⟩ := h3 i x hx
  have hvv : v' = v := by
    rw [h1.cellAt i (by omega), a] at hv
    injection hv
  subst hvv
  have r1 := h1.kept hg (by
    obtain ⟨cs, b1, _⟩ := b
    rcases own_ne b1 h1 (by decide) with e | e
    · exact .inr (by rw [e]; simp [Value.ownBlock])
    · exact .inr (fun e2 => e e2.symm))
  have hgne : g ≠ g' := by
    intro e
    subst e
    obtain ⟨cs, b1, _⟩ := own
    rcases own_ne b1 r1 (by decide) with e | e
    · cases e
    · exact e rfl
  have hlt := (h1.lt g rfl).2
  refine ⟨by rw [r1.cellAt i (by omega)]; exact a, r1.frozenAt i, ⟨_, (r1.stored i _).1, by rw [List.length_set]; exact h2, fun k z hz => ?_, fun k l u t hkl hu ht => ?_⟩⟩
  · by_cases hki : k = i
    · subst hki
      rw [List.getElem?_set_self (by omega)] at hz
      injection hz with hz
      subst hz
      refine ⟨_, List.getElem?_set_self (by have := h1.1; omega), ?_⟩
      rw [List.length_append]
      refine OwnInts.of_row (ownsRow_setCell_other own.row (fun e => ?_) _)
      simp only [Value.ownBlock, Option.some.injEq] at e
      exact hgne e.symm
    · rw [List.getElem?_set_ne (fun e => hki e.symm)] at hz
      obtain ⟨t, c, d⟩ := h3 k z hz
      refine ⟨t, by rw [List.getElem?_set_ne (fun e => hki e.symm)]; exact c, ?_⟩
      refine OwnInts.of_row (ownsRow_setCell_other ((d.row).kept hg (h4 k i t v' hki c a)) ?_ _)
      obtain ⟨cs, d1, _⟩ := d
      rcases own_ne d1 h1 (by decide) with e | e
      · rw [e]; simp
      · exact e
  · by_cases hki : k = i
    · subst hki
      rw [List.getElem?_set_self (by have := h1.1; omega)] at hu
      rw [List.getElem?_set_ne hkl] at ht
      injection hu with hu
      subst hu
      refine .inr (fun e => ?_)
      rcases lies with e2 | e2
      · rcases h4 k l v' t hkl a ht with e3 | e3
        · rw [e3] at e2; cases e2
        · exact e3 (by rw [e2]; exact e)
      · have hl : l < ls.length := by have := (List.getElem?_eq_some_iff.1 ht).1; have := h1.1; omega
        obtain ⟨t', c, d⟩ := h3 l _ (List.getElem?_eq_getElem hl)
        rw [ht] at c
        injection c with c
        subst c
        have := (d.lt g' e.symm).2
        omega
    · rw [List.getElem?_set_ne (fun e => hki e.symm)] at hu
      by_cases hli : l = i
      · subst hli
        rw [List.getElem?_set_self (by have := h1.1; omega)] at ht
        injection ht with ht
        subst ht
        have hl : k < ls.length := by have := (List.getElem?_eq_some_iff.1 hu).1; have := h1.1; omega
        obtain ⟨t', c, d⟩ := h3 k _ (List.getElem?_eq_getElem hl)
        rw [hu] at c
        injection c with c
        subst c
        rcases lies with e2 | e2
        · rcases h4 k l u v' hki hu a with e3 | e3
          · exact .inl e3
          · exact .inr (fun e => e3 (e.trans e2.symm))
        · refine .inr (fun e => ?_)
          have := (d.lt g' e).2
          omega
      · rw [List.getElem?_set_ne (fun e => hli e.symm)] at ht
        exact h4 k l u t hkl hu ht
theorem LinkW.lists (h : LinkW w B g n ls) (hn : n ≤ 281474976710656) (hl : ∀ x ∈ ls, x.length ≤ 17592186043904) : Lists w (some ⟨g, 0, none⟩) n n ls := by
  obtain ⟨cells, h1, h2, h3, h4⟩ := h
  have hr : Reads ListR 1 w cells ls := by
    refine ⟨by rw [h1.1, h2], fun i x hx => ?_⟩
    obtain ⟨v, a, b⟩ := h3 i x hx
    have hlen := hl x (List.mem_of_getElem? hx)
    obtain ⟨A, c, e, s⟩ := b.sl (by omega)
    exact ⟨fun _ => v, fun j hj => (by
      obtain rfl : j = 0 := by omega
      simpa using a), A, x.length, c, e, s, hlen⟩
  obtain ⟨A, c, e, s⟩ := OwnSl.sl (⟨cells, h1, hr, h2⟩ : OwnSl ListR 1 w B 35 (.slice (some ⟨g, 0, none⟩) n n) n ls) hn
  injection e with e1 e2 e3
  subst e1 e3
  exact s
end

/-! ### what leads where -/
def linkAt (key val : PArc → Int) (ars : List PArc) (k : Int) : List Int := (ars.filter fun a => key a == k).map val
def linkL (key val : PArc → Int) (ars : List PArc) (n : Nat) : List (List Int) := (List.range n).map fun (k : Nat) => linkAt key val ars (k : Int)
theorem linkL_nil (key val : PArc → Int) (n : Nat) : linkL key val [] n = List.replicate n [] := by
  apply List.ext_getElem (by simp [linkL])
  intro i h1 h2
  simp [linkL, linkAt]
theorem linkL_get {key val : PArc → Int} {ars : List PArc} {n k : Nat} (hk : k < n) : (linkL key val ars n)[k]? = some (linkAt key val ars (k : Int)) := by simp [linkL, hk]
theorem linkAt_snoc (key val : PArc → Int) (l : List PArc) (a : PArc) (k : Int) : linkAt key val (l ++ [a]) k = linkAt key val l k ++ if key a = k then [val a] else [] := by
  unfold linkAt
  rw [List.filter_append, List.map_append]
  congr 1
  by_cases h : key a = k <;> simp [h]
theorem linkL_snoc {key val : PArc → Int} {l : List PArc} {a : PArc} {n i : Nat} (hi : key a = (i : Int)) : linkL key val (l ++ [a]) n = (linkL key val l n).set i (linkAt key val l (i : Int) ++ [val a]) := by
  apply List.ext_getElem (by simp [linkL])
  intro j h1 h2
  by_cases hj : i = j
  · subst hj
    rw [List.getElem_set_self]
    simp only [linkL, List.getElem_map, List.getElem_range]
    rw [linkAt_snoc, if_pos hi]
  · rw [List.getElem_set_ne hj]
    simp only [linkL, List.getElem_map, List.getElem_range]
    rw [linkAt_snoc, if_neg (by rw [hi]; omega), List.append_nil]
theorem linkAt_len (key val : PArc → Int) (l : List PArc) (k : Int) : (linkAt key val l k).length ≤ l.length := by
  unfold linkAt
  rw [List.length_map]
  exact List.length_filter_le _ _
theorem linkL_length (key val : PArc → Int) (l : List PArc) (n : Nat) : (linkL key val l n).length = n := by simp [linkL]
theorem linkL_small {key val : PArc → Int} {l : List PArc} {n : Nat} {x : List Int} (hx : x ∈ linkL key val l n) : x.length ≤ l.length := by
  obtain ⟨k, _, rfl⟩ := List.mem_map.1 hx
  exact linkAt_len _ _ _ _
theorem infoListInt : (Try.prog.info? 35).map (fun i => (i.zero, i.size, i.bytes)) = some (some (.slice none 0 0), 1, 24) := by kernel_rfl

/-- What links answers: lists of its own. -/
def AnsLink (ls : List (List Int)) (n : Nat) (w : World) (e : Ending) (w' : World) : Prop :=
  ∃ g, e = .returned (.slice (some ⟨g, 0, none⟩) n n) ∧ LinkW w' w.heap.size g n ls ∧ Below w.heap.size w w'
end Go.Proofs.Ytnfppolgaeibeaa
namespace Go.Proofs.Ytnfppolgaeibeaa
open Go.RowKit

set_option maxRecDepth 100000 in
set_option maxHeartbeats 2000000 in
theorem linksBack_calls {w : World} {A D : Option Addr} {n c m d : Nat} {ms : List (List Int)} {ars : List PArc} (_ : Lists w A n c ms) (g : Arcs w D m d ars) (hn : n ≤ 5864062014634) (hm : m ≤ 5864062014634) (hin : ∀ (k : Nat) (a : PArc), ars[k]? = some a → 0 ≤ a.to_ ∧ a.to_ < (n : Int)) :
    Calls Try.prog 111 #[.agg #[.slice A n c, .slice D m d], .bool true] w (AnsLink (linkL PArc.to_ PArc.from_ ars n) n w) := by
  have HB := hide2 (boxBelow w (.cells #[.slice A n c, .slice D m d] 107))
  have HIN := hide2 hin
  clear hin
  go_enter Try.func111, Try.ntmps111
  go_upto_region 1 with fail
  generalize hw0 : w.alloc (.cells #[.slice A n c, .slice D m d] 107) = w0
  have D0 := hide2 (show Below w.heap.size w w0 by rw [← hw0]; exact HB.out)
  have X0 := hide2 (show Box w0 w.heap.size 107 #[.slice A n c, .slice D m d] by rw [← hw0]; exact Box.new _ _ _)
  have G := hide2 (Sl.keep ArcR.kept g D0.out)
  have hms := g.small
  clear hw0 g
  obtain ⟨c0, c1⟩ := X0.out.two
  go_upto_region 3 with (at_make; refine wpList_mk Try.underlying54 infoListInt rfl rfl _ _ rfl n rfl rfl rfl rfl (by omega) (by omega) (Below.refl w0.heap.size w0) (Nat.le_refl _) ?_; intro w2 own2 hg2 hb2; have L2 := hide2 (LinkW.made own2); have B2 := hide2 hb2; have gg := hide2 L2.out.lt; have c1' := (X0.out.keep B2.out).two.2; clear own2 hg2 hb2)
  clear c0 c1
  go_loopw [17] (fun v wr => ∃ k : Nat, k ≤ m ∧ v = .int .i64 k ∧ Hid (LinkW wr w0.heap.size w0.heap.size n (linkL PArc.to_ PArc.from_ (ars.take k) n)) ∧ Hid (Below w0.heap.size w0 wr)) (fun v _ => m - (intOf v).toNat)
  case atStart => exact ⟨0, Nat.zero_le _, rfl, hide2 (by rw [List.take_zero, linkL_nil]; exact L2.out), B2⟩
  case round =>
    obtain ⟨k, hk, rfl, LW, BR⟩ := hrel
    by_cases hlt : k < m
    · have hki : (k : Int) < (m : Int) := by omega
      obtain ⟨bl, off, a, rfl, hbl, ha, q0, q1, q2, _⟩ := Arcs.get (Sl.keep ArcR.kept G.out BR.out) hlt
      have bb := boxBelow wr (.cells #[.int .i64 a.from_, .int .i64 a.tran, .int .i64 a.to_] 130)
      have WA := hide2 (Box.new wr #[.int .i64 a.from_, .int .i64 a.tran, .int .i64 a.to_] 130)
      have BW := hide2 (BR.out.trans (bb.mono BR.out.size))
      have LX := hide2 (LW.out.keep bb)
      go_upto_region 5 with fail
      clear bb q0 q1 q2 BR LW
      generalize wr.alloc (.cells #[.int .i64 a.from_, .int .i64 a.tran, .int .i64 a.to_] 130) = u0 at *
      generalize wr.heap.size = bx at *
      obtain ⟨t0, t1, t2⟩ := WA.out.three
      obtain ⟨hi0, hi1⟩ := HIN.out k a ha.out
      obtain ⟨i, hi⟩ : ∃ i : Nat, a.to_ = (i : Int) := ⟨a.to_.toNat, by omega⟩
      have hin : i < n := by omega
      have hii : (i : Int) < (n : Int) := by omega
      have NX := hide2 (show linkL PArc.to_ PArc.from_ (ars.take (k + 1)) n = (linkL PArc.to_ PArc.from_ (ars.take k) n).set i (linkAt PArc.to_ PArc.from_ (ars.take k) (i : Int) ++ [a.from_]) by rw [take_snoc ha.out]; exact linkL_snoc hi)
      have hlen : (linkAt PArc.to_ PArc.from_ (ars.take k) (i : Int)).length ≤ k := Nat.le_trans (linkAt_len _ _ _ _) (by rw [List.length_take]; omega)
      obtain ⟨y, hy⟩ : ∃ y, a.from_ = y := ⟨_, rfl⟩
      rw [hi] at t2
      rw [hy] at t0
      rw [hy] at NX
      clear hi0 hi1 hi hy
      go_wp2
      go_quiet (fail)
      clear t0 t1 t2
      have LD := hide2 (LX.out.keep (Drew.drewN u0 nq).below)
      have BE := hide2 (BW.out.trans ((Drew.drewN u0 nq).below.mono BW.out.size))
      generalize u0.drewN nq = u1 at *
      obtain ⟨v, x, hx, hc, ov⟩ := LD.out.get hin
      obtain rfl : x = linkAt PArc.to_ PArc.from_ (ars.take k) (i : Int) := by
        have h := linkL_get (key := PArc.to_) (val := PArc.from_) (ars := ars.take k) hin
        rw [h] at hx
        injection hx with hx
        exact hx.symm
      have HX := hide2 hx
      have OV := hide2 ov
      generalize linkAt PArc.to_ PArc.from_ (ars.take k) (i : Int) = z at *
      have HC := hide2 hc
      clear ov hx LX BW
      go_wp2_with (at_builtin; refine wpList_appLies tyInts rfl _ _ rfl [y] #[.int .i64 y] rfl rfl (by first | rfl | simp) rfl (by omega) (by simp [Value.oneCell']) OV.out (Reads.one (vs := fun _ => .int .i64 y) rfl rfl (fun j hj => (by obtain rfl : j = 0 := (by omega); rfl))) rfl BE.out BE.out.size (by omega) (by omega) (fun _ _ _ _ h => h) ?_; intro g' cap w5 own5 hg5 hb5 lies5; obtain ⟨p1, p2, p3⟩ := LD.out.put HX.out HC.out hg5 own5 lies5; have P3 := hide2 p3; have B5 := hide2 hb5; clear own5 hg5 hb5 lies5 p3 hc)
      go_roundw
      case rel => exact ⟨k + 1, by omega, by go_num, hide2 (by rw [NX.out]; exact P3.out), hide2 (B5.out.setCell (Nat.le_refl _) _)⟩
      case measure => simp [intOf]; omega
    · obtain rfl : k = m := by omega
      have LF := hide2 (show LinkW wr w.heap.size w0.heap.size n (linkL PArc.to_ PArc.from_ ars n) by
        have := LW.out.base D0.out.size
        rwa [List.take_of_length_le (by rw [G.out.len]; exact Nat.le_refl _)] at this)
      go_wp2
      go_ret
      exact ⟨_, rfl, LF.out, D0.out.trans (BR.out.mono D0.out.size)⟩

set_option maxRecDepth 100000 in
set_option maxHeartbeats 2000000 in
theorem linksOn_calls {w : World} {A D : Option Addr} {n c m d : Nat} {ms : List (List Int)} {ars : List PArc} (_ : Lists w A n c ms) (g : Arcs w D m d ars) (hn : n ≤ 5864062014634) (hm : m ≤ 5864062014634) (hin : ∀ (k : Nat) (a : PArc), ars[k]? = some a → 0 ≤ a.from_ ∧ a.from_ < (n : Int)) :
    Calls Try.prog 111 #[.agg #[.slice A n c, .slice D m d], .bool false] w (AnsLink (linkL PArc.from_ PArc.to_ ars n) n w) := by
  have HB := hide2 (boxBelow w (.cells #[.slice A n c, .slice D m d] 107))
  have HIN := hide2 hin
  clear hin
  go_enter Try.func111, Try.ntmps111
  go_upto_region 1 with fail
  generalize hw0 : w.alloc (.cells #[.slice A n c, .slice D m d] 107) = w0
  have D0 := hide2 (show Below w.heap.size w w0 by rw [← hw0]; exact HB.out)
  have X0 := hide2 (show Box w0 w.heap.size 107 #[.slice A n c, .slice D m d] by rw [← hw0]; exact Box.new _ _ _)
  have G := hide2 (Sl.keep ArcR.kept g D0.out)
  have hms := g.small
  clear hw0 g
  obtain ⟨c0, c1⟩ := X0.out.two
  go_upto_region 3 with (at_make; refine wpList_mk Try.underlying54 infoListInt rfl rfl _ _ rfl n rfl rfl rfl rfl (by omega) (by omega) (Below.refl w0.heap.size w0) (Nat.le_refl _) ?_; intro w2 own2 hg2 hb2; have L2 := hide2 (LinkW.made own2); have B2 := hide2 hb2; have gg := hide2 L2.out.lt; have c1' := (X0.out.keep B2.out).two.2; clear own2 hg2 hb2)
  clear c0 c1
  go_loopw [17] (fun v wr => ∃ k : Nat, k ≤ m ∧ v = .int .i64 k ∧ Hid (LinkW wr w0.heap.size w0.heap.size n (linkL PArc.from_ PArc.to_ (ars.take k) n)) ∧ Hid (Below w0.heap.size w0 wr)) (fun v _ => m - (intOf v).toNat)
  case atStart => exact ⟨0, Nat.zero_le _, rfl, hide2 (by rw [List.take_zero, linkL_nil]; exact L2.out), B2⟩
  case round =>
    obtain ⟨k, hk, rfl, LW, BR⟩ := hrel
    by_cases hlt : k < m
    · have hki : (k : Int) < (m : Int) := by omega
      obtain ⟨bl, off, a, rfl, hbl, ha, q0, q1, q2, _⟩ := Arcs.get (Sl.keep ArcR.kept G.out BR.out) hlt
      have bb := boxBelow wr (.cells #[.int .i64 a.from_, .int .i64 a.tran, .int .i64 a.to_] 130)
      have WA := hide2 (Box.new wr #[.int .i64 a.from_, .int .i64 a.tran, .int .i64 a.to_] 130)
      have BW := hide2 (BR.out.trans (bb.mono BR.out.size))
      have LX := hide2 (LW.out.keep bb)
      go_upto_region 5 with fail
      clear bb q0 q1 q2 BR LW
      generalize wr.alloc (.cells #[.int .i64 a.from_, .int .i64 a.tran, .int .i64 a.to_] 130) = u0 at *
      generalize wr.heap.size = bx at *
      obtain ⟨t0, t1, t2⟩ := WA.out.three
      obtain ⟨hi0, hi1⟩ := HIN.out k a ha.out
      obtain ⟨i, hi⟩ : ∃ i : Nat, a.from_ = (i : Int) := ⟨a.from_.toNat, by omega⟩
      have hin : i < n := by omega
      have hii : (i : Int) < (n : Int) := by omega
      have NX := hide2 (show linkL PArc.from_ PArc.to_ (ars.take (k + 1)) n = (linkL PArc.from_ PArc.to_ (ars.take k) n).set i (linkAt PArc.from_ PArc.to_ (ars.take k) (i : Int) ++ [a.to_]) by rw [take_snoc ha.out]; exact linkL_snoc hi)
      have hlen : (linkAt PArc.from_ PArc.to_ (ars.take k) (i : Int)).length ≤ k := Nat.le_trans (linkAt_len _ _ _ _) (by rw [List.length_take]; omega)
      obtain ⟨y, hy⟩ : ∃ y, a.to_ = y := ⟨_, rfl⟩
      rw [hi] at t0
      rw [hy] at t2
      rw [hy] at NX
      clear hi0 hi1 hi hy
      go_wp2
      go_quiet (fail)
      clear t0 t1 t2
      have LD := hide2 (LX.out.keep (Drew.drewN u0 nq).below)
      have BE := hide2 (BW.out.trans ((Drew.drewN u0 nq).below.mono BW.out.size))
      generalize u0.drewN nq = u1 at *
      obtain ⟨v, x, hx, hc, ov⟩ := LD.out.get hin
      obtain rfl : x = linkAt PArc.from_ PArc.to_ (ars.take k) (i : Int) := by
        have h := linkL_get (key := PArc.from_) (val := PArc.to_) (ars := ars.take k) hin
        rw [h] at hx
        injection hx with hx
        exact hx.symm
      have HX := hide2 hx
      have OV := hide2 ov
      generalize linkAt PArc.from_ PArc.to_ (ars.take k) (i : Int) = z at *
      have HC := hide2 hc
      clear ov hx LX BW
      go_wp2_with (at_builtin; refine wpList_appLies tyInts rfl _ _ rfl [y] #[.int .i64 y] rfl rfl (by first | rfl | simp) rfl (by omega) (by simp [Value.oneCell']) OV.out (Reads.one (vs := fun _ => .int .i64 y) rfl rfl (fun j hj => (by obtain rfl : j = 0 := (by omega); rfl))) rfl BE.out BE.out.size (by omega) (by omega) (fun _ _ _ _ h => h) ?_; intro g' cap w5 own5 hg5 hb5 lies5; obtain ⟨p1, p2, p3⟩ := LD.out.put HX.out HC.out hg5 own5 lies5; have P3 := hide2 p3; have B5 := hide2 hb5; clear own5 hg5 hb5 lies5 p3 hc)
      go_roundw
      case rel => exact ⟨k + 1, by omega, by go_num, hide2 (by rw [NX.out]; exact P3.out), hide2 (B5.out.setCell (Nat.le_refl _) _)⟩
      case measure => simp [intOf]; omega
    · obtain rfl : k = m := by omega
      have LF := hide2 (show LinkW wr w.heap.size w0.heap.size n (linkL PArc.from_ PArc.to_ ars n) by
        have := LW.out.base D0.out.size
        rwa [List.take_of_length_le (by rw [G.out.len]; exact Nat.le_refl _)] at this)
      go_wp2
      go_ret
      exact ⟨_, rfl, LF.out, D0.out.trans (BR.out.mono D0.out.size)⟩
end Go.Proofs.Ytnfppolgaeibeaa
namespace Go.Proofs.Ytnfppolgaeibeaa
open Go.RowKit

def nxt (ars : List PArc) (k : Int) : List Int := linkAt PArc.to_ PArc.from_ ars k
def Inn (n : Nat) (x : Int) : Prop := 0 ≤ x ∧ x < (n : Int)
theorem nxt_in {ars : List PArc} {n : Nat} (h : ∀ a ∈ ars, Inn n a.from_) {k z : Int} (hz : z ∈ nxt ars k) : Inn n z := by
  obtain ⟨a, ha, rfl⟩ := List.mem_map.1 hz
  exact h a (List.mem_filter.1 ha).1

structure SpI (ars : List PArc) (n : Nat) (src : List Int) (bs : List Bool) (todo : List Int) : Prop where
  len : bs.length = n
  had : ∀ k : Nat, bs[k]? = some true → ∃ s ∈ src, Reach (nxt ars) s (k : Int)
  due : ∀ x ∈ todo, Inn n x ∧ ∃ s ∈ src, Reach (nxt ars) s x
  from_ : ∀ s ∈ src, s ∈ todo ∨ bs[s.toNat]? = some true
  next : ∀ k : Nat, bs[k]? = some true → ∀ z ∈ nxt ars (k : Int), z ∈ todo ∨ bs[z.toNat]? = some true
section
variable {ars : List PArc} {n : Nat} {src todo : List Int} {bs : List Bool} {x : Int}
theorem SpI.start (h : ∀ s ∈ src, Inn n s) : SpI ars n src (List.replicate n false) src where
  len := by simp
  had := fun k hk => by
    obtain ⟨hl, e⟩ := List.getElem?_eq_some_iff.1 hk
    rw [List.getElem_replicate] at e
    cases e
  due := fun x hx => ⟨h x hx, x, hx, .refl _⟩
  from_ := fun s hs => .inl hs
  next := fun k hk => by
    obtain ⟨hl, e⟩ := List.getElem?_eq_some_iff.1 hk
    rw [List.getElem_replicate] at e
    cases e
theorem SpI.skip (h : SpI ars n src bs (todo ++ [x])) (hx : bs[x.toNat]? = some true) : SpI ars n src bs todo where
  len := h.len
  had := h.had
  due := fun y hy => h.due y (List.mem_append_left _ hy)
  from_ := fun s hs => by
    rcases h.from_ s hs with a | a
    · rcases List.mem_append.1 a with b | b
      · exact .inl b
      · rw [List.mem_singleton.1 b]; exact .inr hx
    · exact .inr a
  next := fun k hk z hz => by
    rcases h.next k hk z hz with a | a
    · rcases List.mem_append.1 a with b | b
      · exact .inl b
      · rw [List.mem_singleton.1 b]; exact .inr hx
    · exact .inr a
theorem SpI.take (h : SpI ars n src bs (todo ++ [x])) (ha : ∀ a ∈ ars, Inn n a.from_) : SpI ars n src (bs.set x.toNat true) (todo ++ nxt ars x) := by
  obtain ⟨hxn, s0, hs0, hr0⟩ := h.due x (List.mem_append_right _ (List.mem_singleton.2 rfl))
  have hxl : x.toNat < bs.length := by have := h.len; have := hxn.1; have := hxn.2; omega
  have hset : (bs.set x.toNat true)[x.toNat]? = some true := List.getElem?_set_self hxl
  have hmore : ∀ j : Nat, bs[j]? = some true → (bs.set x.toNat true)[j]? = some true := fun j hj => by
    by_cases e : x.toNat = j
    · subst e; exact hset
    · rw [List.getElem?_set_ne e]; exact hj
  have hback : ∀ j : Nat, (bs.set x.toNat true)[j]? = some true → (j : Int) = x ∨ bs[j]? = some true := fun j hj => by
    by_cases e : x.toNat = j
    · left; have := hxn.1; omega
    · rw [List.getElem?_set_ne e] at hj; exact .inr hj
  have hmove : ∀ z : Int, z ∈ todo ++ [x] ∨ bs[z.toNat]? = some true → z ∈ todo ++ nxt ars x ∨ (bs.set x.toNat true)[z.toNat]? = some true := fun z hz => by
    rcases hz with a | a
    · rcases List.mem_append.1 a with b | b
      · exact .inl (List.mem_append_left _ b)
      · rw [List.mem_singleton.1 b]; exact .inr hset
    · exact .inr (hmore _ a)
  refine ⟨by rw [List.length_set]; exact h.len, fun k hk => ?_, fun y hy => ?_, fun s hs => hmove s (h.from_ s hs), fun k hk z hz => ?_⟩
  · rcases hback k hk with e | e
    · rw [e]; exact ⟨s0, hs0, hr0⟩
    · exact h.had k e
  · rcases List.mem_append.1 hy with b | b
    · exact h.due y (List.mem_append_left _ b)
    · exact ⟨nxt_in ha b, s0, hs0, hr0.last b⟩
  · rcases hback k hk with e | e
    · rw [e] at hz; exact .inl (List.mem_append_right _ hz)
    · exact hmove z (h.next k e z hz)
theorem SpI.done (h : SpI ars n src bs []) (hs : ∀ s ∈ src, Inn n s) (ha : ∀ a ∈ ars, Inn n a.from_) (k : Nat) (_ : k < n) : bs[k]? = some true ↔ ∃ s ∈ src, Reach (nxt ars) s (k : Int) := by
  refine ⟨h.had k, fun ⟨s, h1, h2⟩ => ?_⟩
  have hc : ∀ y : Int, (Inn n y ∧ bs[y.toNat]? = some true) → ∀ z ∈ nxt ars y, (Inn n z ∧ bs[z.toNat]? = some true) := fun y hy z hz => by
    refine ⟨nxt_in ha hz, ?_⟩
    rcases h.next y.toNat hy.2 z (by rw [Int.toNat_of_nonneg hy.1.1]; exact hz) with a | a
    · simp at a
    · exact a
  have := (h2.closedP hc ⟨hs s h1, by
    rcases h.from_ s h1 with a | a
    · simp at a
    · exact a⟩).2
  simpa using this
end

/-! ### how much is to do -/
def restV : List Bool → List (List Int) → Nat
  | b :: bs, l :: ls => (if b = true then 0 else l.length) + restV bs ls
  | _, _ => 0
theorem restL_set : ∀ (bs : List Bool) (ls : List (List Int)) (k : Nat) (l : List Int), bs[k]? = some false → ls[k]? = some l → restV (bs.set k true) ls + l.length = restV bs ls
  | b :: bs, m :: ls, 0, l, hb, hl => by
    simp only [List.getElem?_cons_zero, Option.some.injEq] at hb hl
    subst hb hl
    simp [restV]; omega
  | b :: bs, m :: ls, k + 1, l, hb, hl => by
    simp only [List.getElem?_cons_succ] at hb hl
    have := restL_set bs ls k l hb hl
    simp only [List.set_cons_succ, restV]
    omega
  | [], _, _, _, hb, _ => by simp at hb
  | _ :: _, [], _, _, _, hl => by simp at hl
def totL : List (List Int) → Nat
  | [] => 0
  | l :: ls => l.length + totL ls
theorem restL_tot : ∀ (bs : List Bool) (ls : List (List Int)), restV bs ls ≤ totL ls
  | [], ls => by simp [restV]
  | b :: bs, [] => by simp [restV]
  | b :: bs, l :: ls => by
    have := restL_tot bs ls
    simp only [restV, totL]
    split <;> omega
theorem totL_set : ∀ (ls : List (List Int)) (k : Nat) (l : List Int) (y : Int), ls[k]? = some l → totL (ls.set k (l ++ [y])) = totL ls + 1
  | m :: ls, 0, l, y, hl => by
    simp only [List.getElem?_cons_zero, Option.some.injEq] at hl
    subst hl
    simp [totL]; omega
  | m :: ls, k + 1, l, y, hl => by
    simp only [List.getElem?_cons_succ] at hl
    have := totL_set ls k l y hl
    simp only [List.set_cons_succ, totL]
    omega
  | [], _, _, _, hl => by simp at hl
theorem totL_nil : ∀ n, totL (List.replicate n ([] : List Int)) = 0
  | 0 => rfl
  | n + 1 => by rw [List.replicate_succ]; simp [totL, totL_nil n]
theorem totL_link {key val : PArc → Int} {n : Nat} (ars : List PArc) (h : ∀ a ∈ ars, Inn n (key a)) : ∀ k, k ≤ ars.length → totL (linkL key val (ars.take k) n) = k
  | 0, _ => by rw [List.take_zero, linkL_nil, totL_nil]
  | k + 1, hk => by
    have hg : ars[k]? = some (ars[k]'(by omega)) := List.getElem?_eq_getElem _
    have hin := h _ (List.mem_of_getElem? hg)
    obtain ⟨i, hi⟩ : ∃ i : Nat, key (ars[k]'(by omega)) = (i : Int) := ⟨_, (Int.toNat_of_nonneg hin.1).symm⟩
    have hii : i < n := by have := hin.2; omega
    rw [take_snoc hg, linkL_snoc hi, totL_set _ _ _ _ (linkL_get hii), totL_link ars h k (by omega)]
/-- What is to do still, as the world shows it. -/
def phiW (w : World) (g : Nat) : Nat → List (List Int) → Nat
  | _, [] => 0
  | j, l :: ls => (match w.cell? ⟨g, j, none⟩ with
    | some (.bool true) => 0
    | _ => l.length) + phiW w g (j + 1) ls
theorem phiW_rest (w : World) (g : Nat) : ∀ (j : Nat) (bs : List Bool) (ls : List (List Int)), bs.length = ls.length → (∀ (i : Nat) (b : Bool), bs[i]? = some b → w.cell? ⟨g, j + i, none⟩ = some (.bool b)) → phiW w g j ls = restV bs ls
  | _, [], [], _, _ => rfl
  | _, [], _ :: _, hl, _ => by simp at hl
  | _, _ :: _, [], hl, _ => by simp at hl
  | j, b :: bs, l :: ls, hl, h => by
    have h0 := h 0 b rfl
    rw [Nat.add_zero] at h0
    have ih := phiW_rest w g (j + 1) bs ls (by simpa using hl) (fun i c hc => by rw [Nat.add_assoc, Nat.add_comm 1 i]; exact h (i + 1) c hc)
    unfold phiW restV
    rw [h0, ih]
    cases b <;> rfl
open Classical in
noncomputable def spreadL (ars : List PArc) (n : Nat) (src : List Int) : List Bool := (List.range n).map fun (k : Nat) => decide (∃ s ∈ src, Reach (nxt ars) s (k : Int))
theorem SpI.list {ars : List PArc} {n : Nat} {src : List Int} {bs : List Bool} (h : SpI ars n src bs []) (hs : ∀ s ∈ src, Inn n s) (ha : ∀ a ∈ ars, Inn n a.from_) : bs = spreadL ars n src := by
  apply List.ext_getElem (by rw [h.len]; simp [spreadL])
  intro k h1 h2
  have hk : k < n := by have := h.len; omega
  have hd := h.done hs ha k hk
  rw [List.getElem?_eq_getElem h1, Option.some.injEq] at hd
  rw [Bool.eq_iff_iff, hd]
  simp [spreadL]
end Go.Proofs.Ytnfppolgaeibeaa
namespace Go.Proofs.Ytnfppolgaeibeaa
open Go.RowKit

theorem nil_or_snoc {α : Type} (l : List α) : l = [] ∨ ∃ L b, l = L ++ [b] := by
  rcases List.eq_nil_or_concat l with h | ⟨L, b, h⟩
  · exact .inl h
  · exact .inr ⟨L, b, by rw [h, List.concat_eq_append]⟩
def lenOf : Value → Nat
  | .slice _ n _ => n
  | _ => 0
theorem OwnInts.init {w : World} {B g n cap : Nat} {xs : List Int} {y : Int} (h : OwnInts w B (.slice (some ⟨g, 0, none⟩) (n + 1) cap) (n + 1) (xs ++ [y])) : OwnInts w B (.slice (some ⟨g, 0, none⟩) n cap) n xs := by
  have hl : xs.length = n := by have := h.len; simpa using this
  have hr := h.row
  refine OwnInts.of_row ⟨by simp [hl], ?_⟩
  rcases hr.2 with ⟨e, _⟩ | ⟨g', cap', cur, e, h1, h2, h3, h4, h5, h6⟩
  · cases e
  · injection e with e1 e2 e3
    subst e3
    injection e1 with e1
    injection e1 with e1
    subst e1
    refine .inr ⟨_, _, cur, rfl, h1, h2, by omega, h4, h5, ?_⟩
    have : cur.toList.take (n * 1) = (cur.toList.take ((n + 1) * 1)).take (n * 1) := by
      rw [List.take_take]
      congr 1
      omega
    rw [this, h6, List.map_append]
    rw [List.take_append_of_le_length (by simp [hl])]
    exact List.take_of_length_le (by simp [hl])
def OwnBools (w : World) (B g n : Nat) (bs : List Bool) : Prop := w.ownsRow B 4 1 (.slice (some ⟨g, 0, none⟩) n n) n (bs.map Value.bool)
section
variable {w w' : World} {B g n : Nat} {bs : List Bool}
theorem OwnBools.len (h : OwnBools w B g n bs) : bs.length = n := by have := h.1; simpa using this
theorem OwnBools.lt (h : OwnBools w B g n bs) : B ≤ g ∧ g < w.heap.size := World.ownsRow.lt h g rfl
theorem OwnBools.at (h : OwnBools w B g n bs) {k : Nat} {b : Bool} (hk : bs[k]? = some b) : w.cell? ⟨g, k, none⟩ = some (.bool b) := by
  have hl := (List.getElem?_eq_some_iff.1 hk).1
  have := h.len
  rw [World.ownsRow.cellAt h k (by omega), List.getElem?_map, hk]; rfl
theorem OwnBools.frozen (h : OwnBools w B g n bs) (k : Nat) : w.frozen? ⟨g, k, none⟩ = false := World.ownsRow.frozenAt h k
theorem OwnBools.keep (h : OwnBools w B g n bs) (hb : Below w.heap.size w w') : OwnBools w' B g n bs :=
  World.ownsRow.kept h (row := none) ⟨hb.os, hb.tape, hb.output, hb.size, fun k hk _ => hb.block k hk⟩ (.inr (by simp [Value.ownBlock]))
theorem OwnBools.put (h : OwnBools w B g n bs) (k : Nat) (b : Bool) : OwnBools (w.setCell ⟨g, k, none⟩ (.bool b)) B g n (bs.set k b) := by
  have := (World.ownsRow.stored h k (.bool b)).1
  rw [← List.map_set] at this
  exact this
theorem OwnBools.grown (h : OwnBools w B g n bs) {B2 m : Nat} {v : Value} {xs : List Int} (own : OwnInts w B2 v m xs) (hg : w.grownBy w' v.ownBlock) : OwnBools w' B g n bs := by
  refine World.ownsRow.kept h hg ?_
  obtain ⟨cs, b1, _⟩ := own
  rcases own_ne b1 h (by decide) with e | e
  · exact .inr (by rw [e]; simp [Value.ownBlock])
  · exact .inr (fun e2 => e e2.symm)
theorem OwnBools.phi (h : OwnBools w B g n bs) {ls : List (List Int)} (hl : ls.length = n) : phiW w g 0 ls = restV bs ls :=
  phiW_rest w g 0 bs ls (by rw [h.len, hl]) (fun i b hb => by rw [Nat.zero_add]; exact h.at hb)
theorem OwnBools.besideInts (h : OwnBools w B g n bs) {B2 m : Nat} {v : Value} {xs : List Int} (own : OwnInts w B2 v m xs) (k : Nat) (u : Value) : OwnInts (w.setCell ⟨g, k, none⟩ u) B2 v m xs := by
  refine OwnInts.of_row (ownsRow_setCell_other own.row ?_ _)
  obtain ⟨cs, b1, _⟩ := own
  rcases own_ne b1 h (by decide) with e | e
  · rw [e]; simp
  · exact e
end
def AnsBs (bs : List Bool) (n : Nat) (w : World) (e : Ending) (w' : World) : Prop := ∃ g, e = .returned (.slice (some ⟨g, 0, none⟩) n n) ∧ OwnBools w' w.heap.size g n bs ∧ Below w.heap.size w w'

set_option maxRecDepth 100000 in
set_option maxHeartbeats 2000000 in
theorem spread_calls {w : World} {A D : Option Addr} {n c m d : Nat} {src : List Int} {ars : List PArc} (h : Lists w A n c (linkL PArc.to_ PArc.from_ ars n)) (g : Ints w D m d src) (hn : n ≤ 5864062014634) (ham : ars.length ≤ 5864062014634) (hm : m ≤ 5864062014634)
    (hs : ∀ s ∈ src, Inn n s) (ha : ∀ a ∈ ars, Inn n a.from_) (hto : ∀ a ∈ ars, Inn n a.to_) :
    Calls Try.prog 110 #[.slice A n c, .slice D m d] w (AnsBs (spreadL ars n src) n w) := by
  have H := hide2 h
  have G := hide2 g
  have HS := hide2 hs
  have HA := hide2 ha
  have TOT := hide2 (show totL (linkL PArc.to_ PArc.from_ ars n) ≤ 5864062014634 by
    have := totL_link (n := n) (val := PArc.from_) ars hto ars.length (Nat.le_refl _)
    rw [List.take_of_length_le (Nat.le_refl _)] at this
    omega)
  clear h g hs ha hto ham
  go_enter Try.func110, Try.ntmps110
  go_upto_region 2 with (at_make; refine wpList_mk Try.underlying96 infoBool rfl rfl _ _ rfl n rfl rfl rfl rfl (by omega) (by omega) (Below.refl w.heap.size w) (Nat.le_refl _) ?_; intro w1 own1 hg1 hb1; have OB := hide2 (show OwnBools w1 w.heap.size w.heap.size n (List.replicate n false) by unfold OwnBools; rw [List.map_replicate]; exact own1); have B1 := hide2 hb1; clear own1 hg1 hb1)
  go_wp2_with (refine (cloneInts_calls (G.out.keep B1.out) (by omega)).mono ?_; rintro e w2 ⟨v2, rfl, O2, b2⟩; have OW := hide2 (show OwnInts w2 w.heap.size v2 src.length src by rw [G.out.len]; exact O2.base B1.out.size); have OB2 := hide2 (OB.out.keep b2); have B2 := hide2 (B1.out.trans (b2.mono B1.out.size)); clear O2 b2)
  go_loopw [6] (fun v wr => ∃ (bs : List Bool) (todo : List Int), Hid (OwnInts wr w.heap.size v todo.length todo) ∧ Hid (OwnBools wr w.heap.size w.heap.size n bs) ∧ Hid (SpI ars n src bs todo) ∧ Hid (Below w.heap.size w wr) ∧ Hid (todo.length + restV bs (linkL PArc.to_ PArc.from_ ars n) ≤ 11728124029268)) (fun v wr => lenOf v + phiW wr w.heap.size 0 (linkL PArc.to_ PArc.from_ ars n))
  case atStart => exact ⟨_, _, OW, OB2, SpI.start HS.out, B2, hide2 (by have := restL_tot (List.replicate n false) (linkL PArc.to_ PArc.from_ ars n); have := TOT.out; have := G.out.len; omega)⟩
  case round =>
    obtain ⟨bs, todo, OI, OBr, SP, BR, PH⟩ := hrel
    rcases nil_or_snoc todo with rfl | ⟨todo, x, rfl⟩
    · obtain ⟨Au, cu, hu, _⟩ := OI.out.sl (by simp)
      subst hu
      have FN := hide2 (SP.out.list HS.out HA.out)
      go_wp2
      go_ret
      exact ⟨_, rfl, by rw [← FN.out]; exact OBr.out, BR.out⟩
    · obtain ⟨g2, cap, rfl, hlo, hhi⟩ := OI.out.form (by simp)
      obtain ⟨k, hk⟩ : ∃ k, todo.length = k := ⟨_, rfl⟩
      have OJ := OI.out
      have PJ := PH.out
      rw [show (todo ++ [x]).length = k + 1 by simp [hk]] at OJ PJ
      rw [show (todo ++ [x]).length = k + 1 by simp [hk]]
      have PJ2 := hide2 PJ
      have hcap := hide2 OJ
      have cx := OJ.at (j := k) (x := x) (by rw [← hk]; simp)
      obtain ⟨⟨hx0, hx1⟩, _⟩ := SP.out.due x (List.mem_append_right _ (List.mem_singleton.2 rfl))
      obtain ⟨q, rfl⟩ : ∃ q : Nat, x = (q : Int) := ⟨x.toNat, by omega⟩
      have hq : q < n := by omega
      obtain ⟨b, hb⟩ : ∃ b, bs[q]? = some b := ⟨_, List.getElem?_eq_getElem (by rw [SP.out.len]; exact hq)⟩
      have cb := OBr.out.at hb
      have fb := OBr.out.frozen q
      have HB := hide2 hb
      have hk1 : k ≤ 11728124029268 := by omega
      have hle := (OJ.ints (by omega)).le
      have hkc : k ≤ cap := by omega
      have hkc1 : (k : Int) ≤ (cap : Int) := by omega
      have hkc0 : ¬ cap = 0 := by omega
      clear OJ PJ hb OI PH hx0
      cases b
      · have B3' : Below w.heap.size w (wr.setCell ⟨w.heap.size, q, none⟩ (.bool true)) := BR.out.setCell (Nat.le_refl _) _
        have OB3' := OBr.out.put q true
        have OI3' := OBr.out.besideInts hcap.out.init q (.bool true)
        have PHI := hide2 (OBr.out.phi (linkL_length PArc.to_ PArc.from_ ars n))
        go_upto_region 8 with fail
        generalize wr.setCell ⟨w.heap.size, q, none⟩ (.bool true) = w3 at *
        have B3 := hide2 B3'
        have OB3 := hide2 OB3'
        have OI3 := hide2 OI3'
        clear B3' OB3' OI3' cx fb cb
        obtain ⟨bl, off, l, Bl, ml, dl, rfl, hbl, hl, hc, il, hml⟩ := Lists.get (Sl.keep ListR.kept H.out B3.out) hq
        have IL := hide2 il
        have RS := hide2 (restL_set bs _ q l HB.out hl.out)
        have hll := il.len
        have hle2 : k + ml ≤ 17592186044416 := by have := RS.out; have := PJ2.out; omega
        have HL := hide2 (show l = nxt ars (q : Int) by
          have h1 := hl.out
          rw [linkL_get hq] at h1
          injection h1 with h1
          exact h1.symm)
        clear il
        go_wp2_with (at_builtin; refine wpList_appOwn rfl _ _ rfl rfl rfl OI3.out IL.out B3.out.size hle2 B3.out (Nat.le_refl _) ?_; intro v4 w4 own4 hg4 hb4 _; obtain ⟨A4, c4, rfl, _⟩ := own4.sl (by omega); have OI4 := hide2 own4; have OB4 := hide2 (OB3.out.grown OI3.out hg4); have B4 := hide2 hb4; clear own4 hg4 hb4)
        go_roundw
        case rel =>
          refine ⟨_, todo ++ l, hide2 ?_, OB4, hide2 ?_, B4, hide2 ?_⟩
          · rw [List.length_append, hk, hll]; exact OI4.out
          · rw [HL.out]; exact SP.out.take HA.out
          · rw [List.length_append, hk]; have := RS.out; have := PJ2.out; omega
        case measure =>
          rw [OB4.out.phi (linkL_length _ _ _ _), PHI.out]
          show k + ml + _ < k + 1 + _
          have := RS.out
          omega
      · have OI3 := hide2 hcap.out.init
        go_wp2
        go_roundw
        case rel => exact ⟨bs, todo, hide2 (by rw [hk]; exact OI3.out), OBr, SP.out.skip HB.out, BR, hide2 (by rw [hk]; have := PJ2.out; omega)⟩
        case measure =>
          show k + _ < k + 1 + _
          omega
end Go.Proofs.Ytnfppolgaeibeaa
namespace Go.Proofs.Ytnfppolgaeibeaa
open Go.RowKit

abbrev BoolS (w : World) (g n : Nat) (bs : List Bool) : Prop := bs.length = n ∧ ∀ (k : Nat) (b : Bool), bs[k]? = some b → w.cell? ⟨g, k, none⟩ = some (.bool b)
theorem OwnBools.s {w : World} {B g n : Nat} {bs : List Bool} (h : OwnBools w B g n bs) : BoolS w g n bs := ⟨h.len, fun _ _ hb => h.at hb⟩

set_option maxRecDepth 100000 in
theorem indexBool_calls {w : World} {g n : Nat} {bs : List Bool} (x : Bool) (h : BoolS w g n bs) (hn : n ≤ 281474976710656) :
    Calls Try.prog 64 #[.slice (some ⟨g, 0, none⟩) n n, .bool x] w fun e w' => e = .returned (.int .i64 (idxFirst (fun y => x == y) bs)) ∧ w = w' := by
  have H := hide2 h
  clear h
  go_enter Try.func64, Try.ntmps64
  go_wp2
  go_loop [8] (fun v => ∃ k : Nat, k ≤ n ∧ v = .int .i64 k ∧ Hid (∀ j, j < k → ∀ y, bs[j]? = some y → (x == y) = false)) (fun v => n - (intOf v).toNat)
  case atStart => exact ⟨0, Nat.zero_le _, rfl, fun j hj => absurd hj (by omega)⟩
  case round =>
    obtain ⟨k, hk, rfl, lo⟩ := hrel
    by_cases hlt : k < n
    · have hki : (k : Int) < (n : Int) := by omega
      obtain ⟨y, hy0⟩ : ∃ y, bs[k]? = some y := ⟨_, List.getElem?_eq_getElem (by rw [H.out.1]; exact hlt)⟩
      have qy := H.out.2 k y hy0
      have hy := hide2 hy0
      clear hy0
      by_cases he : x = y
      · subst he
        go_wp2
        go_ret
        exact ⟨ret_int (idxFirst_some lo.out hy.out (by simp)).symm, rfl⟩
      · have hne : (x == y) = false := by simpa using he
        have HN := hide2 hne
        clear he
        go_wp2
        go_round
        case rel =>
          refine ⟨k + 1, by omega, by go_num, fun j hj z hz => ?_⟩
          by_cases hjk : j = k
          · subst hjk
            have := hy.out
            rw [hz] at this
            injection this with this
            rw [this]
            exact HN.out
          · exact lo.out j (by omega) z hz
        case measure => simp [intOf]; omega
    · go_wp2
      go_ret
      exact ⟨ret_int (idxFirst_none (fun j hj z hz => lo.out j (by have := H.out.1; omega) z hz)).symm, rfl⟩
/-! ### what is picked -/
def pickL (p : Nat → Bool) (N : Nat) : List Int := ((List.range N).filter p).map fun (t : Nat) => (t : Int)
theorem pickL_succ (p : Nat → Bool) (k : Nat) : pickL p (k + 1) = pickL p k ++ if p k = true then [(k : Int)] else [] := by
  unfold pickL
  rw [List.range_succ, List.filter_append, List.map_append]
  congr 1
  by_cases h : p k = true
  · rw [if_pos h]; simp only [List.filter, h, List.map]
  · rw [if_neg h]
    have h' : p k = false := by simpa using h
    simp only [List.filter, h', List.map]
theorem pickL_len (p : Nat → Bool) (k : Nat) : (pickL p k).length ≤ k := by
  unfold pickL
  rw [List.length_map]
  exact Nat.le_trans (List.length_filter_le _ _) (by simp)
theorem intsOne (w : World) (x : Int) : Ints (w.alloc (.cells #[.int .i64 x] 3)) (some ⟨w.heap.size, 0, none⟩) 1 1 [x] :=
  ⟨rfl, Nat.le_refl _, by simp [maxLen], by omega, fun h => (by cases h), fun _ => ⟨w.heap.size, 0, rfl, by simp, fun i y hy => by
    obtain rfl : i = 0 := by have := (List.getElem?_eq_some_iff.1 hy).1; simp at this; exact this
    simp only [List.getElem?_cons_zero, Option.some.injEq] at hy
    subst hy
    exact ⟨fun _ => .int .i64 x, fun j hj => (by obtain rfl : j = 0 := (by omega); exact (Box.new w #[.int .i64 x] 3).cell 0), rfl⟩⟩⟩
noncomputable def homeAt (ars : List PArc) (n k : Nat) : Bool := !(spreadL ars n [(k : Int)]).any fun y => false == y
noncomputable def homeL (ars : List PArc) (n : Nat) : List Int := if rightG n ars = true then pickL (homeAt ars n) n else []
theorem rightG_in {n : Nat} {ars : List PArc} (h : rightG n ars = true) : (∀ a ∈ ars, Inn n a.from_) ∧ (∀ a ∈ ars, Inn n a.to_) := by
  unfold rightG at h
  rw [Bool.not_eq_true', List.any_eq_false] at h
  have key : ∀ a ∈ ars, Inn n a.from_ ∧ Inn n a.to_ := fun a ha => by
    have := h a ha
    unfold arcBad at this
    simp only [Bool.or_eq_true, decide_eq_true_eq] at this
    unfold Inn
    omega
  exact ⟨fun a ha => (key a ha).1, fun a ha => (key a ha).2⟩

end Go.Proofs.Ytnfppolgaeibeaa
namespace Go.Proofs.Ytnfppolgaeibeaa
open Go.RowKit

noncomputable def liveAt (ars : List PArc) (n t : Nat) : Bool := !(spreadL ars n (linkAt PArc.tran PArc.from_ ars (t : Int))).any fun y => false == y
noncomputable def liveL (ars : List PArc) (n N : Nat) : List Int := if rightG n ars = true then pickL (liveAt ars n) N else []

end Go.Proofs.Ytnfppolgaeibeaa
namespace Go.Proofs.Ytnfppolgaeibeaa
open Go.RowKit

def at2 (M : List (List Bool)) (i j : Nat) : Option Bool := (M[i]?).bind fun r => r[j]?
/-- What holds of the rows of GReach all along. -/
structure MatI (ars : List PArc) (n : Nat) (M : List (List Bool)) : Prop where
  len : M.length = n
  row : ∀ (i : Nat) (r : List Bool), M[i]? = some r → r.length = n
  diag : ∀ i : Nat, i < n → at2 M i i = some true
  sound : ∀ i j : Nat, at2 M i j = some true → Reach (nxt ars) (j : Int) (i : Int)
def MatC (ars : List PArc) (M : List (List Bool)) : Prop := ∀ a ∈ ars, ∀ k : Nat, at2 M k a.from_.toNat = some true → at2 M k a.to_.toNat = some true
open Classical in
noncomputable def matRow (ars : List PArc) (n i : Nat) : List Bool := (List.range n).map fun (j : Nat) => decide (Reach (nxt ars) (j : Int) (i : Int))
noncomputable def matL (ars : List PArc) (n : Nat) : List (List Bool) := (List.range n).map fun (i : Nat) => matRow ars n i
theorem matL_row {ars : List PArc} {n i : Nat} (hi : i < n) : (matL ars n)[i]? = some (matRow ars n i) := by simp [matL, hi]
theorem matRow_len (ars : List PArc) (n i : Nat) : (matRow ars n i).length = n := by simp [matRow]
open Classical in
theorem matRow_get {ars : List PArc} {n i j : Nat} (hj : j < n) : (matRow ars n i)[j]? = some (decide (Reach (nxt ars) (j : Int) (i : Int))) := by simp [matRow, hj]
theorem mem_nxt {ars : List PArc} {a : PArc} (h : a ∈ ars) : a.from_ ∈ nxt ars a.to_ := List.mem_map.2 ⟨a, List.mem_filter.2 ⟨h, by simp⟩, rfl⟩
section
variable {ars : List PArc} {n : Nat} {M : List (List Bool)}
theorem MatI.full (h : MatI ars n M) (ha : ∀ a ∈ ars, Inn n a.from_) (hc : MatC ars M) {x z : Int} (hr : Reach (nxt ars) x z) : Inn n x → at2 M z.toNat x.toNat = some true := by
  induction hr with
  | refl x => exact fun hx => h.diag x.toNat (by have := hx.1; have := hx.2; omega)
  | @step x y z hy _ ih =>
    intro _
    obtain ⟨a, hm, rfl⟩ := List.mem_map.1 hy
    obtain ⟨hm, he⟩ := List.mem_filter.1 hm
    have he' : a.to_ = x := by simpa using he
    rw [← he']
    exact hc a hm _ (ih (ha a hm))
open Classical in
theorem MatI.done (h : MatI ars n M) (ha : ∀ a ∈ ars, Inn n a.from_) (hc : MatC ars M) : M = matL ars n := by
  apply List.ext_getElem (by rw [h.len]; simp [matL])
  intro i h1 h2
  have hi : i < n := by have := h.len; omega
  have hrow : M[i]? = some (M[i]'h1) := List.getElem?_eq_getElem _
  have hlr := h.row i _ hrow
  simp only [matL, List.getElem_map, List.getElem_range]
  apply List.ext_getElem (by rw [hlr]; simp [matRow])
  intro j h3 h4
  have hj : j < n := by omega
  have e2 : at2 M i j = some ((M[i]'h1)[j]'h3) := by unfold at2; rw [hrow]; exact List.getElem?_eq_getElem _
  have e3 : (matRow ars n i)[j]'h4 = decide (Reach (nxt ars) (j : Int) (i : Int)) := by
    have := matRow_get (ars := ars) (n := n) (i := i) hj
    rw [List.getElem?_eq_getElem h4] at this
    injection this
  rw [e3, Bool.eq_iff_iff, decide_eq_true_eq]
  constructor
  · intro e
    exact h.sound i j (by rw [e2, e])
  · intro e
    have := h.full ha hc e ⟨by omega, by omega⟩
    simp only [Int.toNat_natCast] at this
    rw [e2] at this
    injection this
/-- One more is found: to a.to where a.from was. -/
theorem at2_set {k j : Nat} {r : List Bool} (hr : M[k]? = some r) (hj : j < r.length) {i l : Nat} : at2 (M.set k (r.set j true)) i l = if i = k ∧ l = j then some true else at2 M i l := by
  have hk : k < M.length := (List.getElem?_eq_some_iff.1 hr).1
  unfold at2
  by_cases hi : i = k
  · subst hi
    rw [List.getElem?_set_self hk, hr]
    simp only [Option.bind_some]
    by_cases hl : l = j
    · subst hl
      rw [List.getElem?_set_self hj, if_pos ⟨trivial, rfl⟩]
    · rw [List.getElem?_set_ne (fun e => hl e.symm), if_neg (fun e => hl e.2)]
  · rw [List.getElem?_set_ne (fun e => hi e.symm), if_neg (fun e => hi e.1)]
theorem MatI.put (h : MatI ars n M) {a : PArc} (hm : a ∈ ars) (h0 : Inn n a.from_) (h1 : Inn n a.to_) {k : Nat} {r : List Bool} (hr : M[k]? = some r) (hf : r[a.from_.toNat]? = some true) : MatI ars n (M.set k (r.set a.to_.toNat true)) := by
  have hl := h.row k r hr
  have hj : a.to_.toNat < r.length := by have := h1.1; have := h1.2; omega
  refine ⟨by rw [List.length_set]; exact h.len, fun i r' hr' => ?_, fun i hi => ?_, fun i j hij => ?_⟩
  · by_cases hik : i = k
    · subst hik
      rw [List.getElem?_set_self (List.getElem?_eq_some_iff.1 hr).1] at hr'
      injection hr' with e
      rw [← e, List.length_set]
      exact hl
    · rw [List.getElem?_set_ne (fun e => hik e.symm)] at hr'
      exact h.row i r' hr'
  · rw [at2_set hr hj]
    split
    · rfl
    · exact h.diag i hi
  · rw [at2_set hr hj] at hij
    split at hij
    · rename_i e
      obtain ⟨rfl, rfl⟩ := e
      rw [Int.toNat_of_nonneg h1.1]
      have := h.sound i a.from_.toNat (by unfold at2; rw [hr]; exact hf)
      rw [Int.toNat_of_nonneg h0.1] at this
      exact .step (mem_nxt hm) this
    · exact h.sound i j hij
end

/-! ### Home and Live by these rows -/
open Classical in
theorem homeAt_iff (ars : List PArc) (n k : Nat) : homeAt ars n k = true ↔ ∀ i : Nat, i < n → Reach (nxt ars) (k : Int) (i : Int) := by
  unfold homeAt spreadL
  simp only [Bool.not_eq_true', List.any_eq_false, List.mem_map, List.mem_range, List.mem_singleton, exists_eq_left]
  constructor
  · intro h i hi
    have := h _ ⟨i, hi, rfl⟩
    simpa using this
  · rintro h _ ⟨i, hi, rfl⟩
    simpa using h i hi
open Classical in
theorem liveAt_iff (ars : List PArc) (n t : Nat) : liveAt ars n t = true ↔ ∀ i : Nat, i < n → ∃ a ∈ ars, a.tran = (t : Int) ∧ Reach (nxt ars) a.from_ (i : Int) := by
  have key : ∀ i : Nat, (∃ s ∈ linkAt PArc.tran PArc.from_ ars (t : Int), Reach (nxt ars) s (i : Int)) ↔ ∃ a ∈ ars, a.tran = (t : Int) ∧ Reach (nxt ars) a.from_ (i : Int) := by
    intro i
    constructor
    · rintro ⟨s, hs, hr⟩
      obtain ⟨a, ha, rfl⟩ := List.mem_map.1 hs
      obtain ⟨ha, he⟩ := List.mem_filter.1 ha
      exact ⟨a, ha, by simpa using he, hr⟩
    · rintro ⟨a, ha, he, hr⟩
      exact ⟨a.from_, List.mem_map.2 ⟨a, List.mem_filter.2 ⟨ha, by simpa using he⟩, rfl⟩, hr⟩
  unfold liveAt spreadL
  simp only [Bool.not_eq_true', List.any_eq_false, List.mem_map, List.mem_range]
  constructor
  · intro h i hi
    have := h _ ⟨i, hi, rfl⟩
    exact (key i).1 (by simpa using this)
  · rintro h _ ⟨i, hi, rfl⟩
    simpa using (key i).2 (h i hi)
end Go.Proofs.Ytnfppolgaeibeaa
namespace Go.Proofs.Ytnfppolgaeibeaa
open Go.RowKit

def MatW (w : World) (B g n : Nat) (M : List (List Bool)) : Prop :=
  ∃ (cells : List Value) (bl : Nat → Nat), w.ownsRow B 96 1 (.slice (some ⟨g, 0, none⟩) n n) n cells ∧ M.length ≤ n ∧ (∀ (k : Nat) (x : List Bool), M[k]? = some x → cells[k]? = some (.slice (some ⟨bl k, 0, none⟩) n n) ∧ OwnBools w B (bl k) n x) ∧
    (∀ k l : Nat, k < M.length → l < M.length → k ≠ l → bl k ≠ bl l)
theorem OwnBools.base {w : World} {B B' g n : Nat} {bs : List Bool} (h : OwnBools w B g n bs) (hB : B' ≤ B) : OwnBools w B' g n bs := by
  refine ⟨h.1, ?_⟩
  rcases h.2 with e | ⟨g1, cap, cur, e1, e2, e3⟩
  · exact .inl e
  · exact .inr ⟨g1, cap, cur, e1, Nat.le_trans hB e2, e3⟩
theorem OwnBools.neRow {w : World} {B g b n m : Nat} {bs : List Bool} {cells : List Value} (h : OwnBools w B b n bs) (hr : w.ownsRow B 96 1 (.slice (some ⟨g, 0, none⟩) m m) m cells) : b ≠ g := by
  intro e
  subst e
  rcases own_ne h hr (by decide) with e | e
  · cases e
  · exact e rfl
section
variable {w w1 : World} {B g n : Nat} {M : List (List Bool)}
theorem MatW.made {cells : List Value} (h : w.ownsRow B 96 1 (.slice (some ⟨g, 0, none⟩) n n) n cells) : MatW w B g n [] :=
  ⟨cells, fun _ => 0, h, Nat.zero_le _, fun k x hx => by simp at hx, fun k l hk => by simp at hk⟩
theorem MatW.keep (h : MatW w B g n M) (hb : Below w.heap.size w w1) : MatW w1 B g n M := by
  obtain ⟨cells, bl, h1, h2, h3, h4⟩ := h
  refine ⟨cells, bl, h1.kept (row := none) ⟨hb.os, hb.tape, hb.output, hb.size, fun k hk _ => hb.block k hk⟩ (.inr (by simp [Value.ownBlock])), h2, fun k x hx => ?_, h4⟩
  obtain ⟨a, b⟩ := h3 k x hx
  exact ⟨a, b.keep hb⟩
theorem MatW.base {B' : Nat} (h : MatW w B g n M) (hB : B' ≤ B) : MatW w B' g n M := by
  obtain ⟨cells, bl, h1, h2, h3, h4⟩ := h
  refine ⟨cells, bl, ⟨h1.1, ?_⟩, h2, fun k x hx => ?_, h4⟩
  · rcases h1.2 with e | ⟨g1, cap, cur, e1, e2, e3⟩
    · exact .inl e
    · exact .inr ⟨g1, cap, cur, e1, Nat.le_trans hB e2, e3⟩
  · obtain ⟨a, b⟩ := h3 k x hx
    exact ⟨a, b.base hB⟩
theorem MatW.lt (h : MatW w B g n M) : B ≤ g ∧ g < w.heap.size := by
  obtain ⟨cells, bl, h1, _⟩ := h
  exact h1.lt g rfl
theorem MatW.frozen (h : MatW w B g n M) (k : Nat) : w.frozen? ⟨g, k, none⟩ = false := by
  obtain ⟨cells, bl, h1, _⟩ := h
  exact h1.frozenAt k
theorem MatW.cellAny (h : MatW w B g n M) {k : Nat} (hk : k < n) : ∃ v, w.cell? ⟨g, k, none⟩ = some v := by
  obtain ⟨cells, bl, h1, _⟩ := h
  refine ⟨_, (h1.cellAt k (by omega)).trans (List.getElem?_eq_getElem (by have := h1.1; omega))⟩
theorem MatW.get (h : MatW w B g n M) {k : Nat} (hk : k < M.length) : ∃ b x, M[k]? = some x ∧ w.cell? ⟨g, k, none⟩ = some (.slice (some ⟨b, 0, none⟩) n n) ∧ OwnBools w B b n x := by
  obtain ⟨cells, bl, h1, h2, h3, _⟩ := h
  have hx : M[k]? = some (M[k]'hk) := List.getElem?_eq_getElem _
  obtain ⟨a, b⟩ := h3 k _ hx
  exact ⟨_, _, hx, by rw [h1.cellAt k (by omega)]; exact a, b⟩
/-- One row more. -/
theorem MatW.push (h : MatW w B g n M) (hb : Below w.heap.size w w1) {b : Nat} {r : List Bool} (own : OwnBools w1 B b n r) (hnew : w.heap.size ≤ b) (hn : M.length < n) :
    MatW (w1.setCell ⟨g, M.length, none⟩ (.slice (some ⟨b, 0, none⟩) n n)) B g n (M ++ [r]) := by
  obtain ⟨cells, bl, h1, h2, h3, h4⟩ := h
  have r1 := h1.kept (row := none) (w' := w1) ⟨hb.os, hb.tape, hb.output, hb.size, fun k hk _ => hb.block k hk⟩ (.inr (by simp [Value.ownBlock]))
  have hcl := h1.1
  refine ⟨cells.set M.length (.slice (some ⟨b, 0, none⟩) n n), fun k => if k = M.length then b else bl k, (r1.stored M.length _).1, by rw [List.length_append]; exact hn, fun k x hx => ?_, fun k l hk hl hkl => ?_⟩
  · by_cases hk : k = M.length
    · subst hk
      rw [List.getElem?_append_right (Nat.le_refl _), Nat.sub_self] at hx
      simp only [List.getElem?_cons_zero, Option.some.injEq] at hx
      subst hx
      simp only [if_true]
      refine ⟨List.getElem?_set_self (by omega), ?_⟩
      exact ownsRow_setCell_other own (fun e => by simp only [Value.ownBlock, Option.some.injEq] at e; exact own.neRow r1 e) _
    · have hlt : k < M.length := by
        have := (List.getElem?_eq_some_iff.1 hx).1
        simp at this
        omega
      rw [List.getElem?_append_left hlt] at hx
      obtain ⟨a, c⟩ := h3 k x hx
      dsimp only
      rw [if_neg hk]
      refine ⟨by rw [List.getElem?_set_ne (fun e => hk e.symm)]; exact a, ?_⟩
      have c1 := c.keep hb
      exact ownsRow_setCell_other c1 (fun e => by simp only [Value.ownBlock, Option.some.injEq] at e; exact c1.neRow r1 e) _
  · have old : ∀ q, q < M.length → bl q ≠ b := fun q hq e => by
      have := (h3 q _ (List.getElem?_eq_getElem hq)).2.lt.2
      omega
    simp only [List.length_append, List.length_cons, List.length_nil] at hk hl
    dsimp only
    by_cases e1 : k = M.length
    · rw [if_pos e1, if_neg (by omega)]
      exact fun e => old l (by omega) e.symm
    · rw [if_neg e1]
      by_cases e2 : l = M.length
      · rw [if_pos e2]
        exact old k (by omega)
      · rw [if_neg e2]
        exact h4 k l (by omega) (by omega) hkl
/-- One bool of one row turned. -/
theorem MatW.put (h : MatW w B g n M) {k j b : Nat} {r : List Bool} (hr : M[k]? = some r) (hc : w.cell? ⟨g, k, none⟩ = some (.slice (some ⟨b, 0, none⟩) n n)) : MatW (w.setCell ⟨b, j, none⟩ (.bool true)) B g n (M.set k (r.set j true)) := by
  obtain ⟨cells, bl, h1, h2, h3, h4⟩ := h
  have hk : k < M.length := (List.getElem?_eq_some_iff.1 hr).1
  obtain ⟨a, c⟩ := h3 k r hr
  have hb : bl k = b := by
    rw [h1.cellAt k (by omega), a] at hc
    simpa using hc
  subst hb
  refine ⟨cells, bl, ownsRow_setCell_other h1 (fun e => by simp only [Value.ownBlock, Option.some.injEq] at e; exact c.neRow h1 e.symm) _, by rw [List.length_set]; exact h2, fun q x hx => ?_, fun q l hq hl => h4 q l (by simpa using hq) (by simpa using hl)⟩
  by_cases e : q = k
  · subst e
    rw [List.getElem?_set_self hk] at hx
    injection hx with hx
    subst hx
    exact ⟨a, c.put j true⟩
  · rw [List.getElem?_set_ne (fun e2 => e e2.symm)] at hx
    obtain ⟨a2, c2⟩ := h3 q x hx
    refine ⟨a2, ownsRow_setCell_other c2 (fun e2 => ?_) _⟩
    simp only [Value.ownBlock, Option.some.injEq] at e2
    exact h4 q k (List.getElem?_eq_some_iff.1 hx).1 hk e e2
theorem MatW.uniq {M' : List (List Bool)} (h : MatW w B g n M) (h' : MatW w B g n M') (l : M.length = n) (l' : M'.length = n) : M = M' := by
  apply List.ext_getElem (by omega)
  intro k h1 h2
  obtain ⟨b, x, hx, hc, ho⟩ := h.get h1
  obtain ⟨b', x', hx', hc', ho'⟩ := h'.get h2
  rw [hc] at hc'
  simp only [Option.some.injEq, Value.slice.injEq, Addr.mk.injEq, and_true] at hc'
  subst hc'
  have e1 : M[k] = x := by rw [List.getElem?_eq_getElem h1] at hx; injection hx
  have e2 : M'[k] = x' := by rw [List.getElem?_eq_getElem h2] at hx'; injection hx'
  rw [e1, e2]
  apply List.ext_getElem (by rw [ho.len, ho'.len])
  intro j h3 h4
  have a1 := ho.at (List.getElem?_eq_getElem h3)
  have a2 := ho'.at (List.getElem?_eq_getElem h4)
  rw [a1] at a2
  simpa using a2
end

/-! ### how many are false -/
def cntR : List Bool → Nat
  | [] => 0
  | b :: bs => (if b = true then 0 else 1) + cntR bs
def cntF : List (List Bool) → Nat
  | [] => 0
  | r :: M => cntR r + cntF M
theorem cntR_set : ∀ (r : List Bool) (j : Nat), r[j]? = some false → cntR (r.set j true) + 1 = cntR r
  | b :: bs, 0, h => by
    simp only [List.getElem?_cons_zero, Option.some.injEq] at h
    subst h
    simp [cntR]; omega
  | b :: bs, j + 1, h => by
    simp only [List.getElem?_cons_succ] at h
    have := cntR_set bs j h
    simp only [List.set_cons_succ, cntR]
    omega
  | [], _, h => by simp at h
theorem cntF_set : ∀ (M : List (List Bool)) (k : Nat) (r r' : List Bool), M[k]? = some r → cntF (M.set k r') + cntR r = cntF M + cntR r'
  | m :: M, 0, r, r', h => by
    simp only [List.getElem?_cons_zero, Option.some.injEq] at h
    subst h
    simp [cntF]; omega
  | m :: M, k + 1, r, r', h => by
    simp only [List.getElem?_cons_succ] at h
    have := cntF_set M k r r' h
    simp only [List.set_cons_succ, cntF]
    omega
  | [], _, _, _, h => by simp at h
theorem cntF_put {M : List (List Bool)} {k j : Nat} {r : List Bool} (hr : M[k]? = some r) (hj : r[j]? = some false) : cntF (M.set k (r.set j true)) + 1 = cntF M := by
  have h1 := cntF_set M k r (r.set j true) hr
  have h2 := cntR_set r j hj
  omega
open Classical in
noncomputable def matF (w : World) (B g n : Nat) : Nat := if h : ∃ M, MatW w B g n M ∧ M.length = n then cntF (Classical.choose h) else 0
theorem matF_eq {w : World} {B g n : Nat} {M : List (List Bool)} (h : MatW w B g n M) (l : M.length = n) : matF w B g n = cntF M := by
  have hex : ∃ M, MatW w B g n M ∧ M.length = n := ⟨M, h, l⟩
  unfold matF
  rw [dif_pos hex]
  obtain ⟨a, b⟩ := Classical.choose_spec hex
  rw [a.uniq h b l]
end Go.Proofs.Ytnfppolgaeibeaa
namespace Go.Proofs.Ytnfppolgaeibeaa
open Go.RowKit

theorem infoListBool : (Try.prog.info? 96).map (fun i => (i.zero, i.size, i.bytes)) = some (some (.slice none 0 0), 1, 24) := by kernel_rfl
def idRow (n i : Nat) : List Bool := (List.replicate n false).set i true
def idM (n k : Nat) : List (List Bool) := (List.range k).map (idRow n)
theorem idM_succ (n k : Nat) : idM n (k + 1) = idM n k ++ [idRow n k] := by simp [idM, List.range_succ]
theorem idM_len (n k : Nat) : (idM n k).length = k := by simp [idM]
theorem idRow_get {n i j : Nat} (hi : i < n) : (idRow n i)[j]? = some true ↔ i = j := by
  unfold idRow
  by_cases e : i = j
  · subst e; simp [hi]
  · rw [List.getElem?_set_ne e]
    refine ⟨fun h => ?_, fun h => absurd h e⟩
    obtain ⟨_, h2⟩ := List.getElem?_eq_some_iff.1 h
    rw [List.getElem_replicate] at h2
    cases h2
theorem idM_ok (ars : List PArc) (n : Nat) : MatI ars n (idM n n) where
  len := idM_len n n
  row := fun i r hr => by
    obtain ⟨k, _, rfl⟩ := List.mem_map.1 (List.mem_of_getElem? hr)
    simp [idRow]
  diag := fun i hi => by
    unfold at2 idM
    simp only [List.getElem?_map, List.getElem?_range hi, Option.map_some, Option.bind_some]
    exact (idRow_get hi).2 rfl
  sound := fun i j hij => by
    unfold at2 idM at hij
    by_cases hi : i < n
    · simp only [List.getElem?_map, List.getElem?_range hi, Option.map_some, Option.bind_some] at hij
      obtain rfl := (idRow_get hi).1 hij
      exact .refl _
    · rw [List.getElem?_eq_none (by simp; omega)] at hij
      cases hij

def CL (M : List (List Bool)) (a : PArc) (K : Nat) : Prop := ∀ k : Nat, k < K → at2 M k a.from_.toNat = some true → at2 M k a.to_.toNat = some true
def RoundI (M0 M : List (List Bool)) (b : Bool) (P : Prop) : Prop := (b = true → cntF M < cntF M0) ∧ (b = false → M = M0 ∧ P)
theorem RoundI.imp {M0 M : List (List Bool)} {b : Bool} {P P' : Prop} (h : RoundI M0 M b P) (hp : P → P') : RoundI M0 M b P' := ⟨h.1, fun e => ⟨(h.2 e).1, hp (h.2 e).2⟩⟩
/-- Where a round of GReach stands. -/
def St (ars : List PArc) (n : Nat) (w0 wr : World) (M0 : List (List Bool)) (b : Bool) (P : Prop) : Prop := ∃ M, MatW wr w0.heap.size w0.heap.size n M ∧ MatI ars n M ∧ RoundI M0 M b P ∧ Below w0.heap.size w0 wr
theorem St.keep {ars : List PArc} {n : Nat} {w0 wr w' : World} {M0 : List (List Bool)} {b : Bool} {P P' : Prop} (h : St ars n w0 wr M0 b P) (hb : Below wr.heap.size wr w') (hp : P → P') : St ars n w0 w' M0 b P' := by
  obtain ⟨M, a, c, d, e⟩ := h
  exact ⟨M, a.keep hb, c, d.imp hp, e.trans (hb.mono e.size)⟩
def boolOf : Value → Nat
  | .bool true => 1
  | _ => 0
theorem OwnBools.neBox {w : World} {B b n bx : Nat} {bs : List Bool} {cs : Array Value} (h : OwnBools w B b n bs) (hx : Box w bx 130 cs) : bx ≠ b := by
  intro e
  subst e
  rcases h.2 with ⟨e, _⟩ | ⟨g, cap, cur, e, _, hh, _⟩
  · cases e
  · injection e with e1
    injection e1 with e1
    injection e1 with e1
    subst e1
    unfold Box at hx
    rw [hx] at hh
    injection hh with hh
    injection hh with _ hh
    exact absurd hh (by decide)
/-- What GReach answers: rows of its own. -/
def AnsMat (M : List (List Bool)) (n : Nat) (w : World) (e : Ending) (w' : World) : Prop := ∃ g, e = .returned (.slice (some ⟨g, 0, none⟩) n n) ∧ MatW w' w.heap.size g n M ∧ Below w.heap.size w w'

set_option maxRecDepth 100000 in
set_option maxHeartbeats 4000000 in
theorem refReach_calls {w : World} {A D : Option Addr} {n c m d : Nat} {ms : List (List Int)} {ars : List PArc} (_ : Lists w A n c ms) (g : Arcs w D m d ars) (hn : n ≤ 5864062014634) (hf : ∀ a ∈ ars, Inn n a.from_) (ht : ∀ a ∈ ars, Inn n a.to_) :
    Calls Try.prog 68 #[.agg #[.slice A n c, .slice D m d]] w (AnsMat (matL ars n) n w) := by
  have HB := hide2 (boxBelow w (.cells #[.slice A n c, .slice D m d] 107))
  have X0 := hide2 (Box.new w #[.slice A n c, .slice D m d] 107)
  have G := hide2 (Sl.keep ArcR.kept g HB.out)
  have gl := g.len
  have gs := g.small
  have HF := hide2 hf
  have HT := hide2 ht
  clear g hf ht
  go_enter Try.func68, Try.ntmps68
  go_upto_region 1 with fail
  generalize w.alloc (.cells #[.slice A n c, .slice D m d] 107) = w0 at *
  obtain ⟨c0, c1⟩ := X0.out.two
  go_upto_region 3 with (at_make; refine wpList_mk Try.underlying114 infoListBool rfl rfl _ _ rfl n rfl rfl rfl rfl (by omega) (by omega) (Below.refl w0.heap.size w0) (Nat.le_refl _) ?_; intro w2 own2 hg2 hb2; have M2 := hide2 (MatW.made own2); have B2 := hide2 hb2; clear own2 hg2 hb2)
  clear c0 c1
  go_loopw [15] (fun v wr => ∃ k : Nat, k ≤ n ∧ v = .int .i64 k ∧ Hid (MatW wr w0.heap.size w0.heap.size n (idM n k)) ∧ Hid (Below w0.heap.size w0 wr)) (fun v _ => n - (intOf v).toNat)
  case atStart => exact ⟨0, Nat.zero_le _, rfl, M2, B2⟩
  case round =>
    obtain ⟨k, hk, rfl, MW, BR⟩ := hrel
    by_cases hlt : k < n
    · have hki : (k : Int) < (n : Int) := by omega
      obtain ⟨c0, c1⟩ := (X0.out.keep BR.out).two
      have mf := MW.out.frozen k
      obtain ⟨v0, mc⟩ := MW.out.cellAny hlt
      go_upto_region 6 with (at_make; refine wpList_mk Try.underlying96 infoBool rfl rfl _ _ rfl n rfl rfl rfl rfl (by omega) (by omega) (Below.refl wr.heap.size wr) (Nat.le_refl _) ?_; intro w3 own3 hg3 hb3; have OB0 : OwnBools w3 wr.heap.size wr.heap.size n (List.replicate n false) := (by unfold OwnBools; rw [List.map_replicate]; exact own3); have OB := hide2 (OB0.base BR.out.size); clear OB0; have B3 := hide2 hb3; have mf3 := (MW.out.keep hb3).frozen k; obtain ⟨v3, mc3⟩ := (MW.out.keep hb3).cellAny hlt; clear own3 hg3 hb3)
      have MP := MW.out.push B3.out OB.out (Nat.le_refl _) (by rw [idM_len]; exact hlt)
      rw [idM_len] at MP
      have hc2 : (w3.setCell ⟨w0.heap.size, k, none⟩ (.slice (some ⟨wr.heap.size, 0, none⟩) n n)).cell? ⟨w0.heap.size, k, none⟩ = some (.slice (some ⟨wr.heap.size, 0, none⟩) n n) := World.cell?_setCell_same' _ _ _ (by rw [mc3]; rfl)
      have B4 : Below w0.heap.size w0 (w3.setCell ⟨w0.heap.size, k, none⟩ (.slice (some ⟨wr.heap.size, 0, none⟩) n n)) := (BR.out.trans (B3.out.mono BR.out.size)).setCell (Nat.le_refl _) _
      have hgw := hide2 BR.out.size
      generalize w3.setCell ⟨w0.heap.size, k, none⟩ (.slice (some ⟨wr.heap.size, 0, none⟩) n n) = w4 at *
      generalize wr.heap.size = bw at *
      obtain ⟨b, x, hx, hc, ho⟩ := MP.get (k := k) (by rw [List.length_append, idM_len]; simp)
      rw [hc2] at hc
      obtain rfl : bw = b := by simpa using hc
      obtain rfl : x = List.replicate n false := by
        rw [List.getElem?_append_right (by rw [idM_len]; exact Nat.le_refl _), idM_len, Nat.sub_self] at hx
        simpa using hx.symm
      have MQ := hide2 (MP.put (j := k) hx hc2)
      have ME := hide2 (show (idM n k ++ [List.replicate n false]).set k ((List.replicate n false).set k true) = idM n (k + 1) by
        rw [idM_succ, List.set_append_right _ _ (by rw [idM_len]; exact Nat.le_refl _), idM_len, Nat.sub_self]; rfl)
      have cz := ho.at (k := k) (b := false) (by simp [hlt])
      have fz := ho.frozen k
      have B5 := hide2 (show Below w0.heap.size w0 (w4.setCell ⟨bw, k, none⟩ (.bool true)) from B4.setCell hgw.out _)
      clear hc hx ho MP mc mf mc3 mf3 c0 c1 B4
      go_wp2
      go_roundw
      case rel => exact ⟨k + 1, by omega, by go_num, hide2 (by rw [← ME.out]; exact MQ.out), B5⟩
      case measure => simp [intOf]; omega
    · obtain rfl : n = k := by omega
      obtain ⟨wq, hwq⟩ : ∃ wq : World, wq = wr := ⟨_, rfl⟩
      subst hwq
      go_wp2
      go_loopw [5] (fun u wr => ∃ (b : Bool) (M : List (List Bool)), u = .bool b ∧ Hid (MatW wr w0.heap.size w0.heap.size n M) ∧ Hid (MatI ars n M) ∧ Hid (b = false → MatC ars M) ∧ Hid (Below w0.heap.size w0 wr)) (fun u wr => matF wr w0.heap.size w0.heap.size n + boolOf u)
      case atStart => exact ⟨true, _, rfl, MW, idM_ok ars n, hide2 (fun e => (by cases e)), BR⟩
      case round =>
        obtain ⟨b, M, rfl, MX, MI, MC, BX⟩ := hrel
        cases b
        · have FN := hide2 (MI.out.done HF.out (MC.out rfl))
          go_wp2
          go_ret
          exact ⟨_, rfl, by rw [← FN.out]; exact MX.out.base HB.out.size, HB.out.trans (BX.out.mono HB.out.size)⟩
        · obtain ⟨M0, hM0⟩ : ∃ M0, M0 = M := ⟨_, rfl⟩
          subst hM0
          have MF := hide2 (matF_eq MX.out MI.out.len)
          obtain ⟨c0, c1⟩ := (X0.out.keep BX.out).two
          have ST0 := hide2 (show St ars n w0 wr M0 false True from ⟨M0, MX.out, MI.out, ⟨fun e => (by cases e), fun _ => ⟨rfl, trivial⟩⟩, BX.out⟩)
          obtain ⟨wp, hwp⟩ : ∃ wp : World, wp = wr := ⟨_, rfl⟩
          subst hwp
          clear MX MI MC BX
          go_wp2
          clear c0 c1
          go_loopw [5, 36] (fun u v wr => ∃ q : Nat, q ≤ m ∧ v = .int .i64 q ∧ ∃ b : Bool, u = .bool b ∧ Hid (St ars n w0 wr M0 b (∀ (j : Nat) (a : PArc), j < q → ars[j]? = some a → CL M0 a n))) (fun _ v _ => m - (intOf v).toNat)
          case atStart => exact ⟨0, Nat.zero_le _, rfl, false, rfl, hide2 (ST0.out.keep (Below.refl _ _) (fun _ j a hj => absurd hj (by omega)))⟩
          case round =>
            obtain ⟨q, hq, rfl, b, rfl, ST⟩ := hrel
            by_cases hlt : q < m
            · have hki : (q : Int) < (m : Int) := by omega
              obtain ⟨bl, off, a, rfl, hbl, ha, q0, q1, q2, _⟩ := Arcs.get (Sl.keep ArcR.kept G.out ST.out.choose_spec.2.2.2) hlt
              have bb := boxBelow wr (.cells #[.int .i64 a.from_, .int .i64 a.tran, .int .i64 a.to_] 130)
              have WA := hide2 (Box.new wr #[.int .i64 a.from_, .int .i64 a.tran, .int .i64 a.to_] 130)
              have SB := hide2 (ST.out.keep bb (P' := (∀ (j : Nat) (a : PArc), j < q → ars[j]? = some a → CL M0 a n) ∧ CL M0 a 0) (fun h => ⟨h, fun k hk => absurd hk (by omega)⟩))
              have hf0 := hide2 (HF.out a (List.mem_of_getElem? ha.out))
              have ht0 := hide2 (HT.out a (List.mem_of_getElem? ha.out))
              go_upto_region 14 with fail
              clear bb q0 q1 q2 ST
              generalize wr.alloc (.cells #[.int .i64 a.from_, .int .i64 a.tran, .int .i64 a.to_] 130) = u0 at *
              generalize wr.heap.size = bx at *
              go_wp2
              go_loopw [5, 42] (fun u v wr => ∃ k : Nat, k ≤ n ∧ v = .int .i64 k ∧ (∃ b : Bool, u = .bool b ∧ Hid (St ars n w0 wr M0 b ((∀ (j : Nat) (a : PArc), j < q → ars[j]? = some a → CL M0 a n) ∧ CL M0 a k))) ∧ Hid (Box wr bx 130 #[.int .i64 a.from_, .int .i64 a.tran, .int .i64 a.to_])) (fun _ v _ => n - (intOf v).toNat)
              case atStart => exact ⟨0, Nat.zero_le _, rfl, ⟨b, rfl, SB⟩, WA⟩
              case round =>
                obtain ⟨k, hk, rfl, ⟨b, rfl, ST⟩, WB⟩ := hrel
                by_cases hlk : k < n
                · have hki : (k : Int) < (n : Int) := by omega
                  obtain ⟨M, s1, s2, s3, s4⟩ := ST.out
                  obtain ⟨br, r, hr, hc, ho⟩ := s1.get (k := k) (by rw [s2.len]; exact hlk)
                  have hlr := ho.len
                  obtain ⟨f1, f2⟩ := hf0.out
                  obtain ⟨g1, g2⟩ := ht0.out
                  obtain ⟨i, hi⟩ : ∃ i : Nat, a.from_ = (i : Int) := ⟨a.from_.toNat, by omega⟩
                  obtain ⟨j, hj⟩ : ∃ j : Nat, a.to_ = (j : Int) := ⟨a.to_.toNat, by omega⟩
                  have hin : i < n := by omega
                  have hjn : j < n := by omega
                  have hii : (i : Int) < (n : Int) := by omega
                  have hjj : (j : Int) < (n : Int) := by omega
                  obtain ⟨v1, hv1⟩ : ∃ v, r[i]? = some v := ⟨_, List.getElem?_eq_getElem (by omega)⟩
                  obtain ⟨v2, hv2⟩ : ∃ v, r[j]? = some v := ⟨_, List.getElem?_eq_getElem (by omega)⟩
                  have NO := hide2 (show (v1 = true → v2 = true) → St ars n w0 wr M0 b ((∀ (j : Nat) (a : PArc), j < q → ars[j]? = some a → CL M0 a n) ∧ CL M0 a (k + 1)) from fun hv => ⟨M, s1, s2, ⟨s3.1, fun e => ⟨(s3.2 e).1, (s3.2 e).2.1, fun q' hq' h1 => by
                    by_cases e2 : q' = k
                    · subst e2
                      have e3 := (s3.2 e).1
                      subst e3
                      unfold at2 at h1 ⊢
                      rw [hr] at h1 ⊢
                      rw [hi] at h1
                      rw [hj]
                      simp only [Int.toNat_natCast, Option.bind_some] at h1 ⊢
                      rw [hv1] at h1
                      injection h1 with h1
                      rw [hv2, hv h1]
                    · exact (s3.2 e).2.2 q' (by omega) h1⟩⟩, s4⟩)
                  have x1 := ho.at hv1
                  have x2 := ho.at hv2
                  obtain ⟨t0, t1, t2⟩ := WB.out.three
                  rw [hi] at t0
                  rw [hj] at t2
                  have S1 := hide2 s1
                  have S2 := hide2 s2
                  have S3 := hide2 s3
                  have S4 := hide2 s4
                  have HR := hide2 hr
                  have HC := hide2 hc
                  have HO := hide2 ho
                  have HV1 := hide2 hv1
                  have HV2 := hide2 hv2
                  have HI := hide2 hi
                  have HJ := hide2 hj
                  clear s1 s2 s3 s4 hr ho hlr f1 f2 g1 g2 hi hj hv1 hv2 ST
                  cases v1
                  · go_upto_region 17 with fail
                    go_quiet (fail)
                    have DB := hide2 (Drew.drewN wr nq).below
                    go_wp2
                    go_roundw
                    case rel => exact ⟨k + 1, by omega, by go_num, ⟨b, rfl, hide2 ((NO.out (fun e => by cases e)).keep DB.out id)⟩, hide2 (WB.out.keep DB.out)⟩
                    case measure => simp [intOf]; omega
                  · cases v2
                    · go_upto_region 17 with fail
                      go_quiet (fail)
                      have DB := hide2 (Drew.drewN wr nq).below
                      have T1 := hide2 (S1.out.keep DB.out)
                      have T4 := hide2 (S4.out.trans (DB.out.mono S4.out.size))
                      have TW := hide2 (WB.out.keep DB.out)
                      have TO := hide2 (HO.out.keep DB.out)
                      have TC := hide2 ((DB.out.cell (S1.out.lt.2)).trans HC.out)
                      generalize wr.drewN nq = u1 at *
                      clear x1 x2 t0 t1 t2 hc DB S1 S4 WB HO HC ST0
                      go_upto_region 18 with fail
                      obtain ⟨t0, t1, t2⟩ := TW.out.three
                      rw [HJ.out] at t2
                      have hc := TC.out
                      have DB := hide2 ((Below.refl u1.heap.size u1).drew)
                      refine wp_region_scr 7 (.takes [0, 1, 2, 3, 4, 5, 6] (.fins [7, 8] .done)) (fun w' => w'.cell? ⟨w0.heap.size, k, none⟩ = some (.slice (some ⟨br, 0, none⟩) n n) ∧ w'.cell? ⟨bx, 2, none⟩ = some (.int .i64 j)) (by kernel_rfl) (by kernel_rfl) (by kernel_rfl) (fun _ _ _ _ _ h => h) ⟨hc, t2⟩ (fun hHeld => ?_)
                      simp only [Scr.takes, Scr.fins]
                      have R1 := hide2 (T1.out.keep DB.out)
                      have R4 := hide2 (T4.out.trans (DB.out.mono T4.out.size))
                      have RW := hide2 (TW.out.keep DB.out)
                      have RO := hide2 (TO.out.keep DB.out)
                      have RC := hide2 ((DB.out.cell (T1.out.lt.2)).trans TC.out)
                      generalize u1.drew = u2 at *
                      iterate 7
                        refine tkTake (v := ?_) rfl (by rfl) hHeld (fun w' hSw => ?_) ?_
                        rotate_left
                        · (go_simp; try with_reducible rfl)
                        simp only [Act.put, List.setIfInBounds_toArray, List.set_cons_zero, List.set_cons_succ]
                      clear hHeld t0 t1 t2 hc
                      have x2 := RO.out.at HV2.out
                      have xf := RO.out.frozen j
                      iterate 2
                        refine tkEnd rfl (fun K hK => ?_)
                        go_simp
                        refine hK.out _ _ ?_
                        clear hK
                        try simp only [Act.put, List.setIfInBounds_toArray, List.set_cons_zero, List.set_cons_succ]
                      refine tkDone ?_
                      clear x2 xf
                      have NS := hide2 (show St ars n w0 (u2.setCell ⟨br, j, none⟩ (.bool true)) M0 true ((∀ (j : Nat) (a : PArc), j < q → ars[j]? = some a → CL M0 a n) ∧ CL M0 a (k + 1)) from ⟨M.set k (r.set j true), R1.out.put HR.out RC.out, (by
                        have := S2.out.put (List.mem_of_getElem? ha.out) hf0.out ht0.out HR.out (by rw [HI.out]; exact HV1.out)
                        rw [HJ.out] at this
                        exact this), ⟨fun _ => (by
                          have h1 := cntF_put HR.out HV2.out
                          cases hb : b
                          · have h2 := (S3.out.2 hb).1
                            subst h2
                            omega
                          · have h2 := S3.out.1 hb
                            omega), fun e => (by cases e)⟩, R4.out.setCell (Nat.le_trans (RO.out.lt.1) (Nat.le_refl _)) _⟩)
                      have NB := hide2 (RW.out.other (a := ⟨br, j, none⟩) (.bool true) (RO.out.neBox RW.out))
                      go_wp2
                      go_roundw
                      case rel => exact ⟨k + 1, by omega, by go_num, ⟨true, rfl, NS⟩, NB⟩
                      case measure => simp [intOf]; omega
                    · go_upto_region 17 with fail
                      go_quiet (fail)
                      have DB := hide2 (Drew.drewN wr nq).below
                      go_wp2
                      go_roundw
                      case rel => exact ⟨k + 1, by omega, by go_num, ⟨b, rfl, hide2 ((NO.out (fun _ => rfl)).keep DB.out id)⟩, hide2 (WB.out.keep DB.out)⟩
                      case measure => simp [intOf]; omega
                · obtain rfl : n = k := by omega
                  go_wp2
                  go_roundw
                  case rel =>
                    refine ⟨q + 1, by omega, by go_num, b, rfl, hide2 (ST.out.keep (Below.refl _ _) (fun h j a' hj ha' => ?_))⟩
                    by_cases hjq : j = q
                    · subst hjq
                      rw [ha.out] at ha'
                      injection ha' with ha'
                      rw [← ha']
                      exact h.2
                    · exact h.1 j a' (by omega) ha'
                  case measure => simp [intOf]; omega
            · obtain rfl : q = m := by omega
              obtain ⟨M, s1, s2, s3, s4⟩ := ST.out
              have S1 := hide2 s1
              have S2 := hide2 s2
              have S3 := hide2 s3
              have S4 := hide2 s4
              clear s1 s2 s3 s4
              go_wp2
              go_roundw
              case rel =>
                refine ⟨b, M, rfl, S1, S2, hide2 (fun e => ?_), S4⟩
                obtain ⟨e1, e2⟩ := S3.out.2 e
                subst e1
                intro a ha k hk
                obtain ⟨j, hj, rfl⟩ := List.getElem_of_mem ha
                refine e2 j _ (by omega) (List.getElem?_eq_getElem hj) k ?_ hk
                rcases Nat.lt_or_ge k n with h1 | h1
                · exact h1
                · unfold at2 at hk
                  rw [List.getElem?_eq_none (by rw [S2.out.len]; exact h1)] at hk
                  cases hk
              case measure =>
                rw [matF_eq S1.out S2.out.len, MF.out]
                cases b
                · obtain ⟨e1, _⟩ := S3.out.2 rfl
                  subst e1
                  simp [boolOf]
                · have := S3.out.1 rfl
                  simp [boolOf]
                  omega
end Go.Proofs.Ytnfppolgaeibeaa
namespace Go.Proofs.Ytnfppolgaeibeaa
open Go.RowKit

open Classical
def HomeTo (ars : List PArc) (k i : Nat) : Prop := ∀ i' : Nat, i' < i → Reach (nxt ars) (k : Int) (i' : Int)
end Go.Proofs.Ytnfppolgaeibeaa
namespace Go.Proofs.Ytnfppolgaeibeaa
open Go.RowKit

open Classical
def OneOf (ars : List PArc) (t i q : Nat) : Prop := ∃ (j : Nat) (a : PArc), j < q ∧ ars[j]? = some a ∧ a.tran = (t : Int) ∧ Reach (nxt ars) a.from_ (i : Int)
def AllTo (ars : List PArc) (t i : Nat) : Prop := ∀ i' : Nat, i' < i → OneOf ars t i' ars.length
theorem liveAt_all (ars : List PArc) (n t : Nat) : liveAt ars n t = true ↔ AllTo ars t n := by
  rw [liveAt_iff]
  constructor
  · intro h i hi
    obtain ⟨a, ha, h1, h2⟩ := h i hi
    obtain ⟨j, hj, rfl⟩ := List.getElem_of_mem ha
    exact ⟨j, _, hj, List.getElem?_eq_getElem hj, h1, h2⟩
  · intro h i hi
    obtain ⟨j, a, _, ha, h1, h2⟩ := h i hi
    exact ⟨a, List.mem_of_getElem? ha, h1, h2⟩
theorem OneOf.succ {ars : List PArc} {t i q : Nat} {a : PArc} (ha : ars[q]? = some a) : OneOf ars t i (q + 1) ↔ OneOf ars t i q ∨ (a.tran = (t : Int) ∧ Reach (nxt ars) a.from_ (i : Int)) := by
  constructor
  · rintro ⟨j, b, hj, hb, h1, h2⟩
    by_cases e : j = q
    · subst e
      rw [ha] at hb
      injection hb with hb
      subst hb
      exact .inr ⟨h1, h2⟩
    · exact .inl ⟨j, b, by omega, hb, h1, h2⟩
  · rintro (⟨j, b, hj, hb, h1, h2⟩ | ⟨h1, h2⟩)
    · exact ⟨j, b, by omega, hb, h1, h2⟩
    · exact ⟨q, a, by omega, ha, h1, h2⟩
end Go.Proofs.Ytnfppolgaeibeaa
