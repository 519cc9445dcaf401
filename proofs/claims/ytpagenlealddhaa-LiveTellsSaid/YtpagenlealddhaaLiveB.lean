/- The contracts of GRight, live.Dead and GDead. Conditions: the slices read as lists. | The contracts of GDead, GStuck, slices.Max, live.Bound and GBound. Conditions: the slices read as lists. | The contracts of slices.Max on integers, live.Bound and GBound. Conditions: the slices read as lists. -/
import Derived.Test.YtpagenlealddhaaLiveA
import Derived.Test.YtpagenlealddhaaCaseA
import Derived.Test.YtpagenlealddhaaMaps
import Derived.Test.YtpagenlealddhaaOwnB
namespace Go.Proofs.Ytpagenlealddhaa
open Go.RowKit Go.Maps

theorem rightG_not {n : Nat} {ars : List PArc} {a : PArc} (ha : a ∈ ars) (h : arcBad n a = true) : rightG n ars = false := by
  unfold rightG
  rw [List.any_eq_true.2 ⟨a, ha, h⟩]; rfl
theorem rightG_of {n : Nat} {ars : List PArc} (h : ∀ (j : Nat) (a : PArc), ars[j]? = some a → arcBad n a = false) : rightG n ars = true := by
  unfold rightG
  rw [Bool.not_eq_true', List.any_eq_false]
  intro a ha
  obtain ⟨j, hj, rfl⟩ := List.getElem_of_mem ha
  rw [h j _ (List.getElem?_eq_getElem hj)]
  simp

set_option maxRecDepth 100000 in
set_option maxHeartbeats 2000000 in
theorem refSpaceRight_calls {w : World} {A D : Option Addr} {n c m d : Nat} {ms : List (List Int)} {ars : List PArc} (h : Lists w A n c ms) (g : Arcs w D m d ars) :
    Calls Try.prog 20 #[.agg #[.slice A n c, .slice D m d]] w fun e w' => e = .returned (.bool (rightG n ars)) ∧ Below w.heap.size w w' := by
  have HB := hide2 (boxBelow w (.cells #[.slice A n c, .slice D m d] 46))
  have X0 := hide2 (Box.new w #[.slice A n c, .slice D m d] 46)
  have G := hide2 g
  have hn := h.small
  have hm := g.small
  clear h g
  go_enter Try.func20, Try.ntmps20
  go_wp2
  go_loopw [8] (fun v wr => ∃ k : Nat, k ≤ m ∧ v = .int .i64 k ∧ Hid (∀ j a, j < k → ars[j]? = some a → arcBad n a = false) ∧ Hid (Box wr w.heap.size 46 #[.slice A n c, .slice D m d]) ∧ Hid (Below w.heap.size w wr)) (fun v _ => m - (intOf v).toNat)
  case atStart => exact ⟨0, Nat.zero_le _, rfl, fun j a hj => absurd hj (by omega), X0, HB⟩
  case round =>
    obtain ⟨k, hk, rfl, lo, C, BR⟩ := hrel
    by_cases hlt : k < m
    · have hki : (k : Int) < (m : Int) := by omega
      obtain ⟨bl, off, a, rfl, hbl, ha, q0, q1, q2, _⟩ := Arcs.get (Sl.keep ArcR.kept G.out BR.out) hlt
      have bb := boxBelow wr (.cells #[.int .i64 a.from_, .int .i64 a.tran, .int .i64 a.to_] 118)
      have W0 := hide2 (C.out.keep bb)
      have WA := hide2 (Box.new wr #[.int .i64 a.from_, .int .i64 a.tran, .int .i64 a.to_] 118)
      have BW := hide2 (BR.out.trans (bb.mono BR.out.size))
      go_upto_region 4 with fail
      clear bb q0 q1 q2 C BR
      generalize wr.alloc (.cells #[.int .i64 a.from_, .int .i64 a.tran, .int .i64 a.to_] 118) = u0 at *
      generalize wr.heap.size = bx at *
      obtain ⟨t0, t1, t2⟩ := WA.out.three
      obtain ⟨c0, c1⟩ := W0.out.two
      obtain ⟨mn, hmn⟩ : ∃ x, min a.from_ a.to_ = x := ⟨_, rfl⟩
      obtain ⟨mx, hmx⟩ : ∃ x, max a.from_ a.to_ = x := ⟨_, rfl⟩
      have AB := hide2 (show arcBad n a = (decide (mn < 0) || decide ((n : Int) ≤ mx)) by
        unfold arcBad
        rw [Bool.eq_iff_iff]
        simp only [Bool.or_eq_true, decide_eq_true_eq]
        omega)
      have HM := hide2 (List.mem_of_getElem? ha.out)
      by_cases h1 : mn < 0
      · have FN := hide2 (rightG_not HM.out (by rw [AB.out]; simp [h1]))
        go_wp2
        go_ret
        exact ⟨ret_bool FN.out.symm, BW.out⟩
      · by_cases h2 : (n : Int) ≤ mx
        · have FN := hide2 (rightG_not HM.out (by rw [AB.out]; simp [h2]))
          go_wp2
          go_ret
          exact ⟨ret_bool FN.out.symm, BW.out⟩
        · have OK := hide2 (show arcBad n a = false by rw [AB.out]; simp; omega)
          go_wp2
          go_roundw
          case rel =>
            refine ⟨k + 1, by omega, by go_num, fun j a' hj ha' => ?_, W0, BW⟩
            by_cases hjk : j = k
            · subst hjk
              rw [ha.out] at ha'
              injection ha' with ha'
              rw [← ha']
              exact OK.out
            · exact lo.out j a' (by omega) ha'
          case measure => simp [intOf]; omega
    · obtain rfl : k = m := by omega
      have FN := hide2 (rightG_of (n := n) (ars := ars) (fun j a ha => lo.out j a (by have := (List.getElem?_eq_some_iff.1 ha).1; have := G.out.len; omega) ha))
      go_wp2
      go_ret
      exact ⟨ret_bool FN.out.symm, BR.out⟩

/-! ### transitions that never fire -/
def cntA (ars : List PArc) (t : Int) : Nat := (ars.filter fun a => a.tran == t).length
theorem cntA_snoc (l : List PArc) (a : PArc) (t : Int) : cntA (l ++ [a]) t = cntA l t + if a.tran = t then 1 else 0 := by
  unfold cntA
  rw [List.filter_append, List.length_append]
  by_cases h : a.tran = t <;> simp [h]
def deadL (ars : List PArc) (N : Nat) : List Int := ((List.range N).filter fun (t : Nat) => cntA ars (t : Int) == 0).map fun (t : Nat) => (t : Int)
theorem deadL_succ (ars : List PArc) (k : Nat) : deadL ars (k + 1) = deadL ars k ++ if cntA ars (k : Int) = 0 then [(k : Int)] else [] := by
  unfold deadL
  rw [List.range_succ, List.filter_append, List.map_append]
  congr 1
  by_cases h : cntA ars (k : Int) = 0 <;> simp [h]
theorem deadL_len (ars : List PArc) (k : Nat) : (deadL ars k).length ≤ k := by
  unfold deadL
  rw [List.length_map]
  exact Nat.le_trans (List.length_filter_le _ _) (by simp)
/-- Block b is a map that counts, by transitions, these arcs. -/
def CountM (w : World) (b : Nat) (l : List PArc) : Prop :=
  ∃ D : DataW Unit, w.ownsMap Try.prog 3 (plainElem Try.prog 3) b l.length D ∧ ∀ t : Int, (Lit.int .i64 t).wf = true → D.atKey (.int .i64 t) (.lit (.int .i64 0)) = .lit (.int .i64 (cntA l t))
theorem intLaw : Keyed Try.prog 3 := int_keyed Try.underlying3
theorem zeroInt' (w : World) : (zeroValue 3).run Try.prog w = .ok (.int .i64 0) w := by kernel_rfl
theorem CountM.made (w : World) : CountM (w.alloc (.map #[] 0)) w.heap.size [] := ⟨.map [], World.ownsMap_made _ _ _ _, fun _ _ => rfl⟩
theorem CountM.of_block {w w' : World} {b : Nat} {l : List PArc} (h : CountM w b l) (hb : w'.heap[b]? = w.heap[b]?) : CountM w' b l := by
  obtain ⟨D, h1, h2⟩ := h
  exact ⟨D, ownsMap_of_block h1 hb, h2⟩
theorem CountM.lt {w : World} {b : Nat} {l : List PArc} (h : CountM w b l) : b < w.heap.size := by
  obtain ⟨D, h1, _⟩ := h
  exact h1.lt
theorem CountM.keep {w w' : World} {b : Nat} {l : List PArc} (h : CountM w b l) (hb : Below w.heap.size w w') : CountM w' b l := h.of_block (hb.block b h.lt)
theorem CountM.look {w : World} {b : Nat} {l : List PArc} (h : CountM w b l) {t : Int} (ht : (Lit.int .i64 t).wf = true) : (Instr.lookup 120 (.map (some b)) (.int .i64 t) false).run Try.prog w = .ok (.int .i64 (cntA l t)) w := by
  obtain ⟨D, h1, h2⟩ := h
  obtain ⟨c, hrun, hat, _⟩ := h1.lookup_int intLaw Try.underlying120 Try.underlying3 (zeroInt' w) (keyOf_int_mk Try.underlying3 ht)
  rw [h2 t ht] at hat
  simp only [DataW.lit.injEq, Lit.int.injEq, true_and] at hat
  rw [hrun, ← hat]
set_option maxRecDepth 100000 in
theorem CountM.more {w : World} {b : Nat} {l : List PArc} (h : CountM w b l) {a : PArc} (ht : (Lit.int .i64 a.tran).wf = true) (hl : l.length ≤ 17592186044416) :
    ∃ w', (Instr.mapUpdate 120 (.map (some b)) (.int .i64 a.tran) (.int .i64 ((cntA l a.tran : Int) + 1))).run Try.prog w = .ok () w' ∧ CountM w' b (l ++ [a]) ∧ w.grownBy w' (some b) := by
  obtain ⟨D, h1, h2⟩ := h
  have hc : cntA l a.tran ≤ l.length := List.length_filter_le _ _
  have hk := keyOf_int_mk Try.underlying3 ht
  obtain ⟨w', r1, r2, r3⟩ := h1.update intLaw Try.underlying120 (by rw [maxLen]; omega) hk (plainElem_int Try.underlying3 (a := (cntA l a.tran : Int) + 1) (WalkArith.wf_i64 (by omega)))
  refine ⟨w', r1, ⟨_, by rw [List.length_append]; exact r2, fun t hw => ?_⟩, r3⟩
  rw [cntA_snoc]
  by_cases e : a.tran = t
  · subst e
    rw [Maps.atKey_put_same (h1.tidy intLaw).isMap (intLaw.key hk), if_pos rfl]
    simp
  · rw [Maps.atKey_put_other (fun e' => e (by injection e' with _ e'; exact e'.symm)), h2 t hw, if_neg e, Nat.add_zero]

set_option maxRecDepth 100000 in
set_option maxHeartbeats 2000000 in
theorem dead_calls {w : World} {A D : Option Addr} {n c m d : Nat} {ms : List (List Int)} {ars : List PArc} (tr : Int) (h : Lists w A n c ms) (g : Arcs w D m d ars) (hm : m ≤ 17592186044416) :
    Calls Try.prog 22 #[.agg #[.slice A n c, .slice D m d], .int .i64 tr] w (AnsIF (deadL ars (min tr 24).toNat).length (deadL ars (min tr 24).toNat) w) := by
  obtain ⟨M, hM⟩ : ∃ M, min tr 24 = M := ⟨_, rfl⟩
  have hmm := @run_makeMap Try.prog
  have G := hide2 g
  rw [hM]
  have hM24 : M ≤ 24 := by omega
  have hn := h.small
  clear h g
  go_enter Try.func22, Try.ntmps22
  go_upto_region 3 with fail
  clear hM hmm
  generalize hw1 : (w.alloc (.cells #[.slice A n c, .slice D m d] 46)).alloc (.map #[] 0) = w1
  have D1 := hide2 (show Below w.heap.size w w1 by rw [← hw1]; exact ((Below.refl _ _).alloc (Nat.le_refl _) _).alloc (by simp) _)
  have X0 := hide2 (show Box w1 w.heap.size 46 #[.slice A n c, .slice D m d] by rw [← hw1]; exact (Box.new _ _ _).old _)
  have X1 := hide2 (show CountM w1 (w.heap.size + 1) [] by
    rw [← hw1]
    have := CountM.made (w.alloc (.cells #[.slice A n c, .slice D m d] 46))
    rwa [show (w.alloc (.cells #[.slice A n c, .slice D m d] 46)).heap.size = w.heap.size + 1 by simp] at this)
  clear hw1
  obtain ⟨c0, c1⟩ := X0.out.two
  go_wp2
  go_loopw [16] (fun v wr => ∃ k : Nat, k ≤ m ∧ v = .int .i64 k ∧ Hid (CountM wr (w.heap.size + 1) (ars.take k)) ∧ Hid (Below w.heap.size w wr)) (fun v _ => m - (intOf v).toNat)
  case atStart => exact ⟨0, Nat.zero_le _, rfl, X1, D1⟩
  case round =>
    clear c0 c1
    obtain ⟨k, hk, rfl, CM, BR⟩ := hrel
    by_cases hlt : k < m
    · have hki : (k : Int) < (m : Int) := by omega
      obtain ⟨bl, off, a, rfl, hbl, ha, q0, q1, q2, hwf⟩ := Arcs.get (Sl.keep ArcR.kept G.out BR.out) hlt
      have bb := boxBelow wr (.cells #[.int .i64 a.from_, .int .i64 a.tran, .int .i64 a.to_] 118)
      have WA := hide2 (Box.new wr #[.int .i64 a.from_, .int .i64 a.tran, .int .i64 a.to_] 118)
      have CW := hide2 (CM.out.keep bb)
      have BW := hide2 (BR.out.trans (bb.mono BR.out.size))
      go_upto_region 6 with fail
      clear bb q0 q1 q2 CM BR
      generalize wr.alloc (.cells #[.int .i64 a.from_, .int .i64 a.tran, .int .i64 a.to_] 118) = u0 at *
      generalize wr.heap.size = bx at *
      obtain ⟨t0, t1, t2⟩ := WA.out.three
      have LK := CW.out.look hwf.out
      obtain ⟨u1, up, cm, gr⟩ := CW.out.more hwf.out (by rw [List.length_take]; omega)
      have CX := hide2 (show CountM u1 (w.heap.size + 1) (ars.take (k + 1)) by rw [take_snoc ha.out]; exact cm)
      have BX := hide2 (BW.out.grown gr BW.out.size (fun k hk => by cases hk; omega))
      have hcb : cntA (ars.take k) a.tran ≤ k := Nat.le_trans (List.length_filter_le _ _) (by rw [List.length_take]; omega)
      obtain ⟨cc, hcc⟩ : ∃ x, cntA (ars.take k) a.tran = x := ⟨_, rfl⟩
      rw [hcc] at LK up hcb
      clear hcc cm gr
      go_wp2
      go_roundw
      case rel => exact ⟨k + 1, by omega, by go_num, CX, BX⟩
      case measure => simp [intOf]; omega
    · obtain rfl : k = m := by omega
      have CF := hide2 (show CountM wr (w.heap.size + 1) ars by have := CM.out; rwa [List.take_of_length_le (by rw [G.out.len]; exact Nat.le_refl _)] at this)
      obtain ⟨wq, hwq⟩ : ∃ wq : World, wq = wr := ⟨_, rfl⟩
      subst hwq
      obtain ⟨N, hN⟩ : ∃ N, M.toNat = N := ⟨_, rfl⟩
      have HN := hide2 hN
      have hN24 : N ≤ 24 := by omega
      clear hN
      go_wp2
      go_loopw [8, 27] (fun u v wr => ∃ j : Nat, j ≤ N ∧ v = .int .i64 j ∧ Hid (OwnInts wr wq.heap.size u (deadL ars j).length (deadL ars j)) ∧ Hid (Below wq.heap.size wq wr)) (fun _ v _ => N - (intOf v).toNat)
      case atStart => exact ⟨0, Nat.zero_le _, rfl, OwnSl.nil, Below.refl _ _⟩
      case round =>
        obtain ⟨j, hj, rfl, OW, BQ⟩ := hrel
        by_cases hlj : j < N
        · have hji : (j : Int) < M := by have := HN.out; omega
          have LK := (CF.out.keep BQ.out).look (t := (j : Int)) (WalkArith.wf_i64 (by omega))
          have DS := hide2 (deadL_succ ars j)
          have hdl := deadL_len ars j
          obtain ⟨cc, hcc⟩ : ∃ x, cntA ars (j : Int) = x := ⟨_, rfl⟩
          rw [hcc] at LK DS
          clear hcc
          by_cases hz : cc = 0
          · subst hz
            rw [if_pos rfl] at DS
            have HDL := hide2 (show (deadL ars (j + 1)).length = (deadL ars j).length + 1 by rw [DS.out]; simp)
            go_wp2_with (at_builtin; refine wpList_appInt rfl _ _ rfl rfl rfl (by first | rfl | simp) OW.out BQ.out BQ.out.size (by omega) ?_; intro v2 w2 own2' hg2 hb2'; have own2 := hide2 own2'; have hb2 := hide2 hb2'; clear own2' hg2 hb2')
            go_roundw
            case rel => exact ⟨j + 1, by omega, by go_num, by rw [HDL.out, DS.out]; exact own2, hb2⟩
            case measure => simp [intOf]; omega
          · have hne : ((cc : Int) == 0) = false := by simp; omega
            rw [if_neg hz, List.append_nil] at DS
            clear hz
            go_wp2
            go_roundw
            case rel => exact ⟨j + 1, by omega, by go_num, by rw [DS.out]; exact OW, BQ⟩
            case measure => simp [intOf]; omega
        · obtain rfl : N = j := by omega
          have hji : M ≤ (N : Int) := by have := HN.out; omega
          have hdl := deadL_len ars N
          obtain ⟨Au, cu, hu, iu⟩ := OW.out.sl (by omega)
          have hfr := OW.out.fresh hu
          have FR := hide2 (hfr.mono BR.out.size)
          have IU := hide2 iu
          have BF := hide2 (BR.out.trans (BQ.out.mono BR.out.size))
          subst hu
          clear iu hfr
          go_wp2
          go_ret
          rw [HN.out]
          exact ⟨Au, cu, rfl, IU.out, BF.out, FR.out⟩
end Go.Proofs.Ytpagenlealddhaa
namespace Go.Proofs.Ytpagenlealddhaa
open Go.RowKit Go.Maps

/-! ### indices that no arc has -/
def noneL (f : PArc → Int) (ars : List PArc) (N : Nat) : List Int := ((List.range N).filter fun (t : Nat) => ars.all fun a => f a != (t : Int)).map fun (t : Nat) => (t : Int)
theorem noneL_succ (f : PArc → Int) (ars : List PArc) (k : Nat) : noneL f ars (k + 1) = noneL f ars k ++ if (ars.all fun a => f a != (k : Int)) = true then [(k : Int)] else [] := by
  unfold noneL
  rw [List.range_succ, List.filter_append, List.map_append]
  congr 1
  by_cases h : (ars.all fun a => f a != (k : Int)) = true
  · rw [if_pos h]; simp only [List.filter, h, List.map]
  · rw [if_neg h]; have h' : (ars.all fun a => f a != (k : Int)) = false := by simpa using h
    simp only [List.filter, h', List.map]
theorem noneL_len (f : PArc → Int) (ars : List PArc) (k : Nat) : (noneL f ars k).length ≤ k := by
  unfold noneL
  rw [List.length_map]
  exact Nat.le_trans (List.length_filter_le _ _) (by simp)
theorem cntA_zero (ars : List PArc) (t : Int) : (cntA ars t == 0) = ars.all fun a => a.tran != t := by
  unfold cntA
  rw [Bool.eq_iff_iff]
  simp only [beq_iff_eq, List.length_eq_zero_iff, List.filter_eq_nil_iff, List.all_eq_true, bne_iff_ne, ne_eq]
theorem deadL_none (ars : List PArc) (N : Nat) : deadL ars N = noneL PArc.tran ars N := by
  unfold deadL noneL
  congr 1
  congr 1
  funext t
  exact cntA_zero ars _
theorem all_snoc {f : PArc → Bool} {l : List PArc} {a : PArc} : (l ++ [a]).all f = (l.all f && f a) := by simp

set_option maxRecDepth 100000 in
set_option maxHeartbeats 2000000 in
theorem refDead_calls {w : World} {A D : Option Addr} {n c m d : Nat} {ms : List (List Int)} {ars : List PArc} (tr : Int) (h : Lists w A n c ms) (g : Arcs w D m d ars) :
    Calls Try.prog 23 #[.agg #[.slice A n c, .slice D m d], .int .i64 tr] w (AnsIF (deadL ars (min tr 24).toNat).length (deadL ars (min tr 24).toNat) w) := by
  rw [deadL_none]
  have HB := hide2 (boxBelow w (.cells #[.slice A n c, .slice D m d] 46))
  obtain ⟨M, hM⟩ : ∃ M, min tr 24 = M := ⟨_, rfl⟩
  obtain ⟨N, hN⟩ : ∃ N, M.toNat = N := ⟨_, rfl⟩
  have HN := hide2 hN
  rw [hM, hN]
  have hN24 : N ≤ 24 := by omega
  clear hN
  have hn := h.small
  have hm' := g.small
  clear h
  go_enter Try.func23, Try.ntmps23
  go_upto_region 3 with fail
  generalize hw0 : w.alloc (.cells #[.slice A n c, .slice D m d] 46) = w0
  have D0 := hide2 (show Below w.heap.size w w0 by rw [← hw0]; exact HB.out)
  have X0 := hide2 (show Box w0 w.heap.size 46 #[.slice A n c, .slice D m d] by rw [← hw0]; exact Box.new _ _ _)
  have G := hide2 (Sl.keep ArcR.kept g D0.out)
  clear hM hw0 g
  go_loopw [5, 12] (fun u v wr => ∃ j : Nat, j ≤ N ∧ v = .int .i64 j ∧ Hid (OwnInts wr w0.heap.size u (noneL PArc.tran ars j).length (noneL PArc.tran ars j)) ∧ Hid (Below w0.heap.size w0 wr)) (fun _ v _ => N - (intOf v).toNat)
  case atStart => exact ⟨0, Nat.zero_le _, rfl, OwnSl.nil, Below.refl _ _⟩
  case round =>
    obtain ⟨j, hj, rfl, OW, BQ⟩ := hrel
    by_cases hlj : j < N
    · have hji : (j : Int) < M := by have := HN.out; omega
      have DS := hide2 (noneL_succ PArc.tran ars j)
      have hdl := noneL_len PArc.tran ars j
      obtain ⟨c0, c1⟩ := (X0.out.keep BQ.out).two
      obtain ⟨wq, hwq⟩ : ∃ wq : World, wq = wr := ⟨_, rfl⟩
      subst hwq
      go_wp2
      clear c0 c1
      go_loopw [7, 18] (fun u v wr => ∃ k : Nat, k ≤ m ∧ v = .int .i64 k ∧ (∃ b : Bool, u = .bool b ∧ Hid (b = (ars.take k).all fun a => a.tran != (j : Int))) ∧ Hid (Below wq.heap.size wq wr)) (fun _ v _ => m - (intOf v).toNat)
      case atStart => exact ⟨0, Nat.zero_le _, rfl, ⟨true, rfl, rfl⟩, Below.refl _ _⟩
      case round =>
        obtain ⟨k, hk, rfl, ⟨ok, rfl, OK⟩, BR⟩ := hrel
        by_cases hlt : k < m
        · have hki : (k : Int) < (m : Int) := by omega
          obtain ⟨bl, off, a, rfl, hbl, ha, q0, q1, q2, _⟩ := Arcs.get (Sl.keep ArcR.kept G.out (BQ.out.trans (BR.out.mono BQ.out.size))) hlt
          have bb := boxBelow wr (.cells #[.int .i64 a.from_, .int .i64 a.tran, .int .i64 a.to_] 118)
          have WA := hide2 (Box.new wr #[.int .i64 a.from_, .int .i64 a.tran, .int .i64 a.to_] 118)
          have BW := hide2 (BR.out.trans (bb.mono BR.out.size))
          go_upto_region 9 with fail
          clear bb q0 q1 q2 BR
          generalize wr.alloc (.cells #[.int .i64 a.from_, .int .i64 a.tran, .int .i64 a.to_] 118) = u0 at *
          generalize wr.heap.size = bx at *
          obtain ⟨t0, t1, t2⟩ := WA.out.three
          have NX := hide2 (show (ars.take (k + 1)).all (fun a => a.tran != (j : Int)) = (ok && (a.tran != (j : Int))) by
            rw [take_snoc ha.out, all_snoc, ← OK.out])
          clear OK
          cases ok
          · have N2 := hide2 (show false = (ars.take (k + 1)).all (fun a => a.tran != (j : Int)) by rw [NX.out, Bool.false_and])
            go_wp2
            go_roundw
            case rel => exact ⟨k + 1, by omega, by go_num, ⟨false, rfl, N2⟩, BW⟩
            case measure => simp [intOf]; omega
          · have N2 := hide2 (show (a.tran != (j : Int)) = (ars.take (k + 1)).all (fun a => a.tran != (j : Int)) by rw [NX.out, Bool.true_and])
            go_wp2
            go_roundw
            case rel => exact ⟨k + 1, by omega, by go_num, ⟨_, rfl, N2⟩, BW⟩
            case measure => simp [intOf]; omega
        · obtain rfl : k = m := by omega
          have OF := hide2 (show ok = ars.all fun a => a.tran != (j : Int) by have := OK.out; rwa [List.take_of_length_le (by rw [G.out.len]; exact Nat.le_refl _)] at this)
          have BS := hide2 (BQ.out.trans (BR.out.mono BQ.out.size))
          have OX := hide2 (OW.out.keep IntR.kept BR.out)
          clear OK
          cases ok
          · have D2 := hide2 (show noneL PArc.tran ars (j + 1) = noneL PArc.tran ars j by rw [DS.out, if_neg (by rw [← OF.out]; simp), List.append_nil])
            go_wp2
            go_roundw
            case rel => exact ⟨j + 1, by omega, by go_num, by rw [D2.out]; exact OX, BS⟩
            case measure => simp [intOf]; omega
          · have D2 := hide2 (show noneL PArc.tran ars (j + 1) = noneL PArc.tran ars j ++ [(j : Int)] by rw [DS.out, if_pos OF.out.symm])
            have HDL := hide2 (show (noneL PArc.tran ars (j + 1)).length = (noneL PArc.tran ars j).length + 1 by rw [D2.out]; simp)
            have SZ := hide2 BS.out.size
            go_wp2_with (at_builtin; refine wpList_appInt rfl _ _ rfl rfl rfl (by first | rfl | simp) OX.out BS.out SZ.out (by omega) ?_; intro v2 w2 own2' hg2 hb2'; have own2 := hide2 own2'; have hb2 := hide2 hb2'; clear own2' hg2 hb2')
            go_roundw
            case rel => exact ⟨j + 1, by omega, by go_num, by rw [HDL.out, D2.out]; exact own2, hb2⟩
            case measure => simp [intOf]; omega
    · obtain rfl : N = j := by omega
      have hji : M ≤ (N : Int) := by have := HN.out; omega
      have hdl := noneL_len PArc.tran ars N
      obtain ⟨Au, cu, hu, iu⟩ := OW.out.sl (by omega)
      have FR := hide2 ((OW.out.fresh hu).mono D0.out.size)
      have IU := hide2 iu
      subst hu
      clear iu
      go_wp2
      go_ret
      exact ⟨Au, cu, rfl, IU.out, D0.out.trans (BQ.out.mono D0.out.size), FR.out⟩

set_option maxRecDepth 100000 in
set_option maxHeartbeats 2000000 in
theorem refStuck_calls {w : World} {A D : Option Addr} {N c m d : Nat} {ms : List (List Int)} {ars : List PArc} (h : Lists w A N c ms) (g : Arcs w D m d ars) (hn : N ≤ 17592186044416) :
    Calls Try.prog 27 #[.agg #[.slice A N c, .slice D m d]] w (AnsIF (noneL PArc.from_ ars N).length (noneL PArc.from_ ars N) w) := by
  have HB := hide2 (boxBelow w (.cells #[.slice A N c, .slice D m d] 46))
  have HN := hide2 (rfl : N = N)
  have hm' := g.small
  have hnn := h.small
  clear h
  go_enter Try.func27, Try.ntmps27
  go_upto_region 2 with fail
  generalize hw0 : w.alloc (.cells #[.slice A N c, .slice D m d] 46) = w0
  have D0 := hide2 (show Below w.heap.size w w0 by rw [← hw0]; exact HB.out)
  have X0 := hide2 (show Box w0 w.heap.size 46 #[.slice A N c, .slice D m d] by rw [← hw0]; exact Box.new _ _ _)
  have G := hide2 (Sl.keep ArcR.kept g D0.out)
  obtain ⟨c0, c1⟩ := X0.out.two
  clear hw0 g
  go_wp2
  clear c0 c1
  go_loopw [3, 11] (fun u v wr => ∃ j : Nat, j ≤ N ∧ v = .int .i64 j ∧ Hid (OwnInts wr w0.heap.size u (noneL PArc.from_ ars j).length (noneL PArc.from_ ars j)) ∧ Hid (Below w0.heap.size w0 wr)) (fun _ v _ => N - (intOf v).toNat)
  case atStart => exact ⟨0, Nat.zero_le _, rfl, OwnSl.nil, Below.refl _ _⟩
  case round =>
    obtain ⟨j, hj, rfl, OW, BQ⟩ := hrel
    by_cases hlj : j < N
    · have hji : (j : Int) < (N : Int) := by have := HN.out; omega
      have DS := hide2 (noneL_succ PArc.from_ ars j)
      have hdl := noneL_len PArc.from_ ars j
      obtain ⟨c0, c1⟩ := (X0.out.keep BQ.out).two
      obtain ⟨wq, hwq⟩ : ∃ wq : World, wq = wr := ⟨_, rfl⟩
      subst hwq
      go_wp2
      clear c0 c1
      go_loopw [5, 17] (fun u v wr => ∃ k : Nat, k ≤ m ∧ v = .int .i64 k ∧ (∃ b : Bool, u = .bool b ∧ Hid (b = (ars.take k).all fun a => a.from_ != (j : Int))) ∧ Hid (Below wq.heap.size wq wr)) (fun _ v _ => m - (intOf v).toNat)
      case atStart => exact ⟨0, Nat.zero_le _, rfl, ⟨true, rfl, rfl⟩, Below.refl _ _⟩
      case round =>
        obtain ⟨k, hk, rfl, ⟨ok, rfl, OK⟩, BR⟩ := hrel
        by_cases hlt : k < m
        · have hki : (k : Int) < (m : Int) := by omega
          obtain ⟨bl, off, a, rfl, hbl, ha, q0, q1, q2, _⟩ := Arcs.get (Sl.keep ArcR.kept G.out (BQ.out.trans (BR.out.mono BQ.out.size))) hlt
          have bb := boxBelow wr (.cells #[.int .i64 a.from_, .int .i64 a.tran, .int .i64 a.to_] 118)
          have WA := hide2 (Box.new wr #[.int .i64 a.from_, .int .i64 a.tran, .int .i64 a.to_] 118)
          have BW := hide2 (BR.out.trans (bb.mono BR.out.size))
          go_upto_region 9 with fail
          clear bb q0 q1 q2 BR
          generalize wr.alloc (.cells #[.int .i64 a.from_, .int .i64 a.tran, .int .i64 a.to_] 118) = u0 at *
          generalize wr.heap.size = bx at *
          obtain ⟨t0, t1, t2⟩ := WA.out.three
          have NX := hide2 (show (ars.take (k + 1)).all (fun a => a.from_ != (j : Int)) = (ok && (a.from_ != (j : Int))) by
            rw [take_snoc ha.out, all_snoc, ← OK.out])
          clear OK
          cases ok
          · have N2 := hide2 (show false = (ars.take (k + 1)).all (fun a => a.from_ != (j : Int)) by rw [NX.out, Bool.false_and])
            go_wp2
            go_roundw
            case rel => exact ⟨k + 1, by omega, by go_num, ⟨false, rfl, N2⟩, BW⟩
            case measure => simp [intOf]; omega
          · have N2 := hide2 (show (a.from_ != (j : Int)) = (ars.take (k + 1)).all (fun a => a.from_ != (j : Int)) by rw [NX.out, Bool.true_and])
            go_wp2
            go_roundw
            case rel => exact ⟨k + 1, by omega, by go_num, ⟨_, rfl, N2⟩, BW⟩
            case measure => simp [intOf]; omega
        · obtain rfl : k = m := by omega
          have OF := hide2 (show ok = ars.all fun a => a.from_ != (j : Int) by have := OK.out; rwa [List.take_of_length_le (by rw [G.out.len]; exact Nat.le_refl _)] at this)
          have BS := hide2 (BQ.out.trans (BR.out.mono BQ.out.size))
          have OX := hide2 (OW.out.keep IntR.kept BR.out)
          clear OK
          cases ok
          · have D2 := hide2 (show noneL PArc.from_ ars (j + 1) = noneL PArc.from_ ars j by rw [DS.out, if_neg (by rw [← OF.out]; simp), List.append_nil])
            go_wp2
            go_roundw
            case rel => exact ⟨j + 1, by omega, by go_num, by rw [D2.out]; exact OX, BS⟩
            case measure => simp [intOf]; omega
          · have D2 := hide2 (show noneL PArc.from_ ars (j + 1) = noneL PArc.from_ ars j ++ [(j : Int)] by rw [DS.out, if_pos OF.out.symm])
            have HDL := hide2 (show (noneL PArc.from_ ars (j + 1)).length = (noneL PArc.from_ ars j).length + 1 by rw [D2.out]; simp)
            have SZ := hide2 BS.out.size
            go_wp2_with (at_builtin; refine wpList_appInt rfl _ _ rfl rfl rfl (by first | rfl | simp) OX.out BS.out SZ.out (by omega) ?_; intro v2 w2 own2' hg2 hb2'; have own2 := hide2 own2'; have hb2 := hide2 hb2'; clear own2' hg2 hb2')
            go_roundw
            case rel => exact ⟨j + 1, by omega, by go_num, by rw [HDL.out, D2.out]; exact own2, hb2⟩
            case measure => simp [intOf]; omega
    · obtain rfl : N = j := by omega
      have hji : (N : Int) ≤ (N : Int) := by have := HN.out; omega
      have hdl := noneL_len PArc.from_ ars N
      obtain ⟨Au, cu, hu, iu⟩ := OW.out.sl (by omega)
      have FR := hide2 ((OW.out.fresh hu).mono D0.out.size)
      have IU := hide2 iu
      subst hu
      clear iu
      go_wp2
      go_ret
      exact ⟨Au, cu, rfl, IU.out, D0.out.trans (BQ.out.mono D0.out.size), FR.out⟩
end Go.Proofs.Ytpagenlealddhaa
namespace Go.Proofs.Ytpagenlealddhaa
open Go.RowKit

def maxF (xs : List Int) (x : Int) : Int := xs.foldl max x
theorem maxF_snoc (l : List Int) (x y : Int) : maxF (l ++ [y]) x = max (maxF l x) y := by simp [maxF]
theorem maxF_pull : ∀ (l : List Int) (x y : Int), maxF l (max x y) = max x (maxF l y)
  | [], _, _ => rfl
  | z :: l, x, y => by
    show maxF l (max (max x y) z) = max x (maxF l (max y z))
    rw [← maxF_pull l x (max y z)]
    congr 1
    omega
def boundL (ms : List (List Int)) : Int := ms.foldl (fun n m => if rightB m = true then maxF m n else n) 0
def boundAt (ms : List (List Int)) (k : Nat) : Int := boundL (ms.take k)
theorem boundAt_succ {ms : List (List Int)} {k : Nat} {m : List Int} (h : ms[k]? = some m) : boundAt ms (k + 1) = if rightB m = true then maxF m (boundAt ms k) else boundAt ms k := by
  unfold boundAt boundL
  rw [take_snoc h, List.foldl_append]
  rfl
theorem maxF_ge : ∀ (l : List Int) (x : Int), x ≤ maxF l x
  | [], _ => Int.le_refl _
  | z :: l, x => by
    have := maxF_ge l (max x z)
    show x ≤ maxF l (max x z)
    omega
theorem boundAt_nonneg (ms : List (List Int)) : ∀ k, 0 ≤ boundAt ms k
  | 0 => Int.le_refl _
  | k + 1 => by
    have ih := boundAt_nonneg ms k
    by_cases hk : k < ms.length
    · rw [boundAt_succ (List.getElem?_eq_getElem hk)]
      split
      · exact Int.le_trans ih (maxF_ge _ _)
      · exact ih
    · unfold boundAt at ih ⊢
      rw [List.take_of_length_le (show ms.length ≤ k by omega)] at ih
      rwa [List.take_of_length_le (show ms.length ≤ k + 1 by omega)]
/-- The most of a list and 0. -/
theorem max_zero {m l : List Int} {x n : Int} (h : m ++ [0] = x :: l) (hn : 0 ≤ n) : max n (maxF l x) = maxF m n := by
  have h1 : maxF (m ++ [0]) n = maxF m n := by
    rw [maxF_snoc]
    have := maxF_ge m n
    omega
  rw [← h1, h, ← maxF_pull]
  rfl

set_option maxRecDepth 100000 in
theorem maxInts_calls {w : World} {A : Option Addr} {n c : Nat} {x : Int} {xs : List Int} (h : Ints w A n c (x :: xs)) :
    Calls Try.prog 74 #[.slice A n c] w fun e w' => e = .returned (.int .i64 (maxF xs x)) ∧ w = w' := by
  have hn := h.small
  have hn1 : 1 ≤ n := by have := h.len; simp at this; omega
  obtain ⟨b0, off0, x0, rfl, hb0, hx0, hc0⟩ := h.get (k := 0) (by omega)
  obtain rfl : x = x0 := by have := hx0.out; simpa using this
  have hc0' : w.cell? ⟨b0, off0, none⟩ = some (.int .i64 x) := hc0
  have hi0 : ¬ ((n : Int) < 1) := by omega
  have hi1 : (0 : Int) < (n : Int) := by omega
  go_enter Try.func74, Try.ntmps74
  go_wp2
  clear hc0 hc0' hi1 hi0
  go_loop [3, 4] (fun v i => ∃ k : Nat, 1 ≤ k ∧ k ≤ n ∧ i = .int .i64 k ∧ ∃ y : Int, v = .int .i64 y ∧ Hid (y = maxF ((x :: xs).take k) x)) (fun _ i => n - (intOf i).toNat)
  case atStart => exact ⟨1, Nat.le_refl _, hn1, rfl, x, rfl, hide2 (show x = max x x by omega)⟩
  case round =>
    obtain ⟨k, hk1, hk, rfl, y, rfl, hy⟩ := hrel
    by_cases hlt : k < n
    · have hki : (k : Int) < (n : Int) := by omega
      obtain ⟨b, off, z, ha, hb, hz, hc⟩ := h.get hlt
      injection ha with ha
      injection ha with ha1 ha2
      subst ha1 ha2
      have N1 := hide2 (show max y z = maxF ((x :: xs).take (k + 1)) x by rw [take_snoc hz.out, maxF_snoc, ← hy.out])
      clear h hy
      go_wp2
      go_round
      case rel => exact ⟨k + 1, by omega, by omega, by go_num, _, rfl, N1⟩
      case measure => simp [intOf]; omega
    · have N1 := hide2 (show y = maxF xs x by
        have h1 := hy.out
        rw [List.take_of_length_le (by rw [h.len]; omega)] at h1
        rw [h1]
        show maxF xs (max x x) = _
        rw [show max x x = x by omega])
      go_wp2
      go_ret
      exact ⟨ret_int N1.out, rfl⟩

set_option maxRecDepth 100000 in
theorem bound_calls {w : World} {A D : Option Addr} {n c m d : Nat} {ms : List (List Int)} (h : Lists w A n c ms) :
    Calls Try.prog 30 #[.agg #[.slice A n c, .slice D m d]] w fun e w' => e = .returned (.int .i64 (boundL ms)) ∧ Below w.heap.size w w' := by
  have HB := hide2 (boxBelow w (.cells #[.slice A n c, .slice D m d] 46))
  have H := hide2 h
  have hn := h.small
  clear h
  go_enter Try.func30, Try.ntmps30
  go_wp2
  go_loopw [3, 9] (fun v i wr => ∃ k : Nat, k ≤ n ∧ i = .int .i64 k ∧ (∃ y : Int, v = .int .i64 y ∧ Hid (y = boundAt ms k)) ∧ Hid (Below w.heap.size w wr)) (fun _ i _ => n - (intOf i).toNat)
  case atStart => exact ⟨0, Nat.zero_le _, rfl, ⟨0, rfl, rfl⟩, HB⟩
  case round =>
    obtain ⟨k, hk, rfl, ⟨y, rfl, hy⟩, BR⟩ := hrel
    by_cases hlt : k < n
    · have hki : (k : Int) < (n : Int) := by omega
      obtain ⟨b, off, l, B, m1, d1, rfl, hb, hl, hc, IL, hm1⟩ := Lists.get (Sl.keep ListR.kept H.out BR.out) hlt
      have N1 := hide2 (boundAt_succ hl.out)
      have hy0 := hide2 (show 0 ≤ y by rw [hy.out]; exact boundAt_nonneg ms k)
      have I := hide2 IL
      obtain ⟨r, hr⟩ : ∃ r, rightB l = r := ⟨_, rfl⟩
      have HR := hide2 hr
      clear IL hr
      cases r
      · go_wp2_with (refine (right_calls I.out).mono ?_; rintro e w' ⟨rfl, rfl⟩; rw [HR.out])
        go_roundw
        case rel => exact ⟨k + 1, by omega, by go_num, ⟨y, rfl, hide2 (by rw [N1.out, HR.out]; exact hy.out)⟩, BR⟩
        case measure => simp [intOf]; omega
      · go_wp2_with (first
          | (refine (right_calls I.out).mono ?_; rintro e w' ⟨rfl, rfl⟩; rw [HR.out])
          | (refine (cloneInts_calls I.out (by omega)).mono ?_; rintro e w1 ⟨v1, rfl, O1, B1⟩; have OW := hide2 O1; have BW := hide2 B1; clear O1 B1)
          | (at_builtin; refine wpList_appInt rfl _ _ rfl rfl rfl (by first | rfl | simp) OW.out BW.out BW.out.size (by omega) ?_; intro v2 w2 own2 hg2 hb2; obtain ⟨A2, c2, rfl, i2⟩ := own2.sl (by omega); obtain ⟨x2, l2, hx2⟩ : ∃ x l', l ++ [0] = x :: l' := List.exists_cons_of_ne_nil (by simp); have N2 := hide2 (max_zero hx2 hy0.out); rw [hx2] at i2; have I2 := hide2 i2; have B2 := hide2 hb2; clear own2 hg2 hb2 i2 hx2)
          | (refine (maxInts_calls I2.out).mono ?_; rintro e w' ⟨rfl, rfl⟩))
        go_roundw
        case rel => exact ⟨k + 1, by omega, by go_num, ⟨_, rfl, hide2 (by rw [N1.out, HR.out, if_pos rfl, ← hy.out]; exact N2.out)⟩, BR.out.trans (B2.out.mono BR.out.size)⟩
        case measure => simp [intOf]; omega
    · have N1 := hide2 (show y = boundL ms by rw [hy.out]; unfold boundAt; rw [List.take_of_length_le (by rw [H.out.len]; omega)])
      go_wp2
      go_ret
      exact ⟨ret_int N1.out, BR.out⟩

set_option maxRecDepth 100000 in
theorem refBound_calls {w : World} {A D : Option Addr} {n c m d : Nat} {ms : List (List Int)} (h : Lists w A n c ms) :
    Calls Try.prog 31 #[.agg #[.slice A n c, .slice D m d]] w fun e w' => e = .returned (.int .i64 (boundL ms)) ∧ Below w.heap.size w w' := by
  have HB := hide2 (boxBelow w (.cells #[.slice A n c, .slice D m d] 46))
  have H := hide2 h
  have hn := h.small
  clear h
  go_enter Try.func31, Try.ntmps31
  go_wp2
  go_loopw [3, 11] (fun v i wr => ∃ k : Nat, k ≤ n ∧ i = .int .i64 k ∧ (∃ y : Int, v = .int .i64 y ∧ Hid (y = boundAt ms k)) ∧ Hid (Below w.heap.size w wr)) (fun _ i _ => n - (intOf i).toNat)
  case atStart => exact ⟨0, Nat.zero_le _, rfl, ⟨0, rfl, rfl⟩, HB⟩
  case round =>
    obtain ⟨k, hk, rfl, ⟨y, rfl, hy⟩, BR⟩ := hrel
    by_cases hlt : k < n
    · have hki : (k : Int) < (n : Int) := by omega
      obtain ⟨b, off, l, B, m1, d1, rfl, hb, hl, hc, IL, hm1⟩ := Lists.get (Sl.keep ListR.kept H.out BR.out) hlt
      have N1 := hide2 (boundAt_succ hl.out)
      have I := hide2 IL
      obtain ⟨r, hr⟩ : ∃ r, rightB l = r := ⟨_, rfl⟩
      have HR := hide2 hr
      clear IL hr
      cases r
      · go_wp2_with (refine (refRight_calls I.out).mono ?_; rintro e w' ⟨rfl, rfl⟩; rw [HR.out])
        go_roundw
        case rel => exact ⟨k + 1, by omega, by go_num, ⟨y, rfl, hide2 (by rw [N1.out, HR.out]; exact hy.out)⟩, BR⟩
        case measure => simp [intOf]; omega
      · go_wp2_with (refine (refRight_calls I.out).mono ?_; rintro e w' ⟨rfl, rfl⟩; rw [HR.out])
        go_loopw [3, 19] (fun v i wq => wq = wr ∧ ∃ j : Nat, j ≤ m1 ∧ i = .int .i64 j ∧ ∃ z : Int, v = .int .i64 z ∧ Hid (z = maxF (l.take j) y)) (fun _ i _ => m1 - (intOf i).toNat)
        case atStart => exact ⟨rfl, 0, Nat.zero_le _, rfl, y, rfl, rfl⟩
        case round =>
          obtain ⟨rfl, j, hj, rfl, z, rfl, hz⟩ := hrel
          by_cases hlj : j < m1
          · have hji : (j : Int) < (m1 : Int) := by omega
            obtain ⟨b2, off2, q, rfl, hb2, hq, hc2⟩ := I.out.get hlj
            have N2 := hide2 (show max z q = maxF (l.take (j + 1)) y by rw [take_snoc hq.out, maxF_snoc, ← hz.out])
            go_wp2
            go_roundw
            case rel => exact ⟨trivial, j + 1, by omega, by go_num, _, rfl, N2⟩
            case measure => simp [intOf]; omega
          · have N2 := hide2 (show z = boundAt ms (k + 1) by
              rw [hz.out, N1.out, HR.out, if_pos rfl, hy.out, List.take_of_length_le (by rw [I.out.len]; omega)])
            go_wp2
            go_roundw
            case rel => exact ⟨k + 1, by omega, by go_num, ⟨z, rfl, N2⟩, BR⟩
            case measure => simp [intOf]; omega
    · have N1 := hide2 (show y = boundL ms by rw [hy.out]; unfold boundAt; rw [List.take_of_length_le (by rw [H.out.len]; omega)])
      go_wp2
      go_ret
      exact ⟨ret_int N1.out, BR.out⟩
end Go.Proofs.Ytpagenlealddhaa
