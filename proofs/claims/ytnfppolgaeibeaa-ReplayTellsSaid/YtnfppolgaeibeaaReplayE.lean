/- The contract of TReplay. Conditions: the net and the trace read as lists. -/
import Derived.Test.YtnfppolgaeibeaaReplayD
import Derived.Test.YtnfppolgaeibeaaPlainH
import Derived.Test.YtnfppolgaeibeaaHeld
import Derived.Test.YtnfppolgaeibeaaShapeH
import Derived.IntWalk
namespace Go.Proofs.Ytnfppolgaeibeaa
open Go.RowKit

theorem LateR.all {Q : World → Prop} {w w1 : World} {vs : Nat → Value} {t : PTran} (h : LateR Q w vs t) (h1 : Q w1) :
    ∃ A1 n1 c1 A2 n2 c2, vs 0 = .int .i64 t.label ∧ vs 1 = .slice A1 n1 c1 ∧ vs 2 = .slice A2 n2 c2 ∧ ∀ w', Q w' → Ints w' A1 n1 c1 t.pre ∧ Ints w' A2 n2 c2 t.post := by
  obtain ⟨h0, A1, n1, c1, A2, n2, c2, e1, e2, _, _, _, _⟩ := h w1 h1
  refine ⟨A1, n1, c1, A2, n2, c2, h0, e1, e2, fun w' hw => ?_⟩
  obtain ⟨_, B1, m1, d1, B2, m2, d2, f1, f2, i1, i2, _, _⟩ := h w' hw
  rw [e1] at f1
  rw [e2] at f2
  injection f1 with a1 a2 a3
  injection f2 with b1 b2 b3
  subst a1 a2 a3 b1 b2 b3
  exact ⟨i1, i2⟩
theorem filter_plain {ts : List PTran} (h : plainB ts = true) (a : Int) : ts.filter (fun t => t.label == a) = match byL ts a with | none => [] | some t => [t] := by
  have key : ∀ (l : List PTran), (∀ j t, l[j]? = some t → (l.take j).any (fun u => u.label == t.label) = false) → l.filter (fun t => t.label == a) = match l.find? (fun t => t.label == a) with | none => [] | some t => [t] := by
    intro l
    induction l with
    | nil => intro _; rfl
    | cons x l ih =>
      intro hl
      by_cases hx : x.label = a
      · rw [List.filter_cons_of_pos (by simpa using hx), List.find?_cons_of_pos (by simpa using hx)]
        have : l.filter (fun t => t.label == a) = [] := by
          rw [List.filter_eq_nil_iff]
          intro y hy hya
          obtain ⟨j, hj, rfl⟩ := List.getElem_of_mem hy
          have := hl (j + 1) l[j] (by simp [hj])
          rw [List.take_succ_cons, List.any_cons] at this
          simp only [beq_iff_eq] at hya
          rw [hya, hx] at this
          simp at this
        rw [this]
      · rw [List.filter_cons_of_neg (by simpa using hx), List.find?_cons_of_neg (by simpa using hx)]
        refine ih fun j t ht => ?_
        have := hl (j + 1) t (by simpa using ht)
        rw [List.take_succ_cons, List.any_cons, Bool.or_eq_false_iff] at this
        exact this.2
  exact key ts fun j t ht => by
    unfold plainB at h
    simp only [List.all_eq_true, List.mem_range] at h
    have := h j (List.getElem?_eq_some_iff.1 ht).1
    rw [ht] at this
    simp only [bne_iff_ne, ne_eq, Bool.and_eq_true, Bool.not_eq_true'] at this
    exact this.2

set_option maxRecDepth 100000 in
set_option maxHeartbeats 60000000 in
theorem refReplay_calls {w : World} {P : Int} {A D : Option Addr} {n c m d : Nat} {ts : List PTran} {tr : List Int} (i o : Int) (h : Trans w A n c ts) (hn : n ≤ 2513169434916) (g : Ints w D m d tr) :
    Calls Try.prog 20 #[.agg #[.int .i64 P, .slice A n c], .int .i64 i, .int .i64 o, .slice D m d] w (AnsPl (replayL ⟨P, ts⟩ i o tr) w) := by
  generalize hw0 : (w.alloc (.cells #[.int .i64 P, .slice A n c] 27)).alloc (.cells #[.int .i64 0, .int .i64 0, .int .i64 0, .int .i64 0] 40) = w0
  have D0 := hide2 (show Below w.heap.size w w0 by rw [← hw0]; exact ((Below.refl _ _).alloc (Nat.le_refl _) _).alloc (by simp) _)
  have X0 := hide2 (show Box w0 w.heap.size 27 #[.int .i64 P, .slice A n c] by rw [← hw0]; exact (Box.new _ _ _).old _)
  have X1 := hide2 (show Box w0 (w.heap.size + 1) 40 #[.int .i64 0, .int .i64 0, .int .i64 0, .int .i64 0] by rw [← hw0]; exact Box.newAt (by simp) _ _)
  have H := hide2 h
  have HL := hide2 h.len
  have hns := h.small
  have G := hide2 g
  have GL := hide2 g.len
  have hms := g.small
  clear h g
  obtain ⟨s, hs⟩ : ∃ s, shapeL ⟨P, ts⟩ i o = s := ⟨_, rfl⟩
  have HS := hide2 hs
  have CW := hide2 (refShapeWrong_calls (P := P) i o (H.out.keep D0.out) hn)
  rw [hs] at CW
  clear hs
  go_enter Try.func20, Try.ntmps20
  go_upto_region 1 with fail
  clear hw0
  obtain ⟨c0, c1⟩ := X0.out.two
  go_wp2_with fail
  refine CW.out.mono ?_
  rintro e w1 ⟨rfl, hb⟩
  have B1 := hide2 (D0.out.trans (hb.mono D0.out.size))
  have Y0 := hide2 (X0.out.keep hb)
  have Y1 := hide2 (X1.out.keep hb)
  clear hb c0 c1 X0 X1 D0 CW
  obtain ⟨c0, c1⟩ := Y0.out.two
  by_cases hz : s = 0
  · subst hz
    obtain ⟨hok, hin⟩ := shapeL_zero' HS.out
    simp only [inB, Bool.and_eq_true, decide_eq_true_eq] at hin
    obtain ⟨⟨⟨⟨hi0, ho0⟩, hiP⟩, hoP⟩, _⟩ := hin
    have HO := hide2 hok
    obtain ⟨p, rfl⟩ : ∃ p : Nat, P = (p : Int) := ⟨P.toNat, by have := ((netOk_iff _).1 HO.out).1; simp only [] at this; omega⟩
    have hp16 : p ≤ 16 := by have := ((netOk_iff _).1 HO.out).2.1; simp only [] at this; omega
    have hn24 : n ≤ 24 := by have := ((netOk_iff _).1 HO.out).2.2.1; rw [HL.out] at this; exact this
    have R0 := hide2 (show replayL ⟨(p : Int), ts⟩ i o tr = (if plainB ts = true then (if m ≤ 60 then (if tr.all (fun a => (byL ts a).isSome) = true then (playedL p i o (tr.filterMap (byL ts)), 0) else (PPlayed.nil, 3)) else (PPlayed.nil, 2)) else (PPlayed.nil, 1)) by
      rw [replayL, if_pos HS.out, GL.out]; rfl)
    clear hok hi0 ho0
    go_wp2
    go_loopw [38] (fun v wr => ∃ k : Nat, k ≤ n ∧ v = .int .i64 k ∧ Hid (plainTo ts k) ∧ Hid (Box wr w.heap.size 27 #[.int .i64 p, .slice A n c]) ∧ Hid (Box wr (w.heap.size + 1) 40 #[.int .i64 0, .int .i64 0, .int .i64 0, .int .i64 0]) ∧ Hid (Below w.heap.size w wr)) (fun v _ => n - (intOf v).toNat)
    case atStart => exact ⟨0, Nat.zero_le _, rfl, fun j hj => absurd hj (by omega), Y0, Y1, B1⟩
    case round =>
      clear c0 c1
      obtain ⟨k, hk, rfl, PL, U0, U1, BR⟩ := hrel
      obtain ⟨c0, c1⟩ := U0.out.two
      by_cases hlt : k < n
      · have hki : (k : Int) < (n : Int) := by omega
        obtain ⟨bl, off, t, A1, n1, k1, A2, n2, k2, rfl, hbl, ht, q0, q1, q2, i1, i2, _, _⟩ := Trans.get (H.out.keep BR.out) hlt
        clear i1 i2
        have bb := boxBelow wr (.cells #[.int .i64 t.label, .slice A1 n1 k1, .slice A2 n2 k2] 78)
        have W0 := hide2 (U0.out.keep bb)
        have W1 := hide2 (U1.out.keep bb)
        have WT := hide2 (Box.new wr #[.int .i64 t.label, .slice A1 n1 k1, .slice A2 n2 k2] 78)
        have BW := hide2 (BR.out.trans (bb.mono BR.out.size))
        go_upto_region 7 with fail
        clear bb q0 q1 q2 U0 U1 BR c0 c1
        generalize wr.alloc (.cells #[.int .i64 t.label, .slice A1 n1 k1, .slice A2 n2 k2] 78) = u0 at *
        generalize wr.heap.size = bx at *
        have hcap := H.out.le
        have hkn : (k : Int) ≤ (c : Int) := by omega
        obtain ⟨c0, c1⟩ := W0.out.two
        have hbx : bx < u0.heap.size := WT.out.lt
        go_wp2
        go_loopw [48] (fun v wr => ∃ j : Nat, j ≤ k ∧ v = .int .i64 j ∧ Hid (∀ q, q < j → ∀ u, ts[q]? = some u → (u.label == t.label) = false) ∧ Hid (Box wr w.heap.size 27 #[.int .i64 p, .slice (some ⟨bl, off, none⟩) n c]) ∧ Hid (Box wr (w.heap.size + 1) 40 #[.int .i64 0, .int .i64 0, .int .i64 0, .int .i64 0]) ∧ Hid (Box wr bx 78 #[.int .i64 t.label, .slice A1 n1 k1, .slice A2 n2 k2]) ∧ Hid (Below w.heap.size w wr)) (fun v _ => k - (intOf v).toNat)
        case atStart => exact ⟨0, Nat.zero_le _, rfl, fun j hj => absurd hj (by omega), W0, W1, WT, BW⟩
        case round =>
          clear c0 c1
          obtain ⟨j, hj, rfl, NE, V0, V1, VT, BV⟩ := hrel
          by_cases hlj : j < k
          · have hji : (j : Int) < (k : Int) := by omega
            obtain ⟨bl2, off2, u, A3, n3, k3, A4, n4, k4, hA, hbl2, hu, q0, q1, q2, i1, i2, _, _⟩ := Trans.get (H.out.keep BV.out) (show j < n by omega)
            cases hA
            clear i1 i2
            have bb := boxBelow wr (.cells #[.int .i64 u.label, .slice A3 n3 k3, .slice A4 n4 k4] 78)
            have Z0 := hide2 (V0.out.keep bb)
            have Z1 := hide2 (V1.out.keep bb)
            have ZT := hide2 (VT.out.keep bb)
            have ZU := hide2 (Box.new wr #[.int .i64 u.label, .slice A3 n3 k3, .slice A4 n4 k4] 78)
            have BZ := hide2 (BV.out.trans (bb.mono BV.out.size))
            go_upto_region 10 with fail
            clear bb q0 q1 q2 V0 V1 VT BV
            generalize wr.alloc (.cells #[.int .i64 u.label, .slice A3 n3 k3, .slice A4 n4 k4] 78) = u1 at *
            generalize wr.heap.size = by' at *
            obtain ⟨t0, t1, t2⟩ := ZT.out.three
            obtain ⟨s0, s1, s2⟩ := ZU.out.three
            by_cases he : t.label = u.label
            · have FIN := hide2 (show replayL ⟨(p : Int), ts⟩ i o tr = (PPlayed.nil, 1) by
                rw [R0.out, plainB_not ht.out (.inr (List.any_eq_true.2 ⟨u, List.mem_take_iff_getElem.2 ⟨j, by have := (List.getElem?_eq_some_iff.1 hu.out).1; omega, (List.getElem?_eq_some_iff.1 hu.out).2⟩, by simp [he]⟩))]
                rfl)
              have hee : (t.label == u.label) = true := by simpa using he
              clear he
              obtain ⟨z0, z1, z2, z3⟩ := Z1.out.four
              have f0 := Z1.out.frozen 0
              have f1 := Z1.out.frozen 1
              have f2 := Z1.out.frozen 2
              have f3 := Z1.out.frozen 3
              go_wp2
              obtain ⟨r0, r1, r2, r3⟩ := (Z1.out.set4 (.int .i64 0) (.int .i64 0) (.int .i64 0) (.int .i64 0)).four
              exact bodyPost_ret (v := .tuple #[.agg #[.int .i64 0, .int .i64 0, .int .i64 0, .int .i64 0], .int .i64 1]) (by simp [results, Try.results20, go_sem, r0, r1, r2, r3]) rfl (by rw [FIN.out]; exact AnsPl.no (below_set4 BZ.out (by omega) _ _ _ _))
            · have hee : (t.label == u.label) = false := by simpa using he
              have HEE := hide2 (show (u.label == t.label) = false by simpa using fun e => he (Eq.symm e))
              clear he
              go_wp2
              go_roundw
              case rel =>
                refine ⟨j + 1, by omega, by go_num, fun q hq u' hu' => ?_, Z0, Z1, ZT, BZ⟩
                by_cases hqj : q = j
                · subst hqj
                  rw [hu.out] at hu'
                  injection hu' with hu'
                  rw [← hu']
                  exact HEE.out
                · exact NE.out q (by omega) u' hu'
              case measure => simp [intOf]; omega
          · obtain rfl : j = k := by omega
            obtain ⟨t0, t1, t2⟩ := VT.out.three
            by_cases hz : t.label = 0
            · have FIN := hide2 (show replayL ⟨(p : Int), ts⟩ i o tr = (PPlayed.nil, 1) by rw [R0.out, plainB_not ht.out (.inl hz)]; rfl)
              have hzz : (t.label == 0) = true := by simpa using hz
              clear hz
              obtain ⟨z0, z1, z2, z3⟩ := V1.out.four
              have f0 := V1.out.frozen 0
              have f1 := V1.out.frozen 1
              have f2 := V1.out.frozen 2
              have f3 := V1.out.frozen 3
              go_wp2
              obtain ⟨r0, r1, r2, r3⟩ := (V1.out.set4 (.int .i64 0) (.int .i64 0) (.int .i64 0) (.int .i64 0)).four
              exact bodyPost_ret (v := .tuple #[.agg #[.int .i64 0, .int .i64 0, .int .i64 0, .int .i64 0], .int .i64 1]) (by simp [results, Try.results20, go_sem, r0, r1, r2, r3]) rfl (by rw [FIN.out]; exact AnsPl.no (below_set4 BV.out (by omega) _ _ _ _))
            · have hzz : (t.label == 0) = false := by simpa using hz
              have HZ := hide2 hz
              clear hz
              go_wp2
              go_roundw
              case rel =>
                refine ⟨j + 1, by omega, by go_num, plainTo_succ PL.out ht.out HZ.out ?_, V0, V1, BV⟩
                rw [← Bool.not_eq_true]
                intro hc
                obtain ⟨u, hu, he⟩ := List.any_eq_true.1 hc
                obtain ⟨q, hq, rfl⟩ := List.mem_take_iff_getElem.1 hu
                have := NE.out q (by omega) _ (List.getElem?_eq_getElem (by omega))
                rw [this] at he
                cases he
              case measure => simp [intOf]; omega
      · obtain rfl : n = k := by omega
        have PB := hide2 (plainB_of ts (by rw [HL.out]; exact PL.out))
        rw [PB.out, if_pos rfl] at R0
        by_cases hm : 60 < m
        · have hmi : (60 : Int) < (m : Int) := by omega
          have FIN := hide2 (show replayL ⟨(p : Int), ts⟩ i o tr = (PPlayed.nil, 2) by rw [R0.out, if_neg (by omega)])
          clear hm
          obtain ⟨z0, z1, z2, z3⟩ := U1.out.four
          have f0 := U1.out.frozen 0
          have f1 := U1.out.frozen 1
          have f2 := U1.out.frozen 2
          have f3 := U1.out.frozen 3
          go_wp2
          obtain ⟨r0, r1, r2, r3⟩ := (U1.out.set4 (.int .i64 0) (.int .i64 0) (.int .i64 0) (.int .i64 0)).four
          exact bodyPost_ret (v := .tuple #[.agg #[.int .i64 0, .int .i64 0, .int .i64 0, .int .i64 0], .int .i64 2]) (by simp [results, Try.results20, go_sem, r0, r1, r2, r3]) rfl (by rw [FIN.out]; exact AnsPl.no (below_set4 BR.out (by omega) _ _ _ _))
        · have hmi : (m : Int) ≤ 60 := by omega
          have hm60 : m ≤ 60 := by omega
          rw [if_pos hm60] at R0
          clear hm PL
          obtain ⟨wq, hwq⟩ : ∃ wq : World, wq = wr := ⟨_, rfl⟩
          subst hwq
          have h8q : w.heap.size + 1 < wq.heap.size := U1.out.lt
          go_wp2
          go_loopw [15, 70] (fun u v wr => ∃ k : Nat, k ≤ m ∧ v = .int .i64 k ∧ Hid (OwnSl (TranR0 w) 3 wr wq.heap.size 78 u ((tr.take k).filterMap (byL ts)).length ((tr.take k).filterMap (byL ts))) ∧ Hid (∀ j, j < k → ∀ a, tr[j]? = some a → (byL ts a).isSome = true) ∧ Hid (Below wq.heap.size wq wr)) (fun _ v _ => m - (intOf v).toNat)
          case atStart => exact ⟨0, Nat.zero_le _, rfl, OwnSl.nil, fun j hj => absurd hj (by omega), Below.refl _ _⟩
          case round =>
            clear c0 c1
            obtain ⟨k, hk, rfl, OW, AL, BQ⟩ := hrel
            have V0 := hide2 (U0.out.keep BQ.out)
            have V1 := hide2 (U1.out.keep BQ.out)
            have BV := hide2 (BR.out.trans (BQ.out.mono BR.out.size))
            obtain ⟨c0, c1⟩ := V0.out.two
            obtain ⟨LK, hLK⟩ : ∃ l, (tr.take k).filterMap (byL ts) = l := ⟨_, rfl⟩
            rw [hLK] at OW
            have HLK := hide2 hLK
            have LT := hide2 (show LightL LK by rw [← hLK]; exact light_filter (N := ⟨(p : Int), ts⟩) HO.out _)
            have hLN : LK.length ≤ k := by rw [← hLK]; refine Nat.le_trans (filter_len _ _) ?_; rw [List.length_take]; omega
            clear hLK
            obtain ⟨kl, hkl⟩ : ∃ kl, LK.length = kl := ⟨_, rfl⟩
            have HKL := hide2 hkl
            rw [hkl] at OW hLN
            clear hkl
            obtain ⟨Au, cu, hu, _⟩ := OW.out.sl (by omega)
            subst hu
            by_cases hlt : k < m
            · have hki : (k : Int) < (m : Int) := by omega
              obtain ⟨bl0, off0, a, rfl, hbl0, ha, qa⟩ := Ints.get (Ints.keep G.out BV.out) hlt
              go_wp2
              go_loopw [15, 79] (fun u v wr => ∃ j : Nat, j ≤ n ∧ v = .int .i64 j ∧ Hid (OwnSl (TranR0 w) 3 wr wq.heap.size 78 u (kl + ((ts.take j).filter fun t => t.label == a).length) (LK ++ (ts.take j).filter fun t => t.label == a)) ∧ Hid (Below wq.heap.size wq wr)) (fun _ v _ => n - (intOf v).toNat)
              case atStart => exact ⟨0, Nat.zero_le _, rfl, by show OwnSl _ _ _ _ _ _ (kl + 0) (LK ++ []); rw [List.append_nil]; exact OW, BQ⟩
              case round =>
                clear c0 c1 qa
                obtain ⟨j, hj, rfl, OW2, BQ2⟩ := hrel
                have Z0 := hide2 (U0.out.keep BQ2.out)
                have BZ := hide2 (BR.out.trans (BQ2.out.mono BR.out.size))
                obtain ⟨FJ, hFJ⟩ : ∃ l, (ts.take j).filter (fun t => t.label == a) = l := ⟨_, rfl⟩
                have HFJ := hide2 hFJ
                rw [hFJ] at OW2
                have hfl : FJ.length ≤ j := by rw [← hFJ]; refine Nat.le_trans (List.length_filter_le _ _) ?_; rw [List.length_take]; omega
                clear hFJ
                by_cases hlj : j < n
                · have hji : (j : Int) < (n : Int) := by omega
                  obtain ⟨bl, off, t, A1, n1, k1, A2, n2, k2, rfl, hbl, ht, q0', q1', q2', i1, i2, m1, m2⟩ := Trans.get H.out hlj
                  have q0 := (BZ.out.cell (p := ⟨bl, off + j * 3, none⟩) hbl).trans q0'
                  have q1 := (BZ.out.cell (p := ⟨bl, off + j * 3 + 1, none⟩) hbl).trans q1'
                  have q2 := (BZ.out.cell (p := ⟨bl, off + j * 3 + 2, none⟩) hbl).trans q2'
                  have bb := boxBelow wr (.cells #[.int .i64 t.label, .slice A1 n1 k1, .slice A2 n2 k2] 78)
                  have WT := hide2 (Box.new wr #[.int .i64 t.label, .slice A1 n1 k1, .slice A2 n2 k2] 78)
                  have OW3 := hide2 (OW2.out.keep (TranR0.kept w) bb)
                  have BQ3 := hide2 (BQ2.out.trans (bb.mono BQ2.out.size))
                  have RD := hide2 (show ∀ w', TranR0 w w' (fun r => [Value.int .i64 t.label, .slice A1 n1 k1, .slice A2 n2 k2].getD r undef) t from fun w' => ⟨rfl, A1, n1, k1, A2, n2, k2, rfl, rfl, i1, i2, m1, m2⟩)
                  have F_ := hide2 (show (ts.take (j + 1)).filter (fun t => t.label == a) = FJ ++ (if t.label = a then [t] else []) by
                    rw [take_snoc ht.out, List.filter_append, HFJ.out]
                    congr 1
                    by_cases h : t.label = a <;> simp [h])
                  go_upto_region 26 with fail
                  clear bb q0 q1 q2 q0' q1' q2' i1 i2 OW2 BQ2
                  generalize wr.alloc (.cells #[.int .i64 t.label, .slice A1 n1 k1, .slice A2 n2 k2] 78) = u0 at *
                  generalize wr.heap.size = bx at *
                  obtain ⟨t0, t1, t2⟩ := WT.out.three
                  by_cases he : t.label = a
                  · have hee : (t.label == a) = true := by simpa using he
                    rw [if_pos he] at F_
                    clear he
                    go_wp2_with (at_builtin; refine wpList_appNew tyTrans rfl _ _ rfl [t] #[.int .i64 t.label, .slice A1 n1 k1, .slice A2 n2 k2] rfl rfl (by first | rfl | simp) rfl (by simp [Value.oneCell']) OW3.out (Reads.tran (RD.out _)) rfl BQ3.out BQ3.out.size (by omega) (by omega) (fun _ _ _ _ h => h) ?_; intro v2 w2 own2' hg2 hb2'; have own2 := hide2 own2'; have hb2 := hide2 hb2'; clear own2' hg2 hb2')
                    go_roundw
                    case rel => exact ⟨j + 1, by omega, by go_num, by rw [F_.out, List.length_append, ← Nat.add_assoc, ← List.append_assoc]; exact own2, hb2⟩
                    case measure => simp [intOf]; omega
                  · have hee : (t.label == a) = false := by simpa using he
                    rw [if_neg he, List.append_nil] at F_
                    clear he
                    go_wp2
                    go_roundw
                    case rel => exact ⟨j + 1, by omega, by go_num, by rw [F_.out]; exact OW3, BQ3⟩
                    case measure => simp [intOf]; omega
                · obtain rfl : n = j := by omega
                  have FF := hide2 (show FJ = match byL ts a with | none => [] | some t => [t] by
                    rw [← filter_plain PB.out a, ← HFJ.out, List.take_of_length_le (by rw [HL.out]; exact Nat.le_refl _)])
                  obtain ⟨Av, cv, hv, _⟩ := OW2.out.sl (by omega)
                  subst hv
                  have Z1 := hide2 (U1.out.keep BQ2.out)
                  cases hby : byL ts a with
                  | none =>
                    rw [hby] at FF
                    have EF := hide2 (show FJ = [] from FF.out)
                    rw [EF.out] at OW2
                    rw [EF.out]
                    have FIN := hide2 (show replayL ⟨(p : Int), ts⟩ i o tr = (PPlayed.nil, 3) by
                      rw [R0.out, if_neg]
                      intro hall
                      have := List.all_eq_true.1 hall a (List.mem_of_getElem? ha.out)
                      rw [hby] at this
                      cases this)
                    clear hby
                    obtain ⟨z0, z1, z2, z3⟩ := Z1.out.four
                    have f0 := Z1.out.frozen 0
                    have f1 := Z1.out.frozen 1
                    have f2 := Z1.out.frozen 2
                    have f3 := Z1.out.frozen 3
                    go_wp2
                    obtain ⟨r0, r1, r2, r3⟩ := (Z1.out.set4 (.int .i64 0) (.int .i64 0) (.int .i64 0) (.int .i64 0)).four
                    exact bodyPost_ret (v := .tuple #[.agg #[.int .i64 0, .int .i64 0, .int .i64 0, .int .i64 0], .int .i64 3]) (by simp [results, Try.results20, go_sem, r0, r1, r2, r3]) rfl (by rw [FIN.out]; exact AnsPl.no (below_set4 BZ.out (by omega) _ _ _ _))
                  | some t =>
                    rw [hby] at FF
                    have EF := hide2 (show FJ = [t] from FF.out)
                    rw [EF.out] at OW2
                    rw [EF.out]
                    have HBY := hide2 hby
                    have ST := hide2 (filter_snoc ha.out hby)
                    rw [HLK.out] at ST
                    have hne : (((kl + 1 : Nat) : Int) == (kl : Int)) = false := by simp; omega
                    have hne2 : ((kl : Int) + 1 == (kl : Int)) = false := by simp; omega
                    clear hby
                    go_wp2
                    go_roundw
                    case rel =>
                      refine ⟨k + 1, by omega, by go_num, by rw [ST.out, List.length_append, HKL.out]; exact OW2, fun j hj a' ha' => ?_, BQ2⟩
                      by_cases hjk : j = k
                      · subst hjk
                        have := ha.out
                        rw [ha'] at this
                        injection this with this
                        rw [this, HBY.out]; rfl
                      · exact AL.out j (by omega) a' ha'
                    case measure => simp [intOf]; omega
            · obtain rfl : m = k := by omega
              have EL := hide2 (show LK = tr.filterMap (byL ts) by rw [← HLK.out, List.take_of_length_le (by rw [GL.out]; exact Nat.le_refl _)])
              have FIN := hide2 (show replayL ⟨(p : Int), ts⟩ i o tr = (playedL p i o LK, 0) by
                rw [R0.out, if_pos, EL.out]
                refine List.all_eq_true.2 fun a ha => ?_
                obtain ⟨j, hj, rfl⟩ := List.getElem_of_mem ha
                exact AL.out j (by have := GL.out; omega) _ (List.getElem?_eq_getElem hj))
              obtain ⟨LE, hLE⟩ : ∃ l, LK ++ [endT p o] = l := ⟨_, rfl⟩
              have HLE := hide2 hLE
              have ELN := hide2 (show LE.length = kl + 1 by rw [← hLE, List.length_append, HKL.out]; rfl)
              have LTE := hide2 (show LightL LE by
                rw [← hLE]
                intro t ht q
                rcases List.mem_append.1 ht with ht | ht
                · exact LT.out t ht q
                · obtain rfl : t = endT p o := by simpa using ht
                  have h1 := oneL_at p o q
                  have h2 : atL (List.replicate p (0 : Int)) q = 0 := by
                    unfold atL
                    by_cases hq : q < p <;> simp [hq]
                  simp only [endT, h2]
                  omega)
              have LNE := hide2 (show ∀ t ∈ LE, t.pre.length = p ∧ t.post.length = p by
                rw [← hLE]
                intro t ht
                rcases List.mem_append.1 ht with ht | ht
                · rw [EL.out] at ht
                  obtain ⟨a, _, ha⟩ := List.mem_filterMap.1 ht
                  obtain ⟨q, hq, rfl⟩ := List.getElem_of_mem (List.mem_of_find?_eq_some ha)
                  have := netOk_tran HO.out (List.getElem?_eq_getElem hq)
                  simp only [] at this
                  omega
                · obtain rfl : t = endT p o := by simpa using ht
                  exact ⟨oneL_length _ _, by simp [endT]⟩)
              have ANS := hide2 (show replayL ⟨(p : Int), ts⟩ i o tr = (⟨sumN p (fun q => atL (oneL p i) q + putL q LE), sumN p (fun q => takenL q LE), sumN p (fun q => lackL q LE (atL (oneL p i) q)), sumN p (fun q => haveL q LE (atL (oneL p i) q))⟩, 0) by
                rw [FIN.out, playedL, hLE]
                unfold putC takenC lackC leftC
                rw [oneL_length])
              have SB := hide2 (show ∀ j, j ≤ p → (0 ≤ sumN j (fun q => atL (oneL p i) q + putL q LE) ∧ sumN j (fun q => atL (oneL p i) q + putL q LE) ≤ 100000) ∧ (0 ≤ sumN j (fun q => takenL q LE) ∧ sumN j (fun q => takenL q LE) ≤ 100000) ∧ (0 ≤ sumN j (fun q => lackL q LE (atL (oneL p i) q)) ∧ sumN j (fun q => lackL q LE (atL (oneL p i) q)) ≤ 100000) ∧ (0 ≤ sumN j (fun q => haveL q LE (atL (oneL p i) q)) ∧ sumN j (fun q => haveL q LE (atL (oneL p i) q)) ≤ 100000) from fun j hj => by
                have hEl := ELN.out
                have h1 := sumN_bd (n := j) (f := fun q => atL (oneL p i) q + putL q LE) (B := 600) (fun q _ => by have := oneL_at p i q; have := put_bd q LE LTE.out; show 0 ≤ _ + _ ∧ _ + _ ≤ _; omega)
                have h2 := sumN_bd (n := j) (f := fun q => takenL q LE) (B := 600) (fun q _ => by have := taken_bd q LE LTE.out; show 0 ≤ takenL q LE ∧ takenL q LE ≤ _; omega)
                have h3 := sumN_bd (n := j) (f := fun q => lackL q LE (atL (oneL p i) q)) (B := 600) (fun q _ => by have := oneL_at p i q; have := lack_bd q LE (atL (oneL p i) q) LTE.out (by omega); show 0 ≤ lackL q LE _ ∧ lackL q LE _ ≤ _; omega)
                have h4 := sumN_bd (n := j) (f := fun q => haveL q LE (atL (oneL p i) q)) (B := 600) (fun q _ => by have := oneL_at p i q; have := have_bd q LE (atL (oneL p i) q) LTE.out (by omega); show 0 ≤ haveL q LE _ ∧ haveL q LE _ ≤ _; omega)
                omega)
              clear hLE HLK FIN AL EL HKL
              have UNE := hide2 (show ∀ q, (Value.slice Au kl cu).ownBlock = some q → q < wr.heap.size from fun q hq => (OW.out.lt q hq).2)
              go_upto_region 33 with fail
              have bb := boxBelow wr (.cells #[.int .i64 0, .int .i64 0, .int .i64 0, .int .i64 0] 40)
              have XB := hide2 (Box.new wr #[.int .i64 0, .int .i64 0, .int .i64 0, .int .i64 0] 40)
              have X0 := hide2 (V0.out.keep bb)
              have X1 := hide2 (V1.out.keep bb)
              have XW := hide2 (OW.out.keep (TranR0.kept w) bb)
              have BX := hide2 (BV.out.trans (bb.mono BV.out.size))
              have h8r : w.heap.size + 1 < wr.heap.size := V1.out.lt
              have hqr : wq.heap.size ≤ wr.heap.size := BQ.out.size
              clear bb V0 V1 OW BV BQ c0 c1
              generalize wr.alloc (.cells #[.int .i64 0, .int .i64 0, .int .i64 0, .int .i64 0] 40) = v5 at *
              generalize wr.heap.size = br at *
              have hbr5 : br < v5.heap.size := XB.out.lt
              obtain ⟨c0, c1⟩ := X0.out.two
              go_wp2
              go_loopw [100] (fun v wr => ∃ j : Nat, j ≤ p ∧ v = .int .i64 j ∧ Hid (Box wr br 40 #[.int .i64 (sumN j (fun q => atL (oneL p i) q + putL q LE)), .int .i64 (sumN j (fun q => takenL q LE)), .int .i64 (sumN j (fun q => lackL q LE (atL (oneL p i) q))), .int .i64 (sumN j (fun q => haveL q LE (atL (oneL p i) q)))]) ∧ Hid (Box wr w.heap.size 27 #[.int .i64 p, .slice A n c]) ∧ Hid (Box wr (w.heap.size + 1) 40 #[.int .i64 0, .int .i64 0, .int .i64 0, .int .i64 0]) ∧ Hid (Below w.heap.size w wr) ∧ Hid (OwnSl (TranR0 w) 3 wr wq.heap.size 78 (.slice Au kl cu) kl (LK)) ∧ br < wr.heap.size) (fun v _ => p - (intOf v).toNat)
              case atStart => exact ⟨0, Nat.zero_le _, rfl, XB, X0, X1, BX, XW, hbr5⟩
              case round =>
                clear c0 c1
                obtain ⟨j, hj, rfl, C, U0, U1, BR, OW, hbr⟩ := hrel
                obtain ⟨⟨a0, a1⟩, ⟨a2, a3⟩, ⟨a4, a5⟩, ⟨a6, a7⟩⟩ := SB.out j hj
                obtain ⟨S0, hS0⟩ : ∃ x, sumN j (fun q => atL (oneL p i) q + putL q LE) = x := ⟨_, rfl⟩
                obtain ⟨S1, hS1⟩ : ∃ x, sumN j (fun q => takenL q LE) = x := ⟨_, rfl⟩
                obtain ⟨S2, hS2⟩ : ∃ x, sumN j (fun q => lackL q LE (atL (oneL p i) q)) = x := ⟨_, rfl⟩
                obtain ⟨S3, hS3⟩ : ∃ x, sumN j (fun q => haveL q LE (atL (oneL p i) q)) = x := ⟨_, rfl⟩
                rw [hS0] at C a0 a1
                rw [hS1] at C a2 a3
                rw [hS2] at C a4 a5
                rw [hS3] at C a6 a7
                have T0 := hide2 (show sumN (j + 1) (fun q => atL (oneL p i) q + putL q LE) = S0 + atL (oneL p i) j + putL j LE by rw [sumN_succ, hS0]; omega)
                have T1 := hide2 (show sumN (j + 1) (fun q => takenL q LE) = S1 + takenL j LE by rw [sumN_succ, hS1])
                have T2 := hide2 (show sumN (j + 1) (fun q => lackL q LE (atL (oneL p i) q)) = S2 + lackL j LE (atL (oneL p i) j) by rw [sumN_succ, hS2])
                have T3 := hide2 (show sumN (j + 1) (fun q => haveL q LE (atL (oneL p i) q)) = S3 + haveL j LE (atL (oneL p i) j) by rw [sumN_succ, hS3])
                have HS0 := hide2 hS0
                have HS1 := hide2 hS1
                have HS2 := hide2 hS2
                have HS3 := hide2 hS3
                clear hS0 hS1 hS2 hS3
                obtain ⟨c0, c1⟩ := U0.out.two
                by_cases hlj : j < p
                · have hji : (j : Int) < (p : Int) := by omega
                  go_wp2_with fail
                  refine (refStart_small wr (p : Int) i A n c (by omega)).mono ?_
                  rw [Int.toNat_natCast]
                  rintro e w6 ⟨Cs, ks, rfl, is, hb, _⟩
                  obtain ⟨x, hx⟩ : ∃ x, atL (oneL p i) j = x := ⟨_, rfl⟩
                  obtain ⟨bs, os, x', rfl, hbs, hx', qx⟩ := Ints.get is hlj
                  obtain rfl : x' = x := by rw [← hx, atL_some hx'.out]
                  have hxb := oneL_at p i j
                  rw [hx] at hxb T0 T2 T3
                  obtain ⟨x0, x1⟩ := hxb
                  have Y0 := hide2 (U0.out.keep hb)
                  have Y1 := hide2 (U1.out.keep hb)
                  have YB := hide2 (C.out.keep hb)
                  have YW := hide2 (OW.out.keep (TranR0.kept w) hb)
                  have BY := hide2 (BR.out.trans (hb.mono BR.out.size))
                  have hbr6 := Nat.lt_of_lt_of_le hbr hb.size
                  clear is hb hx hx' U0 U1 C OW BR c0 c1
                  obtain ⟨d0, d1, d2, d3⟩ := YB.out.four
                  have df := YB.out.frozen 0
                  go_upto_region 38 with fail
                  obtain ⟨w7, hw7⟩ : ∃ w7, w7 = w6.setCell ⟨br, 0, none⟩ (.int .i64 (S0 + x')) := ⟨_, rfl⟩
                  rw [← hw7]
                  have hbs7 : Beside br w6 w7 := by rw [hw7]; exact Beside.set _ _ _ _
                  have Z0 := hide2 (hbs7.box Y0.out (by omega)).drew
                  have Z1 := hide2 (hbs7.box Y1.out (by omega)).drew
                  have ZB := hide2 (show Box w7.drew br 40 #[.int .i64 (S0 + x'), .int .i64 S1, .int .i64 S2, .int .i64 S3] by rw [hw7]; simpa using (YB.out.set 0 (.int .i64 (S0 + x'))).drew)
                  have g7 : w6.grownBy w7 (some br) := by rw [hw7]; exact grown_cell (World.grownBy.refl _ _)
                  have ZW := hide2 (show (OwnSl (TranR0 w) 3 w7.drew wq.heap.size 78 (.slice Au kl cu) kl (LK)) from (OwnSl.kept YW.out g7 (.inr (fun e => by have := UNE.out _ e; omega)) (fun _ _ h => h)).keep (TranR0.kept w) (Below.refl _ _).drew)
                  have BZ := hide2 (show Below w.heap.size w w7.drew by rw [hw7]; exact (BY.out.setCell (show w.heap.size ≤ br by omega) _).drew)
                  have hbr7 : br < w7.drew.heap.size := ZB.out.lt
                  obtain ⟨c0', c1'⟩ := Z0.out.two
                  have c0 : w7.cell? ⟨w.heap.size, 0, none⟩ = some (.int .i64 p) := c0'
                  have c1 : w7.cell? ⟨w.heap.size, 1, none⟩ = some (.slice A n c) := c1'
                  clear hw7 hbs7 g7 Y0 Y1 YB YW BY d0 d1 d2 d3 df qx c0' c1'
                  refine wp_region_scrP 10 11 11 (.takes [0, 1, 2, 4, 5] (.two 3 (.one 6 (.take 7 (.one 8 (.one 9 (.fin 10 .done))))) 6 (.one 3 (.take 7 (.one 8 (.one 9 (.fin 10 .done))))))) (fun w' => w'.cell? ⟨w.heap.size, 0, none⟩ = some (.int .i64 p) ∧ w'.cell? ⟨w.heap.size, 1, none⟩ = some (.slice A n c)) (v := ?_) (by kernel_rfl) (by kernel_rfl) (by kernel_rfl) rfl (by kernel_rfl) (fun _ _ _ _ _ h => h) rfl (by rfl) (fun w' => ?_) ⟨c0, c1⟩ (fun hHeld => ?_)
                  rotate_left
                  · (go_simp; try with_reducible rfl)
                  simp only [Act.put, List.setIfInBounds_toArray, List.set_cons_zero, List.set_cons_succ]
                  simp only [Scr.takes]
                  generalize w7.drew = v0 at *
                  iterate 5
                    refine tkTake (v := ?_) rfl (by rfl) hHeld (fun w' hSw => ?_) ?_
                    rotate_left
                    · (go_simp; try with_reducible rfl)
                    simp only [Act.put, List.setIfInBounds_toArray, List.set_cons_zero, List.set_cons_succ]
                  refine scrEnd (.take 7 (.one 8 (.one 9 (.fin 10 .done)))) (fun a0 a' w' => ∃ Co ko bz, a' = ((a0.put (some 117) (.slice Co p ko)).put (some 120) (.slice (some ⟨bz, 0, none⟩) p p)) ∧ Hid (Ints w' Co p ko (oneL p o)) ∧ Hid (Ints w' (some ⟨bz, 0, none⟩) p p (List.replicate p 0)) ∧ Hid (∀ a, Co = some a → br < a.block) ∧ br < bz ∧ Hid (Below v0.heap.size v0 w')) ?_ (fun EN => ?_)
                  · rintro a' v3 ⟨Co, ko, bz, rfl, I_, IZ, FO, hbz, B3⟩ hHeld
                    simp only [Act.put, List.setIfInBounds_toArray, List.set_cons_zero, List.set_cons_succ]
                    have W0' := hide2 (Z0.out.keep B3.out)
                    have W1' := hide2 (Z1.out.keep B3.out)
                    have WB' := hide2 (ZB.out.keep B3.out)
                    have WW' := hide2 (ZW.out.keep (TranR0.kept w) B3.out)
                    have BW' := hide2 (BZ.out.trans (B3.out.mono BZ.out.size))
                    have hbr3 : br < v3.heap.size := WB'.out.lt
                    clear Z0 Z1 ZB ZW BZ B3 hbr7 c0 c1
                    iterate 1
                      refine tkTake (v := ?_) rfl (by rfl) hHeld (fun w' hSw => ?_) ?_
                      rotate_left
                      · (go_simp; try with_reducible rfl)
                      simp only [Act.put, List.setIfInBounds_toArray, List.set_cons_zero, List.set_cons_succ]
                    refine tkOne rfl (fun K hK => ?_)
                    go_simp
                    refine hK.out _ _ ⟨(W0'.out.old _).two.1, (W0'.out.old _).two.2⟩ (fun hHeld => ?_)
                    clear hK
                    try simp only [Act.put, List.setIfInBounds_toArray, List.set_cons_zero, List.set_cons_succ]
                    obtain ⟨Q0, hQ0⟩ : ∃ Q : World → Prop, Q = fun w' => Below w.heap.size w w' ∧ Ints w' Co p ko (oneL p o) ∧ Ints w' (some ⟨bz, 0, none⟩) p p (List.replicate p 0) := ⟨_, rfl⟩
                    have RD := hide2 (show LateR Q0 v3 (fun r => [Value.int .i64 0, .slice Co p ko, .slice (some ⟨bz, 0, none⟩) p p].getD r undef) (endT p o) from fun w' hw' => by rw [hQ0] at hw'; exact ⟨rfl, Co, p, ko, some ⟨bz, 0, none⟩, p, p, rfl, rfl, hw'.2.1, hw'.2.2, by omega, by omega⟩)
                    have RO := hide2 (show ∀ vs t, TranR0 w v3 vs t → LateR Q0 v3 vs t from fun vs t ht w' hw' => by rw [hQ0] at hw'; exact TranV.keep hw'.1 ht)
                    have SQ3 := hide2 (show wq.heap.size ≤ v3.heap.size by omega)
                    refine tkOne rfl (fun K hK => ?_)
                    refine step_appKeep (R := LateR Q0) tyTrans rfl (.tmp 114) (.tmp 122) rfl [endT p o] #[.int .i64 0, .slice Co p ko, .slice (some ⟨bz, 0, none⟩) p p] rfl rfl (by first | rfl | simp) rfl rfl (by omega) (by simp [Value.oneCell']) WW'.out RO.out (Reads.tran RD.out) rfl (Below.refl wq.heap.size v3) SQ3.out (by omega) (by omega) (fun _ _ _ _ h => h) (fun _ _ _ _ h => h) ?_
                    intro g cap wz ownT ownU hg4 hb4 hBg hgl hat
                    replace hg4 : v3.grownBy wz (Value.slice Au kl cu).ownBlock := hg4
                    replace hat : (Value.slice Au kl cu).ownBlock = some g ∨ v3.heap.size < g := hat
                    rw [HLE.out] at ownT
                    have OT := hide2 ownT
                    have OU := hide2 ownU
                    have hgne : g ≠ br := by
                      rcases hat with h | h
                      · have := UNE.out g h; omega
                      · omega
                    have far : ∀ (Ax : Option Addr) (nx cx : Nat) (xs : List Int), Ints v3 Ax nx cx xs → (∀ a, Ax = some a → br < a.block) → Ints wz Ax nx cx xs := fun Ax nx cx xs hi hf => by
                      rcases hv : (Value.slice Au kl cu).ownBlock with _ | q
                      · rw [hv] at hg4; exact Ints.far (b := br) hi (hg4.but _) (fun a ha => by have := hf a ha; omega)
                      · rw [hv] at hg4; exact Ints.far hi hg4 (fun a ha => by have := hf a ha; have := UNE.out q hv; omega)
                    have IOZ := hide2 (far _ _ _ _ I_.out FO.out)
                    have IZZ := hide2 (far _ _ _ _ IZ.out (fun a ha => by injection ha with ha; rw [← ha]; exact hbz))
                    have Q0' := hide2 (W0'.out.keepB hb4 (by omega))
                    have Q1' := hide2 (W1'.out.keepB hb4 (by omega))
                    have QB' := hide2 (show Box wz br 40 #[.int .i64 (S0 + x'), .int .i64 S1, .int .i64 S2, .int .i64 S3] from WB'.out.grown hg4 (fun e => by have := UNE.out _ e; omega))
                    have BQ' := hide2 (BW'.out.trans (hb4.mono (show w.heap.size ≤ wq.heap.size by omega)))
                    have QALL := hide2 (show ∀ w', wz.grownBy w' (some br) → Q0 w' from fun w' gr => by
                      rw [hQ0]
                      exact ⟨BQ'.out.grown gr BQ'.out.size (fun k hk => by cases hk; omega), IOZ.out.far gr (fun a ha => by have := FO.out a ha; omega), IZZ.out.far gr (fun a ha => by injection ha with ha; rw [← ha]; show bz ≠ br; omega)⟩)
                    have hbrz : br < wz.heap.size := QB'.out.lt
                    clear ownT ownU hg4 hb4 hat far hQ0 RD RO SQ3 W0' W1' WB' WW' BW' I_ IZ hbr3
                    obtain ⟨c0, c1⟩ := Q0'.out.two
                    refine hK.out _ _ ⟨c0, c1⟩ (fun hHeld => ?_)
                    clear hK
                    try simp only [Act.put, List.setIfInBounds_toArray, List.set_cons_zero, List.set_cons_succ]
                    refine tkEnd rfl (fun K hK => ?_)
                    go_simp
                    refine hK.out _ _ ?_
                    clear hK hHeld c0 c1
                    try simp only [Act.put, List.setIfInBounds_toArray, List.set_cons_zero, List.set_cons_succ]
                    refine tkDone ?_
                    go_wp2
                    go_loopw [23, 125] (fun hv v wr => ∃ q : Nat, q ≤ kl + 1 ∧ v = .int .i64 q ∧ hv = .int .i64 (haveL j (LE.take q) x') ∧ Hid (Box wr br 40 #[.int .i64 (S0 + x' + putL j (LE.take q)), .int .i64 (S1 + takenL j (LE.take q)), .int .i64 (S2 + lackL j (LE.take q) x'), .int .i64 (S3)]) ∧ Hid (wz.grownBy wr (some br)) ∧ wz.heap.size ≤ wr.heap.size) (fun _ v _ => kl + 1 - (intOf v).toNat)
                    case atStart => exact ⟨0, Nat.zero_le _, rfl, rfl, by show Box wz br _ #[.int .i64 (S0 + x' + 0), .int .i64 (S1 + 0), .int .i64 (S2 + 0), .int .i64 S3]; rw [Int.add_zero, Int.add_zero, Int.add_zero]; exact QB', World.grownBy.refl _ _, Nat.le_refl _⟩
                    case round =>
                      obtain ⟨q, hq, rfl, rfl, C, GR, hsz⟩ := hrel
                      obtain ⟨LQ, hLQ⟩ : ∃ l, LE.take q = l := ⟨_, rfl⟩
                      rw [hLQ] at C
                      have LTQ := hide2 (show LightL LQ by rw [← hLQ]; exact fun t ht => LTE.out t (List.mem_of_mem_take ht))
                      have lqn : LQ.length ≤ 61 := by rw [← hLQ, List.length_take]; omega
                      have HLQ := hide2 hLQ
                      obtain ⟨P0, hP0⟩ : ∃ y, putL j LQ = y := ⟨_, rfl⟩
                      obtain ⟨P1, hP1⟩ : ∃ y, takenL j LQ = y := ⟨_, rfl⟩
                      obtain ⟨P2, hP2⟩ : ∃ y, lackL j LQ x' = y := ⟨_, rfl⟩
                      obtain ⟨hh, hhh⟩ : ∃ y, haveL j LQ x' = y := ⟨_, rfl⟩
                      have e0 := put_bd j LQ LTQ.out
                      have e1 := taken_bd j LQ LTQ.out
                      have e2 := lack_bd j LQ x' LTQ.out x0
                      have e3 := have_bd j LQ x' LTQ.out x0
                      rw [hP0] at e0 C
                      rw [hP1] at e1 C
                      rw [hP2] at e2 C
                      rw [hhh] at e3
                      rw [hLQ, hhh]
                      have HP0 := hide2 hP0
                      have HP1 := hide2 hP1
                      have HP2 := hide2 hP2
                      have HHH := hide2 hhh
                      obtain ⟨e00, e01⟩ := e0
                      obtain ⟨e10, e11⟩ := e1
                      obtain ⟨e20, e21⟩ := e2
                      obtain ⟨e30, e31⟩ := e3
                      have e02 : P0 ≤ 600 := by omega
                      have e12 : P1 ≤ 600 := by omega
                      have e22 : P2 ≤ 600 := by omega
                      have e32 : hh ≤ 600 := by omega
                      clear hP0 hP1 hP2 hhh hLQ e01 e11 e21 e31
                      by_cases hlq : q < kl + 1
                      · have hqi : (q : Int) < (kl : Int) + 1 := by omega
                        obtain ⟨AL', cL, hv, hSL⟩ := (OwnSl.kept OT.out GR.out (.inr (fun e => hgne (by simpa [Value.ownBlock] using e))) (fun _ _ h => h)).sl (by omega)
                        injection hv with g1 g2 g3
                        subst g1 g3
                        obtain ⟨bl, off, t, vs, hA, hbl, ht, hcs, hR⟩ := Sl.get hSL (show q < kl + 1 from hlq)
                        cases hA
                        obtain ⟨A1, n1, k1, A2, n2, k2, v0, v1, v2, RT0⟩ := LateR.all hR (QALL.out wr GR.out)
                        have q0 : wr.cell? ⟨g, q * 3, none⟩ = some (.int .i64 t.label) := by have := hcs 0 (by omega); rw [v0] at this; simpa using this
                        have q1 : wr.cell? ⟨g, q * 3 + 1, none⟩ = some (.slice A1 n1 k1) := by have := hcs 1 (by omega); rw [v1] at this; simpa using this
                        have q2 : wr.cell? ⟨g, q * 3 + 2, none⟩ = some (.slice A2 n2 k2) := by have := hcs 2 (by omega); rw [v2] at this; simpa using this
                        have RT := hide2 (show ∀ w', wz.grownBy w' (some br) → Ints w' A1 n1 k1 t.pre ∧ Ints w' A2 n2 k2 t.post from fun w' gr => RT0 w' (QALL.out w' gr))
                        have hTL := LNE.out t (List.mem_of_getElem? ht)
                        obtain ⟨i1, i2⟩ := RT.out wr GR.out
                        have e1 : n1 = p := by have := i1.len; omega
                        have e2 : n2 = p := by have := i2.len; omega
                        have hj1 : (j : Int) < (n1 : Int) := by omega
                        have hj2 : (j : Int) < (n2 : Int) := by omega
                        have hj1n : j < n1 := by omega
                        have hj2n : j < n2 := by omega
                        have HST := hide2 (take_snoc ht)
                        rw [HLQ.out] at HST
                        obtain ⟨b1, o1, a, rfl, hb1, ha, _⟩ := Ints.get i1 hj1n
                        obtain ⟨b2, o2, b, rfl, hb2, hb', _⟩ := Ints.get i2 hj2n
                        have hab := LTE.out t (List.mem_of_getElem? ht) j
                        rw [atL_some ha.out, atL_some hb'.out] at hab
                        obtain ⟨a0', a9, b0', b9⟩ := hab
                        have QA := hide2 (show ∀ w', wz.grownBy w' (some br) → w'.cell? ⟨b1, o1 + j, none⟩ = some (.int .i64 a) from fun w' gr => by
                          obtain ⟨b1', o1', a', hA', _, ha', qa'⟩ := Ints.get (RT.out w' gr).1 hj1n
                          cases hA'
                          have := ha'.out
                          rw [ha.out] at this
                          injection this with this
                          rw [this]; exact qa')
                        have QBB := hide2 (show ∀ w', wz.grownBy w' (some br) → w'.cell? ⟨b2, o2 + j, none⟩ = some (.int .i64 b) from fun w' gr => by
                          obtain ⟨b1', o1', a', hA', _, ha', qa'⟩ := Ints.get (RT.out w' gr).2 hj2n
                          cases hA'
                          have := ha'.out
                          rw [hb'.out] at this
                          injection this with this
                          rw [this]; exact qa')
                        have SN := hide2 (show putL j (LQ ++ [t]) = P0 + b ∧ takenL j (LQ ++ [t]) = P1 + a ∧ lackL j (LQ ++ [t]) x' = P2 + max (a - hh) 0 ∧ haveL j (LQ ++ [t]) x' = hh + max (a - hh) 0 - a + b by
                          rw [putL_snoc, takenL_snoc, lackL_snoc, haveL_snoc, HP0.out, HP1.out, HP2.out, HHH.out, atL_some ha.out, atL_some hb'.out]
                          exact ⟨rfl, rfl, rfl, rfl⟩)
                        obtain ⟨lk, hlk⟩ : ∃ y, max (a - hh) 0 = y := ⟨_, rfl⟩
                        rw [hlk] at SN
                        have l0 : 0 ≤ lk := by omega
                        have l1 : lk ≤ 9 := by omega
                        have bb := boxBelow wr (.cells #[.int .i64 t.label, .slice (some ⟨b1, o1, none⟩) n1 k1, .slice (some ⟨b2, o2, none⟩) n2 k2] 78)
                        have WT := hide2 (Box.new wr #[.int .i64 t.label, .slice (some ⟨b1, o1, none⟩) n1 k1, .slice (some ⟨b2, o2, none⟩) n2 k2] 78)
                        have CB := hide2 (C.out.keep bb)
                        have GB := hide2 (grown_below GR.out (bb.mono hsz))
                        have hszb := Nat.le_trans hsz bb.size
                        have hbrw : br < wr.heap.size := C.out.lt
                        clear hSL hR hcs hTL e1 e2 i1 i2 ha hb' C GR bb hsz RT0 v0 v1 v2 ht hbl hb1 hb2
                        go_upto_region 41 with fail
                        clear q0 q1 q2
                        generalize wr.alloc (.cells #[.int .i64 t.label, .slice (some ⟨b1, o1, none⟩) n1 k1, .slice (some ⟨b2, o2, none⟩) n2 k2] 78) = u0 at *
                        generalize wr.heap.size = bx at *
                        have qa := QA.out u0 GB.out
                        have qb := QBB.out u0 GB.out
                        obtain ⟨t0, t1, t2⟩ := WT.out.three
                        go_upto_region 42 with fail
                        clear hlk
                        have z1 : IntKind.i64.wrap (hh + lk) = hh + lk := IntWalk.i64_in _ (by omega)
                        have z2 : IntKind.i64.wrap (hh + lk - a) = hh + lk - a := IntWalk.i64_in _ (by omega)
                        have z3 : IntKind.i64.wrap (hh + lk - a + b) = hh + lk - a + b := IntWalk.i64_in _ (by omega)
                        refine wp_region_scr 15 (.takes [0, 1, 2, 3, 4, 5, 6, 7, 8, 9, 10, 11, 12, 13, 14] (.fin 15 .done)) (fun w' => w'.cell? ⟨bx, 1, none⟩ = some (.slice (some ⟨b1, o1, none⟩) n1 k1) ∧ w'.cell? ⟨bx, 2, none⟩ = some (.slice (some ⟨b2, o2, none⟩) n2 k2) ∧ w'.cell? ⟨b1, o1 + j, none⟩ = some (.int .i64 a) ∧ w'.cell? ⟨b2, o2 + j, none⟩ = some (.int .i64 b)) (by kernel_rfl) (by kernel_rfl) (by kernel_rfl) (fun _ _ _ _ _ h => h) ⟨t1, t2, qa, qb⟩ (fun hHeld => ?_)
                        simp only [Scr.takes]
                        iterate 2
                          refine tkTake (v := ?_) rfl (by rfl) hHeld (fun w' hSw => ?_) ?_
                          rotate_left
                          · (go_simp; try with_reducible rfl)
                          simp only [Act.put, List.setIfInBounds_toArray, List.set_cons_zero, List.set_cons_succ]
                        refine tkTake (v := .int .i64 (hh + lk)) rfl (by rfl) hHeld (fun w' hSw => ?_) ?_
                        · go_simp
                          try simp only [z1]
                        simp only [Act.put, List.setIfInBounds_toArray, List.set_cons_zero, List.set_cons_succ]
                        iterate 5
                          refine tkTake (v := ?_) rfl (by rfl) hHeld (fun w' hSw => ?_) ?_
                          rotate_left
                          · (go_simp; try with_reducible rfl)
                          simp only [Act.put, List.setIfInBounds_toArray, List.set_cons_zero, List.set_cons_succ]
                        refine tkTake (v := .int .i64 (hh + lk - a)) rfl (by rfl) hHeld (fun w' hSw => ?_) ?_
                        · go_simp
                          try simp only [z2]
                        simp only [Act.put, List.setIfInBounds_toArray, List.set_cons_zero, List.set_cons_succ]
                        iterate 5
                          refine tkTake (v := ?_) rfl (by rfl) hHeld (fun w' hSw => ?_) ?_
                          rotate_left
                          · (go_simp; try with_reducible rfl)
                          simp only [Act.put, List.setIfInBounds_toArray, List.set_cons_zero, List.set_cons_succ]
                        refine tkTake (v := .int .i64 (hh + lk - a + b)) rfl (by rfl) hHeld (fun w' hSw => ?_) ?_
                        · go_simp
                          try simp only [z3]
                        simp only [Act.put, List.setIfInBounds_toArray, List.set_cons_zero, List.set_cons_succ]
                        iterate 1
                          refine tkEnd rfl (fun K hK => ?_)
                          go_simp
                          refine hK.out _ _ ?_
                          clear hK
                          try simp only [Act.put, List.setIfInBounds_toArray, List.set_cons_zero, List.set_cons_succ]
                        refine tkDone ?_
                        clear z1 z2 z3 hHeld qa qb t0 t1 t2
                        have DT := hide2 WT.out.drew
                        have DB := hide2 CB.out.drew
                        have GD := hide2 (GB.out.trans (grownDrew u0 (some br)))
                        have hszd : wz.heap.size ≤ u0.drew.heap.size := hszb
                        clear WT CB GB hszb
                        generalize u0.drew = u1 at *
                        obtain ⟨d0, d1, d2, d3⟩ := DB.out.four
                        have df := DB.out.frozen 2
                        go_upto_region 44 with fail
                        obtain ⟨u2, hu2⟩ : ∃ u2, u2 = u1.setCell ⟨br, 2, none⟩ (.int .i64 (S2 + P2 + lk)) := ⟨_, rfl⟩
                        rw [← hu2]
                        have ET := hide2 (show Box u2 bx 78 #[.int .i64 t.label, .slice (some ⟨b1, o1, none⟩) n1 k1, .slice (some ⟨b2, o2, none⟩) n2 k2] by rw [hu2]; exact (Beside.set u1 br 2 _).box DT.out (by omega))
                        have EB := hide2 (show Box u2 br 40 #[.int .i64 (S0 + x' + P0), .int .i64 (S1 + P1), .int .i64 (S2 + P2 + lk), .int .i64 S3] by rw [hu2]; simpa using DB.out.set 2 (.int .i64 (S2 + P2 + lk)))
                        have GE := hide2 (show wz.grownBy u2 (some br) by rw [hu2]; exact grown_cell GD.out)
                        clear hu2 DT DB GD hszd d0 d1 d2 d3 df
                        obtain ⟨_, t1, t2⟩ := ET.out.three
                        obtain ⟨d0, d1, d2, d3⟩ := EB.out.four
                        have qa := QA.out u2 GE.out
                        have z1 : IntKind.i64.wrap (S1 + P1 + a) = S1 + P1 + a := IntWalk.i64_in _ (by omega)
                        refine wp_region_scr 8 (.takes [0, 1, 2, 3, 4, 5, 6, 7] (.fins [8, 9] .done)) (fun w' => w'.cell? ⟨br, 1, none⟩ = some (.int .i64 (S1 + P1)) ∧ w'.cell? ⟨bx, 1, none⟩ = some (.slice (some ⟨b1, o1, none⟩) n1 k1) ∧ w'.cell? ⟨b1, o1 + j, none⟩ = some (.int .i64 a)) (by kernel_rfl) (by kernel_rfl) (by kernel_rfl) (fun _ _ _ _ _ h => h) ⟨d1, t1, qa⟩ (fun hHeld => ?_)
                        simp only [Scr.takes, Scr.fins]
                        have FT := hide2 ET.out.drew
                        have FB := hide2 EB.out.drew
                        have GF := hide2 (GE.out.trans (grownDrew u2 (some br)))
                        generalize u2.drew = u3 at *
                        iterate 7
                          refine tkTake (v := ?_) rfl (by rfl) hHeld (fun w' hSw => ?_) ?_
                          rotate_left
                          · (go_simp; try with_reducible rfl)
                          simp only [Act.put, List.setIfInBounds_toArray, List.set_cons_zero, List.set_cons_succ]
                        refine tkTake (v := .int .i64 (S1 + P1 + a)) rfl (by rfl) hHeld (fun w' hSw => ?_) ?_
                        · go_simp
                          try simp only [z1]
                        simp only [Act.put, List.setIfInBounds_toArray, List.set_cons_zero, List.set_cons_succ]
                        clear z1 hHeld d0 d1 d2 d3 t1 t2 qa ET EB GE
                        obtain ⟨d0, d1, d2, d3⟩ := FB.out.four
                        have df := FB.out.frozen 1
                        iterate 2
                          refine tkEnd rfl (fun K hK => ?_)
                          go_simp
                          refine hK.out _ _ ?_
                          clear hK
                          try simp only [Act.put, List.setIfInBounds_toArray, List.set_cons_zero, List.set_cons_succ]
                        refine tkDone ?_
                        clear d0 d1 d2 d3 df
                        obtain ⟨u4, hu4⟩ : ∃ u4, u4 = u3.setCell ⟨br, 1, none⟩ (.int .i64 (S1 + P1 + a)) := ⟨_, rfl⟩
                        rw [← hu4]
                        have ET := hide2 (show Box u4 bx 78 #[.int .i64 t.label, .slice (some ⟨b1, o1, none⟩) n1 k1, .slice (some ⟨b2, o2, none⟩) n2 k2] by rw [hu4]; exact (Beside.set u3 br 1 _).box FT.out (by omega))
                        have EB := hide2 (show Box u4 br 40 #[.int .i64 (S0 + x' + P0), .int .i64 (S1 + P1 + a), .int .i64 (S2 + P2 + lk), .int .i64 S3] by rw [hu4]; simpa using FB.out.set 1 (.int .i64 (S1 + P1 + a)))
                        have GE := hide2 (show wz.grownBy u4 (some br) by rw [hu4]; exact grown_cell GF.out)
                        clear hu4 FT FB GF
                        go_upto_region 45 with fail
                        obtain ⟨_, t1, t2⟩ := ET.out.three
                        obtain ⟨d0, d1, d2, d3⟩ := EB.out.four
                        have qb := QBB.out u4 GE.out
                        have z1 : IntKind.i64.wrap (S0 + x' + P0 + b) = S0 + x' + P0 + b := IntWalk.i64_in _ (by omega)
                        refine wp_region_scr 8 (.takes [0, 1, 2, 3, 4, 5, 6, 7] (.fins [8, 9] .done)) (fun w' => w'.cell? ⟨br, 0, none⟩ = some (.int .i64 (S0 + x' + P0)) ∧ w'.cell? ⟨bx, 2, none⟩ = some (.slice (some ⟨b2, o2, none⟩) n2 k2) ∧ w'.cell? ⟨b2, o2 + j, none⟩ = some (.int .i64 b)) (by kernel_rfl) (by kernel_rfl) (by kernel_rfl) (fun _ _ _ _ _ h => h) ⟨d0, t2, qb⟩ (fun hHeld => ?_)
                        simp only [Scr.takes, Scr.fins]
                        have FT := hide2 ET.out.drew
                        have FB := hide2 EB.out.drew
                        have GF := hide2 (GE.out.trans (grownDrew u4 (some br)))
                        generalize u4.drew = u5 at *
                        iterate 7
                          refine tkTake (v := ?_) rfl (by rfl) hHeld (fun w' hSw => ?_) ?_
                          rotate_left
                          · (go_simp; try with_reducible rfl)
                          simp only [Act.put, List.setIfInBounds_toArray, List.set_cons_zero, List.set_cons_succ]
                        refine tkTake (v := .int .i64 (S0 + x' + P0 + b)) rfl (by rfl) hHeld (fun w' hSw => ?_) ?_
                        · go_simp
                          try simp only [z1]
                        simp only [Act.put, List.setIfInBounds_toArray, List.set_cons_zero, List.set_cons_succ]
                        clear z1 hHeld d0 d1 d2 d3 t1 t2 qb ET EB GE
                        obtain ⟨d0, d1, d2, d3⟩ := FB.out.four
                        have df := FB.out.frozen 0
                        iterate 2
                          refine tkEnd rfl (fun K hK => ?_)
                          go_simp
                          refine hK.out _ _ ?_
                          clear hK
                          try simp only [Act.put, List.setIfInBounds_toArray, List.set_cons_zero, List.set_cons_succ]
                        refine tkDone ?_
                        clear d0 d1 d2 d3 df
                        obtain ⟨u6, hu6⟩ : ∃ u6, u6 = u5.setCell ⟨br, 0, none⟩ (.int .i64 (S0 + x' + P0 + b)) := ⟨_, rfl⟩
                        rw [← hu6]
                        have EB := hide2 (show Box u6 br 40 #[.int .i64 (S0 + x' + P0 + b), .int .i64 (S1 + P1 + a), .int .i64 (S2 + P2 + lk), .int .i64 S3] by rw [hu6]; simpa using FB.out.set 0 (.int .i64 (S0 + x' + P0 + b)))
                        have GE := hide2 (show wz.grownBy u6 (some br) by rw [hu6]; exact grown_cell GF.out)
                        clear hu6 FT FB GF
                        have SE := GE.out.size
                        go_wp2
                        go_roundw
                        case rel => exact ⟨q + 1, by omega, by go_num, by rw [HST.out, SN.out.2.2.2], by rw [HST.out, SN.out.1, SN.out.2.1, SN.out.2.2.1, ← Int.add_assoc, ← Int.add_assoc, ← Int.add_assoc]; exact EB, GE, SE⟩
                        case measure => simp [intOf]; omega
                      · obtain rfl : q = kl + 1 := by omega
                        have EQ := hide2 (show LQ = LE by rw [← HLQ.out, List.take_of_length_le (by rw [ELN.out]; exact Nat.le_refl _)])
                        obtain ⟨d0, d1, d2, d3⟩ := C.out.four
                        have df := C.out.frozen 3
                        have U0 := hide2 (Q0'.out.grown GR.out (by simp; omega))
                        have U1 := hide2 (Q1'.out.grown GR.out (by simp; omega))
                        have OW := hide2 (OwnSl.kept OU.out GR.out (.inr (fun e => by have := UNE.out _ e; omega)) (fun _ _ h => h))
                        have BV := hide2 (show Below w.heap.size w wr from BQ'.out.grown GR.out BQ'.out.size (fun k hk => by cases hk; omega))
                        have g9 : wr.grownBy (wr.setCell ⟨br, 3, none⟩ (.int .i64 (S3 + hh))) (some br) := grown_cell (World.grownBy.refl _ _)
                        have FC := hide2 (show Box (wr.setCell ⟨br, 3, none⟩ (.int .i64 (S3 + hh))) br 40 #[.int .i64 (S0 + x' + P0), .int .i64 (S1 + P1), .int .i64 (S2 + P2), .int .i64 (S3 + hh)] by simpa using C.out.set 3 (.int .i64 (S3 + hh)))
                        have F0 := hide2 (U0.out.grown g9 (by simp; omega))
                        have F1 := hide2 (U1.out.grown g9 (by simp; omega))
                        have FW := hide2 (OwnSl.kept OW.out g9 (.inr (fun e => by have := UNE.out _ e; omega)) (fun _ _ h => h))
                        have FV := hide2 (show Below w.heap.size w (wr.setCell ⟨br, 3, none⟩ (.int .i64 (S3 + hh))) from BV.out.grown g9 BV.out.size (fun k hk => by cases hk; omega))
                        have F_ : br < (wr.setCell ⟨br, 3, none⟩ (.int .i64 (S3 + hh))).heap.size := FC.out.lt
                        have N0 := hide2 (show sumN (j + 1) (fun q => atL (oneL p i) q + putL q LE) = S0 + x' + P0 by rw [T0.out, ← HP0.out, EQ.out])
                        have N1 := hide2 (show sumN (j + 1) (fun q => takenL q LE) = S1 + P1 by rw [T1.out, ← HP1.out, EQ.out])
                        have N2 := hide2 (show sumN (j + 1) (fun q => lackL q LE (atL (oneL p i) q)) = S2 + P2 by rw [T2.out, ← HP2.out, EQ.out])
                        have N3 := hide2 (show sumN (j + 1) (fun q => haveL q LE (atL (oneL p i) q)) = S3 + hh by rw [T3.out, ← HHH.out, EQ.out])
                        clear g9 U0 U1 OW BV C GR
                        go_wp2
                        go_roundw
                        case rel => exact ⟨j + 1, by omega, by go_num, by rw [N0.out, N1.out, N2.out, N3.out]; exact FC, F0, F1, FV, FW, F_⟩
                        case measure => simp [intOf]; omega
                  refine tkTwo rfl rfl (fun K hK => ?_) (fun K hK => ?_)
                  · go_simp; go_at_call 16
                    (with_reducible refine (refStart_small v0 (p : Int) o A n c (by omega)).mono ?_)
                    rw [Int.toNat_natCast]
                    rintro e v1 ⟨Co, ko, rfl, io, hb, fo⟩
                    have I_ := hide2 io
                    have FO := hide2 (show ∀ a, Co = some a → br < a.block from fun a ha => by have := fo a ha; omega)
                    have B1' := hide2 hb
                    have V0' := hide2 (Z0.out.keep hb)
                    clear io hb fo
                    obtain ⟨x0', x1'⟩ := V0'.out.two
                    refine hK.out _ _ ⟨x0', x1'⟩ (fun hHeld => ?_)
                    clear hK
                    try simp only [Act.put, List.setIfInBounds_toArray, List.set_cons_zero, List.set_cons_succ]
                    refine tkOne rfl (fun K hK => ?_)
                    refine step_mk Try.underlying35 infoInt rfl rfl _ _ rfl p rfl rfl rfl rfl (by omega) (by omega) (Below.refl v1.heap.size v1) (Nat.le_refl _) ?_
                    intro v2 own hg hb
                    have IZ := hide2 (ints_made own (by omega))
                    have IO2 := hide2 (Ints.keep I_.out hb)
                    have B2' := hide2 (B1'.out.trans (hb.mono B1'.out.size))
                    have V2' := hide2 (V0'.out.keep hb)
                    have hbz : br < v1.heap.size := Nat.lt_of_lt_of_le hbr7 B1'.out.size
                    clear own hg hb
                    obtain ⟨x0'', x1''⟩ := V2'.out.two
                    refine hK.out _ _ ⟨x0'', x1''⟩ (fun hHeld => ?_)
                    clear hK
                    try simp only [Act.put, List.setIfInBounds_toArray, List.set_cons_zero, List.set_cons_succ]
                    exact EN.out _ _ ⟨_, _, _, rfl, IO2, IZ, FO, hbz, B2'⟩ hHeld
                  · refine step_mk Try.underlying35 infoInt rfl rfl _ _ rfl p rfl rfl rfl rfl (by omega) (by omega) (Below.refl v0.heap.size v0) (Nat.le_refl _) ?_
                    intro v1 own hg hb
                    have IZ := hide2 (ints_made own (by omega))
                    have B1' := hide2 hb
                    have V0' := hide2 (Z0.out.keep hb)
                    clear own hg hb
                    obtain ⟨x0', x1'⟩ := V0'.out.two
                    refine hK.out _ _ ⟨x0', x1'⟩ (fun hHeld => ?_)
                    clear hK
                    try simp only [Act.put, List.setIfInBounds_toArray, List.set_cons_zero, List.set_cons_succ]
                    refine tkOne rfl (fun K hK => ?_)
                    go_simp; go_at_call 16
                    (with_reducible refine (refStart_small v1 (p : Int) o A n c (by omega)).mono ?_)
                    rw [Int.toNat_natCast]
                    rintro e v2 ⟨Co, ko, rfl, io, hb, fo⟩
                    have I_ := hide2 io
                    have FO := hide2 (show ∀ a, Co = some a → br < a.block from fun a ha => by have := fo a ha; have := B1'.out.size; omega)
                    have IZ2 := hide2 (Ints.keep IZ.out hb)
                    have B2' := hide2 (B1'.out.trans (hb.mono B1'.out.size))
                    have V2' := hide2 (V0'.out.keep hb)
                    clear io hb fo
                    obtain ⟨x0'', x1''⟩ := V2'.out.two
                    refine hK.out _ _ ⟨x0'', x1''⟩ (fun hHeld => ?_)
                    clear hK
                    try simp only [Act.put, List.setIfInBounds_toArray, List.set_cons_zero, List.set_cons_succ]
                    exact EN.out _ _ ⟨_, _, _, rfl, I_, IZ2, FO, hbr7, B2'⟩ hHeld
                · obtain rfl : j = p := by omega
                  obtain ⟨d0, d1, d2, d3⟩ := C.out.four
                  obtain ⟨z0, z1, z2, z3⟩ := U1.out.four
                  have f0 := U1.out.frozen 0
                  have f1 := U1.out.frozen 1
                  have f2 := U1.out.frozen 2
                  have f3 := U1.out.frozen 3
                  go_wp2
                  obtain ⟨r0, r1, r2, r3⟩ := (U1.out.set4 (.int .i64 S0) (.int .i64 S1) (.int .i64 S2) (.int .i64 S3)).four
                  exact bodyPost_ret (v := .tuple #[.agg #[.int .i64 S0, .int .i64 S1, .int .i64 S2, .int .i64 S3], .int .i64 0]) (by simp [results, Try.results20, go_sem, r0, r1, r2, r3]) rfl (by rw [ANS.out, HS0.out, HS1.out, HS2.out, HS3.out]; exact ⟨rfl, below_set4 BR.out (by omega) _ _ _ _⟩)
  · have hne : (s == 0) = false := by simpa using hz
    have FIN := hide2 (show replayL ⟨P, ts⟩ i o tr = (PPlayed.nil, s) by rw [replayL, HS.out, if_neg hz])
    clear hz
    obtain ⟨z0, z1, z2, z3⟩ := Y1.out.four
    have f0 := Y1.out.frozen 0
    have f1 := Y1.out.frozen 1
    have f2 := Y1.out.frozen 2
    have f3 := Y1.out.frozen 3
    go_wp2
    obtain ⟨r0, r1, r2, r3⟩ := (Y1.out.set4 (.int .i64 0) (.int .i64 0) (.int .i64 0) (.int .i64 0)).four
    exact bodyPost_ret (v := .tuple #[.agg #[.int .i64 0, .int .i64 0, .int .i64 0, .int .i64 0], .int .i64 s]) (by simp [results, Try.results20, go_sem, r0, r1, r2, r3]) rfl (by rw [FIN.out]; exact AnsPl.no (below_set4 B1.out (by omega) _ _ _ _))
end Go.Proofs.Ytnfppolgaeibeaa
