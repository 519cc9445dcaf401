/- The contract of mof: the reference's net by rows, of a net. Conditions: the net is right. -/
import Derived.Test.YtadepofaobdbhaaMrefE
namespace Go.Proofs.Ytadepofaobdbhaa
open Go.RowKit

/-- A label is appended, and the box told, ahead of all rows. -/
theorem MnM.labPut {N tb t1 : Nat} {cs1 : Array Value} {w wr w' : World} {L : Option Addr} {nl cl : Nat} {ls : List Int} {i o : Int} (h : MnM N N tb t1 cs1 w wr L nl cl ls none 0 0 [] i o) (hl : OwnInts wr N (.slice L nl cl) nl ls) {L' : Option Addr} {nl' cl' : Nat} {ls' : List Int} (hr : OwnInts w' N (.slice L' nl' cl') nl' ls') (hg : wr.grownBy w' (Value.slice L nl cl).ownBlock) (hb : Below N w w') :
    MnM N N tb t1 cs1 w (w'.setCell ⟨tb, 0, none⟩ (.slice L' nl' cl')) L' nl' cl' ls' none 0 0 [] i o ∧ OwnInts (w'.setCell ⟨tb, 0, none⟩ (.slice L' nl' cl')) N (.slice L' nl' cl') nl' ls' := by
  have hA := box_row h.arg hl (Ne.symm h.ty.1) hg
  have hR := box_row h.res hl (by decide) hg
  have hO := box_row h.own hl (by decide) hg
  have g1 : w'.grownBy (w'.setCell ⟨tb, 0, none⟩ (.slice L' nl' cl')) (some tb) := grown_setB (grown_reflB w' _)
  have lo := h.lo
  have o2 := hr.kept g1 (row_ne_box hr hO (by decide)) (fun _ _ h => h)
  refine ⟨⟨hA.other _ (by show N ≠ tb; omega), hR.other _ (by show N + 1 ≠ tb; omega), ?_, o2, OwnSl.nil, hb.setCell (by show N ≤ tb; omega) _, h.lo, h.ty, h.hN⟩, o2⟩
  have := hO.set 0 (.slice L' nl' cl')
  simpa using this

set_option maxRecDepth 100000 in
set_option maxHeartbeats 16000000 in
theorem mof_calls {w : World} {P : Int} {A : Option Addr} {n c : Nat} {ts : List PTran} (i o : Int) (h : Trans w A n c ts) (hok : netOk ⟨P, ts⟩ = true) :
    Calls Try.prog 44 #[.agg #[.int .i64 P, .slice A n c], .int .i64 i, .int .i64 o] w (AnsM1 w.heap.size (mofL ⟨⟨P, ts⟩, i, o⟩) w) := by
  have H := hide2 h
  have HL := hide2 h.len
  have hN := (netOk_iff _).1 hok
  have hn24 : n ≤ 24 := by have := hN.2.2.1; rw [h.len] at this; exact this
  obtain ⟨p, rfl⟩ : ∃ p : Nat, P = (p : Int) := ⟨P.toNat, by have := hN.1; simp only at this; omega⟩
  have hp16 : p ≤ 16 := by have := hN.2.1; simp only at this; omega
  have LN := hide2 (fun k t => SmM.lens (s := ⟨⟨(p : Int), ts⟩, i, o⟩) hok (k := k) (t := t))
  simp only at LN
  clear h hok hN
  go_enter Try.func44, Try.ntmps44
  go_upto_region 2 with fail
  generalize hw0 : ((w.alloc (.cells #[.int .i64 p, .slice A n c] 24)).alloc (.cells mn0 69)).alloc (.cells #[.slice none 0 0, .slice none 0 0, .int .i64 i, .int .i64 o] 69) = w0
  have M0 := hide2 (show MnM w.heap.size w.heap.size (w.heap.size + 2) 24 #[.int .i64 p, .slice A n c] w w0 none 0 0 ((ts.take 0).map (·.label)) none 0 0 [] i o from by
    rw [← hw0]
    exact ⟨((Box.new _ _ _).old _).old _, (Box.newAt (by simp) _ _).old _, Box.newAt (by simp) _ _, OwnSl.nil, OwnSl.nil, (((Below.refl _ _).alloc (Nat.le_refl _) _).alloc (by simp) _).alloc (by simp; omega) _, by omega, by decide, rfl⟩)
  clear hw0
  obtain ⟨a0, a1⟩ := M0.out.arg.two
  go_wp2
  go_loopg [20] n (fun gk iv wr => ∃ (k : Nat) (L : Option Addr) (e : Nat), k + gk = n ∧ iv = .int .i64 k ∧ Hid (MnM w.heap.size w.heap.size (w.heap.size + 2) 24 #[.int .i64 p, .slice A n c] w wr L k e ((ts.take k).map (·.label)) none 0 0 [] i o) ∧ Hid (OwnInts wr w.heap.size (.slice L k e) k ((ts.take k).map (·.label))))
  case atStart => exact ⟨0, none, 0, by omega, rfl, M0.out, OwnSl.nil⟩
  case round =>
    obtain ⟨k, L, e, hk, rfl, M, OL⟩ := hrel
    by_cases hlt : k < n
    · obtain ⟨bl, off, t, A1, n1, c1, A2, n2, c2, rfl, hbl, ht, q0, q1, q2, i1, i2, m1, m2⟩ := Trans.get H.out hlt
      have q0' := (M.out.bel.cell (p := ⟨bl, off + k * 3, none⟩) hbl).trans q0
      have q1' := (M.out.bel.cell (p := ⟨bl, off + k * 3 + 1, none⟩) hbl).trans q1
      have q2' := (M.out.bel.cell (p := ⟨bl, off + k * 3 + 2, none⟩) hbl).trans q2
      have HST := hide2 (map_take_snoc (f := fun t : PTran => t.label) ht.out)
      have hks : k ≤ 1000 := by omega
      clear q0 q1 q2 i1 i2
      go_upto_region 5 with fail
      generalize hw1 : wr.alloc (.cells #[.int .i64 t.label, .slice A1 n1 c1, .slice A2 n2 c2] 76) = w1
      have B1 : Below wr.heap.size wr w1 := by rw [← hw1]; exact boxBelow _ _
      have xl : w1.cell? ⟨wr.heap.size, 0, none⟩ = some (.int .i64 t.label) := by rw [← hw1]; simp
      have M1 := hide2 (M.out.keep B1)
      have OL1 := hide2 (OL.out.keep IntR.kept B1)
      have x0 : w1.cell? ⟨w.heap.size + 1 + 1, 0, none⟩ = some (.slice L k e) := M1.out.own.cell 0
      have HB1 := hide2 M1.out.bel
      clear hw1 B1 q0' q1' q2' M OL
      go_wp2_with (at_builtin; refine wpList_appNew (v := .slice L k e) tyInts rfl _ _ rfl [t.label] #[.int .i64 t.label] rfl rfl (by first | rfl | simp) rfl (by simp [Value.oneCell']) OL1.out (Reads.one (vs := fun _ => .int .i64 t.label) rfl rfl (fun j hj => (by obtain rfl : j = 0 := (by omega); rfl))) rfl HB1.out HB1.out.size (by omega) (by omega) (fun _ _ _ _ h => h) ?_; intro v1 w2 own1 hg1 hb1; obtain ⟨g, cap, hv1, _⟩ := own1.form (by omega); subst hv1; have XO := box_row M1.out.own OL1.out (by decide) hg1; have j1 : w2.cell? ⟨w.heap.size + 1 + 1, 0, none⟩ = some (.slice L k e) := XO.cell 0; have jf : w2.frozen? ⟨w.heap.size + 1 + 1, 0, none⟩ = false := XO.frozen 0; rw [← HST.out] at own1; have NX := hide2 (MnM.labPut M1.out OL1.out own1 hg1 hb1); clear own1 hg1 hb1 XO)
      go_roundg (gk - 1)
      case measure => omega
      case rel => exact ⟨k + 1, some ⟨g, 0, none⟩, cap, by omega, by simp, NX.out.1, NX.out.2⟩
    · obtain rfl : k = n := by omega
      have LB := hide2 (show (ts.take k).map (·.label) = ts.map (·.label) by rw [List.take_of_length_le (by rw [HL.out]; omega)])
      rw [LB.out] at M
      have M2 := hide2 M.out
      clear M OL
      obtain ⟨a0, a1⟩ := M2.out.arg.two
      go_wp2
      go_loopg [34] p (fun gk iv wr => ∃ (q : Nat) (R : Option Addr) (er : Nat), q + gk = p ∧ iv = .int .i64 q ∧ Hid (MnM w.heap.size w.heap.size (w.heap.size + 2) 24 #[.int .i64 p, .slice A k c] w wr L k e (ts.map (·.label)) R q er ((List.range q).map (colL ts)) i o))
      case atStart => exact ⟨0, none, 0, by omega, rfl, M2.out⟩
      case round =>
        obtain ⟨q, R, er, hq, rfl, M⟩ := hrel
        by_cases hqp : q < p
        · have MM := M
          clear M a0 a1
          obtain ⟨a0, a1⟩ := MM.out.arg.two
          go_wp2
          obtain ⟨wo, hwo⟩ : ∃ wo : World, wo = wr := ⟨_, rfl⟩
          subst hwo
          obtain ⟨gO, hgO⟩ : ∃ g : Nat, g = gk := ⟨_, rfl⟩
          subst hgO
          go_loopg [11, 40] k (fun gj v iv wr => ∃ (j m : Nat) (C : Option Addr) (e2 : Nat), j + gj = k ∧ iv = .int .i64 j ∧ v = .slice C m e2 ∧ Hid (m = 2 * j) ∧ Hid (OwnInts wr wo.heap.size (.slice C m e2) m (colL (ts.take j) q)) ∧ Hid (Below wo.heap.size wo wr))
          case atStart => exact ⟨0, 0, none, 0, by omega, rfl, rfl, rfl, OwnSl.nil, Below.refl _ _⟩
          case round =>
            obtain ⟨j, m, C, e2, hj, rfl, rfl, hm, own, hb⟩ := hrel
            by_cases hjk : j < k
            · obtain ⟨bl, off, t, A1, n1, c1, A2, n2, c2, rfl, hbl, ht, q0, q1, q2, i1, i2, m1, m2⟩ := Trans.get H.out hjk
              have hl1 := (LN.out j t ht.out).1
              have hl2 := (LN.out j t ht.out).2
              rw [i1.len] at hl1
              rw [i2.len] at hl2
              have hp1 : q < n1 := by omega
              have hp2 : q < n2 := by omega
              obtain ⟨b1, o1, x, rfl, hb1, hx, d1⟩ := i1.get hp1
              obtain ⟨b2, o2, y, rfl, hb2, hy, d2⟩ := i2.get hp2
              have hbx := MM.out.bel.trans (hb.out.mono MM.out.bel.size)
              have q0' := (hbx.cell (p := ⟨bl, off + j * 3, none⟩) hbl).trans q0
              have q1' := (hbx.cell (p := ⟨bl, off + j * 3 + 1, none⟩) hbl).trans q1
              have q2' := (hbx.cell (p := ⟨bl, off + j * 3 + 2, none⟩) hbl).trans q2
              have d1' := (hbx.cell (p := ⟨b1, o1 + q, none⟩) hb1).trans d1
              have d2' := (hbx.cell (p := ⟨b2, o2 + q, none⟩) hb2).trans d2
              have g1 : b1 < wr.heap.size := Nat.lt_of_lt_of_le hb1 hbx.size
              have g2 : b2 < wr.heap.size := Nat.lt_of_lt_of_le hb2 hbx.size
              have HST := hide2 (show colL (ts.take (j + 1)) q = colL (ts.take j) q ++ [x, y] by rw [colL_snoc q ht.out, getD_get hx.out, getD_get hy.out])
              have hm46 : m ≤ 46 := by have := hm.out; omega
              clear q0 q1 q2 d1 d2 i1 i2 hl1 hl2 hbx
              go_upto_region 14 with fail
              generalize hw2 : wr.alloc (.cells #[.int .i64 t.label, .slice (some ⟨b1, o1, none⟩) n1 c1, .slice (some ⟨b2, o2, none⟩) n2 c2] 76) = w2
              have hb2' : Below wr.heap.size wr w2 := by rw [← hw2]; exact boxBelow _ _
              have x1 : w2.cell? ⟨wr.heap.size, 1, none⟩ = some (.slice (some ⟨b1, o1, none⟩) n1 c1) := by rw [← hw2]; simp
              have x2 : w2.cell? ⟨wr.heap.size, 2, none⟩ = some (.slice (some ⟨b2, o2, none⟩) n2 c2) := by rw [← hw2]; simp
              have y1 := (hb2'.cell (p := ⟨b1, o1 + q, none⟩) g1).trans d1'
              have y2 := (hb2'.cell (p := ⟨b2, o2 + q, none⟩) g2).trans d2'
              have D0 := hide2 (show Below wo.heap.size wo w2.drew from (hb.out.trans (hb2'.mono hb.out.size)).drew)
              have OW := hide2 (own.out.keep IntR.kept (show Below wr.heap.size wr w2.drew from hb2'.drew))
              have sz2 : wr.heap.size < w2.heap.size := by rw [← hw2]; simp
              clear hw2 hb2' own hb d1' d2' g1 g2 q0' q1' q2'
              refine wp_region_script 12 [(0, 0), (0, 1), (0, 2), (0, 3), (0, 4), (0, 5), (0, 6), (0, 7), (0, 8), (0, 9), (0, 10), (1, 11), (2, 12), (2, 13)] (fun w' => w'.cell? ⟨wr.heap.size, 1, none⟩ = some (.slice (some ⟨b1, o1, none⟩) n1 c1) ∧ w'.cell? ⟨wr.heap.size, 2, none⟩ = some (.slice (some ⟨b2, o2, none⟩) n2 c2) ∧ w'.cell? ⟨b1, o1 + q, none⟩ = some (.int .i64 x) ∧ w'.cell? ⟨b2, o2 + q, none⟩ = some (.int .i64 y)) (by kernel_rfl) (by kernel_rfl) (by kernel_rfl) (fun _ _ _ _ _ h => h) ⟨x1, x2, y1, y2⟩ (fun hHeld => ?_)
              iterate 11
                refine scTake (v := ?_) rfl (by rfl) hHeld (fun w' hSw => ?_) ?_
                rotate_left
                · (go_simp; try with_reducible rfl)
                try simp only [Act.put, List.setIfInBounds_toArray, List.set_cons_zero, List.set_cons_succ]
              refine scOne rfl (fun K hK => ?_)
              go_simp
              refine hK.out _ _ (by simp [*, World.cell?_alloc_some]) (fun hHeld => ?_)
              clear hK
              try simp only [Act.put, List.setIfInBounds_toArray, List.set_cons_zero, List.set_cons_succ]
              refine scEnd rfl (fun K hK => ?_)
              refine step_appNew tyInts rfl (.tmp 44) (.tmp 55) rfl [x, y] #[.int .i64 x, .int .i64 y] rfl rfl (by first | rfl | simp) rfl rfl (by omega) (by simp [Value.oneCell']) OW.out (Reads.two x y) rfl D0.out D0.out.size (by omega) (by omega) (fun _ _ _ _ h => h) ?_
              intro g cap w5 own5 hg5 hb5 hBg hgl
              rw [← HST.out] at own5
              have O5 := hide2 own5
              have HB5 := hide2 hb5
              clear own5 hg5 hb5
              refine hK.out _ _ ?_
              clear hK
              simp only [Act.put, List.setIfInBounds_toArray, List.set_cons_zero, List.set_cons_succ]
              refine scEnd rfl (fun K hK => ?_)
              go_simp
              refine hK.out _ _ ?_
              clear hK
              try simp only [Act.put, List.setIfInBounds_toArray, List.set_cons_zero, List.set_cons_succ]
              simp only [wpScript]
              all_goals
                go_wp2
                go_roundg (gk - 1)
                case measure => omega
                case rel => exact ⟨j + 1, m + 2, some ⟨g, 0, none⟩, cap, by omega, by simp, by simp, by have := hm.out; show m + 2 = 2 * (j + 1); omega, O5.out, HB5.out⟩
            · obtain rfl : j = k := by omega
              have TK := hide2 (show ts.take j = ts by rw [List.take_of_length_le (by rw [HL.out]; omega)])
              have MR := hide2 (MM.out.keep hb.out)
              have n1 : wr.cell? ⟨w.heap.size + 1 + 1, 1, none⟩ = some (.slice R q er) := MR.out.own.cell 1
              have RD := hide2 (show Reads (OwnListR w.heap.size) 1 wr [.slice C m e2] [colL ts q] from Reads.list1 ⟨m, by have h1 := own.out; rw [TK.out] at h1; exact h1.base MM.out.bel.size, by have := hm.out; omega⟩)
              have KP := hide2 (keepLists MR.out.rows)
              have RW := hide2 MR.out.rows
              have HB := hide2 MR.out.bel
              have SR := hide2 (show (List.range (q + 1)).map (colL ts) = (List.range q).map (colL ts) ++ [colL ts q] by rw [List.range_succ, List.map_append]; rfl)
              clear own hb
              go_wp2_with (at_builtin; refine wpList_appNew (v := .slice R q er) tyLists rfl _ _ rfl [colL ts q] #[.slice C m e2] rfl rfl (by first | rfl | simp) rfl (by simp [Value.oneCell']) RW.out RD.out rfl HB.out HB.out.size (by omega) (by omega) KP.out ?_; intro v1 w1 own1 hg1 hb1; obtain ⟨g, cap, hv1, _⟩ := own1.form (by omega); subst hv1; have XO := box_row MR.out.own RW.out (by decide) hg1; have j1 : w1.cell? ⟨w.heap.size + 1 + 1, 1, none⟩ = some (.slice R q er) := XO.cell 1; have jf : w1.frozen? ⟨w.heap.size + 1 + 1, 1, none⟩ = false := XO.frozen 1; rw [← SR.out] at own1; have NX := hide2 (MR.out.row own1 hg1 hb1); clear own1 hg1 hb1 XO)
              go_roundg (gO - 1)
              case measure => omega
              case rel => exact ⟨q + 1, some ⟨g, 0, none⟩, cap, by omega, by simp, NX.out⟩
        · obtain rfl : q = p := by omega
          have MM := M
          obtain ⟨b0, b1, b2, b3⟩ := box4 M.out.own
          have r0 := M.out.res.frozen 0
          have r1 := M.out.res.frozen 1
          have r2 := M.out.res.frozen 2
          have r3 := M.out.res.frozen 3
          obtain ⟨z0, z1, z2, z3⟩ := box4 M.out.res
          clear M
          go_wp2
          obtain ⟨XR, MR, BR⟩ := MnM.ret MM.out (by omega) (by omega) (Nat.le_refl _) rfl
          obtain ⟨y0, y1, y2, y3⟩ := box4 XR
          refine bodyPost_ret (v := .agg #[.slice L k e, .slice R q er, .int .i64 i, .int .i64 o]) (by simp [results, Try.results44, go_sem, y0, y1, y2, y3]) rfl ?_
          exact ⟨L, k, e, R, q, er, rfl, by have e : mofL ⟨⟨(q : Int), ts⟩, i, o⟩ = ⟨ts.map (·.label), (List.range q).map (colL ts), i, o⟩ := by simp [mofL]
                                            rw [e]; exact MR, BR⟩
end Go.Proofs.Ytadepofaobdbhaa
