/- The contract of flow.Effect. Conditions: the net and the counts read as lists. -/
import Derived.Test.YtmdlbbfponepoaaFlowE
import Derived.Test.YtmdlbbfponepoaaFlowC
import Derived.Test.YtmdlbbfponepoaaHeld
namespace Go.Proofs.Ytmdlbbfponepoaa
open Go.RowKit

theorem row_lt {w : World} {B e sz n R : Nat} {c : Nat} {cells : List Value} (h : w.ownsRow B e sz (.slice (some ⟨R, 0, none⟩) n c) n cells) : R < w.heap.size := (h.lt R rfl).2

set_option maxRecDepth 100000 in
set_option maxHeartbeats 4000000 in
theorem effect_calls {w : World} {P : Int} {A B : Option Addr} {n c m d : Nat} {ts : List PTran} {cs : List Int} (h : Trans w A n c ts) (g : Ints w B m d cs) :
    Calls Try.prog 11 #[.agg #[.int .i64 P, .slice A n c], .slice B m d] w (AnsIE (effectL ⟨P, ts⟩ cs) w) := by
  have HB := hide2 (boxBelow w)
  have H := hide2 h
  have G := hide2 g
  have HL := hide2 h.len
  have GL := hide2 g.len
  have hn := h.small
  clear h g
  by_cases hok : netOk ⟨P, ts⟩ = true
  · have W0 := hide2 (wrongNet_ok hok)
    have HO := hide2 hok
    clear hok
    go_enter Try.func11, Try.ntmps11
    go_wp2_with fail
    refine (netWrong_calls _ P A n c ts (H.out.keep (HB.out _))).mono ?_
    rw [W0.out]
    rintro e w1 ⟨rfl, hb⟩
    have B1 := hide2 ((HB.out (.cells #[.int .i64 P, .slice A n c] 24)).trans (hb.mono (by simp)))
    have hc0 : w1.cell? ⟨w.heap.size, 0, none⟩ = some (.int .i64 P) := (hb.cell (by simp)).trans (by simp)
    have hc1 : w1.cell? ⟨w.heap.size, 1, none⟩ = some (.slice A n c) := (hb.cell (by simp)).trans (by simp)
    have z1 : w.heap.size < w1.heap.size := by have := hb.size; simp at this; omega
    clear hb
    cases hq : boundB cs (n : Int) 0
    · have HQ := hide2 hq
      have FIN := hide2 (show effectL ⟨P, ts⟩ cs = ([], 2) from effectL_not (by
        rintro ⟨_, h2⟩
        simp only [] at h2
        rw [HL.out, hq] at h2; cases h2))
      clear hq
      go_wp2_with fail
      refine (bounded_calls _ _ (G.out.keep B1.out)).mono ?_; rintro e w2 ⟨rfl, hb2⟩; rw [HQ.out]
      have B2 := hide2 (B1.out.trans (hb2.mono B1.out.size))
      clear hb2
      go_wp2
      go_ret2
      exact ⟨none, 0, 0, by rw [FIN.out]; rfl, by rw [FIN.out]; exact Sl.nil0, B2.out⟩
    · have HQ := hide2 hq
      obtain ⟨p, rfl⟩ : ∃ p : Nat, P = (p : Int) := ⟨P.toNat, by have := ((netOk_iff _).1 HO.out).1; simp only [] at this; omega⟩
      have hp16 : p ≤ 16 := by have := ((netOk_iff _).1 HO.out).2.1; simp only [] at this; omega
      have hn24 : n ≤ 24 := by have := ((netOk_iff _).1 HO.out).2.2.1; rw [HL.out] at this; exact this
      have hmn : m = n := by
        have := hq
        unfold boundB at this
        rw [GL.out] at this
        simp only [Bool.and_eq_true, decide_eq_true_eq] at this
        omega
      have FIN := hide2 (show effectL ⟨(p : Int), ts⟩ cs = ((List.range p).map fun q => wrap64 (effAt ts cs q), 0) from by
        rw [effectL, if_pos ⟨HO.out, by simp only []; rw [HL.out]; exact HQ.out⟩]; rfl)
      subst hmn
      clear hq
      go_wp2_with fail
      refine (bounded_calls _ _ (G.out.keep B1.out)).mono ?_; rintro e w2 ⟨rfl, hb2⟩; rw [HQ.out]
      have B2 := hide2 (B1.out.trans (hb2.mono B1.out.size))
      have hd0 := (hb2.cell (p := ⟨w.heap.size, 0, none⟩) z1).trans hc0
      have hd1 := (hb2.cell (p := ⟨w.heap.size, 1, none⟩) z1).trans hc1
      have z2 := Nat.lt_of_lt_of_le z1 hb2.size
      clear hb2 hc0 hc1
      go_wp2_with (at_make; refine wpList_mk Try.underlying25 infoInt rfl rfl _ _ rfl p rfl rfl rfl rfl (by omega) (by omega) (Below.refl _ _) (Nat.le_refl _) ?_; intro w3 own1 hg1 hb3; have hr1 := (hb3.cell (p := ⟨w.heap.size, 1, none⟩) z2).trans hd1)
      have hRlt := row_lt own1
      have OW1 : Hid (w3.ownsRow w2.heap.size 3 1 (.slice (some ⟨w2.heap.size, 0, none⟩) p p) p ((List.range p).map (fun (q : Nat) => Value.int .i64 (wrap64 (effAt (ts.take 0) (cs.take 0) q))))) := by
        have e : (List.range p).map (fun (q : Nat) => Value.int .i64 (wrap64 (effAt (ts.take 0) (cs.take 0) q))) = List.replicate p (Value.int .i64 0) := by
          apply List.ext_getElem (by simp)
          intro i h1 h2
          simp [effAt, wrap64]
        show World.ownsRow _ _ _ _ _ _ _
        rw [e]; exact own1
      have B3 := hide2 hb3
      obtain ⟨R, hR⟩ : ∃ R, w2.heap.size = R := ⟨_, rfl⟩
      rw [hR] at OW1 B3 hRlt z2
      clear own1 hg1 hb3 hd0 hd1
      have HR := hide2 hR
      rw [hR]
      clear hR
      go_loopw [27] (fun i wr => ∃ k : Nat, k ≤ m ∧ i = .int .i64 k ∧ Hid (wr.ownsRow R 3 1 (.slice (some ⟨R, 0, none⟩) p p) p ((List.range p).map (fun (q : Nat) => Value.int .i64 (wrap64 (effAt (ts.take k) (cs.take k) q))))) ∧ Hid (Below R w2 wr)) (fun i _ => m - (intOf i).toNat)
      case atStart => exact ⟨0, Nat.zero_le _, rfl, OW1, B3⟩
      case round =>
        obtain ⟨k, hk, rfl, own, hb⟩ := hrel
        have hbw := B2.out.trans (hb.out.mono (by have := HR.out; have := B2.out.size; omega))
        by_cases hlt : k < m
        · obtain ⟨bl, off, t, A1, n1, c1, A2, n2, c2, rfl, hbl, ht, q0', q1', q2', i1, i2, m1, m2⟩ := Trans.get H.out hlt
          have q0 := (hbw.cell (p := ⟨bl, off + k * 3, none⟩) hbl).trans q0'
          have q1 := (hbw.cell (p := ⟨bl, off + k * 3 + 1, none⟩) hbl).trans q1'
          have q2 := (hbw.cell (p := ⟨bl, off + k * 3 + 2, none⟩) hbl).trans q2'
          have hT := netOk_tran HO.out ht.out
          have e1 : n1 = p := by have := hT.2.2.1; rw [i1.len] at this; simp only [] at this; omega
          have e2 : n2 = p := by have := hT.2.2.2.1; rw [i2.len] at this; simp only [] at this; omega
          subst e1
          subst e2
          have hRr := row_lt own.out
          have hRw : w.heap.size ≤ R := by omega
          go_wp2
          generalize hw4 : wr.alloc (.cells #[.int .i64 t.label, .slice A1 n2 c1, .slice A2 n2 c2] 86) = w4
          have hb4 : Below wr.heap.size wr w4 := by rw [← hw4]; exact boxBelow _ _
          have x0 : w4.cell? ⟨wr.heap.size, 0, none⟩ = some (.int .i64 t.label) := by rw [← hw4]; simp
          have x1 : w4.cell? ⟨wr.heap.size, 1, none⟩ = some (.slice A1 n2 c1) := by rw [← hw4]; simp
          have x2 : w4.cell? ⟨wr.heap.size, 2, none⟩ = some (.slice A2 n2 c2) := by rw [← hw4]; simp
          have sz4 : wr.heap.size < w4.heap.size := by rw [← hw4]; simp
          obtain ⟨bx, hbx⟩ : ∃ bx, wr.heap.size = bx := ⟨_, rfl⟩
          rw [hbx] at x0 x1 x2 sz4 hRr
          have HBX := hide2 hbx
          rw [hbx]
          clear hbx hw4
          have OW4 : Hid (w4.ownsRow R 3 1 (.slice (some ⟨R, 0, none⟩) n2 n2) n2 ((List.range n2).map (fun (q : Nat) => Value.int .i64 (wrap64 (if q < 0 then effAt (ts.take (k+1)) (cs.take (k+1)) q else effAt (ts.take k) (cs.take k) q))))) := by
            simp only [Nat.not_lt_zero, if_false]
            exact own.out.kept (row := none) ⟨hb4.os, hb4.tape, hb4.output, hb4.size, fun k hk _ => hb4.block k hk⟩ (by simp [Value.ownBlock])
          have B4 := hide2 (hbw.trans (hb4.mono hbw.size))
          have I1 := hide2 i1
          have I2 := hide2 i2
          have HBW := hide2 hbw
          have B24 := hide2 (hb.out.trans (hb4.mono (by have := HBX.out; omega)))
          clear hb4 own hb hbw i1 i2 q0 q1 q2 q0' q1' q2' hT
          go_loopw [34] (fun i wr => ∃ j : Nat, j ≤ n2 ∧ i = .int .i64 j ∧ Hid (wr.ownsRow R 3 1 (.slice (some ⟨R, 0, none⟩) n2 n2) n2 ((List.range n2).map (fun (q : Nat) => Value.int .i64 (wrap64 (if q < j then effAt (ts.take (k+1)) (cs.take (k+1)) q else effAt (ts.take k) (cs.take k) q))))) ∧ Hid (Below R w2 wr) ∧ wr.cell? ⟨bx, 0, none⟩ = some (.int .i64 t.label) ∧ wr.cell? ⟨bx, 1, none⟩ = some (.slice A1 n2 c1) ∧ wr.cell? ⟨bx, 2, none⟩ = some (.slice A2 n2 c2) ∧ bx < wr.heap.size) (fun i _ => n2 - (intOf i).toNat)
          case atStart => exact ⟨0, Nat.zero_le _, rfl, OW4, B24, x0, x1, x2, sz4⟩
          case round =>
            obtain ⟨j, hj, rfl, own, hb, x0, x1, x2, zb⟩ := hrel
            by_cases hjl : j < n2
            · have hbwr := hide2 (B2.out.trans (hb.out.mono (by have := HR.out; have := B2.out.size; omega)))
              obtain ⟨b3, o3, cc, rfl, hb3, hcc, hcd⟩ := (G.out.keep hbwr.out).get hlt
              have hR0 : R < wr.heap.size := row_lt own.out
              obtain ⟨z, hz⟩ : ∃ z, wrap64 (effAt (ts.take k) (cs.take k) j) = z := ⟨_, rfl⟩
              have y0 : wr.cell? ⟨R, j, none⟩ = some (.int .i64 z) := by
                rw [own.out.cellAt j (by omega)]
                simp [hjl, hz]
              have yf : wr.frozen? ⟨R, j, none⟩ = false := own.out.frozenAt j
              have D1 := hide2 (hbwr.out.trans ((Below.refl _ _).drew : Below w.heap.size wr wr.drew))
              have D2 := hide2 ((Below.refl _ _).drew : Below wr.heap.size wr wr.drew)
              have J1 := hide2 (I1.out.keep D1.out)
              have J2 := hide2 (I2.out.keep D1.out)
              have hji : (j : Int) < (n2 : Int) := by omega
              have hki : (k : Int) < (m : Int) := by omega
              have YF := hide2 yf
              have HZ := hide2 hz
              have F := hide2 (show wrap64 (z + wrap64 (cc * wrap64 (atL t.post j - atL t.pre j))) = wrap64 (effAt (ts.take (k + 1)) (cs.take (k + 1)) j) by
                rw [← hz, wrap_eff1, effAt_take ht.out hcc.out])
              clear hz yf
              go_wp2_with fail
              refine wp_region_script 14 [(0, 0), (0, 1), (0, 2), (0, 3), (0, 4), (0, 5), (0, 6), (0, 7), (0, 8), (0, 9), (1, 10), (0, 11), (0, 12), (0, 13), (2, 14)] (fun w' => w'.cell? ⟨R, j, none⟩ = some (.int .i64 z) ∧ w'.cell? ⟨b3, o3 + k, none⟩ = some (.int .i64 cc) ∧ w'.cell? ⟨bx, 0, none⟩ = some (.int .i64 t.label) ∧ w'.cell? ⟨bx, 1, none⟩ = some (.slice A1 n2 c1) ∧ w'.cell? ⟨bx, 2, none⟩ = some (.slice A2 n2 c2)) (by kernel_rfl) (by kernel_rfl) (by kernel_rfl) (fun _ _ _ _ _ h => h) ⟨y0, hcd, x0, x1, x2⟩ (fun hHeld => ?_)
              iterate 10
                refine scTake (v := ?_) rfl (by rfl) hHeld (fun w' hSw => ?_) ?_
                rotate_left
                · (go_simp; try with_reducible rfl)
                simp only [Act.put, List.setIfInBounds_toArray, List.set_cons_zero, List.set_cons_succ]
              refine scOne rfl (fun K hK => ?_)
              go_simp; go_at_call 63
              (with_reducible refine (change_calls t.label j J1.out J2.out hjl hjl).mono ?_)
              rintro e w5 ⟨rfl, b5⟩
              have p0 := (b5.cell (p := ⟨R, j, none⟩) hR0).trans y0
              have p1 := (b5.cell (p := ⟨b3, o3 + k, none⟩) hb3).trans hcd
              have p2 := (b5.cell (p := ⟨bx, 0, none⟩) zb).trans x0
              have p3 := (b5.cell (p := ⟨bx, 1, none⟩) zb).trans x1
              have p4 := (b5.cell (p := ⟨bx, 2, none⟩) zb).trans x2
              have pf := (b5.frozen (p := ⟨R, j, none⟩) hR0).trans YF.out
              have b5' := D2.out.trans b5
              have zb5 := Nat.lt_of_lt_of_le zb b5'.size
              have B5 := hide2 (hb.out.trans (b5'.mono (by omega)))
              have OW5 := own.out.kept (row := none) ⟨b5'.os, b5'.tape, b5'.output, b5'.size, fun k hk _ => b5'.block k hk⟩ (by simp [Value.ownBlock])
              have ST := OW5.stored j (.int .i64 (wrap64 (effAt (ts.take (k + 1)) (cs.take (k + 1)) j)))
              have e := set_range (n := n2) (k := j) (f := fun (q : Nat) => Value.int .i64 (wrap64 (if q < j then effAt (ts.take (k+1)) (cs.take (k+1)) q else effAt (ts.take k) (cs.take k) q))) (f' := fun (q : Nat) => Value.int .i64 (wrap64 (if q < j + 1 then effAt (ts.take (k+1)) (cs.take (k+1)) q else effAt (ts.take k) (cs.take k) q))) (fun q hq => by
                show Value.int .i64 _ = Value.int .i64 _
                by_cases h1 : q < j
                · rw [if_pos h1, if_pos (by omega)]
                · rw [if_neg h1, if_neg (by omega)])
              simp only [Nat.lt_succ_self, if_true] at e
              rw [← F.out] at ST e
              have HST := hide2 (e ▸ ST.1)
              clear ST e OW5 own b5 b5' hb
              refine hK.out _ _ ⟨p0, p1, p2, p3, p4⟩ (fun hHeld => ?_)
              clear hK
              iterate 3
                refine scTake (v := ?_) rfl (by rfl) hHeld (fun w' hSw => ?_) ?_
                rotate_left
                · (go_simp; try with_reducible rfl)
                simp only [Act.put, List.setIfInBounds_toArray, List.set_cons_zero, List.set_cons_succ]
              refine scEnd rfl (fun K hK => ?_)
              go_simp
              refine hK.out _ _ ?_
              clear hK
              simp only [wpScript]
              go_wp2
              go_roundw
              case rel =>
                refine ⟨j + 1, by omega, by go_num, HST, B5.out.setCell (Nat.le_refl _) _, ?_, ?_, ?_, by simpa [World.setCell] using zb5⟩
                · exact (World.cell?_setCell_other _ _ _ _ (by simp)).trans p2
                · exact (World.cell?_setCell_other _ _ _ _ (by simp)).trans p3
                · exact (World.cell?_setCell_other _ _ _ _ (by simp)).trans p4
              case measure => simp [intOf]; omega
            · obtain rfl : j = n2 := by omega
              have OWN := hide2 (show wr.ownsRow R 3 1 (.slice (some ⟨R, 0, none⟩) j j) j ((List.range j).map (fun (q : Nat) => Value.int .i64 (wrap64 (effAt (ts.take (k+1)) (cs.take (k+1)) q)))) from by
                have e : (List.range j).map (fun (q : Nat) => Value.int .i64 (wrap64 (effAt (ts.take (k+1)) (cs.take (k+1)) q))) = (List.range j).map (fun (q : Nat) => Value.int .i64 (wrap64 (if q < j then effAt (ts.take (k+1)) (cs.take (k+1)) q else effAt (ts.take k) (cs.take k) q))) :=
                  List.map_congr_left (fun q hq => by rw [if_pos (List.mem_range.1 hq)])
                rw [e]; exact own.out)
              clear own
              go_wp2
              go_roundw
              case rel => exact ⟨k + 1, by omega, by go_num, OWN, hb⟩
              case measure => simp [intOf]; omega
        · obtain rfl : k = m := by omega
          have OWN := hide2 own.out
          clear own
          go_wp2
          go_ret2
          have o2 := OWN.out
          have e : (List.range p).map (fun (q : Nat) => Value.int .i64 (wrap64 (effAt (ts.take k) (cs.take k) q))) = ((List.range p).map fun q => wrap64 (effAt ts cs q)).map (Value.int .i64) := by
            rw [List.take_of_length_le (by rw [HL.out]; exact Nat.le_refl _), List.take_of_length_le (by rw [GL.out]; exact Nat.le_refl _), List.map_map]; rfl
          rw [e] at o2
          obtain ⟨C, cc, hv, hi⟩ := Ints.of_own o2 (by omega)
          exact ⟨C, p, cc, by rw [FIN.out, ← hv]; rfl, by rw [FIN.out]; exact hi, hbw⟩
  · have W0 := hide2 (wrongNet_not (by simpa using hok))
    have FIN := hide2 (show effectL ⟨P, ts⟩ cs = ([], 2) from effectL_not (fun h => hok h.1))
    clear hok
    go_enter Try.func11, Try.ntmps11
    go_wp2_with fail
    refine (netWrong_calls _ P A n c ts (H.out.keep (HB.out _))).mono ?_
    rw [W0.out]
    rintro e w1 ⟨rfl, hb⟩
    have B1 := hide2 ((HB.out (.cells #[.int .i64 P, .slice A n c] 24)).trans (hb.mono (by simp)))
    clear hb
    go_wp2
    go_ret2
    exact ⟨none, 0, 0, by rw [FIN.out]; rfl, by rw [FIN.out]; exact Sl.nil0, B1.out⟩
end Go.Proofs.Ytmdlbbfponepoaa
