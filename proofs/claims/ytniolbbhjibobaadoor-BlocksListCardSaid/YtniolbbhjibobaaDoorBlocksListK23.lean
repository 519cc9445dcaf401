/- The contract of blocks' after: things side by side. Conditions: the block reads as one and is right; what it holds lies below M. -/
import Derived.Test.YtniolbbhjibobaaDoorBlocksListK22
set_option linter.all false
namespace Go.Proofs.YtniolbbhjibobaaDoor
open Go.RowKit

theorem OwnB.mono {S T : Nat → Prop} {w : World} {B n : Nat} {v : Value} {l : List PBlk} (h : OwnB S w B v n l) (hST : ∀ k, k < w.heap.size → S k → T k) : OwnB T w B v n l := by
  obtain ⟨cells, h1, h2, h3⟩ := h
  refine ⟨cells, h1, ⟨h2.1, fun i x hx => ?_⟩, h3⟩
  obtain ⟨vs, a, b⟩ := h2.2 i x hx
  exact ⟨vs, a, b.mono (fun k hk hs => ⟨hST k hk hs.1, hs.2⟩)⟩
theorem OwnB.len {S : Nat → Prop} {w : World} {B n : Nat} {v : Value} {l : List PBlk} (h : OwnB S w B v n l) : l.length = n := by obtain ⟨_, _, _, h⟩ := h; exact h
theorem OwnB.form {S : Nat → Prop} {w : World} {B n : Nat} {v : Value} {l : List PBlk} (h : OwnB S w B v n l) (hn : 0 < n) : ∃ g cap, v = .slice (some ⟨g, 0, none⟩) n cap ∧ B ≤ g ∧ g < w.heap.size := by
  obtain ⟨cells, h1, _⟩ := h
  rcases h1.2 with ⟨_, h⟩ | ⟨g, cap, cur, rfl, hg, hh, _⟩
  · omega
  · exact ⟨g, cap, rfl, hg, (Array.getElem?_eq_some_iff.1 hh).1⟩
theorem OwnB.cellAt {S : Nat → Prop} {w : World} {B g n cap : Nat} {l : List PBlk} (h : OwnB S w B (.slice (some ⟨g, 0, none⟩) n cap) n l) {j : Nat} (hj : j < n * 3) : ∃ v, w.cell? ⟨g, j, none⟩ = some v := by
  obtain ⟨cells, h1, _⟩ := h
  exact ⟨_, by rw [World.ownsRow.cellAt h1 j hj, List.getElem?_eq_getElem (by have := h1.1; omega)]⟩
theorem OwnB.frozen {S : Nat → Prop} {w : World} {B g n cap : Nat} {l : List PBlk} (h : OwnB S w B (.slice (some ⟨g, 0, none⟩) n cap) n l) (j : Nat) : w.frozen? ⟨g, j, none⟩ = false := by
  obtain ⟨cells, h1, _⟩ := h
  exact World.ownsRow.frozenAt h1 j
theorem set_mid {ks : List PBlk} {i : Nat} {b x : PBlk} (h : ks[i]? = some b) : ks.set i x = ks.take i ++ x :: ks.drop (i + 1) := by
  have hi := (List.getElem?_eq_some_iff.1 h).1
  rw [List.set_eq_take_append_cons_drop, if_pos hi]
theorem bw_snoc {ks : List PBlk} {i : Nat} {b : PBlk} (h : ks[i]? = some b) : ks.take i ++ [b] = ks.take (i + 1) := by rw [List.take_add_one, h]; rfl
theorem szK_len : ∀ ks : List PBlk, ks.length ≤ szK ks
  | [] => Nat.zero_le _
  | b :: bs => by have := szB_pos b; have := szK_len bs; rw [szK_cons, List.length_cons]; omega
set_option maxRecDepth 100000 in
set_option maxHeartbeats 8000000 in
theorem bwAft_both {S : Nat → Prop} {f : Nat} {l a : Int} {A : Option Addr} {n c : Nat} {ks : List PBlk} {w : World} {M : Nat} (hA : AftA S f) (hz : szK ks ≤ f) (hf : f ≤ 100000) (hw : wfK ks) (hM : M ≤ w.heap.size) (h : BX (fun q => q < M ∧ S q) w A n c ks) : Calls Tryd.prog 21 #[.agg #[.int .i64 5, .int .i64 l, .slice A n c], .int .i64 a] w (AnsL S M (afterB (.mk 5 l ks) a) w) := by
  have B1 := hide2 (boxBelow w (.cells #[.int .i64 5, .int .i64 l, .slice A n c] 24))
  have BB := hide2 (Box.new w #[.int .i64 5, .int .i64 l, .slice A n c] 24)
  have H := hide2 (h.keep B1.out)
  have HL := hide2 (show ks.length = n from h.2.len)
  have hns := h.2.small
  have HA := hide2 hA
  have W := hide2 hw
  have M1 := hide2 (Nat.le_trans hM B1.out.size)
  have HN6 := hide2 (show n ≤ 1000000 by have := szK_len ks; have := HL.out; omega)
  clear hA hw h
  go_enter Tryd.func21, Tryd.ntmps21
  go_upto_region 1 with fail
  generalize w.alloc (.cells #[.int .i64 5, .int .i64 l, .slice A n c] 24) = w1 at *
  obtain ⟨z0, z1, z2⟩ := BB.out.three
  obtain ⟨wd, hwd⟩ : ∃ wd : World, wd = w1 := ⟨_, rfl⟩
  subst hwd
  go_wp2
  clear z0 z1 z2
  go_loopw [8, 57] (fun s8 v wr => ∃ (sv : Value) (i nn : Nat) (O : List PBlk), sv = s8 ∧ i ≤ n ∧ v = .int .i64 i ∧ Hid (AccI O (afterM (ks.take i) (ks.drop i) a) (afterM [] ks a) (szK (ks.drop i))) ∧ Hid (OwnB (fun k => (k < M ∧ S k) ∨ w.heap.size ≤ k) wr wd.heap.size sv nn O) ∧ Hid (Below wd.heap.size wd wr)) (fun _ v _ => n - (intOf v).toNat)
  case atStart => exact ⟨_, 0, 0, [], rfl, Nat.zero_le _, rfl, hide2 ⟨rfl, by simp; omega⟩, hide2 OwnB.nil, hide2 (Below.refl _ _)⟩
  case round =>
    obtain ⟨sv, i, nn, O, rfl, hi, rfl, AC, OB, BR⟩ := hrel
    by_cases hlt : i < n
    · have hki : (i : Int) < (n : Int) := by omega
      obtain ⟨wo, hwo⟩ : ∃ wo : World, wo = wr := ⟨_, rfl⟩
      subst hwo
      obtain ⟨b4, off4, kd4, lb4, ks4, A4, n4, c4, hA4, hb4, _, hx4, q0, q1, q2, K4⟩ := (H.out.keep BR.out).get hlt
      subst hA4
      have bb4 := boxBelow wo (.cells #[.int .i64 kd4, .int .i64 lb4, .slice A4 n4 c4] 24)
      have Q4 := hide2 (Box.new wo #[.int .i64 kd4, .int .i64 lb4, .slice A4 n4 c4] 24)
      have DR := hide2 (drop_get hx4.out)
      have wf4 := W.out.get hx4.out
      have sz4 := szK_get hx4.out
      have CT := hide2 (HA.out kd4 lb4 A4 n4 c4 ks4 a (wo.alloc (.cells #[.int .i64 kd4, .int .i64 lb4, .slice A4 n4 c4] 24)) M (by omega) hf wf4 (by have := M1.out; have := BR.out.size; simp; omega) (K4.keep bb4))
      obtain ⟨L4, hL4⟩ : ∃ L, afterB (.mk kd4 lb4 ks4) a = L := ⟨_, rfl⟩
      have AN := hide2 (show AccI (O ++ L4.map (fun x => .mk 5 0 (ks.set i x))) (afterM (ks.take (i + 1)) (ks.drop (i + 1)) a) (afterM [] ks a) (szK (ks.drop (i + 1))) by
        obtain ⟨e1, e2⟩ := AC.out
        have := aft_len a _ wf4
        rw [DR.out] at e1 e2
        rw [afterM, hL4, bw_snoc hx4.out] at e1
        rw [szK_cons] at e2
        rw [hL4] at this
        refine ⟨?_, by rw [List.length_append, List.length_map]; omega⟩
        rw [List.append_assoc, ← e1]
        congr 2
        exact List.map_congr_left (fun x _ => by rw [set_mid hx4.out]))
      rw [hL4] at CT
      have BT := hide2 (BR.out.trans (bb4.mono BR.out.size))
      have OT := hide2 (OB.out.keep bb4)
      have NA := hide2 (show wo.heap.size < (wo.alloc (.cells #[.int .i64 kd4, .int .i64 lb4, .slice A4 n4 c4] 24)).heap.size by simp)
      have OL := hide2 OB.out.lt
      have OLn := hide2 OB.out.len
      clear bb4 K4 hb4 wf4 sz4 hL4 OB
      obtain ⟨y0, y1, y2⟩ := (BB.out.keep BR.out).three
      obtain ⟨z0, z1, z2⟩ := ((BB.out.keep BR.out).old (.cells #[.int .i64 kd4, .int .i64 lb4, .slice A4 n4 c4] 24)).three
      go_wp2_with fail
      generalize hwa : wo.alloc (.cells #[.int .i64 kd4, .int .i64 lb4, .slice A4 n4 c4] 24) = wa at *
      refine CT.out.mono ?_
      rintro e w5 ⟨A5, n5, c5, rfl, hs5, hb5⟩
      have S5 := hide2 (hs5.mono (T := fun k => (k < M ∧ S k) ∨ (wa.heap.size ≤ k ∧ k < w5.heap.size)) (fun k hk h => h.elim .inl (fun h => .inr ⟨h, hk⟩)))
      have B5 := hide2 (BT.out.trans (hb5.mono BT.out.size))
      have O5 := hide2 (OT.out.keep hb5)
      have h5L := hs5.2.len
      have hnn : nn + n5 ≤ 100000 := by
        have := AN.out.2
        rw [List.length_append, List.length_map] at this
        have h1 := OLn.out
        omega
      have hsz5 := hide2 hb5.size
      clear hs5 hb5 y0 y1 y2 z0 z1 z2
      obtain ⟨we, hwe⟩ : ∃ we : World, we = w5 := ⟨_, rfl⟩
      subst hwe
      go_wp2_with fail
      go_loopw [8, 66] (fun s8 v wr => ∃ (tv : Value) (j : Nat), tv = s8 ∧ j ≤ n5 ∧ v = .int .i64 j ∧ Hid (OwnB (fun k => (k < M ∧ S k) ∨ w.heap.size ≤ k) wr wd.heap.size tv (nn + j) (O ++ (L4.take j).map (fun x => .mk 5 0 (ks.set i x)))) ∧ Hid (∀ q, tv.ownBlock = some q → q < wa.heap.size ∨ we.heap.size ≤ q) ∧ Hid (BX (fun k => (k < M ∧ S k) ∨ (wa.heap.size ≤ k ∧ k < we.heap.size)) wr A5 n5 c5 L4) ∧ Hid (we.heap.size ≤ wr.heap.size) ∧ Hid (Below wd.heap.size wd wr)) (fun _ v _ => n5 - (intOf v).toNat)
      case atStart => exact ⟨_, 0, rfl, Nat.zero_le _, rfl, hide2 (by simpa using O5.out), hide2 (fun q hq => .inl (Nat.lt_trans (OL.out q hq).2 NA.out)), S5, hide2 (Nat.le_refl _), B5⟩
      case round =>
        obtain ⟨tv, j, rfl, hj, rfl, OB, VB, SI, BI, BO⟩ := hrel
        by_cases hlj : j < n5
        · have hkj : (j : Int) < (n5 : Int) := by omega
          obtain ⟨b6, off6, kd6, lb6, ks6, A6, n6, c6, hA6, hb6, _, hx6, q0, q1, q2, K6⟩ := SI.out.get hlj
          subst hA6
          have hx6' := hx6.out
          have HX6 := hide2 hx6'
          have bb6 := boxBelow wr (.cells #[.int .i64 kd6, .int .i64 lb6, .slice A6 n6 c6] 24)
          have Q6 := hide2 (Box.new wr #[.int .i64 kd6, .int .i64 lb6, .slice A6 n6 c6] 24)
          have K6' := hide2 (K6.keep bb6)
          have E6 := hide2 (BO.out.trans (bb6.mono BO.out.size))
          have SJ := hide2 (SI.out.keep bb6)
          have N6 := hide2 (show wr.heap.size < (wr.alloc (.cells #[.int .i64 kd6, .int .i64 lb6, .slice A6 n6 c6] 24)).heap.size by simp)
          have O6 := hide2 (OB.out.keep bb6)
          obtain ⟨z0, z1, z2⟩ := ((BB.out.keep BO.out).old (.cells #[.int .i64 kd6, .int .i64 lb6, .slice A6 n6 c6] 24)).three
          have CC := hide2 (bwClone_calls (H.out.keep E6.out) HN6.out)
          clear bb6 K6 hb6 hx6'
          go_wp2_with fail
          generalize hwb : wr.alloc (.cells #[.int .i64 kd6, .int .i64 lb6, .slice A6 n6 c6] 24) = wb at *
          refine CC.out.mono ?_
          rintro e w7 ⟨v7, rfl, own7, hb7⟩
          obtain ⟨g, cap, rfl, hg1, hg2⟩ := own7.form (by omega)
          have S7 := hide2 (own7.mono (T := fun k => ((k < M ∧ S k) ∨ (wa.heap.size ≤ k ∧ k < we.heap.size)) ∨ wb.heap.size ≤ k) (fun k _ h => .inl (.inl h.1)))
          have hrg : wr.heap.size < g := Nat.lt_of_lt_of_le N6.out hg1
          have G7 := hide2 (And.intro hg1 hg2)
          obtain ⟨u0, hu0⟩ := own7.cellAt (j := i * 3) (by omega)
          obtain ⟨u1, hu1⟩ := own7.cellAt (j := i * 3 + 1) (by omega)
          obtain ⟨u2, hu2⟩ := own7.cellAt (j := i * 3 + 2) (by omega)
          have hfz := own7.frozen
          obtain ⟨p0, p1, p2⟩ := (Q6.out.keep hb7).three
          have PUT := hide2 (S7.out.put (kd := kd6) (lb := lb6) hlt (K6'.out.keep hb7) (fun k hk h => ⟨.inl h, by have := M1.out; have := BO.out.size; have := BI.out; omega⟩))
          have D7 := hide2 (below_at3 (E6.out.trans (hb7.mono E6.out.size)) (show wd.heap.size ≤ g by have := BO.out.size; omega) (i * 3) (i * 3 + 1) (i * 3 + 2) (.int .i64 kd6) (.int .i64 lb6) (.slice A6 n6 c6))
          have SK := hide2 (SJ.out.keep (below_at3 hb7 hg1 (i * 3) (i * 3 + 1) (i * 3 + 2) (.int .i64 kd6) (.int .i64 lb6) (.slice A6 n6 c6)))
          have hbs7 := hide2 hb7.size
          have O7 := hide2 (O6.out.keep (below_at3 hb7 hg1 (i * 3) (i * 3 + 1) (i * 3 + 2) (.int .i64 kd6) (.int .i64 lb6) (.slice A6 n6 c6)))
          clear own7 hb7 hg1 hg2 z0 z1 z2
          go_upto_region 25 with fail
          clear hu0 hu1 hu2 hfz p0 p1 p2
          have z8 : (((w7.setCell ⟨g, i * 3, none⟩ (.int .i64 kd6)).setCell ⟨g, i * 3 + 1, none⟩ (.int .i64 lb6)).setCell ⟨g, i * 3 + 2, none⟩ (.slice A6 n6 c6)).heap.size = w7.heap.size := by simp [World.setCell]
          generalize ((w7.setCell ⟨g, i * 3, none⟩ (.int .i64 kd6)).setCell ⟨g, i * 3 + 1, none⟩ (.int .i64 lb6)).setCell ⟨g, i * 3 + 2, none⟩ (.slice A6 n6 c6) = w8 at *
          have Z8 := hide2 z8
          obtain ⟨A9, c9, e9, hs9⟩ := PUT.out.bx (by omega) (fun q hq => .inr hq)
          injection e9 with e9 _ e10
          subst e9 e10
          have S9 := hide2 hs9
          have HT9 := hide2 (show ∀ q, q < w8.heap.size → (((q < M ∧ S q) ∨ (wa.heap.size ≤ q ∧ q < we.heap.size)) ∨ wb.heap.size ≤ q) → ((q < M ∧ S q) ∨ w.heap.size ≤ q) ∧ tv.ownBlock ≠ some q from fun q hq hT => by
            have h1 := M1.out
            have h2 := B1.out.size
            have h3 := BR.out.size
            have h4 := NA.out
            have h5 := BI.out
            have h6 := N6.out
            have h7 := BO.out.size
            have h8 := hsz5.out
            refine ⟨by rcases hT with (h | h) | h; exact .inl h; exact .inr (by omega); exact .inr (by omega), fun e => ?_⟩
            have v1 := OB.out.lt q e
            have v2 := VB.out q e
            omega)
          have hnj : nn + j < 100000 := by omega
          have hzw := hide2 (show we.heap.size ≤ w8.heap.size by have := BI.out; have := N6.out; have := hbs7.out; omega)
          clear z8 hs9 PUT
          go_wp2_with (at_builtin; go_loud (refine wpList_appB1 rfl _ _ rfl rfl rfl rfl O7.out S9.out HT9.out D7.out D7.out.size (by omega) ?_; intro v9 w9 own9 hg9 hb9 hv9; have O9 := hide2 own9; have B9 := hide2 hb9; have V9 := hide2 (show ∀ q, v9.ownBlock = some q → q < wa.heap.size ∨ we.heap.size ≤ q from fun q hq => (hv9 q hq).elim (VB.out q) (fun h => .inr (Nat.le_trans hzw.out h))); have G9 := hide2 hg9; clear own9 hg9 hb9 hv9))
          go_roundw
          case rel => exact ⟨v9, j + 1, rfl, by omega, by go_num, hide2 (by rw [map_take_get HX6.out, ← List.append_assoc]; exact O9.out), V9, hide2 (SK.out.grown G9.out (fun q hq e => by have v1 := OB.out.lt q e; have v2 := VB.out q e; have := M1.out; omega)), hide2 (Nat.le_trans hzw.out G9.out.size), B9⟩
          case measure => simp [intOf]; omega
        · obtain rfl : j = n5 := by omega
          have EQ := hide2 (show O ++ (L4.take j).map (fun x => .mk 5 0 (ks.set i x)) = O ++ L4.map (fun x => .mk 5 0 (ks.set i x)) by rw [List.take_of_length_le (by rw [h5L]; exact Nat.le_refl _)])
          go_wp2
          go_roundw
          case rel => exact ⟨_, i + 1, _, _, rfl, by omega, by go_num, AN, hide2 (by rw [← EQ.out]; exact OB.out), BO⟩
          case measure => simp [intOf]; omega
    · obtain rfl : i = n := by omega
      have EQ := hide2 (show O = afterM [] ks a by have := AC.out.1; rwa [← HL.out, List.drop_length, afterM, List.append_nil] at this)
      have hnn : nn ≤ 100000 := by
        have := AC.out.2
        have h1 := OB.out.len
        omega
      obtain ⟨A8, c8, rfl, hs8⟩ := OB.out.bx (by omega) (fun q hq => .inr (Nat.le_trans B1.out.size hq))
      have O8 := hide2 hs8
      clear hs8
      go_wp2
      go_ret
      rw [aft_5, ← EQ.out]
      exact ⟨A8, _, c8, rfl, O8.out, B1.out.trans (BR.out.mono B1.out.size)⟩
end Go.Proofs.YtniolbbhjibobaaDoor
