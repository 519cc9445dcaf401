/- The contract of HWrong. Conditions: the net reads as a list. -/
import Derived.Test.YtmhcinmadelaeaaShapeF
import Derived.Test.YtmhcinmadelaeaaNetJ
namespace Go.Proofs.Ytmhcinmadelaeaa
open Go.RowKit

theorem allWays_iff' (N : PNet) (i : Nat) : allWays N i = true ↔ (∀ p, p < (waysL N i).ps.length → (waysL N i).ps.getD p false = true) ∧ (∀ k, k < (waysL N i).ts.length → (waysL N i).ts.getD k false = true) := by
  unfold allWays
  simp only [Bool.and_eq_true, List.all_eq_true, id_eq]
  have key : ∀ l : List Bool, (∀ x ∈ l, x = true) ↔ ∀ p, p < l.length → l.getD p false = true := fun l => by
    constructor
    · intro h p hp
      rw [List.getD_eq_getElem?_getD, List.getElem?_eq_getElem hp]
      exact h _ (List.getElem_mem _)
    · intro h x hx
      obtain ⟨k, hk, rfl⟩ := List.getElem_of_mem hx
      have := h k hk
      rwa [List.getD_eq_getElem?_getD, List.getElem?_eq_getElem hk] at this
  rw [key, key]
theorem waysL_lens {N : PNet} {i : Nat} : (waysL N i).ps.length = N.places.toNat ∧ (waysL N i).ts.length = N.trans.length := ways_lens N i _
theorem shapeL_in {p : Nat} {ts : List PTran} {i o : Nat} (hok : netOk ⟨(p : Int), ts⟩ = true) (hi : i < p) (ho : o < p) (hne : i ≠ o) :
    shapeL ⟨(p : Int), ts⟩ i o = if ts.any (backT i o) = true then 1 else if allWays ⟨(p : Int), ts⟩ i = true ∧ allWays ⟨(p : Int), ts.map turnT⟩ o = true then 0 else 1 := by
  rw [shapeL, if_pos hok, if_pos (by simp only [inB, Bool.and_eq_true, decide_eq_true_eq]; refine ⟨⟨⟨⟨?_, ?_⟩, ?_⟩, ?_⟩, ?_⟩ <;> omega)]
  rfl

/-- What hways answers, with its lengths. -/
def AnsWL (s : Ways) (p n : Nat) (w : World) (e : Ending) (w' : World) : Prop :=
  ∃ bp bt, e = .returned (.tuple #[.slice (some ⟨bp, 0, none⟩) p p, .slice (some ⟨bt, 0, none⟩) n n]) ∧ BoxB w' bp s.ps ∧ BoxB w' bt s.ts ∧ Below w.heap.size w w'
theorem hways_calls' {w : World} {p : Nat} {A : Option Addr} {n c : Nat} {ts : List PTran} {i : Nat} (h : Trans w A n c ts) (hok : netOk ⟨(p : Int), ts⟩ = true) (hi : i < p) :
    Calls Try.prog 82 #[.agg #[.int .i64 p, .slice A n c], .int .i64 i] w (AnsWL (waysL ⟨(p : Int), ts⟩ i) p n w) := by
  refine (hways_calls h hok hi).mono ?_
  rintro e w' ⟨bp, bt, rfl, h1, h2, h3⟩
  obtain ⟨l1, l2⟩ := waysL_lens (N := ⟨(p : Int), ts⟩) (i := i)
  rw [l1, l2]
  exact ⟨bp, bt, by rw [← h.len]; rfl, h1, h2, h3⟩

set_option maxRecDepth 100000 in
set_option maxHeartbeats 4000000 in
theorem refShapeWrong_calls {w : World} {P : Int} {A : Option Addr} {n c : Nat} {ts : List PTran} (i o : Int) (h : Trans w A n c ts) (hn : n ≤ 2513169434916) :
    Calls Try.prog 26 #[.agg #[.int .i64 P, .slice A n c], .int .i64 i, .int .i64 o] w fun e w' => e = .returned (.int .i64 (shapeL ⟨P, ts⟩ i o)) ∧ Below w.heap.size w w' := by
  have H := hide2 h
  have HL := hide2 h.len
  have hns := h.small
  clear h
  have D0 := hide2 (boxBelow w (.cells #[.int .i64 P, .slice A n c] 38))
  have X0 := hide2 (Box.new w #[.int .i64 P, .slice A n c] 38)
  cases hok : netOk ⟨P, ts⟩
  · have W0 := hide2 (wrongNet_not hok)
    have FIN := hide2 (show shapeL ⟨P, ts⟩ i o = 2 by rw [shapeL, hok]; rfl)
    clear hok
    go_enter Try.func26, Try.ntmps26
    go_wp2_with fail
    refine (refWrong_calls _ P A n c ts (H.out.keep D0.out)).mono ?_
    rw [W0.out]
    rintro e w1 ⟨rfl, hb⟩
    have B1 := hide2 (D0.out.trans (hb.mono D0.out.size))
    clear hb
    go_wp2
    go_ret
    exact ⟨ret_int FIN.out.symm, B1.out⟩
  · have W0 := hide2 (wrongNet_ok hok)
    have HO := hide2 hok
    clear hok
    obtain ⟨p, rfl⟩ : ∃ p : Nat, P = (p : Int) := ⟨P.toNat, by have := ((netOk_iff _).1 HO.out).1; simp only [] at this; omega⟩
    have hp16 : p ≤ 16 := by have := ((netOk_iff _).1 HO.out).2.1; simp only [] at this; omega
    have hn24 : n ≤ 24 := by have := ((netOk_iff _).1 HO.out).2.2.1; rw [HL.out] at this; exact this
    obtain ⟨mn, hmn⟩ : ∃ m, min i o = m := ⟨_, rfl⟩
    obtain ⟨mx, hmx⟩ : ∃ m, max i o = m := ⟨_, rfl⟩
    go_enter Try.func26, Try.ntmps26
    go_wp2_with fail
    refine (refWrong_calls _ (p : Int) A n c ts (H.out.keep D0.out)).mono ?_
    rw [W0.out]
    rintro e w1 ⟨rfl, hb⟩
    have B1 := hide2 (D0.out.trans (hb.mono D0.out.size))
    have Y0 := hide2 (X0.out.keep hb)
    clear hb X0 D0
    obtain ⟨c0, c1⟩ := Y0.out.two
    by_cases hin : inB ⟨p, ts⟩ i o = true
    · simp only [inB, Bool.and_eq_true, decide_eq_true_eq] at hin
      obtain ⟨⟨⟨⟨h0, h1⟩, h2⟩, h3⟩, h4⟩ := hin
      have hmn0 : 0 ≤ mn := by omega
      have hmxp : mx < (p : Int) := by omega
      obtain ⟨i, rfl⟩ : ∃ k : Nat, i = (k : Int) := ⟨i.toNat, by omega⟩
      obtain ⟨o, rfl⟩ : ∃ k : Nat, o = (k : Int) := ⟨o.toNat, by omega⟩
      have hne : ((i : Int) == (o : Int)) = false := by simpa using h4
      have SH := hide2 (shapeL_in HO.out (i := i) (o := o) (by omega) (by omega) (by omega))
      have hip : i < p := by omega
      have hop : o < p := by omega
      clear h4
      go_upto_region 5 with fail
      clear hmn hmx hmn0 hmxp hne
      have TO := hide2 (show netOk ⟨(p : Int), ts.map turnT⟩ = true from turned_ok (N := ⟨p, ts⟩) HO.out)
      obtain ⟨SA, hSA⟩ : ∃ s, waysL ⟨(p : Int), ts⟩ i = s := ⟨_, rfl⟩
      obtain ⟨SB, hSB⟩ : ∃ s, waysL ⟨(p : Int), ts.map turnT⟩ o = s := ⟨_, rfl⟩
      have LA := hide2 (show SA.ps.length = p ∧ SA.ts.length = n by have := waysL_lens (N := ⟨(p : Int), ts⟩) (i := i); rw [hSA] at this; simpa [HL.out] using this)
      have LB := hide2 (show SB.ps.length = p ∧ SB.ts.length = n by have := waysL_lens (N := ⟨(p : Int), ts.map turnT⟩) (i := o); rw [hSB] at this; simpa [HL.out] using this)
      have WA := hide2 (allWays_iff' ⟨(p : Int), ts⟩ i)
      have WB := hide2 (allWays_iff' ⟨(p : Int), ts.map turnT⟩ o)
      rw [hSA] at WA
      rw [hSB] at WB
      have C1 := hide2 (hways_calls' (H.out.keep B1.out) HO.out hip)
      rw [hSA] at C1
      go_wp2_with fail
      refine C1.out.mono ?_
      rintro e w2 ⟨bp, bt, rfl, r1, r2, hb⟩
      have B2 := hide2 (B1.out.trans (hb.mono B1.out.size))
      have Y1 := hide2 (Y0.out.keep hb)
      have P1 := hide2 r1
      have T1 := hide2 r2
      clear hb r1 r2 c0 c1 Y0 B1 C1
      obtain ⟨c0, c1⟩ := Y1.out.two
      go_wp2_with fail
      refine (refTurned_calls (P := (p : Int)) (H.out.keep B2.out) hn).mono ?_
      rintro e w3 ⟨A4, n4, c4, rfl, t4, hb⟩
      obtain rfl : n4 = n := by have := t4.len; have := HL.out; simp [turned] at *; omega
      have B3 := hide2 (B2.out.trans (hb.mono B2.out.size))
      have Y2 := hide2 (Y1.out.keep hb)
      have P2 := hide2 (show BoxB w3 bp SA.ps from Box.keep P1.out hb)
      have T2 := hide2 (show BoxB w3 bt SA.ts from Box.keep T1.out hb)
      have C2 := hide2 (hways_calls' (p := p) (ts := ts.map turnT) t4 TO.out hop)
      rw [hSB] at C2
      rw [show (turned ⟨(p : Int), ts⟩).places = (p : Int) from rfl]
      clear hb t4 c0 c1 Y1 P1 T1 B2 hSA hSB
      go_wp2_with fail
      refine C2.out.mono ?_
      rintro e w4 ⟨bq, bu, rfl, r1, r2, hb⟩
      have B4 := hide2 (B3.out.trans (hb.mono B3.out.size))
      have Y3 := hide2 (Y2.out.keep hb)
      have P3 := hide2 (show BoxB w4 bp SA.ps from Box.keep P2.out hb)
      have T3 := hide2 (show BoxB w4 bt SA.ts from Box.keep T2.out hb)
      have Q3 := hide2 r1
      have U3 := hide2 r2
      clear hb r1 r2 Y2 P2 T2 B3 C2
      obtain ⟨c0, c1⟩ := Y3.out.two
      have ONE := hide2 (show ((∃ t ∈ ts, backT i o t = true) ∨ (∃ q, q < p ∧ (SA.ps.getD q false = false ∨ SB.ps.getD q false = false)) ∨ (∃ q, q < n4 ∧ (SA.ts.getD q false = false ∨ SB.ts.getD q false = false))) → shapeL ⟨(p : Int), ts⟩ i o = 1 from fun hc => by
        rw [SH.out]
        by_cases hbk : ts.any (backT i o) = true
        · rw [if_pos hbk]
        · rw [if_neg hbk, if_neg]
          rintro ⟨a1, a2⟩
          have a3 := WA.out.1 a1
          have a4 := WB.out.1 a2
          rw [LA.out.1, LA.out.2] at a3
          rw [LB.out.1, LB.out.2] at a4
          rcases hc with ⟨t, ht, h⟩ | ⟨q, hq, h | h⟩ | ⟨q, hq, h | h⟩
          · exact hbk (List.any_eq_true.2 ⟨t, ht, h⟩)
          · rw [a3.1 q hq] at h; cases h
          · rw [a4.1 q hq] at h; cases h
          · rw [a3.2 q hq] at h; cases h
          · rw [a4.2 q hq] at h; cases h)
      go_wp2
      go_loop [49] (fun v => ∃ k : Nat, k ≤ p ∧ v = .int .i64 k ∧ Hid (∀ q, q < k → SA.ps.getD q false = true ∧ SB.ps.getD q false = true)) (fun v => p - (intOf v).toNat)
      case atStart => exact ⟨0, Nat.zero_le _, rfl, fun q hq => absurd hq (by omega)⟩
      case round =>
        obtain ⟨k, hk, rfl, lo⟩ := hrel
        by_cases hlt : k < p
        · have hki : (k : Int) < (p : Int) := by omega
          have q1 := BoxB.at P3.out (j := k) (by have := LA.out.1; omega)
          have q2 := BoxB.at Q3.out (j := k) (by have := LB.out.1; omega)
          obtain ⟨x, hx⟩ : ∃ b, SA.ps.getD k false = b := ⟨_, rfl⟩
          obtain ⟨y, hy⟩ : ∃ b, SB.ps.getD k false = b := ⟨_, rfl⟩
          rw [hx] at q1
          rw [hy] at q2
          have HX := hide2 hx
          have HY := hide2 hy
          clear hx hy
          cases x
          · have FIN := hide2 (ONE.out (.inr (.inl ⟨k, hlt, .inl HX.out⟩)))
            go_wp2
            go_ret
            exact ⟨ret_int FIN.out.symm, B4.out⟩
          · cases y
            · have FIN := hide2 (ONE.out (.inr (.inl ⟨k, hlt, .inr HY.out⟩)))
              go_wp2
              go_ret
              exact ⟨ret_int FIN.out.symm, B4.out⟩
            · go_wp2
              go_round
              case rel =>
                refine ⟨k + 1, by omega, by go_num, fun q hq => ?_⟩
                by_cases hqk : q = k
                · subst hqk; exact ⟨HX.out, HY.out⟩
                · exact lo.out q (by omega)
              case measure => simp [intOf]; omega
        · obtain rfl : k = p := by omega
          go_wp2
          go_loopw [68] (fun v wr => ∃ j : Nat, j ≤ n4 ∧ v = .int .i64 j ∧ Hid (∀ q, q < j → SA.ts.getD q false = true ∧ SB.ts.getD q false = true ∧ ∀ t, ts[q]? = some t → backT i o t = false) ∧ Hid (Below w4.heap.size w4 wr)) (fun v _ => n4 - (intOf v).toNat)
          case atStart => exact ⟨0, Nat.zero_le _, rfl, fun q hq => absurd hq (by omega), Below.refl _ _⟩
          case round =>
            obtain ⟨j, hj, rfl, lo2, BW⟩ := hrel
            clear c0 c1
            by_cases hlj : j < n4
            · have hji : (j : Int) < (n4 : Int) := by omega
              have BX := hide2 (B4.out.trans (BW.out.mono B4.out.size))
              obtain ⟨bl, off, t, A1, n1, c1, A2, n2, c2, rfl, hbl, ht, q0, q1, q2, i1, i2, _, _⟩ := Trans.get (H.out.keep BX.out) hlj
              have hT := netOk_tran HO.out ht.out
              have e1 : n1 = k := by have := hT.2.2.1; rw [i1.len] at this; simp only [] at this; omega
              have e2 : n2 = k := by have := hT.2.2.2.1; rw [i2.len] at this; simp only [] at this; omega
              subst e1
              subst e2
              have bb := boxBelow wr (.cells #[.int .i64 t.label, .slice A1 n2 c1, .slice A2 n2 c2] 107)
              obtain ⟨b1, o1, x, rfl, hb1, hx, qx⟩ := Ints.get (k := o) (Ints.keep i1 bb) (by omega)
              obtain ⟨b2, o2, y, rfl, hb2, hy, qy⟩ := Ints.get (k := i) (Ints.keep i2 bb) (by omega)
              have x0 := (badW_false (any_false_get hT.2.2.2.2.1 hx.out)).1
              have y0 := (badW_false (any_false_get hT.2.2.2.2.2 hy.out)).1
              have FN := hide2 (show backT i o t = (decide (0 < y) || decide (0 < x)) by rw [backT, atL_some hy.out, atL_some hx.out])
              have TM := hide2 (List.mem_of_getElem? ht.out)
              have BW1 := hide2 (BW.out.trans (bb.mono BW.out.size))
              have s1 := BoxB.at (Box.keep (Box.keepB T3.out BW.out (Box.lt T3.out)) bb) (j := j) (by have := LA.out.2; omega)
              have s2 := BoxB.at (Box.keep (Box.keepB U3.out BW.out (Box.lt U3.out)) bb) (j := j) (by have := LB.out.2; omega)
              obtain ⟨u, hu⟩ : ∃ b, SA.ts.getD j false = b := ⟨_, rfl⟩
              obtain ⟨v, hv⟩ : ∃ b, SB.ts.getD j false = b := ⟨_, rfl⟩
              rw [hu] at s1
              rw [hv] at s2
              have HU := hide2 hu
              have HV := hide2 hv
              clear hT i1 i2 bb hu hv
              cases u
              · have FIN := hide2 (ONE.out (.inr (.inr ⟨j, hlj, .inl HU.out⟩)))
                go_wp2
                go_ret
                exact ⟨ret_int FIN.out.symm, B4.out.trans (BW1.out.mono B4.out.size)⟩
              · cases v
                · have FIN := hide2 (ONE.out (.inr (.inr ⟨j, hlj, .inr HV.out⟩)))
                  go_wp2
                  go_ret
                  exact ⟨ret_int FIN.out.symm, B4.out.trans (BW1.out.mono B4.out.size)⟩
                · by_cases hy1 : 0 < y
                  · have hyne : (y == 0) = false := by simp; omega
                    have FIN := hide2 (ONE.out (.inl ⟨t, TM.out, by rw [FN.out]; simp [hy1]⟩))
                    go_wp2
                    go_ret
                    exact ⟨ret_int FIN.out.symm, B4.out.trans (BW1.out.mono B4.out.size)⟩
                  · obtain rfl : y = 0 := by omega
                    by_cases hx1 : 0 < x
                    · have hxne : (x == 0) = false := by simp; omega
                      have FIN := hide2 (ONE.out (.inl ⟨t, TM.out, by rw [FN.out]; simp [hx1]⟩))
                      go_wp2
                      go_ret
                      exact ⟨ret_int FIN.out.symm, B4.out.trans (BW1.out.mono B4.out.size)⟩
                    · obtain rfl : x = 0 := by omega
                      have FN' := hide2 (show backT i o t = false by rw [FN.out]; rfl)
                      go_wp2
                      go_roundw
                      case rel =>
                        refine ⟨j + 1, by omega, by go_num, fun q hq => ?_, BW1⟩
                        by_cases hqk : q = j
                        · subst hqk
                          exact ⟨HU.out, HV.out, fun t' ht' => by rw [ht.out] at ht'; injection ht' with ht'; rw [← ht']; exact FN'.out⟩
                        · exact lo2.out q (by omega)
                      case measure => simp [intOf]; omega
            · obtain rfl : j = n4 := by omega
              have FIN := hide2 (show shapeL ⟨(k : Int), ts⟩ i o = 0 by
                rw [SH.out, if_neg, if_pos]
                · refine ⟨WA.out.2 ⟨fun q hq => ?_, fun q hq => ?_⟩, WB.out.2 ⟨fun q hq => ?_, fun q hq => ?_⟩⟩
                  · exact (lo.out q (by have := LA.out.1; omega)).1
                  · exact (lo2.out q (by have := LA.out.2; omega)).1
                  · exact (lo.out q (by have := LB.out.1; omega)).2
                  · exact (lo2.out q (by have := LB.out.2; omega)).2.1
                · intro hc
                  obtain ⟨t, ht, hbk⟩ := List.any_eq_true.1 hc
                  obtain ⟨q, hq, rfl⟩ := List.getElem_of_mem ht
                  have := (lo2.out q (by have := HL.out; omega)).2.2 _ (List.getElem?_eq_getElem hq)
                  rw [this] at hbk; cases hbk)
              go_wp2
              go_ret
              exact ⟨ret_int FIN.out.symm, B4.out.trans (BW.out.mono B4.out.size)⟩
    · have FIN := hide2 (show shapeL ⟨p, ts⟩ i o = 1 by rw [shapeL, if_pos HO.out, if_neg hin])
      simp only [inB, Bool.and_eq_true, decide_eq_true_eq] at hin
      by_cases h4 : i = o
      · subst h4
        clear hin
        go_wp2
        go_ret
        exact ⟨ret_int FIN.out.symm, B1.out⟩
      · have hne : (i == o) = false := by simpa using h4
        by_cases hm : mn < 0
        · clear hin h4
          go_wp2
          go_ret
          exact ⟨ret_int FIN.out.symm, B1.out⟩
        · have hx : (p : Int) ≤ mx := Classical.byContradiction fun hx => hin ⟨⟨⟨⟨by omega, by omega⟩, by omega⟩, by omega⟩, h4⟩
          have hm0 : 0 ≤ mn := by omega
          clear hin h4 hm
          go_wp2
          go_ret
          exact ⟨ret_int FIN.out.symm, B1.out⟩
end Go.Proofs.Ytmhcinmadelaeaa
