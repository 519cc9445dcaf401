/- The contract of PDo where nothing is done. Conditions: the net and the case read as lists. -/
import Derived.Test.YtmnacahoamkokaaCaseF
namespace Go.Proofs.Ytmnacahoamkokaa
open Go.RowKit

set_option maxRecDepth 100000 in
set_option maxHeartbeats 4000000 in
theorem refDo_bad {w : World} {P : Int} {A B D : Option Addr} {n c m d l k : Nat} {ts : List PTran} {p : PCase} (kd t : Int) (h : Trans w A n c ts) (g : Ints w B m d p.mark) (b : Ints w D l k p.busy) (hbad : ∀ (i : Nat) (T : PTran), t = (i : Int) → ts[i]? = some T → caseOk ⟨P, ts⟩ p = true → 1 ≤ kd → kd ≤ 4 → ¬ (kd = 1 ↔ T.label = 0)) :
    Calls Try.prog 165 #[.agg #[.int .i64 P, .slice A n c], .agg #[.slice B m d, .slice D l k], .agg #[.int .i64 kd, .int .i64 t]] w (AnsCE (doL ⟨P, ts⟩ p kd t) w) := by
  obtain ⟨B0', X0, X1, X2, X3⟩ := boxes4 w #[.int .i64 P, .slice A n c] #[.slice B m d, .slice D l k] #[.int .i64 kd, .int .i64 t] #[.slice none 0 0, .slice none 0 0] 27 75 255 75
  have B0 := hide2 B0'
  have HX0 := hide2 X0
  have HX1 := hide2 X1
  have HX2 := hide2 X2
  have HX3 := hide2 X3
  clear B0' X0 X1 X2 X3
  have BAD := hide2 hbad
  clear hbad
  have hn := h.small
  have hm := g.small
  have HL := hide2 h.len
  have H := hide2 h
  have G := hide2 g
  have BB := hide2 b
  clear h g b
  obtain ⟨ok, hok⟩ : ∃ ok, caseOk ⟨P, ts⟩ p = ok := ⟨_, rfl⟩
  have HO := hide2 hok
  clear hok
  go_enter Try.func165, Try.ntmps165
  go_wp2_with fail
  refine (refCaseRight_calls (P := P) (p := p) (H.out.keep B0.out) (G.out.keep B0.out) (BB.out.keep B0.out)).mono ?_
  rw [HO.out]
  rintro e w1 ⟨rfl, hb⟩
  have B1 := hide2 (B0.out.trans (hb.mono B0.out.size))
  have Y0 := hide2 (HX0.out.keep hb)
  have Y1 := hide2 (HX1.out.keep hb)
  have Y2 := hide2 (HX2.out.keep hb)
  have Y3 := hide2 (HX3.out.keep hb)
  clear hb HX0 HX1 HX2 HX3
  obtain ⟨a0, a1⟩ := Y0.out.two
  obtain ⟨b0, b1⟩ := Y1.out.two
  obtain ⟨d0, d1⟩ := Y2.out.two
  cases ok
  · have FIN := hide2 (doL_not (k := kd) (t := t) HO.out)
    obtain ⟨z0, z1⟩ := Y3.out.two
    have zf := Y3.out.frozen 0
    have zg := Y3.out.frozen 1
    go_wp2
    obtain ⟨r0, r1⟩ := (Y3.out.set2 (.slice none 0 0) (.slice none 0 0)).two
    exact bodyPost_ret (v := .tuple #[.agg #[.slice none 0 0, .slice none 0 0], .int .i64 (2)]) (by simp [results, Try.results165, go_sem, r0, r1]) rfl (by rw [FIN.out]; exact AnsCE.no ((B1.out.setCell (by show w.heap.size ≤ w.heap.size + 1 + 1 + 1; omega) _).setCell (by show w.heap.size ≤ w.heap.size + 1 + 1 + 1; omega) _))
  · by_cases hk1 : kd < 1
    · have FIN := hide2 (doL_kind (k := kd) (t := t) HO.out (.inl hk1))
      obtain ⟨z0, z1⟩ := Y3.out.two
      have zf := Y3.out.frozen 0
      have zg := Y3.out.frozen 1
      go_wp2
      obtain ⟨r0, r1⟩ := (Y3.out.set2 (.slice none 0 0) (.slice none 0 0)).two
      exact bodyPost_ret (v := .tuple #[.agg #[.slice none 0 0, .slice none 0 0], .int .i64 (5)]) (by simp [results, Try.results165, go_sem, r0, r1]) rfl (by rw [FIN.out]; exact AnsCE.no ((B1.out.setCell (by show w.heap.size ≤ w.heap.size + 1 + 1 + 1; omega) _).setCell (by show w.heap.size ≤ w.heap.size + 1 + 1 + 1; omega) _))
    · by_cases hk4 : 4 < kd
      · have FIN := hide2 (doL_kind (k := kd) (t := t) HO.out (.inr hk4))
        obtain ⟨z0, z1⟩ := Y3.out.two
        have zf := Y3.out.frozen 0
        have zg := Y3.out.frozen 1
        go_wp2
        obtain ⟨r0, r1⟩ := (Y3.out.set2 (.slice none 0 0) (.slice none 0 0)).two
        exact bodyPost_ret (v := .tuple #[.agg #[.slice none 0 0, .slice none 0 0], .int .i64 (5)]) (by simp [results, Try.results165, go_sem, r0, r1]) rfl (by rw [FIN.out]; exact AnsCE.no ((B1.out.setCell (by show w.heap.size ≤ w.heap.size + 1 + 1 + 1; omega) _).setCell (by show w.heap.size ≤ w.heap.size + 1 + 1 + 1; omega) _))
      · have HK := hide2 (show 1 ≤ kd ∧ kd ≤ 4 by omega)
        by_cases ht0 : t < 0
        · have FIN := hide2 (doL_none HO.out HK.out (.inl ht0))
          obtain ⟨z0, z1⟩ := Y3.out.two
          have zf := Y3.out.frozen 0
          have zg := Y3.out.frozen 1
          go_wp2
          obtain ⟨r0, r1⟩ := (Y3.out.set2 (.slice none 0 0) (.slice none 0 0)).two
          exact bodyPost_ret (v := .tuple #[.agg #[.slice none 0 0, .slice none 0 0], .int .i64 (3)]) (by simp [results, Try.results165, go_sem, r0, r1]) rfl (by rw [FIN.out]; exact AnsCE.no ((B1.out.setCell (by show w.heap.size ≤ w.heap.size + 1 + 1 + 1; omega) _).setCell (by show w.heap.size ≤ w.heap.size + 1 + 1 + 1; omega) _))
        · by_cases htn : (n : Int) ≤ t
          · have FIN := hide2 (doL_none HO.out HK.out (.inr (by simp only []; rw [HL.out]; exact htn)))
            obtain ⟨z0, z1⟩ := Y3.out.two
            have zf := Y3.out.frozen 0
            have zg := Y3.out.frozen 1
            go_wp2
            obtain ⟨r0, r1⟩ := (Y3.out.set2 (.slice none 0 0) (.slice none 0 0)).two
            exact bodyPost_ret (v := .tuple #[.agg #[.slice none 0 0, .slice none 0 0], .int .i64 (3)]) (by simp [results, Try.results165, go_sem, r0, r1]) rfl (by rw [FIN.out]; exact AnsCE.no ((B1.out.setCell (by show w.heap.size ≤ w.heap.size + 1 + 1 + 1; omega) _).setCell (by show w.heap.size ≤ w.heap.size + 1 + 1 + 1; omega) _))
          · obtain ⟨i, rfl⟩ : ∃ i : Nat, t = (i : Int) := ⟨t.toNat, by omega⟩
            have hin : i < n := by omega
            have hini : (i : Int) < (n : Int) := by omega
            have hi0 : (0 : Int) ≤ (i : Int) := by omega
            clear ht0 htn
            obtain ⟨bl, off, T, A1, n1, c1, A2, n2, c2, rfl, hbl, hT, q0, q1, q2, i1, i2, m1, m2⟩ := Trans.get (H.out.keep B1.out) hin
            have DIN := hide2 (doL_in HO.out HK.out hT.out)
            clear i1 i2
            by_cases hl0 : T.label = 0
            · have hkd : ¬ kd = 1 := fun e => BAD.out i T rfl hT.out HO.out (by omega) (by omega) (by simp [e, hl0])
              have FIN := hide2 (show doL ⟨P, ts⟩ p kd (i : Int) = (PCase.nil, 1) by rw [DIN.out, if_neg (by simp [hl0, hkd])])
              rw [hl0] at q0
              have hne : (kd == 1) = false := by simpa using hkd
              have Z3 := hide2 (Y3.out.old (.cells #[.int .i64 0, .slice A1 n1 c1, .slice A2 n2 c2] 103))
              have B2 := hide2 (B1.out.alloc B1.out.size (.cells #[.int .i64 0, .slice A1 n1 c1, .slice A2 n2 c2] 103))
              have e0 := (Y2.out.old (.cells #[.int .i64 0, .slice A1 n1 c1, .slice A2 n2 c2] 103)).two.1
              clear DIN hl0 hkd
              obtain ⟨z0, z1⟩ := Z3.out.two
              have zf := Z3.out.frozen 0
              have zg := Z3.out.frozen 1
              go_wp2
              obtain ⟨r0, r1⟩ := (Z3.out.set2 (.slice none 0 0) (.slice none 0 0)).two
              exact bodyPost_ret (v := .tuple #[.agg #[.slice none 0 0, .slice none 0 0], .int .i64 (1)]) (by simp [results, Try.results165, go_sem, r0, r1]) rfl (by rw [FIN.out]; exact AnsCE.no ((B2.out.setCell (by show w.heap.size ≤ w.heap.size + 1 + 1 + 1; omega) _).setCell (by show w.heap.size ≤ w.heap.size + 1 + 1 + 1; omega) _))
            · have hkd : kd = 1 := Classical.byContradiction fun e => BAD.out i T rfl hT.out HO.out (by omega) (by omega) (by simp [e, hl0])
              have FIN := hide2 (show doL ⟨P, ts⟩ p kd (i : Int) = (PCase.nil, 1) by rw [DIN.out, if_neg (by simp [hl0, hkd])])
              subst hkd
              have hne : (T.label == 0) = false := by simpa using hl0
              have Z3 := hide2 (Y3.out.old (.cells #[.int .i64 T.label, .slice A1 n1 c1, .slice A2 n2 c2] 103))
              have B2 := hide2 (B1.out.alloc B1.out.size (.cells #[.int .i64 T.label, .slice A1 n1 c1, .slice A2 n2 c2] 103))
              have e0 := (Y2.out.old (.cells #[.int .i64 T.label, .slice A1 n1 c1, .slice A2 n2 c2] 103)).two.1
              clear DIN hl0
              obtain ⟨z0, z1⟩ := Z3.out.two
              have zf := Z3.out.frozen 0
              have zg := Z3.out.frozen 1
              go_wp2
              obtain ⟨r0, r1⟩ := (Z3.out.set2 (.slice none 0 0) (.slice none 0 0)).two
              exact bodyPost_ret (v := .tuple #[.agg #[.slice none 0 0, .slice none 0 0], .int .i64 (1)]) (by simp [results, Try.results165, go_sem, r0, r1]) rfl (by rw [FIN.out]; exact AnsCE.no ((B2.out.setCell (by show w.heap.size ≤ w.heap.size + 1 + 1 + 1; omega) _).setCell (by show w.heap.size ≤ w.heap.size + 1 + 1 + 1; omega) _))
end Go.Proofs.Ytmnacahoamkokaa
