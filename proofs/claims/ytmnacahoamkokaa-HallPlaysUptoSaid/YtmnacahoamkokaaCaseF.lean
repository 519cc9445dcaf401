/- The contract of cases.Do. Conditions: the net and the case read as lists. -/
import Derived.Test.YtmnacahoamkokaaCaseE
import Derived.Test.YtmnacahoamkokaaPlainF
import Derived.Test.YtmnacahoamkokaaNetF
import Derived.Deep.RegionHeld3
namespace Go.Proofs.Ytmnacahoamkokaa
open Go.RowKit

def four (w : World) (o0 o1 o2 o3 : Obj) : World := (((w.alloc o0).alloc o1).alloc o2).alloc o3
theorem boxes4 (w : World) (c0 c1 c2 c3 : Array Value) (t0 t1 t2 t3 : Nat) :
    Below w.heap.size w ((((w.alloc (.cells c0 t0)).alloc (.cells c1 t1)).alloc (.cells c2 t2)).alloc (.cells c3 t3)) ∧
    Box ((((w.alloc (.cells c0 t0)).alloc (.cells c1 t1)).alloc (.cells c2 t2)).alloc (.cells c3 t3)) w.heap.size t0 c0 ∧
    Box ((((w.alloc (.cells c0 t0)).alloc (.cells c1 t1)).alloc (.cells c2 t2)).alloc (.cells c3 t3)) (w.heap.size + 1) t1 c1 ∧
    Box ((((w.alloc (.cells c0 t0)).alloc (.cells c1 t1)).alloc (.cells c2 t2)).alloc (.cells c3 t3)) (w.heap.size + 1 + 1) t2 c2 ∧
    Box ((((w.alloc (.cells c0 t0)).alloc (.cells c1 t1)).alloc (.cells c2 t2)).alloc (.cells c3 t3)) (w.heap.size + 1 + 1 + 1) t3 c3 :=
  ⟨((((Below.refl _ _).alloc (Nat.le_refl _) _).alloc (by simp) _).alloc (by simp; omega) _).alloc (by simp; omega) _,
    (((Box.new _ _ _).old _).old _).old _, ((Box.newAt (by simp) _ _).old _).old _, (Box.newAt (by simp) _ _).old _, Box.newAt (by simp) _ _⟩

set_option maxRecDepth 100000 in
set_option maxHeartbeats 4000000 in
theorem do_bad {w : World} {P : Int} {A B D : Option Addr} {n c m d l k : Nat} {ts : List PTran} {p : PCase} (kd t : Int) (h : Trans w A n c ts) (g : Ints w B m d p.mark) (b : Ints w D l k p.busy) (hbad : ∀ (i : Nat) (T : PTran), t = (i : Int) → ts[i]? = some T → caseOk ⟨P, ts⟩ p = true → 1 ≤ kd → kd ≤ 4 → ¬ (kd = 1 ↔ T.label = 0)) :
    Calls Try.prog 206 #[.agg #[.int .i64 P, .slice A n c], .agg #[.slice B m d, .slice D l k], .agg #[.int .i64 kd, .int .i64 t]] w (AnsCE (doL ⟨P, ts⟩ p kd t) w) := by
  obtain ⟨B0', X0, X1, X2, X3⟩ := boxes4 w #[.int .i64 P, .slice A n c] #[.slice B m d, .slice D l k] #[.int .i64 kd, .int .i64 t] #[.slice none 0 0, .slice none 0 0] 27 75 255 75
  have B0 := hide2 B0'
  have HX0 := hide2 X0
  have HX1 := hide2 X1
  have HX2 := hide2 X2
  have HX3 := hide2 X3
  clear B0' X0 X1 X2 X3
  have BAD := hide2 hbad
  clear hbad
  have hn := h.small
  have hm := g.small
  have HL := hide2 h.len
  have GL := hide2 g.len
  have BL := hide2 b.len
  have H := hide2 h
  have G := hide2 g
  have BB := hide2 b
  clear h g b
  obtain ⟨ok, hok⟩ : ∃ ok, caseOk ⟨P, ts⟩ p = ok := ⟨_, rfl⟩
  have HO := hide2 hok
  clear hok
  go_enter Try.func206, Try.ntmps206
  go_wp2_with fail
  refine (caseRight_calls (P := P) (p := p) (H.out.keep B0.out) (G.out.keep B0.out) (BB.out.keep B0.out)).mono ?_
  rw [HO.out]
  rintro e w1 ⟨rfl, hb⟩
  have B1 := hide2 (B0.out.trans (hb.mono B0.out.size))
  have Y0 := hide2 (HX0.out.keep hb)
  have Y1 := hide2 (HX1.out.keep hb)
  have Y2 := hide2 (HX2.out.keep hb)
  have Y3 := hide2 (HX3.out.keep hb)
  clear hb HX0 HX1 HX2 HX3
  obtain ⟨a0, a1⟩ := Y0.out.two
  obtain ⟨b0, b1⟩ := Y1.out.two
  obtain ⟨c0, c1⟩ := Y2.out.two
  cases ok
  · have FIN := hide2 (doL_not (k := kd) (t := t) HO.out)
    go_wp2_with fail
    refine (caseNo_calls _ 2).mono ?_
    rintro e we ⟨rfl, hbe⟩
    have Ze := hide2 (Y3.out.keep hbe)
    obtain ⟨z0, z1⟩ := Ze.out.two
    have zf := Ze.out.frozen 0
    have zg := Ze.out.frozen 1
    have Be := hide2 (B1.out.trans (hbe.mono B1.out.size))
    clear hbe
    go_wp2
    obtain ⟨r0, r1⟩ := (Ze.out.set2 (.slice none 0 0) (.slice none 0 0)).two
    exact bodyPost_ret (v := .tuple #[.agg #[.slice none 0 0, .slice none 0 0], .int .i64 (2)]) (by simp [results, Try.results206, go_sem, r0, r1]) rfl (by rw [FIN.out]; exact AnsCE.no ((Be.out.setCell (by show w.heap.size ≤ w.heap.size + 1 + 1 + 1; omega) _).setCell (by show w.heap.size ≤ w.heap.size + 1 + 1 + 1; omega) _))
  · by_cases hk1 : kd < 1
    · have FIN := hide2 (doL_kind (k := kd) (t := t) HO.out (.inl hk1))
      go_wp2_with fail
      refine (caseNo_calls _ 5).mono ?_
      rintro e we ⟨rfl, hbe⟩
      have Ze := hide2 (Y3.out.keep hbe)
      obtain ⟨z0, z1⟩ := Ze.out.two
      have zf := Ze.out.frozen 0
      have zg := Ze.out.frozen 1
      have Be := hide2 (B1.out.trans (hbe.mono B1.out.size))
      clear hbe
      go_wp2
      obtain ⟨r0, r1⟩ := (Ze.out.set2 (.slice none 0 0) (.slice none 0 0)).two
      exact bodyPost_ret (v := .tuple #[.agg #[.slice none 0 0, .slice none 0 0], .int .i64 (5)]) (by simp [results, Try.results206, go_sem, r0, r1]) rfl (by rw [FIN.out]; exact AnsCE.no ((Be.out.setCell (by show w.heap.size ≤ w.heap.size + 1 + 1 + 1; omega) _).setCell (by show w.heap.size ≤ w.heap.size + 1 + 1 + 1; omega) _))
    · by_cases hk4 : 4 < kd
      · have FIN := hide2 (doL_kind (k := kd) (t := t) HO.out (.inr hk4))
        go_wp2_with fail
        refine (caseNo_calls _ 5).mono ?_
        rintro e we ⟨rfl, hbe⟩
        have Ze := hide2 (Y3.out.keep hbe)
        obtain ⟨z0, z1⟩ := Ze.out.two
        have zf := Ze.out.frozen 0
        have zg := Ze.out.frozen 1
        have Be := hide2 (B1.out.trans (hbe.mono B1.out.size))
        clear hbe
        go_wp2
        obtain ⟨r0, r1⟩ := (Ze.out.set2 (.slice none 0 0) (.slice none 0 0)).two
        exact bodyPost_ret (v := .tuple #[.agg #[.slice none 0 0, .slice none 0 0], .int .i64 (5)]) (by simp [results, Try.results206, go_sem, r0, r1]) rfl (by rw [FIN.out]; exact AnsCE.no ((Be.out.setCell (by show w.heap.size ≤ w.heap.size + 1 + 1 + 1; omega) _).setCell (by show w.heap.size ≤ w.heap.size + 1 + 1 + 1; omega) _))
      · have HK := hide2 (show 1 ≤ kd ∧ kd ≤ 4 by omega)
        by_cases ht0 : t < 0
        · have FIN := hide2 (doL_none HO.out HK.out (.inl ht0))
          go_wp2_with fail
          refine (caseNo_calls _ 3).mono ?_
          rintro e we ⟨rfl, hbe⟩
          have Ze := hide2 (Y3.out.keep hbe)
          obtain ⟨z0, z1⟩ := Ze.out.two
          have zf := Ze.out.frozen 0
          have zg := Ze.out.frozen 1
          have Be := hide2 (B1.out.trans (hbe.mono B1.out.size))
          clear hbe
          go_wp2
          obtain ⟨r0, r1⟩ := (Ze.out.set2 (.slice none 0 0) (.slice none 0 0)).two
          exact bodyPost_ret (v := .tuple #[.agg #[.slice none 0 0, .slice none 0 0], .int .i64 (3)]) (by simp [results, Try.results206, go_sem, r0, r1]) rfl (by rw [FIN.out]; exact AnsCE.no ((Be.out.setCell (by show w.heap.size ≤ w.heap.size + 1 + 1 + 1; omega) _).setCell (by show w.heap.size ≤ w.heap.size + 1 + 1 + 1; omega) _))
        · by_cases htn : (n : Int) ≤ t
          · have FIN := hide2 (doL_none HO.out HK.out (.inr (by simp only []; rw [HL.out]; exact htn)))
            go_wp2_with fail
            refine (caseNo_calls _ 3).mono ?_
            rintro e we ⟨rfl, hbe⟩
            have Ze := hide2 (Y3.out.keep hbe)
            obtain ⟨z0, z1⟩ := Ze.out.two
            have zf := Ze.out.frozen 0
            have zg := Ze.out.frozen 1
            have Be := hide2 (B1.out.trans (hbe.mono B1.out.size))
            clear hbe
            go_wp2
            obtain ⟨r0, r1⟩ := (Ze.out.set2 (.slice none 0 0) (.slice none 0 0)).two
            exact bodyPost_ret (v := .tuple #[.agg #[.slice none 0 0, .slice none 0 0], .int .i64 (3)]) (by simp [results, Try.results206, go_sem, r0, r1]) rfl (by rw [FIN.out]; exact AnsCE.no ((Be.out.setCell (by show w.heap.size ≤ w.heap.size + 1 + 1 + 1; omega) _).setCell (by show w.heap.size ≤ w.heap.size + 1 + 1 + 1; omega) _))
          · obtain ⟨i, rfl⟩ : ∃ i : Nat, t = (i : Int) := ⟨t.toNat, by omega⟩
            have hin : i < n := by omega
            have hini : (i : Int) < (n : Int) := by omega
            have hi0 : (0 : Int) ≤ (i : Int) := by omega
            clear ht0 htn
            obtain ⟨bl, off, T, A1, n1, c1, A2, n2, c2, rfl, hbl, hT, q0, q1, q2, i1, i2, m1, m2⟩ := Trans.get (H.out.keep B1.out) hin
            have DIN := hide2 (doL_in HO.out HK.out hT.out)
            have I1 := hide2 i1
            have I2 := hide2 i2
            clear i1 i2
            have hk : kd = 1 ∨ kd = 2 ∨ kd = 3 ∨ kd = 4 := by have := HK.out; omega
            by_cases hl0 : T.label = 0
            · have q0' : w1.cell? ⟨bl, off + i * 3, none⟩ = some (.int .i64 0) := by rw [← hl0]; exact q0
              rcases hk with rfl | rfl | rfl | rfl
              · exact absurd (by simp [hl0]) (BAD.out i T rfl hT.out HO.out (by omega) (by omega))
              all_goals
                have FIN := hide2 (show doL ⟨P, ts⟩ p _ (i : Int) = (PCase.nil, 1) by rw [DIN.out, if_neg (by rw [hl0]; omega)])
                clear DIN hl0 q0
                go_wp2
                go_quiet (fail)
                go_wp2_with fail
                refine (caseNo_calls _ 1).mono ?_
                rintro e we ⟨rfl, hbe⟩
                have Ze := hide2 ((Y3.out.drewN _).keep hbe)
                obtain ⟨z0, z1⟩ := Ze.out.two
                have zf := Ze.out.frozen 0
                have zg := Ze.out.frozen 1
                have Be := hide2 (B1.out.trans ((Drew.drewN _ _).below.trans hbe |>.mono B1.out.size))
                clear hbe
                go_wp2
                obtain ⟨r0, r1⟩ := (Ze.out.set2 (.slice none 0 0) (.slice none 0 0)).two
                exact bodyPost_ret (v := .tuple #[.agg #[.slice none 0 0, .slice none 0 0], .int .i64 (1)]) (by simp [results, Try.results206, go_sem, r0, r1]) rfl (by rw [FIN.out]; exact AnsCE.no ((Be.out.setCell (by show w.heap.size ≤ w.heap.size + 1 + 1 + 1; omega) _).setCell (by show w.heap.size ≤ w.heap.size + 1 + 1 + 1; omega) _))
            · rcases hk with rfl | rfl | rfl | rfl
              · have FIN := hide2 (show doL ⟨P, ts⟩ p 1 (i : Int) = (PCase.nil, 1) by rw [DIN.out, if_neg (by simpa using hl0)])
                have hne : (T.label == 0) = false := by simpa using hl0
                clear DIN hl0
                go_wp2
                go_quiet (fail)
                go_wp2_with fail
                refine (caseNo_calls _ 1).mono ?_
                rintro e we ⟨rfl, hbe⟩
                have Ze := hide2 ((Y3.out.drewN _).keep hbe)
                obtain ⟨z0, z1⟩ := Ze.out.two
                have zf := Ze.out.frozen 0
                have zg := Ze.out.frozen 1
                have Be := hide2 (B1.out.trans ((Drew.drewN _ _).below.trans hbe |>.mono B1.out.size))
                clear hbe
                go_wp2
                obtain ⟨r0, r1⟩ := (Ze.out.set2 (.slice none 0 0) (.slice none 0 0)).two
                exact bodyPost_ret (v := .tuple #[.agg #[.slice none 0 0, .slice none 0 0], .int .i64 (1)]) (by simp [results, Try.results206, go_sem, r0, r1]) rfl (by rw [FIN.out]; exact AnsCE.no ((Be.out.setCell (by show w.heap.size ≤ w.heap.size + 1 + 1 + 1; omega) _).setCell (by show w.heap.size ≤ w.heap.size + 1 + 1 + 1; omega) _))
              · exact absurd (by simp [hl0]) (BAD.out i T rfl hT.out HO.out (by omega) (by omega))
              · exact absurd (by simp [hl0]) (BAD.out i T rfl hT.out HO.out (by omega) (by omega))
              · exact absurd (by simp [hl0]) (BAD.out i T rfl hT.out HO.out (by omega) (by omega))
end Go.Proofs.Ytmnacahoamkokaa
