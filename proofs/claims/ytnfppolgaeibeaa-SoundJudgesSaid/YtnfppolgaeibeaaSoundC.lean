/- The contract of IJudge. Conditions: the net reads as a list. | The law SoundJudges as a call: it returns true. Conditions: the net reads as a list. -/
import Derived.Test.YtnfppolgaeibeaaSoundA
import Derived.Test.YtnfppolgaeibeaaPlainH
import Derived.Test.YtnfppolgaeibeaaLiveA
import Derived.Test.YtnfppolgaeibeaaReachH
namespace Go.Proofs.Ytnfppolgaeibeaa
open Go.RowKit

theorem findIdx_some {bs : List Bool} {k : Nat} (h : ∀ i, i < k → bs[i]? = some true) (hk : bs[k]? = some false) : bs.findIdx? (fun y => false == y) = some k := by
  rw [List.findIdx?_eq_some_iff_getElem]
  obtain ⟨h1, h2⟩ := List.getElem?_eq_some_iff.1 hk
  refine ⟨h1, by rw [h2]; rfl, fun i hi => ?_⟩
  obtain ⟨h3, h4⟩ := List.getElem?_eq_some_iff.1 (h i hi)
  rw [h4]
  simp
theorem findIdx_none {bs : List Bool} (h : ∀ i, i < bs.length → bs[i]? = some true) : bs.findIdx? (fun y => false == y) = none := by
  rw [List.findIdx?_eq_none_iff]
  intro x hx
  obtain ⟨j, hj⟩ := List.mem_iff_getElem?.1 hx
  rw [h j (List.getElem?_eq_some_iff.1 hj).1] at hj
  injection hj with hj
  rw [← hj]; rfl
theorem posL_find {ms : List (List Int)} {E : List Int} (hn : ms.Nodup) : ∀ k, k ≤ ms.length → posL (fun m => m == E) ms k = (findL (ms.take k) E).elim [] (fun a => [(a : Int)]) := by
  intro k
  induction k with
  | zero => intro _; rfl
  | succ k ih =>
    intro hk
    have hx : ms[k]? = some (ms[k]'(by omega)) := List.getElem?_eq_getElem _
    rw [posL_succ hx, ih (by omega), take_snoc hx, findL_snoc]
    by_cases he : E = ms[k]'(by omega)
    · have hf : findL (ms.take k) E = none := by
        cases hf : findL (ms.take k) E with
        | none => rfl
        | some a =>
          exfalso
          have h1 := findL_some hf
          have ha := (List.getElem?_eq_some_iff.1 h1).1
          rw [List.length_take] at ha
          rw [List.getElem?_take_of_lt (by omega)] at h1
          have h2 := findL_at hn h1
          rw [he, findL_at hn hx] at h2
          injection h2 with h2
          omega
      rw [hf]
      have hl : (ms.take k).length = k := by rw [List.length_take]; omega
      simp [← he, hl]
    · have : ((ms[k]'(by omega)) == E) = false := by simpa using fun h => he h.symm
      simp only [this]
      cases findL (ms.take k) E with
      | some a => simp
      | none => simp [he]
open Classical in
theorem onL_at {s : PSp} {E : List Int} (hn : s.marks.Nodup) {k : Nat} (hk : k < s.marks.length) : (onL s E)[k]? = some (match findL s.marks E with | some a => decide (Reach (nxt s.arcs) (a : Int) (k : Int)) | none => false) := by
  unfold onL
  rw [posL_find hn _ (Nat.le_refl _), List.take_of_length_le (Nat.le_refl _)]
  cases findL s.marks E with
  | some a => simp [spreadL, hk]
  | none => simp [spreadL, hk]

set_option maxRecDepth 100000 in
set_option maxHeartbeats 4000000 in
theorem refJudge_calls {w : World} {P : Int} {A : Option Addr} {n c : Nat} {ts : List PTran} (i o most : Int) (h : Trans w A n c ts) (hn : n ≤ 2513169434916) :
    Calls Try.prog 22 #[.agg #[.int .i64 P, .slice A n c], .int .i64 i, .int .i64 o, .int .i64 most] w (AnsV (judgeL ⟨P, ts⟩ i o most) w) := by
  generalize hw : ((w.alloc (.cells #[.int .i64 P, .slice A n c] 27)).alloc (.cells #[.int .i64 0, .slice none 0 0, .int .i64 0] 45)) = w0
  have HB := hide2 (show Below w.heap.size w w0 by rw [← hw]; exact ((Below.refl _ _).alloc (Nat.le_refl _) _).alloc (by simp) _)
  have X0 := hide2 (show Box w0 w.heap.size 27 #[.int .i64 P, .slice A n c] by rw [← hw]; exact (Box.new _ _ _).old _)
  have X1 := hide2 (show Box w0 (w.heap.size + 1) 45 #[.int .i64 0, .slice none 0 0, .int .i64 0] by rw [← hw]; exact Box.newAt (by simp) _ _)
  have H := hide2 (h.keep HB.out)
  have CW := hide2 (refShapeWrong_calls (P := P) i o H.out hn)
  have JW := hide2 (judgeL_wrong (N := ⟨P, ts⟩) (i := i) (o := o) (most := most))
  have JE := hide2 (fun (g : PSp × Int) => judgeL_err (N := ⟨P, ts⟩) (i := i) (o := o) (most := most) (g := g))
  have JY := hide2 (fun (s : PSp) => judgeL_yes (N := ⟨P, ts⟩) (i := i) (o := o) (most := most) (s := s))
  clear h
  obtain ⟨R, hR⟩ : ∃ R, judgeL ⟨P, ts⟩ i o most = R := ⟨_, rfl⟩
  rw [hR] at JW
  simp only [hR] at JE JY
  rw [hR]
  clear hR
  have S2 := hide2 (fun hs => shapeL_two (N := ⟨P, ts⟩) (i := i) (o := o) hs)
  obtain ⟨sw, hsw⟩ : ∃ sw, shapeL ⟨P, ts⟩ i o = sw := ⟨_, rfl⟩
  rw [hsw] at JW CW S2
  simp only [hsw] at JE JY
  clear hsw
  go_enter Try.func22, Try.ntmps22
  go_upto_region 1 with fail
  clear hw
  obtain ⟨a0, a1⟩ := X0.out.two
  obtain ⟨z0, z1, z2⟩ := X1.out.three
  by_cases hs0 : sw = 0
  · subst hs0
    obtain ⟨p2, hok⟩ := S2.out rfl
    go_upto_region 4 with (go_at_call 18; go_loud ((with_reducible refine CW.out.mono ?_); rintro e w1 ⟨rfl, hb1⟩; have B1 := hide2 hb1; clear hb1))
    have Y0 := hide2 (X0.out.keep B1.out).drew
    have Y1 := hide2 (X1.out.keep B1.out).drew
    have BZ := hide2 (HB.out.trans (B1.out.mono HB.out.size)).drew
    have H1 := hide2 (show Trans w1.drew A n c ts from (H.out.keep B1.out).keep ⟨rfl, rfl, rfl, Nat.le_refl _, fun _ _ => rfl⟩)
    obtain ⟨pn, hpn⟩ : ∃ pn, (min P 16).toNat = pn := ⟨_, rfl⟩
    have HPN := hide2 hpn
    obtain ⟨g, hg⟩ : ∃ g, graphL ⟨P, ts⟩ (oneL pn i) most = g := ⟨_, rfl⟩
    have hp16 : P ≤ 16 := ((netOk_iff _).1 hok).2.1
    have hpn2 : 2 ≤ pn := by omega
    have JE1 := hide2 (fun (he : g.2 ≠ 0) => JE.out g (by first | rfl | trivial) (by rw [hpn]; exact hg) he)
    have JY1 := hide2 (fun (s : PSp) (he : g = (s, 0)) => JY.out s (by first | rfl | trivial) (by rw [hpn, hg]; exact he))
    simp only [hpn] at JY1
    have NIL := hide2 (fun (he : g.2 ≠ 0) => show g.1 = PSp.nil by rw [← hg]; exact graphL_err (by rw [hg]; exact he))
    have SPK := hide2 (fun (he : g.2 = 0) => show (1 ≤ most ∧ most ≤ 300) ∧ SpOk ⟨P, ts⟩ most.toNat g.1 by rw [← hg]; exact graphL_most (by rw [hg]; exact he))
    have ARC := hide2 (fun (he : g.2 = 0) => show g.1.arcs.length ≤ 7200 by rw [← hg]; exact graphL_arcs (by rw [hg]; exact he))
    have CG := hide2 (fun (w' : World) (C : Option Addr) (kc : Nat) (hb : Below w1.drew.heap.size w1.drew w') (hi : Ints w' C pn kc (oneL pn i)) => show Calls _ _ _ _ (AnsSpace g w') by rw [← hg]; exact refGraph_calls (P := P) most (H1.out.keep hb) hi)
    have BU0 := hide2 (Below.refl w1.drew.heap.size w1.drew)
    have ML := hide2 (show ∀ x ∈ g.1.marks, 2 ≤ x.length from fun x hx => by
      by_cases he : g.2 = 0
      · have := ((fitsB_iff _ _).1 ((SPK.out he).2.fits x hx)).2.1
        simp only at this
        omega
      · rw [NIL.out he] at hx; cases hx)
    clear hg hpn JE JY JW S2 X0 X1 HB H B1 a0 a1 z0 z1 z2
    obtain ⟨s, k⟩ := g
    simp only at NIL SPK ML JE1 ARC
    obtain ⟨a0, a1⟩ := Y0.out.two
    refine wp_region_scr 11 (.takes [0, 1, 2, 4] (.two 3 (.two 5 (.takes [6, 7, 8] (.one 9 (.one 10 (.fin 11 .done)))) 9 (.one 5 (.takes [6, 7, 8] (.one 10 (.fin 11 .done))))) 9 (.one 3 (.one 5 (.takes [6, 7, 8] (.one 10 (.fin 11 .done))))))) (fun w' => w'.cell? ⟨w.heap.size, 0, none⟩ = some (.int .i64 P) ∧ w'.cell? ⟨w.heap.size, 1, none⟩ = some (.slice A n c)) (by kernel_rfl) (by kernel_rfl) (by kernel_rfl) (fun _ _ _ _ _ h => h) ⟨a0, a1⟩ (fun hHeld => ?_)
    simp only [Scr.takes]
    generalize w1.drew = u0 at *
    iterate 4
      refine tkTake (v := ?_) rfl (by rfl) hHeld (fun w' hSw => ?_) ?_
      rotate_left
      · (go_simp; try with_reducible rfl)
      try simp only [Act.put, List.setIfInBounds_toArray, List.set_cons_zero, List.set_cons_succ]
    refine scrEnd (.fin 11 .done) (fun a0 a' w' => ∃ (C : Option Addr) (kc : Nat) (U : Option Addr) (cu : Nat) (V : Option Addr) (cv b11 : Nat), a' = ((((((a0.put (some 34) (.slice C pn kc)).put (some 36) (.tuple #[.agg #[.slice U s.marks.length cu, .slice V s.arcs.length cv], .int .i64 k])).put (some 30) (.tuple #[.agg #[.slice U s.marks.length cu, .slice V s.arcs.length cv], .int .i64 k])).put (some 37) (.agg #[.slice U s.marks.length cu, .slice V s.arcs.length cv])).put (some 38) (.int .i64 k)).put (some 11) (.pointer (some ⟨b11, 0, none⟩))) ∧ Hid (Box w' b11 107 #[.slice U s.marks.length cu, .slice V s.arcs.length cv]) ∧ Hid (Lists w' U s.marks.length cu s.marks) ∧ Hid (Arcs w' V s.arcs.length cv s.arcs) ∧ Hid (Below u0.heap.size u0 w')) ?_ (fun EN => ?_)
    rotate_left
    · refine tkTwo rfl rfl (fun Kf hKf => ?_) (fun Kf hKf => ?_)
      · go_simp; go_at_call 16
        (with_reducible refine (refStart_calls u0 P i A n c).mono ?_)
        rw [HPN.out]
        rintro e u1 ⟨C, kc, rfl, hi, hb, _⟩
        have Iu1 := hide2 hi
        have Bu1 := hide2 (BU0.out.trans (hb.mono BU0.out.size))
        clear hi hb
        refine hKf.out _ _ ⟨(Y0.out.keep Bu1.out).two.1, (Y0.out.keep Bu1.out).two.2⟩ (fun hHeld => ?_)
        clear hKf
        try simp only [Act.put, List.setIfInBounds_toArray, List.set_cons_zero, List.set_cons_succ]
        refine tkTwo rfl rfl (fun Kf hKf => ?_) (fun Kf hKf => ?_)
        · go_simp; go_at_call 66
          (with_reducible refine (CG.out u1 _ _ Bu1.out Iu1.out).mono ?_)
          rintro e u2 ⟨U, cu, V, cv, rfl, hL, hA, hb⟩
          have Lu2 := hide2 hL
          have Au2 := hide2 hA
          have Bu2 := hide2 (Bu1.out.trans (hb.mono Bu1.out.size))
          clear hL hA hb
          refine hKf.out _ _ ⟨(Y0.out.keep Bu2.out).two.1, (Y0.out.keep Bu2.out).two.2⟩ (fun hHeld => ?_)
          clear hKf
          iterate 3
            refine tkTake (v := ?_) rfl (by rfl) hHeld (fun w' hSw => ?_) ?_
            rotate_left
            · (go_simp; try with_reducible rfl)
            try simp only [Act.put, List.setIfInBounds_toArray, List.set_cons_zero, List.set_cons_succ]
          refine tkOne rfl (fun Kf hKf => ?_)
          go_simp
          have Bu3 := hide2 (show Below u0.heap.size u0 (u2.alloc (.cells #[.slice none 0 0, .slice none 0 0] 107)) from Bu2.out.alloc Bu2.out.size _)
          have Xu3 := hide2 (show Box (u2.alloc (.cells #[.slice none 0 0, .slice none 0 0] 107)) u2.heap.size 107 #[.slice none 0 0, .slice none 0 0] from Box.new _ _ _)
          have Nu3 := hide2 (show u0.heap.size ≤ u2.heap.size from Bu2.out.size)
          have Lu3 := hide2 (Sl.keep ListR.kept Lu2.out ((Below.refl u2.heap.size u2).alloc (Nat.le_refl _) (.cells #[.slice none 0 0, .slice none 0 0] 107)))
          have Au3 := hide2 (Sl.keep ArcR.kept Au2.out ((Below.refl u2.heap.size u2).alloc (Nat.le_refl _) (.cells #[.slice none 0 0, .slice none 0 0] 107)))
          refine hKf.out _ _ ⟨(Y0.out.keep Bu3.out).two.1, (Y0.out.keep Bu3.out).two.2⟩ (fun hHeld => ?_)
          clear hKf
          try simp only [Act.put, List.setIfInBounds_toArray, List.set_cons_zero, List.set_cons_succ]
          generalize u2.alloc (.cells #[.slice none 0 0, .slice none 0 0] 107) = u3 at *
          refine tkOne rfl (fun Kf hKf => ?_)
          obtain ⟨s0, s1⟩ := Xu3.out.two
          have sf0 := Xu3.out.frozen 0
          have sf1 := Xu3.out.frozen 1
          go_simp
          have BE := hide2 (below_set2 Bu3.out (Nat.le_refl _) Nu3.out (.slice U s.marks.length cu) (.slice V s.arcs.length cv))
          refine hKf.out _ _ ⟨(Y0.out.keep BE.out).two.1, (Y0.out.keep BE.out).two.2⟩ (fun hHeld => ?_)
          clear hKf
          try simp only [Act.put, List.setIfInBounds_toArray, List.set_cons_zero, List.set_cons_succ]
          exact EN.out _ _ ⟨C, kc, U, cu, V, cv, u2.heap.size, rfl, hide2 (Xu3.out.set2 _ _), hide2 (Lists.besideZ Lu3.out ML.out Xu3.out _ _), hide2 (Arcs.besideZ Au3.out Xu3.out _ _), BE⟩ hHeld
        · go_simp
          have Bu2 := hide2 (show Below u0.heap.size u0 (u1.alloc (.cells #[.slice none 0 0, .slice none 0 0] 107)) from Bu1.out.alloc Bu1.out.size _)
          have Xu2 := hide2 (show Box (u1.alloc (.cells #[.slice none 0 0, .slice none 0 0] 107)) u1.heap.size 107 #[.slice none 0 0, .slice none 0 0] from Box.new _ _ _)
          have Nu2 := hide2 (show u0.heap.size ≤ u1.heap.size from Bu1.out.size)
          have Iu2 := hide2 (Sl.keep IntR.kept Iu1.out ((Below.refl u1.heap.size u1).alloc (Nat.le_refl _) (.cells #[.slice none 0 0, .slice none 0 0] 107)))
          refine hKf.out _ _ ⟨(Y0.out.keep Bu2.out).two.1, (Y0.out.keep Bu2.out).two.2⟩ (fun hHeld => ?_)
          clear hKf
          try simp only [Act.put, List.setIfInBounds_toArray, List.set_cons_zero, List.set_cons_succ]
          generalize u1.alloc (.cells #[.slice none 0 0, .slice none 0 0] 107) = u2 at *
          refine tkOne rfl (fun Kf hKf => ?_)
          go_simp; go_at_call 66
          (with_reducible refine (CG.out u2 _ _ Bu2.out Iu2.out).mono ?_)
          rintro e u3 ⟨U, cu, V, cv, rfl, hL, hA, hb⟩
          have Lu3 := hide2 hL
          have Au3 := hide2 hA
          have Xu3 := hide2 (Xu2.out.keep hb)
          have Bu3 := hide2 (Bu2.out.trans (hb.mono Bu2.out.size))
          clear hL hA hb
          refine hKf.out _ _ ⟨(Y0.out.keep Bu3.out).two.1, (Y0.out.keep Bu3.out).two.2⟩ (fun hHeld => ?_)
          clear hKf
          iterate 3
            refine tkTake (v := ?_) rfl (by rfl) hHeld (fun w' hSw => ?_) ?_
            rotate_left
            · (go_simp; try with_reducible rfl)
            try simp only [Act.put, List.setIfInBounds_toArray, List.set_cons_zero, List.set_cons_succ]
          refine tkOne rfl (fun Kf hKf => ?_)
          obtain ⟨s0, s1⟩ := Xu3.out.two
          have sf0 := Xu3.out.frozen 0
          have sf1 := Xu3.out.frozen 1
          go_simp
          have BE := hide2 (below_set2 Bu3.out (Nat.le_refl _) Nu2.out (.slice U s.marks.length cu) (.slice V s.arcs.length cv))
          refine hKf.out _ _ ⟨(Y0.out.keep BE.out).two.1, (Y0.out.keep BE.out).two.2⟩ (fun hHeld => ?_)
          clear hKf
          try simp only [Act.put, List.setIfInBounds_toArray, List.set_cons_zero, List.set_cons_succ]
          exact EN.out _ _ ⟨C, kc, U, cu, V, cv, u1.heap.size, rfl, hide2 (Xu3.out.set2 _ _), hide2 (Lists.besideZ Lu3.out ML.out Xu3.out _ _), hide2 (Arcs.besideZ Au3.out Xu3.out _ _), BE⟩ hHeld
      · go_simp
        have Bu1 := hide2 (show Below u0.heap.size u0 (u0.alloc (.cells #[.slice none 0 0, .slice none 0 0] 107)) from BU0.out.alloc BU0.out.size _)
        have Xu1 := hide2 (show Box (u0.alloc (.cells #[.slice none 0 0, .slice none 0 0] 107)) u0.heap.size 107 #[.slice none 0 0, .slice none 0 0] from Box.new _ _ _)
        have Nu1 := hide2 (show u0.heap.size ≤ u0.heap.size from BU0.out.size)
        refine hKf.out _ _ ⟨(Y0.out.keep Bu1.out).two.1, (Y0.out.keep Bu1.out).two.2⟩ (fun hHeld => ?_)
        clear hKf
        try simp only [Act.put, List.setIfInBounds_toArray, List.set_cons_zero, List.set_cons_succ]
        generalize u0.alloc (.cells #[.slice none 0 0, .slice none 0 0] 107) = u1 at *
        refine tkOne rfl (fun Kf hKf => ?_)
        go_simp; go_at_call 16
        (with_reducible refine (refStart_calls u1 P i A n c).mono ?_)
        rw [HPN.out]
        rintro e u2 ⟨C, kc, rfl, hi, hb, _⟩
        have Iu2 := hide2 hi
        have Xu2 := hide2 (Xu1.out.keep hb)
        have Bu2 := hide2 (Bu1.out.trans (hb.mono Bu1.out.size))
        clear hi hb
        refine hKf.out _ _ ⟨(Y0.out.keep Bu2.out).two.1, (Y0.out.keep Bu2.out).two.2⟩ (fun hHeld => ?_)
        clear hKf
        try simp only [Act.put, List.setIfInBounds_toArray, List.set_cons_zero, List.set_cons_succ]
        refine tkOne rfl (fun Kf hKf => ?_)
        go_simp; go_at_call 66
        (with_reducible refine (CG.out u2 _ _ Bu2.out Iu2.out).mono ?_)
        rintro e u3 ⟨U, cu, V, cv, rfl, hL, hA, hb⟩
        have Lu3 := hide2 hL
        have Au3 := hide2 hA
        have Xu3 := hide2 (Xu2.out.keep hb)
        have Bu3 := hide2 (Bu2.out.trans (hb.mono Bu2.out.size))
        clear hL hA hb
        refine hKf.out _ _ ⟨(Y0.out.keep Bu3.out).two.1, (Y0.out.keep Bu3.out).two.2⟩ (fun hHeld => ?_)
        clear hKf
        iterate 3
          refine tkTake (v := ?_) rfl (by rfl) hHeld (fun w' hSw => ?_) ?_
          rotate_left
          · (go_simp; try with_reducible rfl)
          try simp only [Act.put, List.setIfInBounds_toArray, List.set_cons_zero, List.set_cons_succ]
        refine tkOne rfl (fun Kf hKf => ?_)
        obtain ⟨s0, s1⟩ := Xu3.out.two
        have sf0 := Xu3.out.frozen 0
        have sf1 := Xu3.out.frozen 1
        go_simp
        have BE := hide2 (below_set2 Bu3.out (Nat.le_refl _) Nu1.out (.slice U s.marks.length cu) (.slice V s.arcs.length cv))
        refine hKf.out _ _ ⟨(Y0.out.keep BE.out).two.1, (Y0.out.keep BE.out).two.2⟩ (fun hHeld => ?_)
        clear hKf
        try simp only [Act.put, List.setIfInBounds_toArray, List.set_cons_zero, List.set_cons_succ]
        exact EN.out _ _ ⟨C, kc, U, cu, V, cv, u0.heap.size, rfl, hide2 (Xu3.out.set2 _ _), hide2 (Lists.besideZ Lu3.out ML.out Xu3.out _ _), hide2 (Arcs.besideZ Au3.out Xu3.out _ _), BE⟩ hHeld
    rintro a' w4 ⟨C, kc, U, cu, V, cv, b11, rfl, SX, SL, SA, SB⟩ hHeld
    try simp only [Act.put, List.setIfInBounds_toArray, List.set_cons_zero, List.set_cons_succ]
    refine tkEnd rfl (fun Kf hKf => ?_)
    go_simp
    refine hKf.out _ _ ?_
    clear hKf
    try simp only [Act.put, List.setIfInBounds_toArray, List.set_cons_zero, List.set_cons_succ]
    refine tkDone ?_
    clear hHeld a0 a1
    have Z0 := hide2 (Y0.out.keep SB.out)
    have Z1 := hide2 (Y1.out.keep SB.out)
    have H4 := hide2 (H1.out.keep SB.out)
    have B4 := hide2 (BZ.out.trans (SB.out.mono BZ.out.size))
    have HN := hide2 (show ts.length = n from H4.out.len)
    clear Y0 Y1 H1 BZ SB CG BU0
    obtain ⟨z0, z1, z2⟩ := Z1.out.three
    have f0 := Z1.out.frozen 0
    have f1 := Z1.out.frozen 1
    have f2 := Z1.out.frozen 2
    by_cases hk : k = 0
    · subst hk
      obtain ⟨hmost, hsp⟩ := SPK.out rfl
      have SP := hide2 hsp
      have hms : s.marks.length ≤ 300 := by have := hsp.few; omega
      have RE := hide2 (JY1.out s rfl)
      have harcs : s.arcs.length ≤ 7200 := ARC.out rfl
      clear hsp SPK NIL JE1 JY1 hmost ARC
      obtain ⟨a0, a1⟩ := Z0.out.two
      go_upto_region 8 with (go_at_call 16; go_loud ((with_reducible refine (refStart_calls w4 P o A n c).mono ?_); rw [HPN.out]; rintro e w6 ⟨CE, kE, rfl, hi, hb, _⟩; have IE6 := hide2 hi; have D6 := hide2 hb; clear hi hb))
      have X6 := hide2 (SX.out.keep D6.out)
      have L6 := hide2 (Sl.keep ListR.kept SL.out D6.out)
      have A6 := hide2 (Sl.keep ArcR.kept SA.out D6.out)
      have Y0 := hide2 (Z0.out.keep D6.out)
      have Y1 := hide2 (Z1.out.keep D6.out)
      have B6 := hide2 (B4.out.trans (D6.out.mono B4.out.size))
      clear SX SL SA Z0 Z1 B4 D6 CW H4 z0 z1 z2 f0 f1 f2 a0 a1
      generalize oneL pn o = E at *
      obtain ⟨DL, hDL⟩ : ∃ DL, deadL s.arcs (min (ts.length : Int) 24).toNat = DL := ⟨_, rfl⟩
      rw [hDL] at RE
      rw [HN.out] at hDL
      have HDL := hide2 hDL
      obtain ⟨L1, hL1⟩ : ∃ L1, s.marks.length = L1 := ⟨_, rfl⟩
      have HL1 := hide2 hL1
      rw [hL1] at L6 X6 hms
      have c0 : w6.cell? ⟨b11, 0, none⟩ = some (.slice U L1 cu) := X6.out.cell 0
      clear hL1 hDL
      go_wp2
      go_loopw [14, 49] (fun tv jv wr => ∃ j : Nat, j ≤ L1 ∧ jv = .int .i64 j ∧ tv = .int .i64 (toV (findL (s.marks.take j) E)) ∧ Hid (Below w6.heap.size w6 wr) ∧ Hid (∀ i, i < j → ∀ y, s.marks[i]? = some y → extraB E y = false)) (fun _ jv _ => L1 - (intOf jv).toNat)
      case atStart => exact ⟨0, Nat.zero_le _, rfl, rfl, hide2 (Below.refl _ _), hide2 (fun i hi => absurd hi (by omega))⟩
      case round =>
        obtain ⟨j, hj, rfl, rfl, BI, LOW⟩ := hrel
        by_cases hlj : j < L1
        · have hji : (j : Int) < (L1 : Int) := by omega
          obtain ⟨b, off, x, A2, n2, c2, rfl, hb, hx, q0, i2, _⟩ := Lists.get (Sl.keep ListR.kept L6.out BI.out) hlj
          have NXT := hide2 (show extraB E x = false → ∀ i, i < j + 1 → ∀ y, s.marks[i]? = some y → extraB E y = false from fun hf i hi y hy => by
            by_cases hij : i = j
            · subst hij
              rw [hx.out] at hy
              injection hy with hy
              rw [← hy]; exact hf
            · exact LOW.out i (by omega) y hy)
          have hn2 := hide2 (show 2 ≤ n2 by have := ML.out x (List.mem_of_getElem? hx.out); rw [i2.len] at this; exact this)
          have F_ := hide2 (show extraB E x = true → s.marks.find? (extraB E) = some x from fun hf => find_some LOW.out hx.out hf)
          have TS := hide2 (toV_succ (x := E) SP.out.nodup hx.out)
          have I2 := hide2 i2
          have IEr := hide2 (Sl.keep IntR.kept IE6.out BI.out)
          clear hx i2
          cases heq : (x == E)
          · have HEQ := hide2 heq
            have TS2 := hide2 (show toV (findL (s.marks.take (j + 1)) E) = toV (findL (s.marks.take j) E) by rw [TS.out, Bool.beq_comm, heq]; rfl)
            cases hcv : coversB x E
            · have HCV := hide2 hcv
              have NX := hide2 (NXT.out (by unfold extraB; rw [hcv]; rfl))
              clear hcv heq
              go_wp2_with (first
                | (go_at_call 67; (with_reducible refine (refCovers_calls (Sl.keep IntR.kept I2.out BD.out) (Sl.keep IntR.kept IEr.out BD.out)).mono ?_); rw [HCV.out]; rintro e w9 ⟨rfl, dr⟩; have BE := hide2 dr.below; clear dr)
                | (go_at_call 14; (with_reducible refine (equalInts_calls I2.out IEr.out).mono ?_); rw [HEQ.out]; rintro e w8 ⟨rfl, dr⟩; have BD := hide2 dr.below; clear dr))
              go_roundw
              case rel => exact ⟨j + 1, by omega, by go_num, by rw [TS2.out], hide2 ((BI.out.trans (BD.out.mono BI.out.size)).trans (BE.out.mono (BI.out.trans (BD.out.mono BI.out.size)).size)), NX⟩
              case measure => simp [intOf]; omega
            · have HCV := hide2 hcv
              have FX := hide2 (F_.out (by unfold extraB; rw [hcv, heq]; rfl))
              clear hcv heq
              go_wp2_with (first
                | (go_at_call 67; (with_reducible refine (refCovers_calls (Sl.keep IntR.kept I2.out BD.out) (Sl.keep IntR.kept IEr.out BD.out)).mono ?_); rw [HCV.out]; rintro e w9 ⟨rfl, dr⟩; have BE := hide2 (BD.out.trans (dr.below.mono BD.out.size)); have Z8 := hide2 (Y1.out.keep (BI.out.trans (BE.out.mono BI.out.size))); clear dr; obtain ⟨z0, z1, z2⟩ := Z8.out.three; have f0 := Z8.out.frozen 0; have f1 := Z8.out.frozen 1; have f2 := Z8.out.frozen 2)
                | (go_at_call 14; (with_reducible refine (equalInts_calls I2.out IEr.out).mono ?_); rw [HEQ.out]; rintro e w8 ⟨rfl, dr⟩; have BD := hide2 dr.below; clear dr))
              obtain ⟨r0, r1, r2⟩ := (Z8.out.set3 (.int .i64 2) (.slice A2 n2 c2) (.int .i64 0)).three
              have BW := below_set3 (B6.out.trans ((BI.out.trans (BE.out.mono BI.out.size)).mono B6.out.size)) (show w.heap.size ≤ w.heap.size + 1 by omega) (.int .i64 2) (.slice A2 n2 c2) (.int .i64 0)
              exact bodyPost_ret (v := .tuple #[.agg #[.int .i64 2, .slice A2 n2 c2, .int .i64 0], .int .i64 0]) (by simp [results, Try.results22, go_sem, r0, r1, r2]) rfl (by rw [RE.out, judgeS_extra FX.out]; exact ⟨A2, n2, c2, rfl, Ints.setV (Sl.keep IntR.kept I2.out BE.out) hn2.out Z8.out _ _ _, BW⟩)
          · have HEQ := hide2 heq
            have TS2 := hide2 (show toV (findL (s.marks.take (j + 1)) E) = (j : Int) by rw [TS.out, Bool.beq_comm, heq]; rfl)
            have NX := hide2 (NXT.out (by unfold extraB; rw [heq]; simp))
            clear heq
            go_wp2_with (go_at_call 14; (with_reducible refine (equalInts_calls I2.out IEr.out).mono ?_); rw [HEQ.out]; rintro e w8 ⟨rfl, dr⟩; have BD := hide2 dr.below; clear dr)
            go_roundw
            case rel => exact ⟨j + 1, by omega, by go_num, by rw [TS2.out], hide2 (BI.out.trans (BD.out.mono BI.out.size)), NX⟩
            case measure => simp [intOf]; omega
        · obtain rfl : j = L1 := by omega
          have NF := hide2 (find_none (p := extraB E) (ms := s.marks) (fun i hi => LOW.out i (by rw [HL1.out] at hi; exact hi)))
          have IN := hide2 (show (∀ a ∈ s.arcs, Inn j a.from_) ∧ (∀ a ∈ s.arcs, Inn j a.to_) from ⟨fun a ha => by have := (SP.out.ends a ha).1; rw [HL1.out] at this; exact this, fun a ha => by have := (SP.out.ends a ha).2.2; rw [HL1.out] at this; exact this⟩)
          have hfull : s.marks.take j = s.marks := List.take_of_length_le (by rw [HL1.out]; exact Nat.le_refl _)
          rw [hfull]
          have CR := hide2 (refReach_calls (Sl.keep ListR.kept L6.out BI.out) (Sl.keep ArcR.kept A6.out BI.out) (by omega) IN.out.1 IN.out.2)
          have ONA := hide2 (fun (k : Nat) (hk : k < j) => onL_at (E := E) SP.out.nodup (show k < s.marks.length by rw [HL1.out]; exact hk))
          have ONL := hide2 (show (onL s E).length = j by unfold onL; simp [spreadL]; exact HL1.out)
          have IC := hide2 (show ∀ k, k < j → (matL s.arcs j)[k]? = some (matRow s.arcs j k) from fun k hk => matL_row hk)
          have ICL := hide2 (show (matL s.arcs j).length = j by simp [matL])
          generalize matL s.arcs j = MM at *
          obtain ⟨fa, hfa⟩ : ∃ fa, findL s.marks E = fa := ⟨_, rfl⟩
          have HFA := hide2 (show ∀ a, fa = some a → a < j from fun a ha => by have := findL_lt (hfa.trans ha); rw [HL1.out] at this; exact this)
          simp only [hfa] at ONA
          rw [hfa]
          obtain ⟨tv, htv⟩ : ∃ tv, toV fa = tv := ⟨_, rfl⟩
          have HTV := hide2 htv
          rw [htv]
          have h300 : j ≤ 300 := hms
          clear hfull c0 hfa htv
          obtain ⟨c0, c1⟩ := (X6.out.keep BI.out).two
          obtain ⟨wo, hwo⟩ : ∃ wo : World, wo = wr := ⟨_, rfl⟩
          subst hwo
          go_wp2_with (go_at_call 68; (with_reducible refine CR.out.mono ?_); rintro e w7 ⟨g7, rfl, mo, hb7⟩; have MO := hide2 mo; have B7 := hide2 (BI.out.trans (hb7.mono BI.out.size)); clear mo hb7 c0 c1; obtain ⟨c0, c1⟩ := (X6.out.keep B7.out).two)
          clear c0 c1
          go_loopw [69] (fun kv wr => ∃ k : Nat, k ≤ j ∧ kv = .int .i64 k ∧ wr = w7 ∧ Hid (∀ i, i < k → (onL s E)[i]? = some true)) (fun kv _ => j - (intOf kv).toNat)
          case atStart => exact ⟨0, Nat.zero_le _, rfl, rfl, hide2 (fun i hi => absurd hi (by omega))⟩
          case round =>
            obtain ⟨k, hk, rfl, rfl, ALL⟩ := hrel
            by_cases hkj : k < j
            · have hkji : (k : Int) < (j : Int) := by omega
              obtain ⟨b, off, x, A2, n2, c2, rfl, hb, hx, q0, i2, _⟩ := Lists.get (Sl.keep ListR.kept L6.out B7.out) hkj
              have hn2 := hide2 (show 2 ≤ n2 by have := ML.out x (List.mem_of_getElem? hx.out); rw [i2.len] at this; exact this)
              have I2 := hide2 i2
              have STK := hide2 (show (onL s E)[k]? = some false → judgeS s E DL = (3, x, 0) from fun hf => judgeS_stuck NF.out (findIdx_some ALL.out hf) hx.out)
              have OA := hide2 (ONA.out k hkj)
              obtain ⟨b2, r2, hr2, m0, ob2⟩ := MO.out.get (k := k) (by rw [ICL.out]; exact hkj)
              clear hx i2
              cases fa with
              | none =>
                have ht0 : tv = -1 := HTV.out.symm
                subst ht0
                have Z8 := hide2 (Y1.out.keep B7.out)
                have JS := hide2 (STK.out OA.out)
                obtain ⟨z0, z1, z2⟩ := Z8.out.three
                have f0 := Z8.out.frozen 0
                have f1 := Z8.out.frozen 1
                have f2 := Z8.out.frozen 2
                clear m0 ob2 hr2
                go_wp2
                obtain ⟨r0, r1, r2⟩ := (Z8.out.set3 (.int .i64 3) (.slice A2 n2 c2) (.int .i64 0)).three
                have BW := below_set3 (B6.out.trans (B7.out.mono B6.out.size)) (show w.heap.size ≤ w.heap.size + 1 by omega) (.int .i64 3) (.slice A2 n2 c2) (.int .i64 0)
                exact bodyPost_ret (v := .tuple #[.agg #[.int .i64 3, .slice A2 n2 c2, .int .i64 0], .int .i64 0]) (by simp [results, Try.results22, go_sem, r0, r1, r2]) rfl (by rw [RE.out, JS.out]; exact ⟨A2, n2, c2, rfl, Ints.setV I2.out hn2.out Z8.out _ _ _, BW⟩)
              | some a =>
                have ha := HFA.out a rfl
                have hai : (a : Int) < (j : Int) := by omega
                obtain rfl : tv = (a : Int) := HTV.out.symm
                have hrr : r2[a]? = (onL s E)[k]? := by
                  rw [IC.out k hkj] at hr2
                  injection hr2 with hr2
                  rw [← hr2, matRow_get ha, OA.out]
                obtain ⟨v, hv⟩ : ∃ v, (onL s E)[k]? = some v := ⟨_, List.getElem?_eq_getElem (by rw [ONL.out]; exact hkj)⟩
                rw [hv] at hrr
                have m1 := ob2.at hrr
                have HV := hide2 hv
                clear hr2 hrr hv ob2
                cases v with
                | false =>
                  have Z8 := hide2 (Y1.out.keep B7.out)
                  have JS := hide2 (STK.out HV.out)
                  obtain ⟨z0, z1, z2⟩ := Z8.out.three
                  have f0 := Z8.out.frozen 0
                  have f1 := Z8.out.frozen 1
                  have f2 := Z8.out.frozen 2
                  go_wp2
                  obtain ⟨r0, r1, r2⟩ := (Z8.out.set3 (.int .i64 3) (.slice A2 n2 c2) (.int .i64 0)).three
                  have BW := below_set3 (B6.out.trans (B7.out.mono B6.out.size)) (show w.heap.size ≤ w.heap.size + 1 by omega) (.int .i64 3) (.slice A2 n2 c2) (.int .i64 0)
                  exact bodyPost_ret (v := .tuple #[.agg #[.int .i64 3, .slice A2 n2 c2, .int .i64 0], .int .i64 0]) (by simp [results, Try.results22, go_sem, r0, r1, r2]) rfl (by rw [RE.out, JS.out]; exact ⟨A2, n2, c2, rfl, Ints.setV I2.out hn2.out Z8.out _ _ _, BW⟩)
                | true =>
                  have NXA := hide2 (show ∀ i, i < k + 1 → (onL s E)[i]? = some true from fun i hi => by
                    by_cases hik : i = k
                    · subst hik; exact HV.out
                    · exact ALL.out i (by omega))
                  go_wp2
                  go_roundw
                  case rel => exact ⟨k + 1, by omega, by go_num, by first | rfl | trivial, NXA⟩
                  case measure => simp [intOf]; omega
            · obtain rfl : k = j := by omega
              have HIX2 := hide2 (findIdx_none (bs := onL s E) (fun i hi => ALL.out i (by rw [ONL.out] at hi; exact hi)))
              have CD := hide2 (show Calls _ _ _ _ (AnsIF DL.length DL wr) by rw [← HDL.out]; exact refDead_calls (n : Int) (Sl.keep ListR.kept L6.out B7.out) (Sl.keep ArcR.kept A6.out B7.out))
              obtain ⟨c0, c1⟩ := (X6.out.keep B7.out).two
              obtain ⟨a0, a1⟩ := (Y0.out.keep B7.out).two
              cases DL with
              | nil =>
                have JS := hide2 (judgeS_sound NF.out HIX2.out)
                go_wp2_with (go_at_call 69; (with_reducible refine CD.out.mono ?_); rintro e w8 ⟨CC, kk, rfl, ii, hb8, _⟩; have B8 := hide2 (B7.out.trans (hb8.mono B7.out.size)); clear ii hb8)
                go_loopw [95] (fun jv wr => jv = .int .i64 0 ∧ wr = w8) (fun _ _ => 0)
                case atStart => exact ⟨rfl, rfl⟩
                case round =>
                  obtain ⟨rfl, rfl⟩ := hrel
                  have Z8 := hide2 (Y1.out.keep B8.out)
                  obtain ⟨z0, z1, z2⟩ := Z8.out.three
                  have f0 := Z8.out.frozen 0
                  have f1 := Z8.out.frozen 1
                  have f2 := Z8.out.frozen 2
                  go_wp2
                  obtain ⟨r0, r1, r2⟩ := (Z8.out.set3 (.int .i64 1) (.slice none 0 0) (.int .i64 0)).three
                  have BW := below_set3 (B6.out.trans (B8.out.mono B6.out.size)) (show w.heap.size ≤ w.heap.size + 1 by omega) (.int .i64 1) (.slice none 0 0) (.int .i64 0)
                  exact bodyPost_ret (v := .tuple #[.agg #[.int .i64 1, .slice none 0 0, .int .i64 0], .int .i64 0]) (by simp [results, Try.results22, go_sem, r0, r1, r2]) rfl (by rw [RE.out, JS.out]; exact ⟨none, 0, 0, rfl, Sl.nil0, BW⟩)
              | cons t DT =>
                have JS := hide2 (judgeS_dead (d := DT) (t := t) NF.out HIX2.out)
                have hdl : (0 : Int) < ((t :: DT).length : Int) := by simp
                go_wp2_with (go_at_call 69; (with_reducible refine CD.out.mono ?_); rintro e w8 ⟨CC, kk, rfl, ii, hb8, _⟩; have B8 := hide2 (B7.out.trans (hb8.mono B7.out.size)); obtain ⟨b9, off9, y9, rfl, _, hy9, q9⟩ := Ints.get ii (show 0 < (t :: DT).length by simp); obtain rfl : t = y9 := (by have := hy9.out; simpa using this); clear ii hb8 hy9; (simp only [Nat.add_zero] at q9))
                go_loopw [95] (fun jv wr => jv = .int .i64 0 ∧ wr = w8) (fun _ _ => 0)
                case atStart => exact ⟨rfl, rfl⟩
                case round =>
                  obtain ⟨rfl, rfl⟩ := hrel
                  have Z8 := hide2 (Y1.out.keep B8.out)
                  obtain ⟨z0, z1, z2⟩ := Z8.out.three
                  have f0 := Z8.out.frozen 0
                  have f1 := Z8.out.frozen 1
                  have f2 := Z8.out.frozen 2
                  go_wp2
                  obtain ⟨r0, r1, r2⟩ := (Z8.out.set3 (.int .i64 4) (.slice none 0 0) (.int .i64 t)).three
                  have BW := below_set3 (B6.out.trans (B8.out.mono B6.out.size)) (show w.heap.size ≤ w.heap.size + 1 by omega) (.int .i64 4) (.slice none 0 0) (.int .i64 t)
                  exact bodyPost_ret (v := .tuple #[.agg #[.int .i64 4, .slice none 0 0, .int .i64 t], .int .i64 0]) (by simp [results, Try.results22, go_sem, r0, r1, r2]) rfl (by rw [RE.out, JS.out]; exact ⟨none, 0, 0, rfl, Sl.nil0, BW⟩)
    · have RE := hide2 (JE1.out hk)
      go_wp2
      obtain ⟨r0, r1, r2⟩ := (Z1.out.set3 (.int .i64 0) (.slice none 0 0) (.int .i64 0)).three
      have BW := below_set3 B4.out (show w.heap.size ≤ w.heap.size + 1 by omega) (.int .i64 0) (.slice none 0 0) (.int .i64 0)
      exact bodyPost_ret (v := .tuple #[.agg #[.int .i64 0, .slice none 0 0, .int .i64 0], .int .i64 k]) (by simp [results, Try.results22, go_sem, r0, r1, r2]) rfl (by rw [RE.out]; exact ⟨none, 0, 0, rfl, Sl.nil0, BW⟩)
  · have JF := hide2 (JW.out hs0)
    have f0 := X1.out.frozen 0
    have f1 := X1.out.frozen 1
    have f2 := X1.out.frozen 2
    go_wp2_with (go_at_call 18; (with_reducible refine CW.out.mono ?_); rintro e w1 ⟨rfl, hb1⟩; have B1 := hide2 hb1; clear hb1 a0 a1 z0 z1 z2 f0 f1 f2; obtain ⟨z0, z1, z2⟩ := (X1.out.keep B1.out).three; have f0 := (X1.out.keep B1.out).frozen 0; have f1 := (X1.out.keep B1.out).frozen 1; have f2 := (X1.out.keep B1.out).frozen 2)
    obtain ⟨r0, r1, r2⟩ := ((X1.out.keep B1.out).set3 (.int .i64 0) (.slice none 0 0) (.int .i64 0)).three
    have BW := below_set3 (HB.out.trans (B1.out.mono HB.out.size)) (show w.heap.size ≤ w.heap.size + 1 by omega) (.int .i64 0) (.slice none 0 0) (.int .i64 0)
    exact bodyPost_ret (v := .tuple #[.agg #[.int .i64 0, .slice none 0 0, .int .i64 0], .int .i64 sw]) (by simp [results, Try.results22, go_sem, r0, r1, r2]) rfl (by rw [JF.out]; exact ⟨none, 0, 0, rfl, Sl.nil0, BW⟩)
end Go.Proofs.Ytnfppolgaeibeaa
namespace Go.Proofs.Ytnfppolgaeibeaa
open Go.RowKit

set_option maxRecDepth 100000 in
theorem sameVerdict_same {w : World} (p : PVer) {A B : Option Addr} {n c m d : Nat} (h : Ints w A n c p.2.1) (g : Ints w B m d p.2.1) :
    Calls Try.prog 23 #[.agg #[.int .i64 p.1, .slice A n c, .int .i64 p.2.2], .agg #[.int .i64 p.1, .slice B m d, .int .i64 p.2.2]] w fun e w' => e = .returned (.bool true) ∧ Below w.heap.size w w' := by
  obtain ⟨x, l, y⟩ := p
  simp only at h g
  generalize hw : ((w.alloc (.cells #[.int .i64 x, .slice A n c, .int .i64 y] 45)).alloc (.cells #[.int .i64 x, .slice B m d, .int .i64 y] 45)) = w0
  have HB := hide2 (show Below w.heap.size w w0 by rw [← hw]; exact ((Below.refl _ _).alloc (Nat.le_refl _) _).alloc (by simp) _)
  have X0 := hide2 (show Box w0 w.heap.size 45 #[.int .i64 x, .slice A n c, .int .i64 y] by rw [← hw]; exact (Box.new _ _ _).old _)
  have X1 := hide2 (show Box w0 (w.heap.size + 1) 45 #[.int .i64 x, .slice B m d, .int .i64 y] by rw [← hw]; exact Box.newAt (by simp) _ _)
  have CE := hide2 (equalInts_calls (h.keep HB.out) (g.keep HB.out))
  clear h g
  go_enter Try.func23, Try.ntmps23
  go_upto_region 1 with fail
  clear hw
  obtain ⟨a0, a1, a2⟩ := X0.out.three
  obtain ⟨z0, z1, z2⟩ := X1.out.three
  go_wp2_with (go_at_call 14; (with_reducible refine CE.out.mono ?_); rintro e w8 ⟨rfl, dr⟩; rw [beq_self_eq_true]; have B8 := hide2 dr.below; clear dr)
  go_ret
  exact ⟨by first | rfl | simp, HB.out.trans (B8.out.mono HB.out.size)⟩

set_option maxRecDepth 100000 in
set_option maxHeartbeats 4000000 in
theorem soundJudges_walk {w : World} (P : Int) {A : Option Addr} {n c : Nat} {ts : List PTran} (h : Trans w A n c ts) (hn : n ≤ 2513169434916) (i : Int) (_ : (Lit.int .i64 i).wf = true) (o : Int) (_ : (Lit.int .i64 o).wf = true) (most : Int) (_ : (Lit.int .i64 most).wf = true) :
    Calls Try.prog 6 #[.agg #[.int .i64 P, .slice A n c], .int .i64 i, .int .i64 o, .int .i64 most] w fun e w' => e = .returned (.bool true) ∧ Below w.heap.size w w' := by
  have HB := hide2 (boxBelow w (.cells #[.int .i64 P, .slice A n c] 27))
  have X0 := hide2 (Box.new w #[.int .i64 P, .slice A n c] 27)
  have C1 := hide2 (fun (w' : World) (hb : Below w.heap.size w w') => judge_calls (P := P) i o most (h.keep hb) hn)
  have C2 := hide2 (fun (w' : World) (hb : Below w.heap.size w w') => refJudge_calls (P := P) i o most (h.keep hb) hn)
  clear h
  obtain ⟨r, hr⟩ : ∃ r, judgeL ⟨P, ts⟩ i o most = r := ⟨_, rfl⟩
  simp only [hr] at C1 C2
  clear hr
  obtain ⟨⟨x, l, y⟩, k⟩ := r
  go_enter Try.func6, Try.ntmps6
  go_upto_region 1 with fail
  generalize w.alloc (.cells #[.int .i64 P, .slice A n c] 27) = w0 at *
  obtain ⟨c0, c1⟩ := X0.out.two
  go_upto_region 2 with (go_at_call 21; go_loud ((with_reducible refine (C1.out _ HB.out).mono ?_); rintro e w1 ⟨U, nu, cu, rfl, hU, hb⟩; have IU := hide2 hU; have B1 := hide2 hb; clear hU hb))
  generalize hw2 : w1.alloc (.cells #[.int .i64 x, .slice U nu cu, .int .i64 y] 45) = w2
  have hb2 : Below w1.heap.size w1 w2 := by rw [← hw2]; exact (Below.refl _ _).alloc (Nat.le_refl _) _
  have X1 := hide2 (show Box w2 w1.heap.size 45 #[.int .i64 x, .slice U nu cu, .int .i64 y] by rw [← hw2]; exact Box.new _ _ _)
  have D2 := hide2 (B1.out.trans (hb2.mono B1.out.size))
  have IU2 := hide2 (Sl.keep IntR.kept IU.out hb2)
  have Y0 := hide2 (X0.out.keep D2.out)
  have B2 := hide2 (HB.out.trans (D2.out.mono HB.out.size))
  clear hw2 hb2 IU B1 c0 c1 X0 HB D2
  generalize w1.heap.size = b1 at *
  obtain ⟨c0, c1⟩ := Y0.out.two
  go_upto_region 3 with (go_at_call 22; go_loud ((with_reducible refine (C2.out _ B2.out).mono ?_); rintro e w3 ⟨V, nv, cv, rfl, hV, hb⟩; have IV := hide2 hV; have B3 := hide2 hb; clear hV hb))
  generalize hw4 : w3.alloc (.cells #[.int .i64 x, .slice V nv cv, .int .i64 y] 45) = w4
  have hb4 : Below w3.heap.size w3 w4 := by rw [← hw4]; exact (Below.refl _ _).alloc (Nat.le_refl _) _
  have X3 := hide2 (show Box w4 w3.heap.size 45 #[.int .i64 x, .slice V nv cv, .int .i64 y] by rw [← hw4]; exact Box.new _ _ _)
  have D4 := hide2 (B3.out.trans (hb4.mono B3.out.size))
  have IV4 := hide2 (Sl.keep IntR.kept IV.out hb4)
  have IU4 := hide2 (Sl.keep IntR.kept IU2.out D4.out)
  have Y1 := hide2 (X1.out.keep D4.out)
  have B4 := hide2 (B2.out.trans (D4.out.mono B2.out.size))
  have CS := hide2 (sameVerdict_same (x, l, y) IU4.out IV4.out)
  clear hw4 hb4 IV B3 c0 c1 Y0 B2 D4 IU2 X1 C1 C2
  generalize w3.heap.size = b3 at *
  obtain ⟨c0, c1, c2⟩ := Y1.out.three
  obtain ⟨d0, d1, d2⟩ := X3.out.three
  go_wp2_with (go_at_call 23; (with_reducible refine CS.out.mono ?_); rintro e w7 ⟨rfl, hb7⟩; have B7 := hide2 hb7; clear hb7)
  go_ret
  exact ⟨by first | rfl | simp, B4.out.trans (B7.out.mono B4.out.size)⟩
end Go.Proofs.Ytnfppolgaeibeaa
