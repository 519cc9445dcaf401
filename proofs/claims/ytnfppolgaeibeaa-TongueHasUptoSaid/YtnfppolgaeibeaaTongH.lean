/- The contract of lspace. Conditions: the net reads as a list. | A table of bools in memory, and the contract of llead. Conditions: the net, the space and the word read as lists; arcs are between marks. -/
import Derived.Test.YtnfppolgaeibeaaTongF
import Derived.Test.YtnfppolgaeibeaaReachH
namespace Go.Proofs.Ytnfppolgaeibeaa
open Go.RowKit

def AnsLSpace (N : PNet) (o : Int) (r : PSp × Int) (w : World) (e : Ending) (w' : World) : Prop :=
  ∃ U cu V cv, e = .returned (.tuple #[.agg #[.slice U r.1.marks.length cu, .slice V r.1.arcs.length cv], .int .i64 (toV (findL r.1.marks (endL N o))), .int .i64 r.2]) ∧ Lists w' U r.1.marks.length cu r.1.marks ∧ Arcs w' V r.1.arcs.length cv r.1.arcs ∧ Below w.heap.size w w'
theorem toV_nil (x : List Int) : toV (findL [] x) = -1 := rfl

set_option maxRecDepth 100000 in
set_option maxHeartbeats 8000000 in
theorem lspace_calls {w : World} {P : Int} {A : Option Addr} {n c : Nat} {ts : List PTran} (i o : Int) (h : Trans w A n c ts) (hn : n ≤ 2513169434916) :
    Calls Try.prog 74 #[.agg #[.int .i64 P, .slice A n c], .int .i64 i, .int .i64 o] w (AnsLSpace ⟨P, ts⟩ o (tongS ⟨P, ts⟩ i o) w) := by
  generalize hw : ((w.alloc (.cells #[.int .i64 P, .slice A n c] 27)).alloc (.cells #[.slice none 0 0, .slice none 0 0] 107)) = w0
  have HB := hide2 (show Below w.heap.size w w0 by rw [← hw]; exact ((Below.refl _ _).alloc (Nat.le_refl _) _).alloc (by simp) _)
  have X0 := hide2 (show Box w0 w.heap.size 27 #[.int .i64 P, .slice A n c] by rw [← hw]; exact (Box.new _ _ _).old _)
  have X1 := hide2 (show Box w0 (w.heap.size + 1) 107 #[.slice none 0 0, .slice none 0 0] by rw [← hw]; exact Box.newAt (by simp) _ _)
  have H := hide2 (h.keep HB.out)
  have CW := hide2 (refShapeWrong_calls (P := P) i o H.out hn)
  have TW := hide2 (tongS_wrong (N := ⟨P, ts⟩) (i := i) (o := o))
  have TG := hide2 (tongS_graph (N := ⟨P, ts⟩) (i := i) (o := o))
  have S2 := hide2 (fun hs => shapeL_two (N := ⟨P, ts⟩) (i := i) (o := o) hs)
  have TL := hide2 (show ts.length = n from h.len)
  clear h
  obtain ⟨R, hR⟩ : ∃ R, tongS ⟨P, ts⟩ i o = R := ⟨_, rfl⟩
  rw [hR] at TW TG
  rw [hR]
  clear hR
  obtain ⟨sw, hsw⟩ : ∃ sw, shapeL ⟨P, ts⟩ i o = sw := ⟨_, rfl⟩
  rw [hsw] at TW TG CW S2
  clear hsw
  go_enter Try.func74, Try.ntmps74
  go_upto_region 1 with fail
  clear hw
  obtain ⟨a0, a1⟩ := X0.out.two
  by_cases hs0 : sw = 0
  · subst hs0
    obtain ⟨p2, hok⟩ := S2.out rfl
    go_upto_region 4 with (go_at_call 18; go_loud ((with_reducible refine CW.out.mono ?_); rintro e w1 ⟨rfl, hb1⟩; have B1 := hide2 hb1; clear hb1))
    have Y0 := hide2 (X0.out.keep B1.out).drew
    have Y1 := hide2 (X1.out.keep B1.out).drew
    have BZ := hide2 (HB.out.trans (B1.out.mono HB.out.size)).drew
    have H1 := hide2 (keepTrans (H.out.keep B1.out))
    obtain ⟨pn, hpn⟩ : ∃ pn, (min P 16).toNat = pn := ⟨_, rfl⟩
    have HPN := hide2 hpn
    obtain ⟨g, hg⟩ : ∃ g, graphL ⟨P, ts⟩ (oneL pn i) 300 = g := ⟨_, rfl⟩
    have hp16 : P ≤ 16 := ((netOk_iff _).1 hok).2.1
    have hpn2 : 2 ≤ pn := by omega
    have TR := hide2 (show R = g by have := TG.out (by trivial); simp only [hpn, hg] at this; exact this)
    have EL := hide2 (show endL ⟨P, ts⟩ o = oneL pn o by unfold endL; rw [hpn])
    have NIL := hide2 (fun (he : g.2 ≠ 0) => show g.1 = PSp.nil by rw [← hg]; exact graphL_err (by rw [hg]; exact he))
    have SPK := hide2 (fun (he : g.2 = 0) => show SpOk ⟨P, ts⟩ (300 : Int).toNat g.1 by rw [← hg]; exact (graphL_most (by rw [hg]; exact he)).2)
    have CG := hide2 (fun (w' : World) (C : Option Addr) (kc : Nat) (hb : Below w1.drew.heap.size w1.drew w') (hi : Ints w' C pn kc (oneL pn i)) => show Calls _ _ _ _ (AnsSpace g w') by rw [← hg]; exact refGraph_calls (P := P) 300 (H1.out.keep hb) hi)
    have BU0 := hide2 (Below.refl w1.drew.heap.size w1.drew)
    have ML := hide2 (show ∀ x ∈ g.1.marks, 2 ≤ x.length from fun x hx => by
      by_cases he : g.2 = 0
      · have := ((fitsB_iff _ _).1 ((SPK.out he).fits x hx)).2.1
        simp only at this
        omega
      · rw [NIL.out he] at hx; cases hx)
    have ND := hide2 (show g.1.marks.Nodup by
      by_cases he : g.2 = 0
      · exact (SPK.out he).nodup
      · rw [NIL.out he]; exact List.nodup_nil)
    have SML := hide2 (show g.1.marks.length ≤ 300 by
      by_cases he : g.2 = 0
      · exact (SPK.out he).few
      · rw [NIL.out he]; exact Nat.zero_le _)
    clear hg hpn TW TG S2 X0 X1 HB H B1 a0 a1 NIL SPK
    obtain ⟨s, k⟩ := g
    simp only at ML ND SML
    obtain rfl : R = (s, k) := TR.out
    clear TR
    obtain ⟨a0, a1⟩ := Y0.out.two
    refine wp_region_scr 10 (.takes [0, 1, 2] (.two 3 (.two 4 (.takes [5, 6, 7] (.one 8 (.one 9 (.fin 10 .done)))) 8 (.one 4 (.takes [5, 6, 7] (.one 9 (.fin 10 .done))))) 8 (.one 3 (.one 4 (.takes [5, 6, 7] (.one 9 (.fin 10 .done))))))) (fun w' => w'.cell? ⟨w.heap.size, 0, none⟩ = some (.int .i64 P) ∧ w'.cell? ⟨w.heap.size, 1, none⟩ = some (.slice A n c)) (by kernel_rfl) (by kernel_rfl) (by kernel_rfl) (fun _ _ _ _ _ h => h) ⟨a0, a1⟩ (fun hHeld => ?_)
    simp only [Scr.takes]
    generalize w1.drew = u0 at *
    iterate 3
      refine tkTake (v := ?_) rfl (by rfl) hHeld (fun w' hSw => ?_) ?_
      rotate_left
      · (go_simp; try with_reducible rfl)
      try simp only [Act.put, List.setIfInBounds_toArray, List.set_cons_zero, List.set_cons_succ]
    refine scrEnd (.fin 10 .done) (fun a0 a' w' => ∃ (C : Option Addr) (kc : Nat) (U : Option Addr) (cu : Nat) (V : Option Addr) (cv b11 : Nat), a' = ((((((a0.put (some 27) (.slice C pn kc)).put (some 28) (.tuple #[.agg #[.slice U s.marks.length cu, .slice V s.arcs.length cv], .int .i64 k])).put (some 23) (.tuple #[.agg #[.slice U s.marks.length cu, .slice V s.arcs.length cv], .int .i64 k])).put (some 29) (.agg #[.slice U s.marks.length cu, .slice V s.arcs.length cv])).put (some 30) (.int .i64 k)).put (some 10) (.pointer (some ⟨b11, 0, none⟩))) ∧ Hid (Box w' b11 107 #[.slice U s.marks.length cu, .slice V s.arcs.length cv]) ∧ Hid (Lists w' U s.marks.length cu s.marks) ∧ Hid (Arcs w' V s.arcs.length cv s.arcs) ∧ Hid (Below u0.heap.size u0 w')) ?_ (fun EN => ?_)
    rotate_left
    · refine tkTwo rfl rfl (fun Kf hKf => ?_) (fun Kf hKf => ?_)
      · go_simp; go_at_call 16
        (with_reducible refine (refStart_calls u0 P i A n c).mono ?_)
        rw [HPN.out]
        rintro e u1 ⟨C, kc, rfl, hi, hb, _⟩
        have Iu1 := hide2 hi
        have Bu1 := hide2 (BU0.out.trans (hb.mono BU0.out.size))
        clear hi hb
        refine hKf.out _ _ ⟨(Y0.out.keep Bu1.out).two.1, (Y0.out.keep Bu1.out).two.2⟩ (fun hHeld => ?_)
        clear hKf
        try simp only [Act.put, List.setIfInBounds_toArray, List.set_cons_zero, List.set_cons_succ]
        refine tkTwo rfl rfl (fun Kf hKf => ?_) (fun Kf hKf => ?_)
        · go_simp; go_at_call 66
          (with_reducible refine (CG.out u1 _ _ Bu1.out Iu1.out).mono ?_)
          rintro e u2 ⟨U, cu, V, cv, rfl, hL, hA, hb⟩
          have Lu2 := hide2 hL
          have Au2 := hide2 hA
          have Bu2 := hide2 (Bu1.out.trans (hb.mono Bu1.out.size))
          clear hL hA hb
          refine hKf.out _ _ ⟨(Y0.out.keep Bu2.out).two.1, (Y0.out.keep Bu2.out).two.2⟩ (fun hHeld => ?_)
          clear hKf
          iterate 3
            refine tkTake (v := ?_) rfl (by rfl) hHeld (fun w' hSw => ?_) ?_
            rotate_left
            · (go_simp; try with_reducible rfl)
            try simp only [Act.put, List.setIfInBounds_toArray, List.set_cons_zero, List.set_cons_succ]
          refine tkOne rfl (fun Kf hKf => ?_)
          go_simp
          have Bu3 := hide2 (show Below u0.heap.size u0 (u2.alloc (.cells #[.slice none 0 0, .slice none 0 0] 107)) from Bu2.out.alloc Bu2.out.size _)
          have Xu3 := hide2 (show Box (u2.alloc (.cells #[.slice none 0 0, .slice none 0 0] 107)) u2.heap.size 107 #[.slice none 0 0, .slice none 0 0] from Box.new _ _ _)
          have Nu3 := hide2 (show u0.heap.size ≤ u2.heap.size from Bu2.out.size)
          have Lu3 := hide2 (Sl.keep ListR.kept Lu2.out ((Below.refl u2.heap.size u2).alloc (Nat.le_refl _) (.cells #[.slice none 0 0, .slice none 0 0] 107)))
          have Au3 := hide2 (Sl.keep ArcR.kept Au2.out ((Below.refl u2.heap.size u2).alloc (Nat.le_refl _) (.cells #[.slice none 0 0, .slice none 0 0] 107)))
          refine hKf.out _ _ ⟨(Y0.out.keep Bu3.out).two.1, (Y0.out.keep Bu3.out).two.2⟩ (fun hHeld => ?_)
          clear hKf
          try simp only [Act.put, List.setIfInBounds_toArray, List.set_cons_zero, List.set_cons_succ]
          generalize u2.alloc (.cells #[.slice none 0 0, .slice none 0 0] 107) = u3 at *
          refine tkOne rfl (fun Kf hKf => ?_)
          obtain ⟨s0, s1⟩ := Xu3.out.two
          have sf0 := Xu3.out.frozen 0
          have sf1 := Xu3.out.frozen 1
          go_simp
          have BE := hide2 (below_set2 Bu3.out (Nat.le_refl _) Nu3.out (.slice U s.marks.length cu) (.slice V s.arcs.length cv))
          refine hKf.out _ _ ⟨(Y0.out.keep BE.out).two.1, (Y0.out.keep BE.out).two.2⟩ (fun hHeld => ?_)
          clear hKf
          try simp only [Act.put, List.setIfInBounds_toArray, List.set_cons_zero, List.set_cons_succ]
          exact EN.out _ _ ⟨C, kc, U, cu, V, cv, u2.heap.size, rfl, hide2 (Xu3.out.set2 _ _), hide2 (Lists.besideZ Lu3.out ML.out Xu3.out _ _), hide2 (Arcs.besideZ Au3.out Xu3.out _ _), BE⟩ hHeld
        · go_simp
          have Bu2 := hide2 (show Below u0.heap.size u0 (u1.alloc (.cells #[.slice none 0 0, .slice none 0 0] 107)) from Bu1.out.alloc Bu1.out.size _)
          have Xu2 := hide2 (show Box (u1.alloc (.cells #[.slice none 0 0, .slice none 0 0] 107)) u1.heap.size 107 #[.slice none 0 0, .slice none 0 0] from Box.new _ _ _)
          have Nu2 := hide2 (show u0.heap.size ≤ u1.heap.size from Bu1.out.size)
          have Iu2 := hide2 (Sl.keep IntR.kept Iu1.out ((Below.refl u1.heap.size u1).alloc (Nat.le_refl _) (.cells #[.slice none 0 0, .slice none 0 0] 107)))
          refine hKf.out _ _ ⟨(Y0.out.keep Bu2.out).two.1, (Y0.out.keep Bu2.out).two.2⟩ (fun hHeld => ?_)
          clear hKf
          try simp only [Act.put, List.setIfInBounds_toArray, List.set_cons_zero, List.set_cons_succ]
          generalize u1.alloc (.cells #[.slice none 0 0, .slice none 0 0] 107) = u2 at *
          refine tkOne rfl (fun Kf hKf => ?_)
          go_simp; go_at_call 66
          (with_reducible refine (CG.out u2 _ _ Bu2.out Iu2.out).mono ?_)
          rintro e u3 ⟨U, cu, V, cv, rfl, hL, hA, hb⟩
          have Lu3 := hide2 hL
          have Au3 := hide2 hA
          have Xu3 := hide2 (Xu2.out.keep hb)
          have Bu3 := hide2 (Bu2.out.trans (hb.mono Bu2.out.size))
          clear hL hA hb
          refine hKf.out _ _ ⟨(Y0.out.keep Bu3.out).two.1, (Y0.out.keep Bu3.out).two.2⟩ (fun hHeld => ?_)
          clear hKf
          iterate 3
            refine tkTake (v := ?_) rfl (by rfl) hHeld (fun w' hSw => ?_) ?_
            rotate_left
            · (go_simp; try with_reducible rfl)
            try simp only [Act.put, List.setIfInBounds_toArray, List.set_cons_zero, List.set_cons_succ]
          refine tkOne rfl (fun Kf hKf => ?_)
          obtain ⟨s0, s1⟩ := Xu3.out.two
          have sf0 := Xu3.out.frozen 0
          have sf1 := Xu3.out.frozen 1
          go_simp
          have BE := hide2 (below_set2 Bu3.out (Nat.le_refl _) Nu2.out (.slice U s.marks.length cu) (.slice V s.arcs.length cv))
          refine hKf.out _ _ ⟨(Y0.out.keep BE.out).two.1, (Y0.out.keep BE.out).two.2⟩ (fun hHeld => ?_)
          clear hKf
          try simp only [Act.put, List.setIfInBounds_toArray, List.set_cons_zero, List.set_cons_succ]
          exact EN.out _ _ ⟨C, kc, U, cu, V, cv, u1.heap.size, rfl, hide2 (Xu3.out.set2 _ _), hide2 (Lists.besideZ Lu3.out ML.out Xu3.out _ _), hide2 (Arcs.besideZ Au3.out Xu3.out _ _), BE⟩ hHeld
      · go_simp
        have Bu1 := hide2 (show Below u0.heap.size u0 (u0.alloc (.cells #[.slice none 0 0, .slice none 0 0] 107)) from BU0.out.alloc BU0.out.size _)
        have Xu1 := hide2 (show Box (u0.alloc (.cells #[.slice none 0 0, .slice none 0 0] 107)) u0.heap.size 107 #[.slice none 0 0, .slice none 0 0] from Box.new _ _ _)
        have Nu1 := hide2 (show u0.heap.size ≤ u0.heap.size from BU0.out.size)
        refine hKf.out _ _ ⟨(Y0.out.keep Bu1.out).two.1, (Y0.out.keep Bu1.out).two.2⟩ (fun hHeld => ?_)
        clear hKf
        try simp only [Act.put, List.setIfInBounds_toArray, List.set_cons_zero, List.set_cons_succ]
        generalize u0.alloc (.cells #[.slice none 0 0, .slice none 0 0] 107) = u1 at *
        refine tkOne rfl (fun Kf hKf => ?_)
        go_simp; go_at_call 16
        (with_reducible refine (refStart_calls u1 P i A n c).mono ?_)
        rw [HPN.out]
        rintro e u2 ⟨C, kc, rfl, hi, hb, _⟩
        have Iu2 := hide2 hi
        have Xu2 := hide2 (Xu1.out.keep hb)
        have Bu2 := hide2 (Bu1.out.trans (hb.mono Bu1.out.size))
        clear hi hb
        refine hKf.out _ _ ⟨(Y0.out.keep Bu2.out).two.1, (Y0.out.keep Bu2.out).two.2⟩ (fun hHeld => ?_)
        clear hKf
        try simp only [Act.put, List.setIfInBounds_toArray, List.set_cons_zero, List.set_cons_succ]
        refine tkOne rfl (fun Kf hKf => ?_)
        go_simp; go_at_call 66
        (with_reducible refine (CG.out u2 _ _ Bu2.out Iu2.out).mono ?_)
        rintro e u3 ⟨U, cu, V, cv, rfl, hL, hA, hb⟩
        have Lu3 := hide2 hL
        have Au3 := hide2 hA
        have Xu3 := hide2 (Xu2.out.keep hb)
        have Bu3 := hide2 (Bu2.out.trans (hb.mono Bu2.out.size))
        clear hL hA hb
        refine hKf.out _ _ ⟨(Y0.out.keep Bu3.out).two.1, (Y0.out.keep Bu3.out).two.2⟩ (fun hHeld => ?_)
        clear hKf
        iterate 3
          refine tkTake (v := ?_) rfl (by rfl) hHeld (fun w' hSw => ?_) ?_
          rotate_left
          · (go_simp; try with_reducible rfl)
          try simp only [Act.put, List.setIfInBounds_toArray, List.set_cons_zero, List.set_cons_succ]
        refine tkOne rfl (fun Kf hKf => ?_)
        obtain ⟨s0, s1⟩ := Xu3.out.two
        have sf0 := Xu3.out.frozen 0
        have sf1 := Xu3.out.frozen 1
        go_simp
        have BE := hide2 (below_set2 Bu3.out (Nat.le_refl _) Nu1.out (.slice U s.marks.length cu) (.slice V s.arcs.length cv))
        refine hKf.out _ _ ⟨(Y0.out.keep BE.out).two.1, (Y0.out.keep BE.out).two.2⟩ (fun hHeld => ?_)
        clear hKf
        try simp only [Act.put, List.setIfInBounds_toArray, List.set_cons_zero, List.set_cons_succ]
        exact EN.out _ _ ⟨C, kc, U, cu, V, cv, u0.heap.size, rfl, hide2 (Xu3.out.set2 _ _), hide2 (Lists.besideZ Lu3.out ML.out Xu3.out _ _), hide2 (Arcs.besideZ Au3.out Xu3.out _ _), BE⟩ hHeld
    rintro a' w4 ⟨C, kc, U, cu, V, cv, b11, rfl, SX, SL, SA, SB⟩ hHeld
    try simp only [Act.put, List.setIfInBounds_toArray, List.set_cons_zero, List.set_cons_succ]
    refine tkEnd rfl (fun Kf hKf => ?_)
    go_simp
    refine hKf.out _ _ ?_
    clear hKf
    try simp only [Act.put, List.setIfInBounds_toArray, List.set_cons_zero, List.set_cons_succ]
    refine tkDone ?_
    clear hHeld a0 a1
    have Z0 := hide2 (Y0.out.keep SB.out)
    have Z1 := hide2 (Y1.out.keep SB.out)
    have B4 := hide2 (BZ.out.trans (SB.out.mono BZ.out.size))
    have HLT := hide2 (show w.heap.size + 1 < w4.heap.size from Z1.out.lt)
    clear Y0 Y1 H1 BZ SB CG BU0 CW
    obtain ⟨LN, hml⟩ : ∃ LN, s.marks.length = LN := ⟨_, rfl⟩
    obtain ⟨AL, hal⟩ : ∃ AL, s.arcs.length = AL := ⟨_, rfl⟩
    have HML := hide2 hml
    have HAL := hide2 hal
    have hLN : LN ≤ 300 := by rw [← hml]; exact SML.out
    rw [hml] at SL SX
    rw [hal] at SA SX
    clear hml hal
    obtain ⟨x0, x1⟩ := SX.out.two
    rw [HML.out, HAL.out]
    obtain ⟨wo, hwo⟩ : ∃ wo : World, wo = w4 := ⟨_, rfl⟩
    subst hwo
    go_wp2
    clear x0 x1
    go_loopw [12, 34] (fun tv v wr => ∃ q : Nat, q ≤ LN ∧ v = .int .i64 q ∧ tv = .int .i64 (toV (findL (s.marks.take q) (endL ⟨P, ts⟩ o))) ∧ Hid (Below wo.heap.size wo wr)) (fun _ v _ => LN - (intOf v).toNat)
    case atStart => exact ⟨0, Nat.zero_le _, rfl, rfl, hide2 (Below.refl _ _)⟩
    case round =>
      obtain ⟨q, hq, rfl, rfl, BI⟩ := hrel
      by_cases hlt : q < LN
      · have hki : (q : Int) < (LN : Int) := by omega
        obtain ⟨bm, offm, x, Ax, nx, cx, rfl, hbm, hx, qm, ix, hnx⟩ := Lists.get (Sl.keep ListR.kept SL.out BI.out) hlt
        have TS := hide2 (toV_succ (x := endL ⟨P, ts⟩ o) ND.out hx.out)
        have IX := hide2 ix
        obtain ⟨z0, z1⟩ := (Z0.out.keep BI.out).two
        obtain ⟨r, hr⟩ : ∃ r, (x == endL ⟨P, ts⟩ o) = r := ⟨_, rfl⟩
        have HR := hide2 (show (endL ⟨P, ts⟩ o == x) = r by rw [← hr]; exact Bool.beq_comm)
        have CQ := hide2 (fun (w' : World) (C : Option Addr) (kc : Nat) (hb : Below wr.heap.size wr w') (hi : Ints w' C pn kc (oneL pn o)) => show Calls Try.prog 14 #[.slice Ax nx cx, .slice C pn kc] w' (fun e w'' => e = .returned (.bool r) ∧ Drew w' w'') by rw [← hr, EL.out]; exact equalInts_calls (Ints.keep IX.out hb) hi)
        rw [HR.out] at TS
        clear hx ix hr
        cases r
        · go_wp2_with (first
            | (go_at_call 16; (with_reducible refine (refStart_calls wr P o A n c).mono ?_); rw [HPN.out]; rintro e w5 ⟨C, kc, rfl, hi, hb, _⟩; have I5 := hide2 hi; have B5 := hide2 hb; clear hi hb)
            | (go_at_call 14; (with_reducible refine (CQ.out _ _ _ B5.out I5.out).mono ?_); rintro e w6 ⟨rfl, dr⟩; have B6 := hide2 dr.below; clear dr))
          go_roundw
          case rel => exact ⟨q + 1, by omega, by go_num, by rw [TS.out]; rfl, hide2 ((BI.out.trans (B5.out.mono BI.out.size)).trans (B6.out.mono (BI.out.trans (B5.out.mono BI.out.size)).size))⟩
          case measure => simp [intOf]; omega
        · go_wp2_with (first
            | (go_at_call 16; (with_reducible refine (refStart_calls wr P o A n c).mono ?_); rw [HPN.out]; rintro e w5 ⟨C, kc, rfl, hi, hb, _⟩; have I5 := hide2 hi; have B5 := hide2 hb; clear hi hb)
            | (go_at_call 14; (with_reducible refine (CQ.out _ _ _ B5.out I5.out).mono ?_); rintro e w6 ⟨rfl, dr⟩; have B6 := hide2 dr.below; clear dr))
          go_roundw
          case rel => exact ⟨q + 1, by omega, by go_num, by rw [TS.out]; rfl, hide2 ((BI.out.trans (B5.out.mono BI.out.size)).trans (B6.out.mono (BI.out.trans (B5.out.mono BI.out.size)).size))⟩
          case measure => simp [intOf]; omega
      · obtain rfl : q = LN := by omega
        have FN := hide2 (show s.marks.take q = s.marks from List.take_of_length_le (Nat.le_of_eq HML.out))
        obtain ⟨x0, x1⟩ := (SX.out.keep BI.out).two
        have Y1 := hide2 (Z1.out.keep BI.out)
        obtain ⟨y0, y1⟩ := Y1.out.two
        have f0 := Y1.out.frozen 0
        have f1 := Y1.out.frozen 1
        have LZ := hide2 (Lists.besideZ (Sl.keep ListR.kept SL.out BI.out) ML.out Y1.out (.slice U q cu) (.slice V AL cv))
        have AZ := hide2 (Arcs.besideZ (Sl.keep ArcR.kept SA.out BI.out) Y1.out (.slice U q cu) (.slice V AL cv))
        have BE := hide2 (below_set2 (B4.out.trans (BI.out.mono B4.out.size)) (Nat.le_refl _) (show w.heap.size ≤ w.heap.size + 1 by omega) (.slice U q cu) (.slice V AL cv))
        obtain ⟨tv, htv⟩ : ∃ tv, toV (findL (s.marks.take q) (endL ⟨P, ts⟩ o)) = tv := ⟨_, rfl⟩
        have HTV := hide2 (show toV (findL s.marks (endL ⟨P, ts⟩ o)) = tv by rw [← FN.out]; exact htv)
        rw [htv]
        clear htv
        go_wp2
        obtain ⟨r0, r1⟩ := (Y1.out.set2 (.slice U q cu) (.slice V AL cv)).two
        exact bodyPost_ret (v := .tuple #[.agg #[.slice U q cu, .slice V AL cv], .int .i64 tv, .int .i64 k]) (by simp [results, Try.results74, go_sem, r0, r1]) rfl ⟨U, cu, V, cv, by rw [HML.out, HAL.out, HTV.out], by rw [HML.out]; exact LZ.out, by rw [HAL.out]; exact AZ.out, BE.out⟩
  · have RW := hide2 (TW.out hs0)
    go_upto_region 2 with (go_at_call 18; go_loud ((with_reducible refine CW.out.mono ?_); rintro e w1 ⟨rfl, hb1⟩; have B1 := hide2 hb1; clear hb1))
    have Y1 := hide2 (X1.out.keep B1.out)
    have BZ := hide2 (HB.out.trans (B1.out.mono HB.out.size))
    clear X0 X1 HB CW a0 a1
    obtain ⟨z0, z1⟩ := Y1.out.two
    have f0 := Y1.out.frozen 0
    have f1 := Y1.out.frozen 1
    go_wp2
    obtain ⟨r0, r1⟩ := (Y1.out.set2 (.slice none 0 0) (.slice none 0 0)).two
    have BW := below_set2 BZ.out (Nat.le_refl _) (show w.heap.size ≤ w.heap.size + 1 by omega) (.slice none 0 0) (.slice none 0 0)
    rw [RW.out]
    exact bodyPost_ret (v := .tuple #[.agg #[.slice none 0 0, .slice none 0 0], .int .i64 (-1), .int .i64 sw]) (by simp [results, Try.results74, go_sem, r0, r1]) rfl ⟨none, 0, none, 0, rfl, Sl.nil0, Sl.nil0, BW⟩
end Go.Proofs.Ytnfppolgaeibeaa
namespace Go.Proofs.Ytnfppolgaeibeaa
open Go.RowKit

def MatK (w : World) (B g K n : Nat) (M : List (List Bool)) : Prop :=
  ∃ (cells : List Value) (bl : Nat → Nat), w.ownsRow B 96 1 (.slice (some ⟨g, 0, none⟩) K K) K cells ∧ M.length ≤ K ∧ (∀ (k : Nat) (x : List Bool), M[k]? = some x → cells[k]? = some (.slice (some ⟨bl k, 0, none⟩) n n) ∧ OwnBools w B (bl k) n x) ∧
    (∀ k l : Nat, k < M.length → l < M.length → k ≠ l → bl k ≠ bl l)
section
variable {w w1 : World} {B g K n : Nat} {M : List (List Bool)}
theorem MatK.made {cells : List Value} (h : w.ownsRow B 96 1 (.slice (some ⟨g, 0, none⟩) K K) K cells) : MatK w B g K n [] :=
  ⟨cells, fun _ => 0, h, Nat.zero_le _, fun k x hx => by simp at hx, fun k l hk => by simp at hk⟩
theorem MatK.keep (h : MatK w B g K n M) (hb : Below w.heap.size w w1) : MatK w1 B g K n M := by
  obtain ⟨cells, bl, h1, h2, h3, h4⟩ := h
  refine ⟨cells, bl, h1.kept (row := none) ⟨hb.os, hb.tape, hb.output, hb.size, fun k hk _ => hb.block k hk⟩ (.inr (by simp [Value.ownBlock])), h2, fun k x hx => ?_, h4⟩
  obtain ⟨a, b⟩ := h3 k x hx
  exact ⟨a, b.keep hb⟩
theorem MatK.base {B' : Nat} (h : MatK w B g K n M) (hB : B' ≤ B) : MatK w B' g K n M := by
  obtain ⟨cells, bl, h1, h2, h3, h4⟩ := h
  refine ⟨cells, bl, ⟨h1.1, ?_⟩, h2, fun k x hx => ?_, h4⟩
  · rcases h1.2 with e | ⟨g1, cap, cur, e1, e2, e3⟩
    · exact .inl e
    · exact .inr ⟨g1, cap, cur, e1, Nat.le_trans hB e2, e3⟩
  · obtain ⟨a, b⟩ := h3 k x hx
    exact ⟨a, b.base hB⟩
theorem MatK.lt (h : MatK w B g K n M) : B ≤ g ∧ g < w.heap.size := by
  obtain ⟨cells, bl, h1, _⟩ := h
  exact h1.lt g rfl
theorem MatK.frozen (h : MatK w B g K n M) (k : Nat) : w.frozen? ⟨g, k, none⟩ = false := by
  obtain ⟨cells, bl, h1, _⟩ := h
  exact h1.frozenAt k
theorem MatK.cellAny (h : MatK w B g K n M) {k : Nat} (hk : k < K) : ∃ v, w.cell? ⟨g, k, none⟩ = some v := by
  obtain ⟨cells, bl, h1, _⟩ := h
  refine ⟨_, (h1.cellAt k (by omega)).trans (List.getElem?_eq_getElem (by have := h1.1; omega))⟩
theorem MatK.get (h : MatK w B g K n M) {k : Nat} (hk : k < M.length) : ∃ b x, M[k]? = some x ∧ w.cell? ⟨g, k, none⟩ = some (.slice (some ⟨b, 0, none⟩) n n) ∧ OwnBools w B b n x := by
  obtain ⟨cells, bl, h1, h2, h3, _⟩ := h
  have hx : M[k]? = some (M[k]'hk) := List.getElem?_eq_getElem _
  obtain ⟨a, b⟩ := h3 k _ hx
  exact ⟨_, _, hx, by rw [h1.cellAt k (by omega)]; exact a, b⟩
/-- One row more. -/
theorem MatK.push (h : MatK w B g K n M) (hb : Below w.heap.size w w1) {b : Nat} {r : List Bool} (own : OwnBools w1 B b n r) (hnew : w.heap.size ≤ b) (hn : M.length < K) :
    MatK (w1.setCell ⟨g, M.length, none⟩ (.slice (some ⟨b, 0, none⟩) n n)) B g K n (M ++ [r]) := by
  obtain ⟨cells, bl, h1, h2, h3, h4⟩ := h
  have r1 := h1.kept (row := none) (w' := w1) ⟨hb.os, hb.tape, hb.output, hb.size, fun k hk _ => hb.block k hk⟩ (.inr (by simp [Value.ownBlock]))
  have hcl := h1.1
  refine ⟨cells.set M.length (.slice (some ⟨b, 0, none⟩) n n), fun k => if k = M.length then b else bl k, (r1.stored M.length _).1, by rw [List.length_append]; exact hn, fun k x hx => ?_, fun k l hk hl hkl => ?_⟩
  · by_cases hk : k = M.length
    · subst hk
      rw [List.getElem?_append_right (Nat.le_refl _), Nat.sub_self] at hx
      simp only [List.getElem?_cons_zero, Option.some.injEq] at hx
      subst hx
      simp only [if_true]
      refine ⟨List.getElem?_set_self (by omega), ?_⟩
      exact ownsRow_setCell_other own (fun e => by simp only [Value.ownBlock, Option.some.injEq] at e; exact own.neRow r1 e) _
    · have hlt : k < M.length := by
        have := (List.getElem?_eq_some_iff.1 hx).1
        simp at this
        omega
      rw [List.getElem?_append_left hlt] at hx
      obtain ⟨a, c⟩ := h3 k x hx
      dsimp only
      rw [if_neg hk]
      refine ⟨by rw [List.getElem?_set_ne (fun e => hk e.symm)]; exact a, ?_⟩
      have c1 := c.keep hb
      exact ownsRow_setCell_other c1 (fun e => by simp only [Value.ownBlock, Option.some.injEq] at e; exact c1.neRow r1 e) _
  · have old : ∀ q, q < M.length → bl q ≠ b := fun q hq e => by
      have := (h3 q _ (List.getElem?_eq_getElem hq)).2.lt.2
      omega
    simp only [List.length_append, List.length_cons, List.length_nil] at hk hl
    dsimp only
    by_cases e1 : k = M.length
    · rw [if_pos e1, if_neg (by omega)]
      exact fun e => old l (by omega) e.symm
    · rw [if_neg e1]
      by_cases e2 : l = M.length
      · rw [if_pos e2]
        exact old k (by omega)
      · rw [if_neg e2]
        exact h4 k l (by omega) (by omega) hkl
/-- One bool of one row turned. -/
theorem MatK.put (h : MatK w B g K n M) {k j b : Nat} {r : List Bool} (hr : M[k]? = some r) (hc : w.cell? ⟨g, k, none⟩ = some (.slice (some ⟨b, 0, none⟩) n n)) : MatK (w.setCell ⟨b, j, none⟩ (.bool true)) B g K n (M.set k (r.set j true)) := by
  obtain ⟨cells, bl, h1, h2, h3, h4⟩ := h
  have hk : k < M.length := (List.getElem?_eq_some_iff.1 hr).1
  obtain ⟨a, c⟩ := h3 k r hr
  have hb : bl k = b := by
    rw [h1.cellAt k (by omega), a] at hc
    simpa using hc
  subst hb
  refine ⟨cells, bl, ownsRow_setCell_other h1 (fun e => by simp only [Value.ownBlock, Option.some.injEq] at e; exact c.neRow h1 e.symm) _, by rw [List.length_set]; exact h2, fun q x hx => ?_, fun q l hq hl => h4 q l (by simpa using hq) (by simpa using hl)⟩
  by_cases e : q = k
  · subst e
    rw [List.getElem?_set_self hk] at hx
    injection hx with hx
    subst hx
    exact ⟨a, c.put j true⟩
  · rw [List.getElem?_set_ne (fun e2 => e e2.symm)] at hx
    obtain ⟨a2, c2⟩ := h3 q x hx
    refine ⟨a2, ownsRow_setCell_other c2 (fun e2 => ?_) _⟩
    simp only [Value.ownBlock, Option.some.injEq] at e2
    exact h4 q k (List.getElem?_eq_some_iff.1 hx).1 hk e e2
theorem MatK.uniq {M' : List (List Bool)} (h : MatK w B g K n M) (h' : MatK w B g K n M') (l : M.length = K) (l' : M'.length = K) : M = M' := by
  apply List.ext_getElem (by omega)
  intro k h1 h2
  obtain ⟨b, x, hx, hc, ho⟩ := h.get h1
  obtain ⟨b', x', hx', hc', ho'⟩ := h'.get h2
  rw [hc] at hc'
  simp only [Option.some.injEq, Value.slice.injEq, Addr.mk.injEq, and_true] at hc'
  subst hc'
  have e1 : M[k] = x := by rw [List.getElem?_eq_getElem h1] at hx; injection hx
  have e2 : M'[k] = x' := by rw [List.getElem?_eq_getElem h2] at hx'; injection hx'
  rw [e1, e2]
  apply List.ext_getElem (by rw [ho.len, ho'.len])
  intro j h3 h4
  have a1 := ho.at (List.getElem?_eq_getElem h3)
  have a2 := ho'.at (List.getElem?_eq_getElem h4)
  rw [a1] at a2
  simpa using a2
end


open Classical in
noncomputable def matK (w : World) (B g K n : Nat) : Nat := if h : ∃ M, MatK w B g K n M ∧ M.length = K then cntF (Classical.choose h) else 0
theorem matK_eq {w : World} {B g K n : Nat} {M : List (List Bool)} (h : MatK w B g K n M) (l : M.length = K) : matK w B g K n = cntF M := by
  have hex : ∃ M, MatK w B g K n M ∧ M.length = K := ⟨M, h, l⟩
  unfold matK
  rw [dif_pos hex]
  obtain ⟨a, b⟩ := Classical.choose_spec hex
  rw [a.uniq h b l]

/-! ### a round, pair by pair -/
def leadTo (ars : List PArc) (lb : Int → Int) (wd : List Int) (M0 : List (List Bool)) (q : Nat) (a : PArc) (k : Nat) : List (List Bool) × Bool := (prs (ars.take q) (wd.length + 1) ++ (List.range k).map fun k => (a, k)).foldl (leadF lb wd) (M0, false)
section
variable {ars : List PArc} {lb : Int → Int} {wd : List Int} {M0 : List (List Bool)} {q : Nat} {a : PArc} {k : Nat}
theorem leadTo_zero : leadTo ars lb wd M0 q a 0 = (prs (ars.take q) (wd.length + 1)).foldl (leadF lb wd) (M0, false) := by simp [leadTo]
theorem leadTo_succ : leadTo ars lb wd M0 q a (k + 1) = leadF lb wd (leadTo ars lb wd M0 q a k) (a, k) := by
  unfold leadTo
  rw [List.range_succ, List.map_append, ← List.append_assoc, List.foldl_append]; rfl
theorem leadTo_full (h : ars[q]? = some a) : leadTo ars lb wd M0 q a (wd.length + 1) = (prs (ars.take (q + 1)) (wd.length + 1)).foldl (leadF lb wd) (M0, false) := by
  unfold leadTo prs
  rw [List.take_add_one, h, List.flatMap_append]
  simp
theorem prs_sub {K : Nat} : ∀ x ∈ prs (ars.take q) K, x ∈ prs ars K := fun x hx => by
  unfold prs at hx ⊢
  obtain ⟨b, hb, h2⟩ := List.mem_flatMap.1 hx
  exact List.mem_flatMap.2 ⟨b, List.mem_of_mem_take hb, h2⟩
theorem leadTo_sub (ha : a ∈ ars) (hk : k ≤ wd.length + 1) : ∀ x ∈ prs (ars.take q) (wd.length + 1) ++ (List.range k).map (fun k => (a, k)), x ∈ prs ars (wd.length + 1) := fun x hx => by
  rcases List.mem_append.1 hx with hx | hx
  · exact prs_sub x hx
  · obtain ⟨j, hj, rfl⟩ := List.mem_map.1 hx
    unfold prs
    exact List.mem_flatMap.2 ⟨a, ha, List.mem_map.2 ⟨j, by have := List.mem_range.1 hj; simp; omega, rfl⟩⟩
end
def falses (n k : Nat) : List (List Bool) := List.replicate k (List.replicate n false)
theorem falses_succ (n k : Nat) : falses n (k + 1) = falses n k ++ [List.replicate n false] := by simp [falses, List.replicate_succ']
def firstM (n k : Nat) : List (List Bool) := (falses n k).set 0 ((List.replicate n false).set 0 true)
theorem LeadI.start {ars : List PArc} {lb : Int → Int} {wd : List Int} {n : Nat} (hn : 0 < n) : LeadI ars lb wd n (firstM n (wd.length + 1)) := by
  have h0 : (falses n (wd.length + 1))[0]? = some (List.replicate n false) := by simp [falses]
  refine ⟨by simp [firstM, falses], fun k r hr => ?_, fun k m hk hm => ?_, ?_⟩
  · unfold firstM at hr
    rw [List.getElem?_set] at hr
    split at hr
    · split at hr
      · injection hr with hr; subst hr; simp
      · cases hr
    · have := List.mem_of_getElem? hr
      unfold falses at this
      rw [List.eq_of_mem_replicate this]; simp
  · rcases (at2_setS h0 (by simpa using hn) k m).1 hm with ⟨rfl, rfl⟩ | h
    · exact .start
    · exfalso
      unfold at2 falses at h
      cases e : (List.replicate (wd.length + 1) (List.replicate n false))[k]? with
      | none => rw [e] at h; simp at h
      | some r =>
        rw [e, Option.bind_some, List.eq_of_mem_replicate (List.mem_of_getElem? e)] at h
        have := List.eq_of_mem_replicate (List.mem_of_getElem? h)
        cases this
  · exact (at2_setS h0 (by simpa using hn) 0 0).2 (.inl ⟨rfl, rfl⟩)
/-- Where a round of llead stands. -/
def StL (B g K n : Nat) (w0 wr : World) (p : List (List Bool) × Bool) (b : Bool) : Prop := b = p.2 ∧ MatK wr B g K n p.1 ∧ Below B w0 wr
theorem StL.keep {B g K n : Nat} {w0 wr w' : World} {p : List (List Bool) × Bool} {b : Bool} (h : StL B g K n w0 wr p b) (hb : Below wr.heap.size wr w') : StL B g K n w0 w' p b := ⟨h.1, h.2.1.keep hb, h.2.2.trans (hb.mono (Nat.le_trans h.2.1.lt.1 (Nat.le_of_lt h.2.1.lt.2)))⟩
/-- The answer: a table that tells of each mark and each part of the word whether one can be there. -/
def AnsLead (ars : List PArc) (lb : Int → Int) (wd : List Int) (n : Nat) (w : World) (e : Ending) (w' : World) : Prop :=
  ∃ g M, e = .returned (.slice (some ⟨g, 0, none⟩) (wd.length + 1) (wd.length + 1)) ∧ MatK w' w.heap.size g (wd.length + 1) n M ∧ M.length = wd.length + 1 ∧ (∀ k m : Nat, k < wd.length + 1 → (at2 M k m = some true ↔ Told ars lb wd k (m : Int))) ∧ Below w.heap.size w w'
theorem infoListB : (Try.prog.info? 96).map (fun i => (i.zero, i.size, i.bytes)) = some (some (.slice none 0 0), 1, 24) := by kernel_rfl

set_option maxRecDepth 100000 in
set_option maxHeartbeats 16000000 in
theorem llead_calls {w : World} {P : Int} {A U V Q : Option Addr} {n0 c n cu m cv l q0 : Nat} {ts : List PTran} {ms : List (List Int)} {ars : List PArc} {wd : List Int} (h : Trans w A n0 c ts) (_ : Lists w U n cu ms) (hA : Arcs w V m cv ars) (g : Ints w Q l q0 wd)
    (hf : ∀ a ∈ ars, Inn n a.from_) (ht : ∀ a ∈ ars, Inn n a.to_) (hr : ∀ a ∈ ars, Inn n0 a.tran) (hlb : ∀ a ∈ ars, 0 ≤ atI (labL ⟨P, ts⟩) a.tran) (hn : 0 < n) (hn3 : n ≤ 300) (hm : m ≤ 7200) (hl : l ≤ 1048576) :
    Calls Try.prog 75 #[.agg #[.int .i64 P, .slice A n0 c], .agg #[.slice U n cu, .slice V m cv], .slice Q l q0] w (AnsLead ars (atI (labL ⟨P, ts⟩)) wd n w) := by
  generalize hw : ((w.alloc (.cells #[.int .i64 P, .slice A n0 c] 27)).alloc (.cells #[.slice U n cu, .slice V m cv] 107)) = w0
  have HB := hide2 (show Below w.heap.size w w0 by rw [← hw]; exact ((Below.refl _ _).alloc (Nat.le_refl _) _).alloc (by simp) _)
  have X0 := hide2 (show Box w0 w.heap.size 27 #[.int .i64 P, .slice A n0 c] by rw [← hw]; exact (Box.new _ _ _).old _)
  have X1 := hide2 (show Box w0 (w.heap.size + 1) 107 #[.slice U n cu, .slice V m cv] by rw [← hw]; exact Box.newAt (by simp) _ _)
  have H := hide2 (h.keep HB.out)
  have HA := hide2 (Sl.keep ArcR.kept hA HB.out)
  have G := hide2 (Ints.keep g HB.out)
  have GL := hide2 (show wd.length = l from g.len)
  have AL := hide2 (show ars.length = m from hA.len)
  have MONO := hide2 (LeadI.mono (w := wd) hf ht hlb)
  have FT := hide2 (show (∀ a ∈ ars, Inn n a.from_) ∧ (∀ a ∈ ars, Inn n a.to_) ∧ (∀ a ∈ ars, Inn n0 a.tran) ∧ (∀ a ∈ ars, 0 ≤ atI (labL ⟨P, ts⟩) a.tran) from ⟨hf, ht, hr, hlb⟩)
  clear h hA g hf ht hr hlb
  obtain ⟨K, hK⟩ : ∃ K, l + 1 = K := ⟨_, rfl⟩
  have hKi : ((l : Int) + 1) = (K : Int) := by omega
  have KL := hide2 (show wd.length + 1 = K by rw [GL.out]; exact hK)
  have hKb : K ≤ 1048577 := by omega
  have hK0 : 0 < K := by omega
  have hKl := hide2 hK
  go_enter Try.func75, Try.ntmps75
  go_upto_region 1 with fail
  clear hw hK
  obtain ⟨a0, a1⟩ := X0.out.two
  obtain ⟨s0, s1⟩ := X1.out.two
  go_upto_region 2 with (at_make; refine wpList_mk Try.underlying114 infoListB rfl rfl _ _ rfl K rfl rfl (by go_num) (by go_num) (by omega) (by omega) (Below.refl w0.heap.size w0) (Nat.le_refl _) ?_; intro w2 own2 hg2 hb2; have M2 := hide2 (MatK.made (n := n) own2); have B2 := hide2 hb2; clear own2 hg2 hb2)
  clear a0 a1 s0 s1
  go_wp2
  go_loopw [21] (fun v wr => ∃ k : Nat, k ≤ K ∧ v = .int .i64 k ∧ Hid (MatK wr w0.heap.size w0.heap.size K n (falses n k)) ∧ Hid (Below w0.heap.size w0 wr)) (fun v _ => K - (intOf v).toNat)
  case atStart => exact ⟨0, Nat.zero_le _, rfl, M2, B2⟩
  case round =>
    clear M2 B2
    obtain ⟨k, hk, rfl, MW, BR⟩ := hrel
    by_cases hlt : k < K
    · have hki : (k : Int) < (K : Int) := by omega
      obtain ⟨s0, s1⟩ := (X1.out.keep BR.out).two
      have mf := MW.out.frozen k
      obtain ⟨v0, mc⟩ := MW.out.cellAny hlt
      go_upto_region 6 with (at_make; refine wpList_mk Try.underlying96 infoBool rfl rfl _ _ rfl n rfl rfl rfl rfl (by omega) (by omega) (Below.refl wr.heap.size wr) (Nat.le_refl _) ?_; intro w3 own3 hg3 hb3; have OB0 : OwnBools w3 wr.heap.size wr.heap.size n (List.replicate n false) := (by unfold OwnBools; rw [List.map_replicate]; exact own3); have OB := hide2 (OB0.base BR.out.size); clear OB0; have B3 := hide2 hb3; have mf3 := (MW.out.keep hb3).frozen k; obtain ⟨v3, mc3⟩ := (MW.out.keep hb3).cellAny hlt; clear own3 hg3 hb3)
      have hfl : (falses n k).length = k := by simp [falses]
      have MP := MW.out.push B3.out OB.out (Nat.le_refl _) (by rw [hfl]; exact hlt)
      rw [hfl, ← falses_succ] at MP
      have MP2 := hide2 MP
      have B4 := hide2 (show Below w0.heap.size w0 (w3.setCell ⟨w0.heap.size, k, none⟩ (.slice (some ⟨wr.heap.size, 0, none⟩) n n)) from (BR.out.trans (B3.out.mono BR.out.size)).setCell (Nat.le_refl _) _)
      generalize w3.setCell ⟨w0.heap.size, k, none⟩ (.slice (some ⟨wr.heap.size, 0, none⟩) n n) = w4 at *
      clear MP mc mf mc3 mf3 s0 s1 MW BR OB B3
      go_wp2
      go_roundw
      case rel => exact ⟨k + 1, by omega, by go_num, MP2, B4⟩
      case measure => simp [intOf]; omega
    · obtain rfl : k = K := by omega
      obtain ⟨br, r, hr, hc, ho⟩ := MW.out.get (k := 0) (by simpa [falses] using hK0)
      obtain rfl : r = List.replicate n false := by
        have h0 : (falses n k)[0]? = some (List.replicate n false) := by simp [falses, hK0]
        rw [h0] at hr
        injection hr with hr
        exact hr.symm
      have hK0i : (0 : Int) < (k : Int) := by omega
      have hn0i : (0 : Int) < (n : Int) := by omega
      have x0 := ho.at (k := 0) (b := false) (by simp [hn])
      have f0 := ho.frozen 0
      have MF := hide2 (MW.out.put (j := 0) hr hc)
      have BF := hide2 (BR.out.setCell (p := ⟨br, 0, none⟩) ho.lt.1 (.bool true))
      go_upto_region 8 with fail
      have MF2 := hide2 (show MatK (wr.setCell ⟨br, 0, none⟩ (.bool true)) w0.heap.size w0.heap.size k n (firstM n k) from MF.out)
      generalize wr.setCell ⟨br, 0, none⟩ (.bool true) = w5 at *
      have LI := hide2 (show LeadI ars (atI (labL ⟨P, ts⟩)) wd n (firstM n k) by rw [← KL.out]; exact LeadI.start hn)
      clear MW BR x0 f0 hr hc ho MF
      obtain ⟨wq, hwq⟩ : ∃ wq : World, wq = w5 := ⟨_, rfl⟩
      go_wp2
      go_loopw [9] (fun u wr => ∃ (b : Bool) (M : List (List Bool)), u = .bool b ∧ Hid (MatK wr w0.heap.size w0.heap.size k n M) ∧ Hid (LeadI ars (atI (labL ⟨P, ts⟩)) wd n M) ∧ Hid (b = false → ∀ x ∈ prs ars (wd.length + 1), leadF (atI (labL ⟨P, ts⟩)) wd (M, false) x = (M, false)) ∧ Hid (Below w0.heap.size w0 wr)) (fun u wr => matK wr w0.heap.size w0.heap.size k n + boolOf u)
      case atStart => exact ⟨true, _, rfl, MF2, LI, hide2 (fun e => (by cases e)), BF⟩
      case round =>
        clear MF2 LI BF hwq
        obtain ⟨b, M, rfl, MX, MI, MC, BX⟩ := hrel
        cases b
        · have CLO := hide2 (MC.out rfl)
          go_wp2
          go_ret
          refine ⟨w0.heap.size, M, ?_, ?_, MI.out.len, fun k' m' hk' => MI.out.done CLO.out hk', HB.out.trans (BX.out.mono HB.out.size)⟩
          · rw [KL.out]; first | rfl | simp
          · rw [KL.out]; exact MX.out.base HB.out.size
        · obtain ⟨M0, hM0⟩ : ∃ M0, M0 = M := ⟨_, rfl⟩
          subst hM0
          have MFQ := hide2 (matK_eq MX.out (by rw [MI.out.len]; exact KL.out))
          obtain ⟨s0, s1⟩ := (X1.out.keep BX.out).two
          have ST0 := hide2 (show StL w0.heap.size w0.heap.size k n w0 wr ((prs (ars.take 0) (wd.length + 1)).foldl (leadF (atI (labL ⟨P, ts⟩)) wd) (M0, false)) false from ⟨rfl, MX.out, BX.out⟩)
          obtain ⟨wp, hwp⟩ : ∃ wp : World, wp = wr := ⟨_, rfl⟩
          subst hwp
          clear MX MC BX
          go_wp2
          clear s0 s1
          go_loopw [9, 40] (fun u v wr => ∃ q : Nat, q ≤ m ∧ v = .int .i64 q ∧ ∃ b : Bool, u = .bool b ∧ Hid (StL w0.heap.size w0.heap.size k n w0 wr ((prs (ars.take q) (wd.length + 1)).foldl (leadF (atI (labL ⟨P, ts⟩)) wd) (M0, false)) b)) (fun _ v _ => m - (intOf v).toNat)
          case atStart => exact ⟨0, Nat.zero_le _, rfl, false, rfl, ST0⟩
          case round =>
            clear ST0
            obtain ⟨q, hq, rfl, b, rfl, ST⟩ := hrel
            by_cases hlt : q < m
            · have hki : (q : Int) < (m : Int) := by omega
              obtain ⟨bl, off, a, rfl, hbl, ha, q0', q1, q2, _⟩ := Arcs.get (Sl.keep ArcR.kept HA.out ST.out.2.2) hlt
              have hmem := List.mem_of_getElem? ha.out
              obtain ⟨f, ef, hf⟩ := natOf (FT.out.1 a hmem)
              obtain ⟨t, et, ht⟩ := natOf (FT.out.2.1 a hmem)
              obtain ⟨r, er, hr⟩ := natOf (FT.out.2.2.1 a hmem)
              have L0 := hide2 (FT.out.2.2.2 a hmem)
              have HMEM := hide2 hmem
              rw [ef] at q0'
              rw [er] at q1
              rw [et] at q2
              have bb := boxBelow wr (.cells #[.int .i64 f, .int .i64 r, .int .i64 t] 130)
              have WA := hide2 (Box.new wr #[.int .i64 f, .int .i64 r, .int .i64 t] 130)
              have SB := hide2 (show StL w0.heap.size w0.heap.size k n w0 (wr.alloc (.cells #[.int .i64 f, .int .i64 r, .int .i64 t] 130)) (leadTo ars (atI (labL ⟨P, ts⟩)) wd M0 q a 0) b by rw [leadTo_zero]; exact ST.out.keep bb)
              have HBX := hide2 (show w0.heap.size ≤ wr.heap.size from ST.out.2.2.size)
              have EF := hide2 ef
              have ET := hide2 et
              have ER := hide2 er
              clear ST hmem ef et er
              go_upto_region 14 with fail
              clear bb q0' q1 q2
              generalize wr.alloc (.cells #[.int .i64 f, .int .i64 r, .int .i64 t] 130) = u0 at *
              generalize wr.heap.size = bx at *
              obtain ⟨t0, t1, t2⟩ := WA.out.three
              obtain ⟨a0, a1⟩ := (X0.out.keep SB.out.2.2).two
              obtain ⟨bt, offt, t', A1, n1, c1, A2, n2, c2, rfl, hbt, ht', q0', _, _, _, _, _, _⟩ := (H.out.keep SB.out.2.2).get hr
              have hrr : (r : Int) < (n0 : Int) := by omega
              obtain ⟨lab, hlab⟩ : ∃ x, t'.label = x := ⟨_, rfl⟩
              have LB := hide2 (show atI (labL ⟨P, ts⟩) a.tran = lab by unfold atI labL; rw [ER.out, Int.toNat_natCast, List.getD_eq_getElem?_getD, List.getElem?_map, ht'.out, ← hlab]; rfl)
              rw [hlab] at q0'
              have hl0 : 0 ≤ lab := by have := L0.out; rw [LB.out] at this; exact this
              clear hlab ht'
              go_wp2
              clear t0 t1 t2 a0 a1 q0'
              go_loopw [9, 53] (fun u v wr => ∃ j : Nat, j ≤ k ∧ v = .int .i64 j ∧ (∃ b : Bool, u = .bool b ∧ Hid (StL w0.heap.size w0.heap.size k n w0 wr (leadTo ars (atI (labL ⟨P, ts⟩)) wd M0 q a j) b)) ∧ Hid (Box wr bx 130 #[.int .i64 f, .int .i64 r, .int .i64 t])) (fun _ v _ => k - (intOf v).toNat)
              case atStart => exact ⟨0, Nat.zero_le _, rfl, ⟨b, rfl, SB⟩, WA⟩
              case round =>
                clear SB WA
                obtain ⟨j, hj, rfl, ⟨b, rfl, ST⟩, WB⟩ := hrel
                by_cases hlj : j < k
                · have hki : (j : Int) < (k : Int) := by omega
                  have NX := hide2 (leadTo_succ (ars := ars) (lb := atI (labL ⟨P, ts⟩)) (wd := wd) (M0 := M0) (q := q) (a := a) (k := j))
                  have LIN := hide2 (show LeadI ars (atI (labL ⟨P, ts⟩)) wd n (leadTo ars (atI (labL ⟨P, ts⟩)) wd M0 q a j).1 from (MONO.out.passTo _ (leadTo_sub HMEM.out (by rw [KL.out]; exact hj)) (M0, false) MI.out).inv)
                  obtain ⟨p, hp⟩ : ∃ p, leadTo ars (atI (labL ⟨P, ts⟩)) wd M0 q a j = p := ⟨_, rfl⟩
                  rw [hp] at NX ST LIN
                  clear hp
                  obtain ⟨M, b'⟩ := p
                  obtain ⟨e1, s1, s4⟩ := ST.out
                  simp only at e1 s1 s4
                  subst e1
                  have hML := hide2 (show M.length = k by have := LIN.out.len; simp only at this; rw [this]; exact KL.out)
                  obtain ⟨br, r1, hr1, hc, ho⟩ := s1.get (k := j) (by rw [hML.out]; exact hlj)
                  have hlr := ho.len
                  have hff : (f : Int) < (n : Int) := by omega
                  have htt : (t : Int) < (n : Int) := by omega
                  obtain ⟨v1, hv1⟩ : ∃ v, r1[f]? = some v := ⟨_, List.getElem?_eq_getElem (by omega)⟩
                  have x1 := ho.at hv1
                  have A1v := hide2 (show at2 M j f = some v1 by unfold at2; rw [hr1]; exact hv1)
                  obtain ⟨t0, t1, t2⟩ := WB.out.three
                  have KEEP := hide2 (fun (nq : Nat) => show Hid (StL w0.heap.size w0.heap.size k n w0 (wr.drewN nq) (M, b) b) ∧ Hid (Box (wr.drewN nq) bx 130 #[.int .i64 f, .int .i64 r, .int .i64 t]) from by
                    have DB := (Drew.drewN wr nq).below
                    exact ⟨hide2 (StL.keep ⟨rfl, s1, s4⟩ DB), hide2 (WB.out.keep DB)⟩)
                  have SAME := hide2 (show ¬ (v1 = true ∧ toK (atI (labL ⟨P, ts⟩)) a j < wd.length + 1 ∧ (lab = 0 ∨ wd[j]? = some lab) ∧ ¬ at2 M (toK (atI (labL ⟨P, ts⟩)) a j) t = some true) → leadTo ars (atI (labL ⟨P, ts⟩)) wd M0 q a (j + 1) = (M, b) from fun hno => by
                    rw [NX.out, leadF, if_neg]
                    rintro ⟨h1, h2, h3, h4⟩
                    simp only at h1 h2 h3 h4
                    rw [EF.out, Int.toNat_natCast, A1v.out] at h1
                    rw [ET.out, Int.toNat_natCast] at h4
                    rw [LB.out] at h3
                    exact hno ⟨by injection h1, h2, h3, h4⟩)
                  have TAKE := hide2 (fun (j' : Nat) (r2 : List Bool) (ej : toK (atI (labL ⟨P, ts⟩)) a j = j') (hj' : j' < k) (hr2 : M[j']? = some r2) (h3 : lab = 0 ∨ wd[j]? = some lab) (hv1' : v1 = true) (h4 : r2[t]? = some false) => show leadTo ars (atI (labL ⟨P, ts⟩)) wd M0 q a (j + 1) = (M.set j' (r2.set t true), true) from by
                    rw [NX.out, leadF, if_pos]
                    · simp only [ej, hr2, Option.getD_some, ET.out, Int.toNat_natCast]
                    · refine ⟨by rw [EF.out, Int.toNat_natCast, A1v.out, hv1'], by rw [ej, KL.out]; exact hj', by rw [LB.out]; exact h3, ?_⟩
                      rw [ej, ET.out, Int.toNat_natCast]
                      unfold at2
                      rw [hr2]
                      simp [h4])
                  have S1 := hide2 s1
                  have S4 := hide2 s4
                  have HR := hide2 hr1
                  have HC := hide2 hc
                  have HO := hide2 ho
                  have HV1 := hide2 hv1
                  clear s1 s4 hr1 ho hlr hv1 ST A1v
                  by_cases hlab0 : lab = 0
                  · have EJ := hide2 (show toK (atI (labL ⟨P, ts⟩)) a j = j by unfold toK; rw [if_neg (by rw [LB.out]; omega)])
                    subst hlab0
                    cases v1
                    · skip
                      have NO := hide2 (SAME.out (fun h => by cases h.1))
                      go_upto_region 21 with fail
                      go_quiet (fail)
                      obtain ⟨G1, G2⟩ := KEEP.out nq
                      go_wp2
                      go_roundw
                      case rel => exact ⟨j + 1, by omega, by go_num, ⟨b, rfl, hide2 (by rw [NO.out]; exact G1.out)⟩, G2⟩
                      case measure => simp [intOf]; omega
                    · obtain ⟨v2, hv2⟩ : ∃ v, r1[t]? = some v := ⟨_, List.getElem?_eq_getElem (by rw [HO.out.len]; exact ht)⟩
                      have x2 := HO.out.at hv2
                      have HV2 := hide2 hv2
                      clear hv2
                      cases v2
                      · skip
                        have YES := hide2 (TAKE.out j r1 EJ.out hlj HR.out (.inl rfl) rfl HV2.out)
                        go_upto_region 21 with fail
                        go_quiet (fail)
                        have DB := hide2 (Drew.drewN wr nq).below
                        have T1 := hide2 (S1.out.keep DB.out)
                        have T4 := hide2 (S4.out.trans (DB.out.mono S4.out.size))
                        have TW := hide2 (WB.out.keep DB.out)
                        have TO := hide2 (HO.out.keep DB.out)
                        have TC := hide2 ((DB.out.cell (S1.out.lt.2)).trans HC.out)
                        generalize wr.drewN nq = u1 at *
                        clear x1 x2 t0 t1 t2 hc DB S1 S4 WB KEEP
                        go_upto_region 22 with fail
                        obtain ⟨t0, t1, t2⟩ := TW.out.three
                        have hc := TC.out
                        have DB := hide2 ((Below.refl u1.heap.size u1).drew)
                        refine wp_region_scr 7 (.takes [0, 1, 2, 3, 4, 5, 6] (.fins [7, 8] .done)) (fun w' => w'.cell? ⟨w0.heap.size, j, none⟩ = some (.slice (some ⟨br, 0, none⟩) n n) ∧ w'.cell? ⟨bx, 2, none⟩ = some (.int .i64 t)) (by kernel_rfl) (by kernel_rfl) (by kernel_rfl) (fun _ _ _ _ _ h => h) ⟨hc, t2⟩ (fun hHeld => ?_)
                        simp only [Scr.takes, Scr.fins]
                        have R1 := hide2 (T1.out.keep DB.out)
                        have R4 := hide2 (T4.out.trans (DB.out.mono T4.out.size))
                        have RW := hide2 (TW.out.keep DB.out)
                        have RO := hide2 (TO.out.keep DB.out)
                        have RC := hide2 ((DB.out.cell (T1.out.lt.2)).trans TC.out)
                        generalize u1.drew = u2 at *
                        iterate 7
                          refine tkTake (v := ?_) rfl (by rfl) hHeld (fun w' hSw => ?_) ?_
                          rotate_left
                          · (go_simp; try with_reducible rfl)
                          simp only [Act.put, List.setIfInBounds_toArray, List.set_cons_zero, List.set_cons_succ]
                        clear hHeld t0 t1 t2 hc
                        have x2 := RO.out.at HV2.out
                        have xf := RO.out.frozen t
                        iterate 2
                          refine tkEnd rfl (fun K hK => ?_)
                          go_simp
                          refine hK.out _ _ ?_
                          clear hK
                          try simp only [Act.put, List.setIfInBounds_toArray, List.set_cons_zero, List.set_cons_succ]
                        refine tkDone ?_
                        clear x2 xf
                        have NS := hide2 (show StL w0.heap.size w0.heap.size k n w0 (u2.setCell ⟨br, t, none⟩ (.bool true)) (leadTo ars (atI (labL ⟨P, ts⟩)) wd M0 q a (j + 1)) true by rw [YES.out]; exact ⟨rfl, R1.out.put HR.out RC.out, R4.out.setCell RO.out.lt.1 _⟩)
                        have NB := hide2 (RW.out.other (a := ⟨br, t, none⟩) (.bool true) (RO.out.neBox RW.out))
                        go_wp2
                        go_roundw
                        case rel => exact ⟨j + 1, by omega, by go_num, ⟨true, rfl, NS⟩, NB⟩
                        case measure => simp [intOf]; omega
                      · skip
                        have NO := hide2 (SAME.out (fun h => h.2.2.2 (by rw [EJ.out]; unfold at2; rw [HR.out]; exact HV2.out)))
                        go_upto_region 21 with fail
                        go_quiet (fail)
                        obtain ⟨G1, G2⟩ := KEEP.out nq
                        go_wp2
                        go_roundw
                        case rel => exact ⟨j + 1, by omega, by go_num, ⟨b, rfl, hide2 (by rw [NO.out]; exact G1.out)⟩, G2⟩
                        case measure => simp [intOf]; omega
                  · have hlp : 0 < lab := by omega
                    have hlb0 : (lab == 0) = false := by simpa using hlab0
                    have EJ := hide2 (show toK (atI (labL ⟨P, ts⟩)) a j = j + 1 by unfold toK; rw [if_pos (by rw [LB.out]; exact hlp)])
                    cases v1
                    · skip
                      have NO := hide2 (SAME.out (fun h => by cases h.1))
                      go_upto_region 21 with fail
                      go_quiet (fail)
                      obtain ⟨G1, G2⟩ := KEEP.out nq
                      go_wp2
                      go_roundw
                      case rel => exact ⟨j + 1, by omega, by go_num, ⟨b, rfl, hide2 (by rw [NO.out]; exact G1.out)⟩, G2⟩
                      case measure => simp [intOf]; omega
                    · by_cases hj1 : j + 1 < k
                      · have hj1i : (j : Int) + 1 < (k : Int) := by omega
                        have hj1p : (0 : Int) ≤ (j : Int) + 1 := by omega
                        obtain ⟨bw, offw, x, rfl, hbw, hx, qx⟩ := (Ints.keep G.out S4.out).get (k := j) (by have := hKl.out; omega)
                        have hjl : (j : Int) < (l : Int) := by have := hKl.out; omega
                        have HX := hide2 hx.out
                        clear hx
                        obtain ⟨br2, r2, hr2, hc2, ho2⟩ := S1.out.get (k := j + 1) (by rw [hML.out]; exact hj1)
                        obtain ⟨v2, hv2⟩ : ∃ v, r2[t]? = some v := ⟨_, List.getElem?_eq_getElem (by rw [ho2.len]; exact ht)⟩
                        have x2 := ho2.at hv2
                        have HV2 := hide2 hv2
                        have HR2 := hide2 hr2
                        have HO2 := hide2 ho2
                        have HC2 := hide2 hc2
                        clear hv2 hr2 ho2
                        by_cases hxl : x = lab
                        · subst hxl
                          cases v2
                          · skip
                            have YES := hide2 (TAKE.out (j + 1) r2 EJ.out hj1 HR2.out (.inr HX.out) rfl HV2.out)
                            go_upto_region 21 with fail
                            go_quiet (fail)
                            have DB := hide2 (Drew.drewN wr nq).below
                            have T1 := hide2 (S1.out.keep DB.out)
                            have T4 := hide2 (S4.out.trans (DB.out.mono S4.out.size))
                            have TW := hide2 (WB.out.keep DB.out)
                            have TO := hide2 (HO2.out.keep DB.out)
                            have TC := hide2 ((DB.out.cell (S1.out.lt.2)).trans HC2.out)
                            generalize wr.drewN nq = u1 at *
                            clear x1 x2 t0 t1 t2 hc DB S1 S4 WB KEEP hc2 qx
                            go_upto_region 22 with fail
                            obtain ⟨t0, t1, t2⟩ := TW.out.three
                            have hc := TC.out
                            have DB := hide2 ((Below.refl u1.heap.size u1).drew)
                            refine wp_region_scr 7 (.takes [0, 1, 2, 3, 4, 5, 6] (.fins [7, 8] .done)) (fun w' => w'.cell? ⟨w0.heap.size, j + 1, none⟩ = some (.slice (some ⟨br2, 0, none⟩) n n) ∧ w'.cell? ⟨bx, 2, none⟩ = some (.int .i64 t)) (by kernel_rfl) (by kernel_rfl) (by kernel_rfl) (fun _ _ _ _ _ h => h) ⟨hc, t2⟩ (fun hHeld => ?_)
                            simp only [Scr.takes, Scr.fins]
                            have R1 := hide2 (T1.out.keep DB.out)
                            have R4 := hide2 (T4.out.trans (DB.out.mono T4.out.size))
                            have RW := hide2 (TW.out.keep DB.out)
                            have RO := hide2 (TO.out.keep DB.out)
                            have RC := hide2 ((DB.out.cell (T1.out.lt.2)).trans TC.out)
                            generalize u1.drew = u2 at *
                            iterate 7
                              refine tkTake (v := ?_) rfl (by rfl) hHeld (fun w' hSw => ?_) ?_
                              rotate_left
                              · (go_simp; try with_reducible rfl)
                              simp only [Act.put, List.setIfInBounds_toArray, List.set_cons_zero, List.set_cons_succ]
                            clear hHeld t0 t1 t2 hc
                            have x2 := RO.out.at HV2.out
                            have xf := RO.out.frozen t
                            iterate 2
                              refine tkEnd rfl (fun K hK => ?_)
                              go_simp
                              refine hK.out _ _ ?_
                              clear hK
                              try simp only [Act.put, List.setIfInBounds_toArray, List.set_cons_zero, List.set_cons_succ]
                            refine tkDone ?_
                            clear x2 xf
                            have NS := hide2 (show StL w0.heap.size w0.heap.size k n w0 (u2.setCell ⟨br2, t, none⟩ (.bool true)) (leadTo ars (atI (labL ⟨P, ts⟩)) wd M0 q a (j + 1)) true by rw [YES.out]; exact ⟨rfl, R1.out.put HR2.out RC.out, R4.out.setCell RO.out.lt.1 _⟩)
                            have NB := hide2 (RW.out.other (a := ⟨br2, t, none⟩) (.bool true) (RO.out.neBox RW.out))
                            go_wp2
                            go_roundw
                            case rel => exact ⟨j + 1, by omega, by go_num, ⟨true, rfl, NS⟩, NB⟩
                            case measure => simp [intOf]; omega
                          · skip
                            have NO := hide2 (SAME.out (fun h => h.2.2.2 (by rw [EJ.out]; unfold at2; rw [HR2.out]; exact HV2.out)))
                            go_upto_region 21 with fail
                            go_quiet (fail)
                            obtain ⟨G1, G2⟩ := KEEP.out nq
                            go_wp2
                            go_roundw
                            case rel => exact ⟨j + 1, by omega, by go_num, ⟨b, rfl, hide2 (by rw [NO.out]; exact G1.out)⟩, G2⟩
                            case measure => simp [intOf]; omega
                        · have hxb : (x == lab) = false := by simpa using hxl
                          have NO := hide2 (SAME.out (fun h => by rcases h.2.2.1 with h1 | h1; exact hlab0 h1; rw [HX.out] at h1; injection h1 with h1; exact hxl h1))
                          go_upto_region 21 with fail
                          go_quiet (fail)
                          obtain ⟨G1, G2⟩ := KEEP.out nq
                          go_wp2
                          go_roundw
                          case rel => exact ⟨j + 1, by omega, by go_num, ⟨b, rfl, hide2 (by rw [NO.out]; exact G1.out)⟩, G2⟩
                          case measure => simp [intOf]; omega
                      · have hj1n : ¬ ((j : Int) + 1 < (k : Int)) := by omega
                        have NO := hide2 (SAME.out (fun h => by have h1 := h.2.1; rw [EJ.out, KL.out] at h1; exact hj1 h1))
                        go_upto_region 21 with fail
                        go_quiet (fail)
                        obtain ⟨G1, G2⟩ := KEEP.out nq
                        go_wp2
                        go_roundw
                        case rel => exact ⟨j + 1, by omega, by go_num, ⟨b, rfl, hide2 (by rw [NO.out]; exact G1.out)⟩, G2⟩
                        case measure => simp [intOf]; omega
                · obtain rfl : j = k := by omega
                  have FU := hide2 (leadTo_full (lb := atI (labL ⟨P, ts⟩)) (wd := wd) (M0 := M0) ha.out)
                  rw [KL.out] at FU
                  go_wp2
                  go_roundw
                  case rel => exact ⟨q + 1, by omega, by go_num, b, rfl, hide2 (by rw [KL.out, ← FU.out]; exact ST.out)⟩
                  case measure => simp [intOf]; omega
            · obtain rfl : q = m := by omega
              have PS := hide2 (MONO.out.pass (M0, false) MI.out)
              have FL := hide2 (show ars.take q = ars from List.take_of_length_le (by rw [AL.out]; exact Nat.le_refl _))
              rw [FL.out] at ST
              obtain ⟨p, hp⟩ : ∃ p, (prs ars (wd.length + 1)).foldl (leadF (atI (labL ⟨P, ts⟩)) wd) (M0, false) = p := ⟨_, rfl⟩
              rw [hp] at ST PS
              clear hp
              obtain ⟨M2, b2⟩ := p
              obtain ⟨e1, s1, s4⟩ := ST.out
              simp only at e1 s1 s4
              subst e1
              have S1 := hide2 s1
              have S4 := hide2 s4
              clear s1 s4 ST
              go_wp2
              go_roundw
              case rel =>
                refine ⟨b, M2, rfl, S1, PS.out.inv, hide2 (fun e => ?_), S4⟩
                obtain ⟨h1, h2⟩ := PS.out.same e
                injection h1 with h1 _
                subst h1
                exact h2
              case measure =>
                rw [matK_eq S1.out (by have := PS.out.inv.len; simp only at this; rw [this]; exact KL.out), MFQ.out]
                cases b
                · have h1 := (PS.out.same rfl).1
                  injection h1 with h1 _
                  subst h1
                  simp [boolOf]
                · rcases PS.out.new rfl with h1 | h1
                  · cases h1
                  · simp only at h1
                    simp [boolOf]
                    omega
end Go.Proofs.Ytnfppolgaeibeaa
