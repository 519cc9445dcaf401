/- The contracts of SameKnots (of equal trees), Limit and ELimit, and the law CoverTells as a call. Conditions: the net and the mark read as lists. -/
import Derived.Test.YtcjjmfppkfmheaaCoverN
namespace Go.Proofs.Ytcjjmfppkfmheaa
open Go.RowKit

theorem foldK_ok {n most : Nat} {x : LKnot} {k : Nat} : ∀ (ts : List (PTran × Nat)) (ks ks' : List LKnot), TreeOk n most ks → ks[k]? = some x → ts.foldl (fun o p => o.bind fun ks => pushK most x k p.2 p.1 ks) (some ks) = some ks' → TreeOk n most ks' ∧ ks <+: ks'
  | [], ks, ks', h, hx, e => by
    simp only [List.foldl_nil, Option.some.injEq] at e
    subst e
    exact ⟨h, List.prefix_rfl⟩
  | p :: ts, ks, ks', h, hx, e => by
    rw [List.foldl_cons] at e
    cases hp : pushK most x k p.2 p.1 ks with
    | none =>
      have hn : ∀ (l : List (PTran × Nat)), l.foldl (fun o p => o.bind fun ks => pushK most x k p.2 p.1 ks) (none : Option (List LKnot)) = none := fun l => by
        induction l with
        | nil => rfl
        | cons a l ih => exact ih
      simp only [Option.bind_some, hp] at e
      rw [hn] at e
      cases e
    | some k2 =>
      simp only [Option.bind_some, hp] at e
      obtain ⟨h2, h3⟩ := h.push hx hp
      obtain ⟨h4, h5⟩ := foldK_ok ts k2 ks' h2 (prefixK_at h3 hx) e
      exact ⟨h4, h3.trans h5⟩
theorem goK_ok {n most : Nat} {ts : List PTran} : ∀ (g k : Nat) (ks ks' : List LKnot), TreeOk n most ks → goK most ts g k ks = some ks' → TreeOk n most ks'
  | 0, k, ks, ks', h, e => by
    simp only [goK, Option.some.injEq] at e
    subst e; exact h
  | g + 1, k, ks, ks', h, e => by
    rw [goK] at e
    split at e
    · rename_i hk
      obtain ⟨x, hx⟩ : ∃ x, ks[k]? = some x := ⟨_, List.getElem?_eq_getElem hk⟩
      cases hs : stepK most ts k ks with
      | none => rw [hs] at e; cases e
      | some k2 =>
        rw [hs, Option.bind_some] at e
        refine goK_ok g (k + 1) k2 ks' ?_ e
        unfold stepK at hs
        rw [hx] at hs
        simp only at hs
        split at hs
        · simp only [Option.some.injEq] at hs; subst hs; exact h
        · unfold foldK at hs
          exact (foldK_ok _ _ _ h hx hs).1
    · simp only [Option.some.injEq] at e
      subst e; exact h
theorem treeL_facts {N : PNet} {m : List Int} {most : Int} (h : (treeL N m most).2 = 0) : (treeL N m most).1.length ≤ 300 ∧ ∀ k ∈ (treeL N m most).1, (k.mark.length : Int) = N.places := by
  by_cases hall : 1 ≤ most ∧ most ≤ 300 ∧ fitsB N m = true
  · cases hg : goK most.toNat N.trans most.toNat 0 (firstK m) with
    | none => rw [treeL_none hall hg] at h; cases h
    | some ks =>
      have T := goK_ok (n := m.length) _ _ _ _ (TreeOk.start (most := most.toNat) rfl (by omega)) hg
      rw [treeL_some hall hg]
      refine ⟨by simp only [List.length_map]; have := T.few; omega, fun k hk => ?_⟩
      obtain ⟨x, hx, rfl⟩ := List.mem_map.1 hk
      rw [(T.lens x hx).1]
      exact ((fitsB_iff _ _).1 hall.2.2).2.1
  · rw [treeL_not hall] at h; cases h
theorem treeL_err {N : PNet} {m : List Int} {most : Int} (h : (treeL N m most).2 ≠ 0) : (treeL N m most).1 = [] := by
  by_cases hall : 1 ≤ most ∧ most ≤ 300 ∧ fitsB N m = true
  · cases hg : goK most.toNat N.trans most.toNat 0 (firstK m) with
    | none => rw [treeL_none hall hg]
    | some ks => rw [treeL_some hall hg] at h; exact absurd rfl h
  · rw [treeL_not hall]

/-! ### the most that a place ever has -/
def limF (p : Nat) (x : Int) (k : PKnot) : Int := if emoreB (k.mark.getD p 0) x = true then k.mark.getD p 0 else x
def limTo (l : List PKnot) (p j : Nat) : Int := (l.take j).foldl (limF p) 0
theorem limTo_succ {l : List PKnot} {p j : Nat} {k : PKnot} (h : l[j]? = some k) : limTo l p (j + 1) = limF p (limTo l p j) k := by
  unfold limTo
  rw [List.take_add_one, h, List.foldl_append]; rfl
theorem limF_many {p : Nat} (l : List PKnot) : l.foldl (limF p) (-1) = -1 := by
  induction l with
  | nil => rfl
  | cons k l ih =>
    rw [List.foldl_cons]
    have : limF p (-1) k = -1 := by
      unfold limF
      rw [if_neg]
      intro h
      exact ((emoreB_iff _ _).1 h).1 rfl
    rw [this, ih]
theorem limTo_many {l : List PKnot} {p j n : Nat} {k : PKnot} (h : l[j]? = some k) (hm : k.mark.getD p 0 = -1) (hx : limTo l p j ≠ -1) (hj : j < n) : limTo l p n = -1 := by
  have h1 : limTo l p (j + 1) = -1 := by
    rw [limTo_succ h, limF, hm, if_pos ((emoreB_iff _ _).2 ⟨hx, .inl rfl⟩)]
  have e : l.take n = l.take (j + 1) ++ (l.take n).drop (j + 1) := by
    have h2 : (l.take n).take (j + 1) = l.take (j + 1) := by rw [List.take_take, Nat.min_eq_left (by omega)]
    rw [← h2]; exact (List.take_append_drop _ _).symm
  unfold limTo at h1 ⊢
  rw [e, List.foldl_append, h1]
  exact limF_many _
theorem limF_max {p : Nat} {x y : Int} {k : PKnot} (hy : k.mark.getD p 0 = y) (hx : 0 ≤ x) (hn : y ≠ -1) : limF p x k = max x y := by
  unfold limF
  rw [hy]
  by_cases h : x < y
  · rw [if_pos ((emoreB_iff _ _).2 ⟨by omega, .inr h⟩)]; omega
  · rw [if_neg]
    · omega
    · intro h2
      rcases ((emoreB_iff _ _).1 h2).2 with h3 | h3
      · exact hn h3
      · omega
noncomputable def limitL (N : PNet) (m : List Int) (p most : Int) : Int × Int :=
  if (treeL N m most).2 ≠ 0 then (0, (treeL N m most).2) else if p < 0 ∨ N.places ≤ p then (0, 3) else (limTo (treeL N m most).1 p.toNat (treeL N m most).1.length, 0)
theorem limitL_err {N : PNet} {m : List Int} {p most : Int} {r : List PKnot × Int} (h : treeL N m most = r) (he : r.2 ≠ 0) : limitL N m p most = (0, r.2) := by rw [limitL, h, if_pos he]
theorem limitL_off {N : PNet} {m : List Int} {p most : Int} {l : List PKnot} (h : treeL N m most = (l, 0)) (hp : p < 0 ∨ N.places ≤ p) : limitL N m p most = (0, 3) := by rw [limitL, h, if_neg (by simp), if_pos hp]
theorem limitL_on {N : PNet} {m : List Int} {p most : Int} {l : List PKnot} (h : treeL N m most = (l, 0)) (hp : ¬ (p < 0 ∨ N.places ≤ p)) : limitL N m p most = (limTo l p.toNat l.length, 0) := by rw [limitL, h, if_neg (by simp), if_neg hp]
def AnsLim (p : Int × Int) (w : World) (e : Ending) (w' : World) : Prop := e = .returned (.tuple #[.int .i64 p.1, .int .i64 p.2]) ∧ Below w.heap.size w w'

set_option maxRecDepth 100000 in
set_option maxHeartbeats 8000000 in
theorem limit_calls {w : World} {P : Int} {A B : Option Addr} {n c m d : Nat} {ts : List PTran} {xs : List Int} (p most : Int) (h : Trans w A n c ts) (g : Ints w B m d xs) :
    Calls Try.prog 16 #[.agg #[.int .i64 P, .slice A n c], .slice B m d, .int .i64 p, .int .i64 most] w (AnsLim (limitL ⟨P, ts⟩ xs p most) w) := by
  generalize hw : w.alloc (.cells #[.int .i64 P, .slice A n c] 27) = w0
  have HB := hide2 (show Below w.heap.size w w0 by rw [← hw]; exact (Below.refl _ _).alloc (Nat.le_refl _) _)
  have X0 := hide2 (show Box w0 w.heap.size 27 #[.int .i64 P, .slice A n c] by rw [← hw]; exact Box.new _ _ _)
  have CW := hide2 (tree_calls (P := P) most (h.keep HB.out) (Ints.keep g HB.out))
  clear h g
  obtain ⟨R, hR⟩ : ∃ R, treeL ⟨P, ts⟩ xs most = R := ⟨_, rfl⟩
  have ER := hide2 (fun (he : R.2 ≠ 0) => limitL_err (p := p) hR he)
  have OFF := hide2 (fun (l : List PKnot) (he : R = (l, 0)) => limitL_off (p := p) (hR.trans he))
  have ON := hide2 (fun (l : List PKnot) (he : R = (l, 0)) => limitL_on (p := p) (hR.trans he))
  have FC := hide2 (fun (he : R.2 = 0) => show R.1.length ≤ 300 ∧ ∀ k ∈ R.1, (k.mark.length : Int) = P from by have := treeL_facts (N := ⟨P, ts⟩) (m := xs) (most := most) (by rw [hR]; exact he); rwa [hR] at this)
  rw [hR] at CW
  clear hR
  obtain ⟨a0, a1⟩ := X0.out.two
  go_enter Try.func16, Try.ntmps16
  go_upto_region 1 with fail
  clear hw
  obtain ⟨ks, k⟩ := R
  by_cases hk : k = 0
  · subst hk
    have FC1 := hide2 (FC.out rfl)
    have OFF1 := hide2 (OFF.out ks rfl)
    have ON1 := hide2 (ON.out ks rfl)
    clear ER OFF ON FC
    go_upto_region 4 with (go_at_call 14; go_loud ((with_reducible refine CW.out.mono ?_); rintro e w1 ⟨C, kc, rfl, hK, hb1⟩; have KN := hide2 hK; have B1 := hide2 hb1; clear hK hb1))
    obtain ⟨z0, z1⟩ := (X0.out.keep B1.out).two
    have BZ := hide2 (HB.out.trans (B1.out.mono HB.out.size))
    clear a0 a1 CW
    by_cases hp0 : p < 0
    · have FIN := hide2 (OFF1.out (.inl hp0))
      go_wp2
      go_ret2
      rw [FIN.out]
      exact ⟨by first | rfl | simp, BZ.out⟩
    · by_cases hp1 : p < P
      · have FIN := hide2 (ON1.out (by omega))
        obtain ⟨q, rfl⟩ : ∃ q : Nat, p = (q : Int) := ⟨p.toNat, by omega⟩
        obtain ⟨Q, hQ⟩ : ∃ Q : Nat, P = (Q : Int) := ⟨P.toNat, by omega⟩
        have hqQ : q < Q := by omega
        have hpp : ¬ (P ≤ (q : Int)) := by omega
        have hpq : ¬ (q : Int) < 0 := by omega
        have HQ := hide2 hQ
        obtain ⟨L, hL⟩ : ∃ L, ks.length = L := ⟨_, rfl⟩
        have HL := hide2 hL
        have hL3 : L ≤ 300 := by rw [← hL]; exact FC1.out.1
        simp only [Int.toNat_natCast] at FIN
        simp only [hL] at KN
        rw [hL]
        clear hL hQ OFF1 ON1 hp0
        obtain ⟨wo, hwo⟩ : ∃ wo : World, wo = w1 := ⟨_, rfl⟩
        subst hwo
        go_wp2
        clear z0 z1
        go_loopw [12, 35] (fun xv v wr => ∃ (j : Nat) (x : Int), j ≤ L ∧ v = .int .i64 j ∧ xv = .int .i64 x ∧ 0 ≤ x ∧ Hid (x = limTo ks q j) ∧ Hid (Below wo.heap.size wo wr)) (fun _ v _ => L - (intOf v).toNat)
        case atStart => exact ⟨0, 0, Nat.zero_le _, rfl, rfl, Int.le_refl _, rfl, Below.refl _ _⟩
        case round =>
          obtain ⟨j, x, hj, rfl, rfl, hx0, HX, BI⟩ := hrel
          by_cases hlt : j < L
          · have hji : (j : Int) < (L : Int) := by omega
            obtain ⟨bk, offk, y, Bm, km, dm, rfl, hbk, hy, q0, q1, q2, iy⟩ := Knots.get (Sl.keep KnotR.kept KN.out BI.out) hlt
            have hml : km = Q := by
              have h1 := FC1.out.2 y (List.mem_of_getElem? hy.out)
              have h2 := iy.out.len
              have h3 := HQ.out
              omega
            subst hml
            obtain ⟨bv, offv, v, rfl, hbv, hv, qv⟩ := iy.out.get hqQ
            have hqi : (q : Int) < (km : Int) := by omega
            have LS := hide2 (limTo_succ (p := q) hy.out)
            have HV := hide2 (getD_at hv.out)
            have bb := boxBelow wr (.cells #[.int .i64 y.up, .int .i64 y.tran, .slice (some ⟨bv, offv, none⟩) km dm] 100)
            have BN := hide2 (BI.out.trans (bb.mono BI.out.size))
            by_cases hmany : v = -1
            · have MANY := hide2 (limTo_many (n := ks.length) hy.out (HV.out.trans hmany) (by rw [← HX.out]; omega) (by rw [HL.out]; exact hlt))
              subst hmany
              clear bb hy hv
              go_wp2
              go_ret2
              rw [FIN.out, MANY.out]
              exact ⟨by first | rfl | simp, BZ.out.trans (BN.out.mono BZ.out.size)⟩
            · have hne : (v == -1) = false := by simpa using hmany
              obtain ⟨M, hM⟩ : ∃ M, max x v = M := ⟨_, rfl⟩
              have HM := hide2 hM
              have hM0 : 0 ≤ M := by omega
              have NX := hide2 (show M = limTo ks q (j + 1) by rw [LS.out, limF_max HV.out (by rw [← HX.out]; exact hx0) hmany, ← HX.out]; exact HM.out.symm)
              clear bb hy hv
              go_wp2
              go_roundw
              case rel => exact ⟨j + 1, M, by omega, by go_num, by first | rfl | simp [HM.out], hM0, NX, BN⟩
              case measure => simp [intOf]; omega
          · obtain rfl : j = L := by omega
            go_wp2
            go_ret2
            rw [FIN.out, HL.out, ← HX.out]
            exact ⟨by first | rfl | simp, BZ.out.trans (BI.out.mono BZ.out.size)⟩
      · have FIN := hide2 (OFF1.out (.inr (by omega)))
        have hpp : P ≤ p := by omega
        go_wp2
        go_ret2
        rw [FIN.out]
        exact ⟨by first | rfl | simp, BZ.out⟩
  · have ER1 := hide2 (ER.out hk)
    go_wp2_with (go_at_call 14; go_loud ((with_reducible refine CW.out.mono ?_); rintro e w1 ⟨C, kc, rfl, hK, hb1⟩; have B1 := hide2 hb1; clear hK hb1))
    go_ret2
    rw [ER1.out]
    exact ⟨by first | rfl | simp, HB.out.trans (B1.out.mono HB.out.size)⟩

set_option maxRecDepth 100000 in
set_option maxHeartbeats 8000000 in
theorem elimit_calls {w : World} {P : Int} {A B : Option Addr} {n c m d : Nat} {ts : List PTran} {xs : List Int} (p most : Int) (h : Trans w A n c ts) (g : Ints w B m d xs) :
    Calls Try.prog 17 #[.agg #[.int .i64 P, .slice A n c], .slice B m d, .int .i64 p, .int .i64 most] w (AnsLim (limitL ⟨P, ts⟩ xs p most) w) := by
  generalize hw : w.alloc (.cells #[.int .i64 P, .slice A n c] 27) = w0
  have HB := hide2 (show Below w.heap.size w w0 by rw [← hw]; exact (Below.refl _ _).alloc (Nat.le_refl _) _)
  have X0 := hide2 (show Box w0 w.heap.size 27 #[.int .i64 P, .slice A n c] by rw [← hw]; exact Box.new _ _ _)
  have CW := hide2 (etree_calls (P := P) most (h.keep HB.out) (Ints.keep g HB.out))
  clear h g
  obtain ⟨R, hR⟩ : ∃ R, treeL ⟨P, ts⟩ xs most = R := ⟨_, rfl⟩
  have ER := hide2 (fun (he : R.2 ≠ 0) => limitL_err (p := p) hR he)
  have OFF := hide2 (fun (l : List PKnot) (he : R = (l, 0)) => limitL_off (p := p) (hR.trans he))
  have ON := hide2 (fun (l : List PKnot) (he : R = (l, 0)) => limitL_on (p := p) (hR.trans he))
  have FC := hide2 (fun (he : R.2 = 0) => show R.1.length ≤ 300 ∧ ∀ k ∈ R.1, (k.mark.length : Int) = P from by have := treeL_facts (N := ⟨P, ts⟩) (m := xs) (most := most) (by rw [hR]; exact he); rwa [hR] at this)
  rw [hR] at CW
  clear hR
  obtain ⟨a0, a1⟩ := X0.out.two
  go_enter Try.func17, Try.ntmps17
  go_upto_region 1 with fail
  clear hw
  obtain ⟨ks, k⟩ := R
  by_cases hk : k = 0
  · subst hk
    have FC1 := hide2 (FC.out rfl)
    have OFF1 := hide2 (OFF.out ks rfl)
    have ON1 := hide2 (ON.out ks rfl)
    clear ER OFF ON FC
    go_upto_region 2 with (go_at_call 15; go_loud ((with_reducible refine CW.out.mono ?_); rintro e w1 ⟨C, kc, rfl, hK, hb1⟩; have KN := hide2 hK; have B1 := hide2 hb1; clear hK hb1))
    obtain ⟨z0, z1⟩ := (X0.out.keep B1.out).two
    have BZ := hide2 (HB.out.trans (B1.out.mono HB.out.size))
    clear a0 a1 CW
    by_cases hp0 : p < 0
    · have FIN := hide2 (OFF1.out (.inl hp0))
      go_wp2
      go_ret2
      rw [FIN.out]
      exact ⟨by first | rfl | simp, BZ.out⟩
    · by_cases hp1 : p < P
      · have FIN := hide2 (ON1.out (by omega))
        obtain ⟨q, rfl⟩ : ∃ q : Nat, p = (q : Int) := ⟨p.toNat, by omega⟩
        obtain ⟨Q, hQ⟩ : ∃ Q : Nat, P = (Q : Int) := ⟨P.toNat, by omega⟩
        have hqQ : q < Q := by omega
        have hpp : ¬ (P ≤ (q : Int)) := by omega
        have hpq : ¬ (q : Int) < 0 := by omega
        have HQ := hide2 hQ
        obtain ⟨L, hL⟩ : ∃ L, ks.length = L := ⟨_, rfl⟩
        have HL := hide2 hL
        have hL3 : L ≤ 300 := by rw [← hL]; exact FC1.out.1
        simp only [Int.toNat_natCast] at FIN
        simp only [hL] at KN
        rw [hL]
        clear hL hQ OFF1 ON1 hp0
        obtain ⟨wo, hwo⟩ : ∃ wo : World, wo = w1 := ⟨_, rfl⟩
        subst hwo
        go_wp2
        clear z0 z1
        go_loopw [12, 39] (fun xv v wr => ∃ (j : Nat) (x : Int), j ≤ L ∧ v = .int .i64 j ∧ xv = .int .i64 x ∧ Hid (x = limTo ks q j) ∧ Hid (Below wo.heap.size wo wr)) (fun _ v _ => L - (intOf v).toNat)
        case atStart => exact ⟨0, 0, Nat.zero_le _, rfl, rfl, rfl, Below.refl _ _⟩
        case round =>
          obtain ⟨j, x, hj, rfl, rfl, HX, BI⟩ := hrel
          by_cases hlt : j < L
          · have hji : (j : Int) < (L : Int) := by omega
            obtain ⟨bk, offk, y, Bm, km, dm, rfl, hbk, hy, q0, q1, q2, iy⟩ := Knots.get (Sl.keep KnotR.kept KN.out BI.out) hlt
            have hml : km = Q := by
              have h1 := FC1.out.2 y (List.mem_of_getElem? hy.out)
              have h2 := iy.out.len
              have h3 := HQ.out
              omega
            subst hml
            obtain ⟨bv, offv, v, rfl, hbv, hv, qv⟩ := iy.out.get hqQ
            have hqi : (q : Int) < (km : Int) := by omega
            have LS := hide2 (limTo_succ (p := q) hy.out)
            have HV := hide2 (getD_at hv.out)
            have bb := boxBelow wr (.cells #[.int .i64 y.up, .int .i64 y.tran, .slice (some ⟨bv, offv, none⟩) km dm] 100)
            have BN := hide2 (BI.out.trans (bb.mono BI.out.size))
            obtain ⟨re, hre⟩ : ∃ re, emoreB v x = re := ⟨_, rfl⟩
            have EM := hide2 (fun (w' : World) => emore_calls w' v x)
            rw [hre] at EM
            have NX := hide2 (show (if re = true then v else x) = limTo ks q (j + 1) by rw [LS.out, limF, HV.out, ← HX.out, hre])
            clear bb hy hv hre
            cases re
            · go_wp2_with (go_at_call 63; (with_reducible refine (EM.out _).mono ?_); rintro e w5 ⟨rfl, rfl⟩)
              go_roundw
              case rel => exact ⟨j + 1, x, by omega, by go_num, rfl, NX, BN⟩
              case measure => simp [intOf]; omega
            · go_wp2_with (go_at_call 63; (with_reducible refine (EM.out _).mono ?_); rintro e w5 ⟨rfl, rfl⟩)
              go_roundw
              case rel => exact ⟨j + 1, v, by omega, by go_num, rfl, NX, BN⟩
              case measure => simp [intOf]; omega
          · obtain rfl : j = L := by omega
            go_wp2
            go_ret2
            rw [FIN.out, HL.out, ← HX.out]
            exact ⟨by first | rfl | simp, BZ.out.trans (BI.out.mono BZ.out.size)⟩
      · have FIN := hide2 (OFF1.out (.inr (by omega)))
        have hpp : P ≤ p := by omega
        go_wp2
        go_ret2
        rw [FIN.out]
        exact ⟨by first | rfl | simp, BZ.out⟩
  · have ER1 := hide2 (ER.out hk)
    go_wp2_with (go_at_call 15; go_loud ((with_reducible refine CW.out.mono ?_); rintro e w1 ⟨C, kc, rfl, hK, hb1⟩; have B1 := hide2 hb1; clear hK hb1))
    go_ret2
    rw [ER1.out]
    exact ⟨by first | rfl | simp, HB.out.trans (B1.out.mono HB.out.size)⟩
end Go.Proofs.Ytcjjmfppkfmheaa
