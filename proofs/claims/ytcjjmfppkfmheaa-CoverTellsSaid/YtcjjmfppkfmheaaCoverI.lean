/- grow: a mark without bound where it must be. Conditions: the mark's row is the call's own, the tree lies as it lay when w0 stood. -/
import Derived.Test.YtcjjmfppkfmheaaCoverH
namespace Go.Proofs.Ytcjjmfppkfmheaa
open Go.RowKit
attribute [local go_sem] Oper.semAt_some

/-- Between two rounds over the line. -/
def GrowI (w : World) (z0 : Nat) (v : Value) (n b7 : Nat) (Ds : List Nat) (L : List (List Int)) (ms xs : List Int) (dn : List (List Int)) (W : World) : Prop :=
  ∃ xs' ag', GrowW w z0 v n b7 Ds xs' ag' W ∧ GrowS L ms xs dn xs' ag'
theorem GrowI.mk {w : World} {z0 : Nat} {v : Value} {n b7 : Nat} {Ds : List Nat} {L : List (List Int)} {ms xs : List Int} {dn : List (List Int)} {W : World} {xs' : List Int} {ag' : Bool} (h : GrowW w z0 v n b7 Ds xs' ag' W) (g : GrowS L ms xs dn xs' ag') : GrowI w z0 v n b7 Ds L ms xs dn W := ⟨xs', ag', h, g⟩

set_option maxRecDepth 100000 in
set_option maxHeartbeats 4000000 in
theorem grow_calls {nn most : Nat} {ks : List LKnot} (T : TreeOk nn most ks) {w0 w : World} {bT m c : Nat} {A : Option Addr} (hT : TreeAt w0 bT A m c ks) (hb : Below w0.heap.size w0 w) {v : Value} {n : Nat} {ms : List Int} (own : OwnInts w w0.heap.size v n ms) (hn : n ≤ 16) (hnn : n = nn) {k : Nat} {x : LKnot} (hx : ks[k]? = some x) :
    Calls Try.prog 59 #[.pointer (some ⟨bT, 0, none⟩), v, .int .i64 (k : Int)] w fun e w' => e = .returned v ∧ OwnInts w' w0.heap.size v n (closeInf (x.2 ++ [x.1.mark]) ms) ∧ Below w0.heap.size w w' := by
  obtain ⟨Am, cm, rfl, hI⟩ := own.sl (by omega)
  subst hnn
  have hk : k < ks.length := (List.getElem?_eq_some_iff.1 hx).1
  obtain ⟨L, hL⟩ : ∃ L, lineF ks (k : Int) = L := ⟨_, rfl⟩
  have CL := hide2 (show closeInf (x.2 ++ [x.1.mark]) ms = closeInf L ms by
    refine closeInf_same fun y => ?_
    rw [← hL, lineF_at hx]
    simp [or_comm])
  have LL := hide2 (show ∀ y, y ∈ L → y.length = n by
    intro y hy
    have hl := T.lens x (List.mem_of_getElem? hx)
    rw [← hL, lineF_at hx] at hy
    rcases List.mem_cons.1 hy with rfl | hy
    · exact hl.1
    · exact hl.2 y (List.mem_reverse.1 hy))
  have HL := hide2 hL
  have ML := hide2 (show ms.length = n from own.len)
  have LO := hide2 (show ∀ q, (Value.slice Am n cm).ownBlock = some q → w0.heap.size ≤ q ∧ q < w.heap.size from own.lt)
  have OWN := hide2 own
  have HB := hide2 hb
  have hz := hb.size
  clear hL own hb hI
  refine (callsIn_wide (n := 9)).1 ?_
  refine callsIn_of_wp_marks Try.func59 rfl trivial ?_ rfl
  simp only [Try.ntmps59, List.size_toArray, List.length_cons, List.length_nil, Nat.reduceAdd, Nat.reduceSub, Array.replicate_succ, Array.replicate_zero, List.push_toArray, List.append_toArray, List.nil_append, List.cons_append]
  gi_wp2
  refine wpIn_loop_ghost (fun mm a W => ∃ (Ds : List Nat) (b7 : Nat) (ag : Bool) (xs : List Int) (v8 v9 v10 v11 v12 v13 v14 v15 v16 v17 v18 v19 v20 v21 v22 v23 v24 v25 v26 v27 v28 v29 v30 v31 v32 v33 v34 v35 v36 v37 v38 v39 v40 v41 v42 v43 v44 v45 v46 v47 v48 v49 v50 v51 : Value), Hid (GrowW w w0.heap.size (.slice Am n cm) n b7 Ds xs ag W) ∧ Hid (OnWay L ms xs) ∧ Hid (ag = false → Still L xs) ∧ Hid (bounded xs + (if ag = true then 1 else 0) = mm) ∧
    a = { tmps := #[.pointer (some ⟨bT, 0, none⟩), .slice Am n cm, .int .i64 (k : Int), undef, .pointer (some ⟨w.heap.size, 0, none⟩), undef, .slice none 0 0, .pointer (some ⟨b7, 0, none⟩), v8, v9, v10, v11, v12, v13, v14, v15, v16, v17, v18, v19, v20, v21, v22, v23, v24, v25, v26, v27, v28, v29, v30, v31, v32, v33, v34, v35, v36, v37, v38, v39, v40, v41, v42, v43, v44, v45, v46, v47, v48, v49, v50, v51, undef], defers := Ds.map markOf }) (bounded ms + 1) ?_ ?_
  · refine ⟨[], _, true, ms, _, _, _, _, _, _, _, _, _, _, _, _, _, _, _, _, _, _, _, _, _, _, _, _, _, _, _, _, _, _, _, _, _, _, _, _, _, _, _, _, _, _, _, _, ?_, OnWay.start _ _, fun h => (by cases h), rfl, rfl⟩
    exact GrowW.start OWN.out hz
  · rintro mm a W ⟨Ds, b7, ag, xs, v8, v9, v10, v11, v12, v13, v14, v15, v16, v17, v18, v19, v20, v21, v22, v23, v24, v25, v26, v27, v28, v29, v30, v31, v32, v33, v34, v35, v36, v37, v38, v39, v40, v41, v42, v43, v44, v45, v46, v47, v48, v49, v50, v51, hG, hW, hS, hM, rfl⟩
    cases ag with
    | false =>
      have c7 := hG.out.flag
      have cz := hG.out.box
      gi_wp2
      refine grow_leaves (fun W' h => ⟨_, results_tmp rfl _ _ _, rfl, ?_, h.below⟩) Ds _ hG.out
      rw [CL.out, ← hW.out.done (hS.out (by simp))]
      exact h.own
    | true =>
      have c7 := hG.out.flag
      have f7 := hG.out.free
      have G1 := hide2 (hG.out.flagOn false)
      have Z7 := hide2 hG.out.lt7
      have Y7 := hide2 hG.out.hb7
      have SZ := hide2 (show (W.setCell ⟨b7, 0, none⟩ (.bool false)).heap.size = W.heap.size by simp)
      have B1 := hide2 (HB.out.trans G1.out.below)
      gi_wp2_with (refine ⟨trivial, ?_⟩; gi_at_call 136; refine (callsIn_wide.2 (ahead_calls _ _ _)).mono ?_; rintro e W2 ⟨rfl, d1, g1, d0, s2, B2, gr⟩)
      rw [SZ.out] at d1 g1 d0 s2 B2
      have lt7 := Z7.out
      have gt7 := Y7.out
      clear c7 f7
      have G2 := hide2 (G1.out.grown (Bd := W.heap.size) gr (fun r e => by cases e) (by omega) (fun D hD => (Array.getElem?_eq_some_iff.1 (hG.out.marks D hD).1).1))
      have b2 : Below w0.heap.size w0 W2 := B1.out.trans (B2.mono (by have := hz; omega))
      have hMM := hide2 (show bounded xs + 1 = mm from hM.out)
      refine wpIn_rangeFunc_at (gf := 177) (by simp [go_sem]) (enters_of Try.func177 (by kernel_rfl) rfl)
        (ahead1_stops 8 (by omega) T hT b2 (.inr ⟨k, hk, rfl⟩) (by omega) (by omega) (by omega) (by omega) (by omega) d1 g1 d0)
        (fun h g => h.trans g) (fun W l o o' hl ho h1 h2 => ⟨belowK_b (w := W2) (by omega) W l o o' hl ho h1 h2, World.putObj_heap_other (by omega), World.putObj_heap_other (by omega)⟩) (fun _ => rfl)
        (fun pre W3 => GrowI w w0.heap.size (.slice Am n cm) n b7 Ds L ms xs (valsH pre) W3) (fun _ _ _ => False)
        (fun s A B row hs hg hr => by
          obtain ⟨xs', ag', h1, h2⟩ := hs
          exact ⟨xs', ag', h1.grown hg hr (by omega) (fun D hD => by have := (Array.getElem?_eq_some_iff.1 (hG.out.marks D hD).1).1; omega), h2⟩)
        (fun s A u hs => by
          obtain ⟨xs', ag', h1, h2⟩ := hs
          exact ⟨xs', ag', h1.setOther (b := W.heap.size + 1) (by omega) (by omega) u, h2⟩)
        (fun _ _ _ _ _ hs _ _ => hs) ⟨xs, false, G2.out, GrowS.start hW.out⟩ (fun y => { tmps := #[.pointer (some ⟨bT, 0, none⟩), .slice Am n cm, .int .i64 (k : Int), undef, .pointer (some ⟨w.heap.size, 0, none⟩), undef, .slice none 0 0, .pointer (some ⟨b7, 0, none⟩), .slice y.1.1.1 y.1.1.2.1 y.1.1.2.2, v9, .bool true, .pointer (some ⟨bT, 0, none⟩), .int .i64 (k : Int), .func (.func 177) #[] #[.pointer (some ⟨W.heap.size + 1, 0, none⟩), .pointer (some ⟨W.heap.size, 0, none⟩)], .slice y.1.1.1 y.1.1.2.1 y.1.1.2.2, v15, v16, v17, v18, v19, v20, v21, v22, v23, v24, v25, v26, v27, v28, v29, v30, v31, v32, v33, v34, v35, v36, v37, v38, v39, v40, v41, v42, v43, v44, v45, v46, v47, v48, v49, v50, v51, undef], defers := [] }) ?assign ?body ?done ?stop
      case assign =>
        intro l y W3 K hK
        dsimp only [encH]
        gi_wp2
        exact hK
      case body =>
        rintro l pre ⟨⟨⟨B', n', c'⟩, ys⟩, hy⟩ W3 ⟨xs1, ag1, hg1, hs1⟩ _
        have HY := hide2 hy.1
        have HM := hide2 (show ys ∈ L by rw [← HL.out]; exact hy.2)
        have VS := hide2 (show valsH (pre ++ [(⟨((B', n', c'), ys), hy⟩ : Handed w0 (lineF ks (k : Int)))]) = valsH pre ++ [ys] by simp [valsH])
        generalize pre ++ [(⟨((B', n', c'), ys), hy⟩ : Handed w0 (lineF ks (k : Int)))] = P' at VS ⊢
        generalize valsH pre = dn at *
        dsimp only
        obtain rfl : n' = n := hy.1.len.symm.trans (LL.out ys HM.out)
        have GG := hide2 hg1
        have SS := hide2 hs1
        have cz := hg1.box
        have b3 : Below w0.heap.size w0 W3 := HB.out.trans hg1.below
        obtain ⟨A2, c2, hv, MI⟩ := hg1.own.sl (by omega)
        injection hv with e1 e2 e3
        subst e1 e3
        obtain ⟨r, hr⟩ : ∃ r, belowB ys xs1 = r := ⟨_, rfl⟩
        have BC : Calls Try.prog 58 #[.slice B' n' c', .slice Am n' cm] W3 fun e w' => e = .returned (.bool r) ∧ W3 = w' := by rw [← hr]; exact below_calls (HY.out.keep b3) MI
        have HR := hide2 hr
        have B3 := hide2 b3
        have HMI := hide2 MI
        clear hy hg1 hs1 hr b3 MI d1 g1 d0
        cases r with
        | false =>
          gi_wp2_with (refine ⟨trivial, ?_⟩; gi_at_call 58; refine (CallsIn.inRound l (callsIn_wide.2 BC)).mono ?_; rintro e W4 ⟨rfl, rfl⟩)
          exact ⟨KeepsOthers.refl _, ⟨Below.refl _ _, rfl, rfl⟩, .mk GG.out (by rw [VS.out]; exact SS.out.pass HR.out)⟩
        | true =>
          gi_wp2_with (refine ⟨trivial, ?_⟩; gi_at_call 58; refine (CallsIn.inRound l (callsIn_wide.2 BC)).mono ?_; rintro e W4 ⟨rfl, rfl⟩)
          gi_loopw [21] (fun i wr => ∃ (p : Nat) (ag2 : Bool) (xs2 : List Int), p ≤ n' ∧ i = .int .i64 p ∧ Hid (GrowW w w0.heap.size (.slice Am n' cm) n' b7 Ds xs2 ag2 wr) ∧ Hid (InS L ms xs dn ys p xs2 ag2) ∧ Hid (KeepsOthers W3 wr) ∧ Hid (KpAt w0.heap.size (W.heap.size + 1) W.heap.size W3 wr)) (fun i _ => n' - (intOf i).toNat)
          case atStart => exact ⟨0, ag1, xs1, Nat.zero_le _, rfl, GG.out, SS.out.enter HR.out, KeepsOthers.refl _, Below.refl _ _, rfl, rfl⟩
          case round =>
            obtain ⟨p, ag2, xs2, hp, rfl, G3, S3, KO, KP⟩ := hrel
            have hxl := hide2 (show xs2.length = n' from G3.out.own.len)
            by_cases hpn : p < n'
            · obtain ⟨g, cap, hv, hg0, hg1⟩ := G3.out.own.form (by omega)
              injection hv with e1 _ e3
              subst e1 e3
              have hki : (p : Int) < (n' : Int) := by omega
              have hk0 : (0 : Int) ≤ (p : Int) := by omega
              obtain ⟨by_, offy, yv, hB', hby, hyv, qy⟩ := HY.out.get hpn
              subst hB'
              obtain ⟨mv, hmv⟩ : ∃ mv, xs2[p]? = some mv := ⟨_, List.getElem?_eq_getElem (by have := hxl.out; omega)⟩
              have MV := hide2 hmv
              have DY := hide2 (show ys.getD p 0 = yv from getD_at hyv.out)
              have DM := hide2 (show xs2.getD p 0 = mv from getD_at hmv)
              have c1 : wr.drew.cell? ⟨w.heap.size, 0, none⟩ = some (.slice (some ⟨g, 0, none⟩) n' cm) := G3.out.box
              have c2 : wr.drew.cell? ⟨g, p, none⟩ = some (.int .i64 mv) := G3.out.own.at hmv
              have b3 : Below w0.heap.size w0 wr.drew := (HB.out.trans G3.out.below).drew
              have c3 : wr.drew.cell? ⟨by_, offy + p, none⟩ = some (.int .i64 yv) := (b3.cell (p := ⟨by_, _, none⟩) hby).trans qy
              have G4 := hide2 G3.out.drew
              have KO4 := hide2 (KO.out.trans (KeepsOthers.drew wr))
              have KP4 := hide2 KP.out.drew
              clear hmv b3 hyv qy
              gi_wp2
              by_cases hm1 : mv = -1
              · have x1 : (mv != -1) = false := by simp [hm1]
                have x0 : (mv == -1) = true := by simp [hm1]
                have SK := hide2 (S3.out.skip (fun h => absurd (DM.out.trans hm1) h))
                clear hm1
                refine wpInR_region_scr 22 (.takes [0, 1, 2, 3, 4, 5, 6, 7, 8, 9, 10, 11, 12, 13, 14, 15, 16, 17, 18, 19, 20, 21] (.fin 22 .done)) (fun w' => w'.cell? ⟨w.heap.size, 0, none⟩ = some (.slice (some ⟨g, 0, none⟩) n' cm) ∧ w'.cell? ⟨g, p, none⟩ = some (.int .i64 mv) ∧ w'.cell? ⟨by_, offy + p, none⟩ = some (.int .i64 yv)) (by kernel_rfl) (by kernel_rfl) (by kernel_rfl) (by kernel_rfl) ⟨c1, c2, c3⟩ (fun hHeld => ?_)
                simp only [Scr.takes]
                iterate 22
                  first
                    | (refine tkPass rfl (by rfl) hHeld ?_
                       try simp only [Act.put, List.setIfInBounds_toArray, List.set_cons_zero, List.set_cons_succ])
                    | (refine tkTake (v := ?_) rfl (by rfl) hHeld (fun w' hSw => ?_) ?_
                       rotate_left
                       · (go_simp; try with_reducible rfl)
                       try simp only [Act.put, List.setIfInBounds_toArray, List.set_cons_zero, List.set_cons_succ])
                refine tkEnd rfl (fun Kf hKf => ?_)
                go_simp
                refine hKf.out _ _ ?_
                clear hKf hHeld
                refine tkDone ?_
                simp only [onlyNormal]
                gi_wp2
                go_roundw
                case rel => exact ⟨p + 1, ag2, xs2, hpn, by simp, G4.out, SK.out, KO4.out, KP4.out⟩
                case measure => simp [intOf]; omega
              · have x1 : (mv != -1) = true := by simpa using hm1
                have x0 : (mv == -1) = false := by simpa using hm1
                have HM1 := hide2 hm1
                clear hm1
                by_cases hlt : yv < mv
                · have HLT := hide2 hlt
                  have dlt : decide (yv < mv) = true := decide_eq_true hlt
                  clear hlt
                  by_cases hy1 : yv = -1
                  · have x2 : (yv != -1) = false := by simp [hy1]
                    have x3 : (yv == -1) = true := by simp [hy1]
                    have SK := hide2 (S3.out.skip (fun _ h => absurd (DY.out.trans hy1) h))
                    clear hy1
                    refine wpInR_region_scr 22 (.takes [0, 1, 2, 3, 4, 5, 6, 7, 8, 9, 10, 11, 12, 13, 14, 15, 16, 17, 18, 19, 20, 21] (.fin 22 .done)) (fun w' => w'.cell? ⟨w.heap.size, 0, none⟩ = some (.slice (some ⟨g, 0, none⟩) n' cm) ∧ w'.cell? ⟨g, p, none⟩ = some (.int .i64 mv) ∧ w'.cell? ⟨by_, offy + p, none⟩ = some (.int .i64 yv)) (by kernel_rfl) (by kernel_rfl) (by kernel_rfl) (by kernel_rfl) ⟨c1, c2, c3⟩ (fun hHeld => ?_)
                    simp only [Scr.takes]
                    iterate 22
                      first
                        | (refine tkPass rfl (by rfl) hHeld ?_
                           try simp only [Act.put, List.setIfInBounds_toArray, List.set_cons_zero, List.set_cons_succ])
                        | (refine tkTake (v := ?_) rfl (by rfl) hHeld (fun w' hSw => ?_) ?_
                           rotate_left
                           · (go_simp; try with_reducible rfl)
                           try simp only [Act.put, List.setIfInBounds_toArray, List.set_cons_zero, List.set_cons_succ])
                    refine tkEnd rfl (fun Kf hKf => ?_)
                    go_simp
                    refine hKf.out _ _ ?_
                    clear hKf hHeld
                    refine tkDone ?_
                    simp only [onlyNormal]
                    gi_wp2
                    go_roundw
                    case rel => exact ⟨p + 1, ag2, xs2, hpn, by simp, G4.out, SK.out, KO4.out, KP4.out⟩
                    case measure => simp [intOf]; omega
                  · have x2 : (yv != -1) = true := by simpa using hy1
                    have x3 : (yv == -1) = false := by simpa using hy1
                    have SK := hide2 (S3.out.hit HM.out (by have := hxl.out; omega) (by rw [DM.out]; exact HM1.out) (by rw [DY.out]; exact hy1) (by rw [DM.out, DY.out]; exact HLT.out))
                    clear hy1
                    refine wpInR_region_scr 22 (.takes [0, 1, 2, 3, 4, 5, 6, 7, 8, 9, 10, 11, 12, 13, 14, 15, 16, 17, 18, 19, 20, 21] (.fin 22 .done)) (fun w' => w'.cell? ⟨w.heap.size, 0, none⟩ = some (.slice (some ⟨g, 0, none⟩) n' cm) ∧ w'.cell? ⟨g, p, none⟩ = some (.int .i64 mv) ∧ w'.cell? ⟨by_, offy + p, none⟩ = some (.int .i64 yv)) (by kernel_rfl) (by kernel_rfl) (by kernel_rfl) (by kernel_rfl) ⟨c1, c2, c3⟩ (fun hHeld => ?_)
                    simp only [Scr.takes]
                    iterate 22
                      first
                        | (refine tkPass rfl (by rfl) hHeld ?_
                           try simp only [Act.put, List.setIfInBounds_toArray, List.set_cons_zero, List.set_cons_succ])
                        | (refine tkTake (v := ?_) rfl (by rfl) hHeld (fun w' hSw => ?_) ?_
                           rotate_left
                           · (go_simp; try with_reducible rfl)
                           try simp only [Act.put, List.setIfInBounds_toArray, List.set_cons_zero, List.set_cons_succ])
                    refine tkEnd rfl (fun Kf hKf => ?_)
                    go_simp
                    refine hKf.out _ _ ?_
                    clear hKf hHeld
                    refine tkDone ?_
                    simp only [onlyNormal]
                    generalize wr.drew = u4 at *
                    have f2 : u4.frozen? ⟨g, p, none⟩ = false := G4.out.own.frozen p
                    have G5 := hide2 (G4.out.putM p (-1))
                    have G6 := hide2 (G5.out.flagOn true)
                    have c7 := G5.out.flag
                    have f7 := G5.out.free
                    have h7 := Y7.out
                    have z7 := Z7.out
                    have hg2 := (LO.out g rfl).2
                    gi_wp2
                    go_roundw
                    case rel => exact ⟨p + 1, true, xs2.set p (-1), hpn, by simp, G6.out, SK.out, (KO4.out.trans (KeepsOthers.setCell _ _ _)).trans (KeepsOthers.setCell _ _ _), (KP4.out.setCell (p := ⟨g, p, none⟩) hg0 (show W.heap.size + 1 ≠ g by omega) (show W.heap.size ≠ g by omega) _).setCell (p := ⟨b7, 0, none⟩) (show w0.heap.size ≤ b7 by omega) (show W.heap.size + 1 ≠ b7 by omega) (show W.heap.size ≠ b7 by omega) _⟩
                    case measure => simp [intOf]; omega
                · have SK := hide2 (S3.out.skip (fun _ _ h => hlt (by rw [DM.out, DY.out] at h; exact h)))
                  have dlt : decide (yv < mv) = false := decide_eq_false hlt
                  clear hlt
                  refine wpInR_region_scr 22 (.takes [0, 1, 2, 3, 4, 5, 6, 7, 8, 9, 10, 11, 12, 13, 14, 15, 16, 17, 18, 19, 20, 21] (.fin 22 .done)) (fun w' => w'.cell? ⟨w.heap.size, 0, none⟩ = some (.slice (some ⟨g, 0, none⟩) n' cm) ∧ w'.cell? ⟨g, p, none⟩ = some (.int .i64 mv) ∧ w'.cell? ⟨by_, offy + p, none⟩ = some (.int .i64 yv)) (by kernel_rfl) (by kernel_rfl) (by kernel_rfl) (by kernel_rfl) ⟨c1, c2, c3⟩ (fun hHeld => ?_)
                  simp only [Scr.takes]
                  iterate 22
                    first
                      | (refine tkPass rfl (by rfl) hHeld ?_
                         try simp only [Act.put, List.setIfInBounds_toArray, List.set_cons_zero, List.set_cons_succ])
                      | (refine tkTake (v := ?_) rfl (by rfl) hHeld (fun w' hSw => ?_) ?_
                         rotate_left
                         · (go_simp; try with_reducible rfl)
                         try simp only [Act.put, List.setIfInBounds_toArray, List.set_cons_zero, List.set_cons_succ])
                  refine tkEnd rfl (fun Kf hKf => ?_)
                  go_simp
                  refine hKf.out _ _ ?_
                  clear hKf hHeld
                  refine tkDone ?_
                  simp only [onlyNormal]
                  gi_wp2
                  go_roundw
                  case rel => exact ⟨p + 1, ag2, xs2, hpn, by simp, G4.out, SK.out, KO4.out, KP4.out⟩
                  case measure => simp [intOf]; omega
            · have hge : ¬ (p : Int) < (n' : Int) := by omega
              gi_wp2
              refine ⟨KO.out, KP.out, .mk G3.out ?_⟩
              rw [VS.out]
              exact S3.out.leave (by have := hxl.out; omega)
      case done =>
        rintro D zs W3 hD hS3 ⟨xs3, ag3, g3, s3⟩ hK
        have hS4 : valsH zs = L := hS3.trans HL.out
        rw [hS4] at s3
        have HS3 := hide2 s3
        have G3 := hide2 (g3.more hK (by omega) (fun D' hD' => by have := (Array.getElem?_eq_some_iff.1 (hG.out.marks D' hD').1).1; omega))
        have c7 := g3.flag
        have f7 := g3.free
        clear g3 s3 hS3 hS4 hK d1 g1 d0
        gi_wp2
        refine ⟨bounded xs3 + (if ag3 = true then 1 else 0), ?_, D :: Ds, _, ag3, xs3, _, _, _, _, _, _, _, _, _, _, _, _, _, _, _, _, _, _, _, _, _, _, _, _, _, _, _, _, _, _, _, _, _, _, _, _, _, _, _, _, _, _, _, _, ?_, HS3.out.way, fun h => ?_, rfl, rfl⟩
        · have h0 := hMM.out
          cases ag3 with
          | true => have := HS3.out.less rfl; simp; omega
          | false => have := (HS3.out.same rfl).1; subst this; simp; omega
        · exact G3.out.newFlag ag3 4
        · have := (HS3.out.same h).1
          subst this
          exact (HS3.out.same h).2
      case stop =>
        rintro D cc pre W3 _ _ h _
        exact h.elim
end Go.Proofs.Ytcjjmfppkfmheaa
