/- The contract of reduce.Reduce. Conditions: the net reads as a list. -/
import Derived.Test.YtadepofaobdbhaaReduH
import Derived.Test.YtadepofaobdbhaaReduP
namespace Go.Proofs.Ytadepofaobdbhaa
open Go.RowKit

theorem turned_turned (N : PNet) : turned (turned N) = N := by
  cases N with
  | mk P ts => simp [turned, turnT, Function.comp_def]
/-- What a call answers that hands back a net, three numbers and what is wrong. -/
def AnsRed (r : PNet × (Int × Int × Int) × Int) (w : World) (e : Ending) (w' : World) : Prop :=
  ∃ A n c, e = .returned (.tuple #[.agg #[.int .i64 r.1.places, .slice A n c], .agg #[.int .i64 r.2.1.1, .int .i64 r.2.1.2.1, .int .i64 r.2.1.2.2], .int .i64 r.2.2]) ∧ Trans w' A n c r.1.trans ∧ Below w.heap.size w w'
/-- What the loop of Reduce knows. -/
def RedI (B b : Nat) (w : World) (s0 : PSm) (g : Nat) (st : PSm) (c : Nat) (wr : World) : Prop :=
  runS g st c = runS 64 s0 0 ∧ meas st < g ∧ c + g = 64 ∧ SOk st ∧ SmM B b wr st ∧ Below w.heap.size w wr ∧
  Box wr (w.heap.size + 1) 24 #[.int .i64 0, .slice none 0 0] ∧ Box wr (w.heap.size + 2) 25 #[.int .i64 0, .int .i64 0, .int .i64 0] ∧ w.heap.size + 3 ≤ b
theorem RedI.step {B b g c : Nat} {w w1 w2 : World} {s0 st st' : PSm} (h : RedI B b w s0 (g + 1) st c w1) (hs : stepS st = some st') (hm : SmM B b w2 st') (hg : w1.grownBy w2 (some b)) : RedI B b w s0 g st' (c + 1) w2 := by
  obtain ⟨h1, h2, h3, h4, h5, h6, h7, h8, h9⟩ := h
  have := stepS_ok h4 hs
  refine ⟨by rw [← h1, runS_some hs], by omega, by omega, this.1, hm, h6.grown hg h6.size (fun k hk => by cases hk; omega), h7.grown hg (by simp; omega), h8.grown hg (by simp; omega), h9⟩
theorem RedI.grown {B b g c : Nat} {w w1 w2 : World} {s0 st : PSm} (h : RedI B b w s0 g st c w1) (hm : SmM B b w2 st) (hg : w1.grownBy w2 (some b)) : RedI B b w s0 g st c w2 := by
  obtain ⟨h1, h2, h3, h4, h5, h6, h7, h8, h9⟩ := h
  exact ⟨h1, h2, h3, h4, hm, h6.grown hg h6.size (fun k hk => by cases hk; omega), h7.grown hg (by simp; omega), h8.grown hg (by simp; omega), h9⟩

/-- Owned rows stay where a box of another kind is written. -/
theorem own_any {B B2 b ty : Nat} {w w' : World} {cs : Array Value} (hb : Box w b ty cs) (h1 : 76 ≠ ty) (h2 : 3 ≠ ty) (hg : w.grownBy w' (some b)) {v : Value} {n : Nat} {ts : List PTran} (h : OwnSl (OwnTranR B) 3 w B2 76 v n ts) : OwnSl (OwnTranR B) 3 w' B2 76 v n ts :=
  h.kept hg (row_ne_box h hb h1) (fun _ _ hx => hx.box hb h2 hg)

set_option maxRecDepth 100000 in
set_option maxHeartbeats 8000000 in
theorem reduce_calls {w : World} {P : Int} {A : Option Addr} {n c : Nat} {ts : List PTran} (i o : Int) (h : Trans w A n c ts) (hn : n ≤ 2513169434916) :
    Calls Try.prog 9 #[.agg #[.int .i64 P, .slice A n c], .int .i64 i, .int .i64 o] w (AnsRed (redL ⟨P, ts⟩ i o) w) := by
  generalize hw0 : ((w.alloc (.cells #[.int .i64 P, .slice A n c] 24)).alloc (.cells #[.int .i64 0, .slice none 0 0] 24)).alloc (.cells #[.int .i64 0, .int .i64 0, .int .i64 0] 25) = w0
  have D0 := hide2 (show Below w.heap.size w w0 by rw [← hw0]; exact (((Below.refl _ _).alloc (Nat.le_refl _) _).alloc (by simp) _).alloc (by simp; omega) _)
  have X0 := hide2 (show Box w0 w.heap.size 24 #[.int .i64 P, .slice A n c] by rw [← hw0]; exact ((Box.new _ _ _).old _).old _)
  have X1 := hide2 (show Box w0 (w.heap.size + 1) 24 #[.int .i64 0, .slice none 0 0] by rw [← hw0]; exact (Box.newAt (by simp) _ _).old _)
  have X2 := hide2 (show Box w0 (w.heap.size + 1 + 1) 25 #[.int .i64 0, .int .i64 0, .int .i64 0] by rw [← hw0]; exact Box.newAt (by simp) _ _)
  have H := hide2 h
  have C0 := hide2 (shapeWrong_calls (P := P) i o (Trans.keep h D0.out) hn)
  clear h
  obtain ⟨e0, he0⟩ : ∃ e, shapeL ⟨P, ts⟩ i o = e := ⟨_, rfl⟩
  rw [he0] at C0
  have HE := hide2 he0
  clear he0
  obtain ⟨c0, c1⟩ := X0.out.two
  go_enter Try.func9, Try.ntmps9
  go_upto_region 1 with fail
  clear hw0
  go_upto_region 2 with ((with_reducible refine C0.out.mono ?_); rintro e w1 ⟨rfl, hb⟩)
  have D1 := hide2 (D0.out.trans (hb.mono D0.out.size))
  have Y0 := hide2 (X0.out.keep hb)
  have Y1 := hide2 (X1.out.keep hb)
  have Y2 := hide2 (X2.out.keep hb)
  clear hb c0 c1 X0 X1 X2 C0 D0
  by_cases hz : e0 = 0
  · subst hz
    have RL := hide2 (show redL ⟨P, ts⟩ i o = ((runS 64 ⟨⟨P, ts⟩, i, o⟩ 0).1.net, ((runS 64 ⟨⟨P, ts⟩, i, o⟩ 0).1.i, (runS 64 ⟨⟨P, ts⟩, i, o⟩ 0).1.o, ((runS 64 ⟨⟨P, ts⟩, i, o⟩ 0).2 : Int)), 0) by unfold redL; rw [if_pos HE.out])
    have SK := hide2 (shape_sok HE.out)
    obtain ⟨c0, c1⟩ := Y0.out.two
    have CT := hide2 (netTurned_calls (P := P) (Trans.keep H.out D1.out) hn)
    have LEN := hide2 H.out.len
    go_wp2_with fail
    (with_reducible refine CT.out.mono ?_)
    rintro e w2 ⟨A2, n2, k2, rfl, T2, hb⟩
    rw [show (turned ⟨P, ts⟩).places = P from rfl]
    have hn2 : n2 ≤ 2513169434916 := by
      have h1 := T2.len
      simp only [turned, List.length_map] at h1
      have := LEN.out
      omega
    have CT2 := hide2 (netTurnedO_calls (P := P) T2 hn2)
    have D2 := hide2 (D1.out.trans (hb.mono D1.out.size))
    have Z1 := hide2 (Y1.out.keep hb)
    have Z2 := hide2 (Y2.out.keep hb)
    clear hb T2 c0 c1 Y0 Y1 Y2
    go_wp2_with fail
    (with_reducible refine CT2.out.mono ?_)
    rintro e w3 ⟨A3, n3, k3, rfl, O3, hb⟩
    rw [show (turned ⟨P, (turned ⟨P, ts⟩).trans⟩).places = P from rfl]
    rw [show (turned ⟨P, (turned ⟨P, ts⟩).trans⟩).trans = ts from congrArg PNet.trans (turned_turned ⟨P, ts⟩)] at O3
    have D3 := hide2 (D2.out.trans (hb.mono D2.out.size))
    have V1 := hide2 (Z1.out.keep hb)
    have V2 := hide2 (Z2.out.keep hb)
    have O3' := hide2 O3
    have SZ := hide2 hb.size
    clear hb O3
    have hn3 : n3 ≤ 24 := by
      have h1 := O3'.out.len
      have := ((netOk_iff _).1 (SK.out.1.1)).2.2.1
      simp only at this
      omega
    go_upto_region 5 with fail
    generalize hw4 : w3.alloc (.cells #[.int .i64 P, .slice A3 n3 k3, .int .i64 i, .int .i64 o] 66) = w4
    have B34 : Below w3.heap.size w3 w4 := by rw [← hw4]; exact boxBelow _ _
    have XB : Box w4 w3.heap.size 66 #[.int .i64 P, .slice A3 n3 k3, .int .i64 i, .int .i64 o] := by rw [← hw4]; exact Box.new _ _ _
    obtain ⟨b, hb3⟩ : ∃ q, w3.heap.size = q := ⟨_, rfl⟩
    have RI := hide2 (show RedI w2.heap.size b w ⟨⟨P, ts⟩, i, o⟩ 64 ⟨⟨P, ts⟩, i, o⟩ 0 w4 from by
      refine ⟨rfl, by have := SK.out.2; omega, rfl, SK.out.1, ⟨A3, n3, k3, by have := SZ.out; omega, by rw [← hb3]; exact XB, O3'.out.keep (OwnTranR.kept _) B34, hn3⟩, D3.out.trans (B34.mono D3.out.size), V1.out.keep B34, V2.out.keep B34, ?_⟩
      have := Z2.out.lt
      have := SZ.out
      omega)
    rw [hb3]
    clear hw4 B34 XB hb3 hn3 O3' V1 V2 Z1 Z2 D3 D2 D1 H CT CT2 SZ
    go_wp2
    go_loopg [11] 64 (fun gk v wr => ∃ (st : PSm) (c : Nat), v = .int .i64 c ∧ Hid (RedI w2.heap.size b w ⟨⟨P, ts⟩, i, o⟩ gk st c wr))
    case atStart => exact ⟨_, 0, rfl, RI.out⟩
    case round =>
      obtain ⟨st, c, rfl, R⟩ := hrel
      have hc64 : c ≤ 64 := by have := R.out.2.2.1; omega
      have SO := hide2 R.out.2.2.2.1
      have SM := hide2 R.out.2.2.2.2.1
      have HG := hide2 (show 0 < gk from by have := R.out.2.1; omega)
      have C1 := hide2 (trans_calls SM.out)
      cases h1 : stT st with
      | some st' =>
        have ST := hide2 (show stepS st = some st' by unfold stepS; rw [h1]; rfl)
        rw [h1] at C1
        clear h1
        go_wp2_with ((with_reducible refine C1.out.mono ?_); rintro e w5 ⟨rfl, hs, hg⟩; have NX := hide2 (show RedI w2.heap.size b w ⟨⟨P, ts⟩, i, o⟩ (gk - 1) st' (c + 1) w5 from by have hh := R.out; rw [show gk = gk - 1 + 1 by have := HG.out; omega] at hh; exact hh.step ST.out hs hg); clear hs hg)
        go_roundg (gk - 1)
        case measure => have := HG.out; omega
        case rel => exact ⟨st', c + 1, by go_num, NX.out⟩
      | none =>
        rw [h1] at C1
        have E1 := hide2 h1
        clear h1
        go_wp2_with fail
        (with_reducible refine C1.out.mono ?_)
        rintro e w5 ⟨rfl, hs, hg⟩
        have R5 := hide2 (R.out.grown hs hg)
        have C2 := hide2 (places_calls (show SmM w2.heap.size b w5 st from hs) SO.out.1 SO.out.2.1 SO.out.2.2)
        clear hs hg R
        cases h2 : stP st with
        | some st' =>
          have ST := hide2 (show stepS st = some st' by unfold stepS; rw [E1.out, h2]; rfl)
          rw [h2] at C2
          clear h2
          go_wp2_with ((with_reducible refine C2.out.mono ?_); rintro e w6 ⟨rfl, hs, hg⟩; have NX := hide2 (show RedI w2.heap.size b w ⟨⟨P, ts⟩, i, o⟩ (gk - 1) st' (c + 1) w6 from by have hh := R5.out; rw [show gk = gk - 1 + 1 by have := HG.out; omega] at hh; exact hh.step ST.out hs hg); clear hs hg)
          go_roundg (gk - 1)
          case measure => have := HG.out; omega
          case rel => exact ⟨st', c + 1, by go_num, NX.out⟩
        | none =>
          rw [h2] at C2
          have E2 := hide2 h2
          clear h2
          go_wp2_with fail
          (with_reducible refine C2.out.mono ?_)
          rintro e w6 ⟨rfl, hs, hg⟩
          have R6 := hide2 (R5.out.grown hs hg)
          have C3 := hide2 (series_calls (show SmM w2.heap.size b w6 st from hs) SO.out.1 SO.out.2.1 SO.out.2.2)
          clear hs hg R5
          cases h3 : stS st with
          | some st' =>
            have ST := hide2 (show stepS st = some st' by unfold stepS; rw [E1.out, E2.out, h3]; rfl)
            rw [h3] at C3
            clear h3
            go_wp2_with ((with_reducible refine C3.out.mono ?_); rintro e w7 ⟨rfl, hs, hg⟩; have NX := hide2 (show RedI w2.heap.size b w ⟨⟨P, ts⟩, i, o⟩ (gk - 1) st' (c + 1) w7 from by have hh := R6.out; rw [show gk = gk - 1 + 1 by have := HG.out; omega] at hh; exact hh.step ST.out hs hg); clear hs hg)
            go_roundg (gk - 1)
            case measure => have := HG.out; omega
            case rel => exact ⟨st', c + 1, by go_num, NX.out⟩
          | none =>
            have ST := hide2 (show stepS st = none by unfold stepS; rw [E1.out, E2.out, h3]; rfl)
            rw [h3] at C3
            clear h3
            go_upto_region 8 with ((with_reducible refine C3.out.mono ?_); rintro e w7 ⟨rfl, hs, hg⟩; have R7 := hide2 (R6.out.grown hs hg); clear hs hg)
            obtain ⟨rn, rm, rc, rk, ⟨A5, n5, c5, hB5, XB, own5, hn5⟩, BW, XN, XT, hb3⟩ := R7.out
            have RS := hide2 (show runS 64 ⟨⟨P, ts⟩, i, o⟩ 0 = (st, c) by rw [← rn]; exact runS_none ST.out)
            have RL2 := hide2 (show redL ⟨P, ts⟩ i o = (st.net, (st.i, st.o, (c : Int)), 0) by rw [RL.out, RS.out])
            have k0 : w7.cell? ⟨b, 0, none⟩ = some (.int .i64 st.net.places) := XB.cell 0
            have k1 : w7.cell? ⟨b, 1, none⟩ = some (.slice A5 n5 c5) := XB.cell 1
            have k2' : w7.cell? ⟨b, 2, none⟩ = some (.int .i64 st.i) := XB.cell 2
            have k3' : w7.cell? ⟨b, 3, none⟩ = some (.int .i64 st.o) := XB.cell 3
            obtain ⟨A5', c5', hv5, hs5⟩ := own5.sl (by omega)
            injection hv5 with a1 a2 a3
            subst a1 a3
            have TR := hide2 (show Trans w7 A5 n5 c5 st.net.trans from hs5.imp fun _ _ h => h.tran)
            have NA := hide2 (show b ≠ w.heap.size + 1 ∧ b ≠ w.heap.size + 2 from ⟨by omega, by omega⟩)
            have BWd := hide2 (show Below w.heap.size w w7.drew from BW.drew)
            have XBd := hide2 (show Box w7.drew b 66 #[.int .i64 st.net.places, .slice A5 n5 c5, .int .i64 st.i, .int .i64 st.o] from XB)
            have XNd := hide2 (show Box w7.drew (w.heap.size + 1) 24 #[.int .i64 0, .slice none 0 0] from XN)
            have XTd := hide2 (show Box w7.drew (w.heap.size + 1 + 1) 25 #[.int .i64 0, .int .i64 0, .int .i64 0] from XT)
            have OWd := hide2 (show OwnSl (OwnTranR w2.heap.size) 3 w7.drew w2.heap.size 76 (.slice A5 n5 c5) n5 st.net.trans from own5.keep (OwnTranR.kept _) (Below.refl _ _).drew)
            clear rn rm rc rk hB5 XB own5 BW XN XT hs5 R7 R6 C1 C2 C3
            refine wp_region_scr 15 (.takes [0, 1, 2, 3, 4, 5, 6, 7, 8, 9, 10, 11, 12, 13] (.one 14 (.fins [15, 16] .done))) (fun w' => w'.cell? ⟨b, 0, none⟩ = some (.int .i64 st.net.places) ∧ w'.cell? ⟨b, 1, none⟩ = some (.slice A5 n5 c5) ∧ w'.cell? ⟨b, 2, none⟩ = some (.int .i64 st.i) ∧ w'.cell? ⟨b, 3, none⟩ = some (.int .i64 st.o)) (by kernel_rfl) (by kernel_rfl) (by kernel_rfl) (fun _ _ _ _ _ h => h) ⟨k0, k1, k2', k3'⟩ (fun hHeld => ?_)
            simp only [Scr.takes, Scr.fins]
            generalize w7.drew = w8 at *
            iterate 14
              refine tkTake (v := ?_) rfl (by rfl) hHeld (fun w' hSw => ?_) ?_
              rotate_left
              · (go_simp; try with_reducible rfl)
              try simp only [Act.put, List.setIfInBounds_toArray, List.set_cons_zero, List.set_cons_succ]
            have f0 := XNd.out.frozen 0
            have f1 := XNd.out.frozen 1
            obtain ⟨g0, g1⟩ := XNd.out.two
            refine tkOne rfl (fun K hK => ?_)
            go_simp
            have XN9 := hide2 (XNd.out.set2 (.int .i64 st.net.places) (.slice A5 n5 c5))
            have XT9 := hide2 ((XTd.out.other (a := ⟨w.heap.size + 1, 0, none⟩) (.int .i64 st.net.places) (by simp)).other (a := ⟨w.heap.size + 1, 1, none⟩) (.slice A5 n5 c5) (by simp))
            have XB9 := hide2 ((XBd.out.other (a := ⟨w.heap.size + 1, 0, none⟩) (.int .i64 st.net.places) NA.out.1).other (a := ⟨w.heap.size + 1, 1, none⟩) (.slice A5 n5 c5) NA.out.1)
            have BW9 := hide2 ((BWd.out.setCell (p := ⟨w.heap.size + 1, 0, none⟩) (by simp) (.int .i64 st.net.places)).setCell (p := ⟨w.heap.size + 1, 1, none⟩) (by simp) (.slice A5 n5 c5))
            have OW9 := hide2 (own_any XNd.out (by decide) (by decide) (grown_setB (j := 1) (u := .slice A5 n5 c5) (grown_setB (j := 0) (u := .int .i64 st.net.places) (grown_reflB w8 (some (w.heap.size + 1))))) OWd.out)
            refine hK.out _ _ ⟨XB9.out.cell 0, XB9.out.cell 1, XB9.out.cell 2, XB9.out.cell 3⟩ (fun hHeld => ?_)
            clear hK g0 g1 f0 f1
            try simp only [Act.put, List.setIfInBounds_toArray, List.set_cons_zero, List.set_cons_succ]
            generalize (w8.setCell ⟨w.heap.size + 1, 0, none⟩ (.int .i64 st.net.places)).setCell ⟨w.heap.size + 1, 1, none⟩ (.slice A5 n5 c5) = w9 at *
            have f0 := XT9.out.frozen 0
            have f1 := XT9.out.frozen 1
            have f2 := XT9.out.frozen 2
            obtain ⟨g0, g1, g2⟩ := XT9.out.three
            refine tkEnd rfl (fun K hK => ?_)
            go_simp
            have XT10 := hide2 (XT9.out.set3 (.int .i64 st.i) (.int .i64 st.o) (.int .i64 (c : Int)))
            have XN10 := hide2 (XN9.out.other3 (b := w.heap.size + 1 + 1) (by omega) (.int .i64 st.i) (.int .i64 st.o) (.int .i64 (c : Int)))
            have BW10 := hide2 (below_set3 (b := w.heap.size + 1 + 1) BW9.out (by omega) (.int .i64 st.i) (.int .i64 st.o) (.int .i64 (c : Int)))
            have OW10 := hide2 (own_any XT9.out (by decide) (by decide) (grown_setB (j := 2) (u := .int .i64 (c : Int)) (grown_setB (j := 1) (u := .int .i64 st.o) (grown_setB (j := 0) (u := .int .i64 st.i) (grown_reflB w9 (some (w.heap.size + 1 + 1)))))) OW9.out)
            refine hK.out _ _ ?_
            clear hK g0 g1 g2 f0 f1 f2
            try simp only [Act.put, List.setIfInBounds_toArray, List.set_cons_zero, List.set_cons_succ]
            generalize ((w9.setCell ⟨w.heap.size + 1 + 1, 0, none⟩ (.int .i64 st.i)).setCell ⟨w.heap.size + 1 + 1, 1, none⟩ (.int .i64 st.o)).setCell ⟨w.heap.size + 1 + 1, 2, none⟩ (.int .i64 (c : Int)) = w10 at *
            refine tkEnd rfl (fun K hK => ?_)
            go_simp
            refine hK.out _ _ ?_
            clear hK
            try simp only [Act.put, List.setIfInBounds_toArray, List.set_cons_zero, List.set_cons_succ]
            refine tkDone ?_
            obtain ⟨y0, y1⟩ := XN10.out.two
            obtain ⟨y2, y3, y4⟩ := XT10.out.three
            go_wp2
            refine bodyPost_ret (v := .tuple #[.agg #[.int .i64 st.net.places, .slice A5 n5 c5], .agg #[.int .i64 st.i, .int .i64 st.o, .int .i64 (c : Int)], .int .i64 0]) (by simp [results, Try.results9, go_sem, y0, y1, y2, y3, y4]) rfl ?_
            obtain ⟨A6, c6, hv6, hs6⟩ := OW10.out.sl (by omega)
            injection hv6 with a1 a2 a3
            subst a1 a3
            rw [RL2.out]
            exact ⟨A5, n5, c5, rfl, hs6.imp fun _ _ h => h.tran, BW10.out⟩
  · have RL := hide2 (show redL ⟨P, ts⟩ i o = (⟨0, []⟩, (0, 0, 0), e0) by unfold redL; rw [HE.out, if_neg hz])
    have hz' : (e0 == 0) = false := by simpa using hz
    have f0 := Y1.out.frozen 0
    have f1 := Y1.out.frozen 1
    obtain ⟨g0, g1⟩ := Y1.out.two
    have g3 := Y2.out.frozen 0
    have g4 := Y2.out.frozen 1
    have g5 := Y2.out.frozen 2
    obtain ⟨g6, g7, g8⟩ := Y2.out.three
    go_wp2
    have WN := Y1.out.set2 (.int .i64 0) (.slice none 0 0)
    have WT := (((Y2.out.other (a := ⟨w.heap.size + 1, 0, none⟩) (.int .i64 0) (by simp)).other (a := ⟨w.heap.size + 1, 1, none⟩) (.slice none 0 0) (by simp)).set3 (.int .i64 0) (.int .i64 0) (.int .i64 0))
    have WN' := WN.other3 (b := w.heap.size + 1 + 1) (by omega) (.int .i64 0) (.int .i64 0) (.int .i64 0)
    have WB := below_set3 (b := w.heap.size + 1 + 1) ((D1.out.setCell (p := ⟨w.heap.size + 1, 0, none⟩) (by simp) (.int .i64 0)).setCell (p := ⟨w.heap.size + 1, 1, none⟩) (by simp) (.slice none 0 0)) (by omega) (.int .i64 0) (.int .i64 0) (.int .i64 0)
    obtain ⟨y0, y1⟩ := WN'.two
    obtain ⟨y2, y3, y4⟩ := WT.three
    refine bodyPost_ret (v := .tuple #[.agg #[.int .i64 0, .slice none 0 0], .agg #[.int .i64 0, .int .i64 0, .int .i64 0], .int .i64 e0]) (by simp [results, Try.results9, go_sem, y0, y1, y2, y3, y4]) rfl ?_
    rw [RL.out]
    exact ⟨none, 0, 0, rfl, Sl.nil0, WB⟩
end Go.Proofs.Ytadepofaobdbhaa
