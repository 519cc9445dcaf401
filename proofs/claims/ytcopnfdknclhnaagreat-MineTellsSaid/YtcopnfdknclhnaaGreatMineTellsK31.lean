/- slices.SortStableFunc on rows of lists: insertion. Conditions: the row is the call's own, as its lists are; of two lists that differ the comparison puts exactly one first. -/
import Derived.Test.YtcopnfdknclhnaaGreatMineTellsK30
namespace Go.Proofs.YtcopnfdknclhnaaGreat
open Go.RowKit

theorem tkPassI {P : Program} {ops : Array Oper} {Q : Exit → Act → World → Prop} {S : World → Prop} {i : Nat} {r : Scr} {a : Act} {w : World} {o : Oper} (ho : nth ops.toList i = some o) (hw : Region.wanted o (yielded ops a.tmps) = false) (hS : S w)
    (h : wpScr P ops Q S r (a.put o.dst undef) w) : wpScr P ops Q S (.take i r) a w :=
  ⟨o, undef, nth_ops ho, .inr ⟨hw, rfl⟩, hS, h⟩
/-- Function F, with what it captured, tells of two lists of S that differ whether the first stands before the other; in each later world where block g may have turned. -/
structure IsCmpG (F : FuncId) (cv : Array Value) (w : World) (g : Nat) (R : List Int → List Int → Prop) (S : List Int → Prop) : Prop where
  enters : ∀ args w, (callFunc F args).run Tryz.prog w = .ok (.enter F args) w
  calls : ∀ (wr : World) (A B : Option Addr) (n c m d : Nat) (x y : List Int), w.grownBy wr (some g) → Ints wr A n c x → Ints wr B m d y → S x → S y → x ≠ y →
    Calls Tryz.prog F (#[.slice A n c, .slice B m d] ++ cv) wr fun e w' => ∃ v : Int, e = .returned (.int .i64 v) ∧ (v < 0 ↔ R x y) ∧ Below wr.heap.size wr w'
theorem IsCmpG.later {F : FuncId} {cv : Array Value} {w w' : World} {g : Nat} {R : List Int → List Int → Prop} {S : List Int → Prop} (h : IsCmpG F cv w g R S) (hg : w.grownBy w' (some g)) : IsCmpG F cv w' g R S :=
  ⟨h.enters, fun wr A B n c m d x y h1 => h.calls wr A B n c m d x y (hg.trans h1)⟩

set_option maxRecDepth 100000 in
set_option maxHeartbeats 8000000 in
theorem insertL_calls {w : World} {B B2 g n cap : Nat} {f : Nat → List Int} {F : FuncId} {cv : Array Value} {R : List Int → List Int → Prop} {S : List Int → Prop} (own : RowF w B B2 g n cap f) (a b : Nat) (hab : a ≤ b) (hb : b ≤ n) (hn : n ≤ 1000) (o : OrdF R S) (G : GoodF S f n) (hF : IsCmpG F cv w g R S) :
    Calls Tryz.prog 88 #[.slice (some ⟨g, 0, none⟩) n cap, .int .i64 a, .int .i64 b, .func (.func F) #[] cv] w fun e w' => (∃ y, e = .returned y) ∧ (∃ q, RowF w' B B2 g n cap q ∧ GoodF S q n ∧ SegF R q a b ∧ SameF q f a b) ∧ w.grownBy w' (some g) := by
  have OW := hide2 own
  have henter := hF.enters
  have HF := hide2 hF
  have HO := hide2 o
  have GD := hide2 G
  clear own hF o G
  have hwa : IntKind.i64.wrap ((a : Int) + 1) = (a : Int) + 1 := by simp [IntKind.wrap, IntKind.bits, IntKind.signed]; omega
  go_enter Tryz.func88, Tryz.ntmps88
  go_wp2
  clear hwa
  go_loopg [8] (b - a) (fun gk u wr => ∃ (i : Nat) (q : Nat → List Int), u = .int .i64 ((i + 1 : Nat) : Int) ∧ a ≤ i ∧ (i < b → i + gk = b) ∧ (i < b ∨ i = a) ∧ Hid (SegF R q a (i + 1) ∧ GoodF S q n ∧ SameF q f a b) ∧ Hid (RowF wr B B2 g n cap q) ∧ Hid (w.grownBy wr (some g)))
  case atStart => exact ⟨a, f, by simp, Nat.le_refl _, by omega, by omega, hide2 ⟨fun i j h1 h2 h3 => by omega, GD.out, SameF.refl _ _ _⟩, OW, hide2 (World.grownBy.refl _ _)⟩
  case round =>
    clear OW
    obtain ⟨i, q, rfl, hai, hgk, hib, SE, OL, GR⟩ := hrel
    by_cases hlt : i + 1 < b
    · have hlti : (i : Int) + 1 < (b : Int) := by omega
      have HGK := hide2 (show gk = (gk - 1) + 1 ∧ (i + 1 < b → (i + 1) + (gk - 1) = b) by have := hgk (by omega); omega)
      have INS := hide2 (InsF.start SE.out.1 (by omega))
      obtain ⟨go, hgo⟩ : ∃ go : Nat, go = gk := ⟨_, rfl⟩
      subst hgo
      go_wp2
      go_loopg [9] (i + 1 - a) (fun gk u wr => ∃ (j : Nat) (q : Nat → List Int), u = .int .i64 j ∧ j = a + gk ∧ j ≤ i + 1 ∧ Hid (InsF R q a j (i + 1) ∧ GoodF S q n ∧ SameF q f a b) ∧ Hid (RowF wr B B2 g n cap q) ∧ Hid (w.grownBy wr (some g)))
      case atStart => exact ⟨i + 1, q, by simp, by omega, Nat.le_refl _, hide2 ⟨INS.out, SE.out.2⟩, OL, GR⟩
      case round =>
        clear INS SE OL GR
        obtain ⟨j, q, rfl, hj, hji, SE, OL, GR⟩ := hrel
        have OD := hide2 (OL.out.keep ((Below.refl wr.heap.size wr).drew))
        have GX := hide2 (GR.out.trans (gnone2 ((Below.refl wr.heap.size wr).drew) (some g)))
        clear OL GR
        by_cases haj : a < j
        · obtain ⟨p, rfl⟩ : ∃ p, j = p + 1 := ⟨j - 1, by omega⟩
          have haji : (a : Int) < (p : Int) + 1 := by omega
          have hp0 : 0 ≤ (p : Int) + 1 := by omega
          have hp1 : (p : Int) + 1 < (n : Int) := by omega
          have hp2 : (p : Int) < (n : Int) := by omega
          have hwp : IntKind.i64.wrap (p : Int) = (p : Int) := by simp [IntKind.wrap, IntKind.bits, IntKind.signed]; omega
          have HJ := hide2 (show gk = (gk - 1) + 1 ∧ p = a + (gk - 1) ∧ p ≤ i + 1 by omega)
          clear hj
          obtain ⟨Ax, mx, cx, q1, ix, hmx⟩ := OD.out.at (tabF_at (f := q) (show p + 1 < n by omega))
          obtain ⟨Ay, my, cy, q2, iy, hmy⟩ := OD.out.at (tabF_at (f := q) (show p < n by omega))
          have CL := hide2 (HF.out.calls wr.drew Ax Ay mx cx my cy (q (p + 1)) (q p) GX.out (RowG.ints ix hmx) (RowG.ints iy hmy) (SE.out.2.1.mem _ (by omega)) (SE.out.2.1.mem _ (by omega)) (fun e => by have := SE.out.2.1.inj _ _ (by omega) (by omega) e; omega))
          clear ix iy
          go_upto_region 4 with fail
          refine wp_region_scr 16 (.takes [0, 1, 2, 3, 4, 5, 6, 7, 8, 9, 10, 11, 12, 13] (.one 14 (.take 15 (.fin 16 .done)))) (fun w' => w'.cell? ⟨g, p + 1, none⟩ = some (.slice Ax mx cx) ∧ w'.cell? ⟨g, p, none⟩ = some (.slice Ay my cy)) (by kernel_rfl) (by kernel_rfl) (by kernel_rfl) (fun _ _ _ _ _ h => h) ⟨q1, q2⟩ (fun hHeld => ?_)
          simp only [Scr.takes]
          clear q1 q2
          generalize wr.drew = y1 at *
          have HGB := hide2 (OD.out.lt g rfl).2
          iterate 2
            refine tkTake (v := ?_) rfl (by rfl) hHeld (fun w' hSw => ?_) ?_
            rotate_left
            · (go_simp; try with_reducible rfl)
            try simp only [Act.put, List.setIfInBounds_toArray, List.set_cons_zero, List.set_cons_succ]
          refine tkTake (v := .bool true) rfl (by rfl) hHeld (fun w' hSw => ?_) ?_
          · (go_simp; try with_reducible rfl)
          try simp only [Act.put, List.setIfInBounds_toArray, List.set_cons_zero, List.set_cons_succ]
          refine tkTake (v := .bool true) rfl (by rfl) hHeld (fun w' hSw => ?_) ?_
          · (go_simp; try with_reducible rfl)
          try simp only [Act.put, List.setIfInBounds_toArray, List.set_cons_zero, List.set_cons_succ]
          iterate 10
            refine tkTake (v := ?_) rfl (by rfl) hHeld (fun w' hSw => ?_) ?_
            rotate_left
            · (go_simp; try with_reducible rfl)
            try simp only [Act.put, List.setIfInBounds_toArray, List.set_cons_zero, List.set_cons_succ]
          refine tkOne rfl (fun Kf hKf => ?_)
          go_simp
          refine CL.out.mono ?_
          rintro e y2 ⟨cv2, rfl, hv, hb2⟩
          refine hKf.out _ _ ⟨(hb2.cell (p := ⟨g, p + 1, none⟩) HGB.out).trans hHeld.1, (hb2.cell (p := ⟨g, p, none⟩) HGB.out).trans hHeld.2⟩ (fun hHeld => ?_)
          clear hKf
          try simp only [Act.put, List.setIfInBounds_toArray, List.set_cons_zero, List.set_cons_succ]
          have O2 := hide2 (OD.out.keep hb2)
          have G2 := hide2 (GX.out.trans (gnone2 hb2 (some g)))
          have HV := hide2 hv
          clear hb2 hv CL OD GX HGB
          by_cases hneg : cv2 < 0
          · refine tkTake (v := .bool true) rfl (by rfl) hHeld (fun w' hSw => ?_) ?_
            · (go_simp; try with_reducible rfl)
            try simp only [Act.put, List.setIfInBounds_toArray, List.set_cons_zero, List.set_cons_succ]
            refine tkEnd rfl (fun Kf hKf => ?_)
            go_simp
            refine hKf.out _ _ ?_
            clear hKf
            try simp only [Act.put, List.setIfInBounds_toArray, List.set_cons_zero, List.set_cons_succ]
            refine tkDone ?_
            clear hHeld
            have DN := hide2 (SE.out.1.down haj (by simpa using HV.out.1 hneg))
            have GN := hide2 (SE.out.2.1.swap (i := p + 1) (j := p) (by omega) (by omega))
            have SN := hide2 ((SameF.swap q (a := a) (b := b) (i := p + 1) (j := p) (by omega) (by omega)).trans SE.out.2.2)
            clear hneg HV
            have OD := hide2 (O2.out.keep ((Below.refl y2.heap.size y2).drew))
            have GX := hide2 (G2.out.trans (gnone2 ((Below.refl y2.heap.size y2).drew) (some g)))
            obtain ⟨Ax, mx, cx, q1, ix, hmx⟩ := OD.out.at (tabF_at (f := q) (show p + 1 < n by omega))
            obtain ⟨Ay, my, cy, q2, iy, hmy⟩ := OD.out.at (tabF_at (f := q) (show p < n by omega))
            have IX := hide2 ix
            have IY := hide2 iy
            clear ix iy O2 G2
            go_upto_region 6 with fail
            refine wp_region_scrL 14 [2, 3, 4] 15 (.takes [0, 1, 5, 6, 7, 8, 9, 10, 11, 12, 13] (.fin 14 (.fin 15 (.fin 16 (.fin 17 .done))))) (fun w' => w'.cell? ⟨g, p + 1, none⟩ = some (.slice Ax mx cx) ∧ w'.cell? ⟨g, p, none⟩ = some (.slice Ay my cy)) (by kernel_rfl) (by kernel_rfl) (by kernel_rfl) rfl (by kernel_rfl) (fun _ _ _ _ _ h => h) ⟨q1, q2⟩ (fun hHeld => ?_)
            generalize y2.drew = y3 at *
            iterate 3
              refine tkPure (v := ?_) rfl (by rfl) (fun w' => ?_) ?_
              rotate_left
              · (go_simp; try with_reducible rfl)
              try simp only [Act.put, List.setIfInBounds_toArray, List.set_cons_zero, List.set_cons_succ]
            simp only [wpPures, Scr.takes]
            iterate 11
              refine tkTake (v := ?_) rfl (by rfl) hHeld (fun w' hSw => ?_) ?_
              rotate_left
              · (go_simp; try with_reducible rfl)
              try simp only [Act.put, List.setIfInBounds_toArray, List.set_cons_zero, List.set_cons_succ]
            clear q1 q2 hHeld
            have z1 := OD.out.frozen (p + 1)
            obtain ⟨v1, y10⟩ := Option.isSome_iff_exists.1 (RowG.anyCell OD.out (j := p + 1) (by omega))
            refine tkEnd rfl (fun Kf hKf => ?_)
            go_simp
            refine hKf.out _ _ ?_
            clear hKf
            try simp only [Act.put, List.setIfInBounds_toArray, List.set_cons_zero, List.set_cons_succ]
            refine tkEnd rfl (fun Kf hKf => ?_)
            go_simp
            refine hKf.out _ _ ?_
            clear hKf z1 y10
            try simp only [Act.put, List.setIfInBounds_toArray, List.set_cons_zero, List.set_cons_succ]
            have O2 := hide2 (RowG.put OD.out (p + 1) IY.out hmy)
            have G2 := hide2 (GX.out.trans (grownG y3 g (p + 1) (.slice Ay my cy)))
            have IX2 := hide2 (intsAt_put OD.out IX.out (p + 1) (.slice Ay my cy))
            generalize y3.setCell ⟨g, p + 1, none⟩ (.slice Ay my cy) = y4 at *
            have z2 := O2.out.frozen p
            obtain ⟨v2, y20⟩ := Option.isSome_iff_exists.1 (RowG.anyCell O2.out (j := p) (by omega))
            refine tkEnd rfl (fun Kf hKf => ?_)
            go_simp
            refine hKf.out _ _ ?_
            clear hKf
            try simp only [Act.put, List.setIfInBounds_toArray, List.set_cons_zero, List.set_cons_succ]
            refine tkEnd rfl (fun Kf hKf => ?_)
            go_simp
            refine hKf.out _ _ ?_
            clear hKf z2 y20
            try simp only [Act.put, List.setIfInBounds_toArray, List.set_cons_zero, List.set_cons_succ]
            have O3 := hide2 (RowG.put O2.out p IX2.out hmx)
            have G3 := hide2 (G2.out.trans (grownG y4 g p (.slice Ax mx cx)))
            refine tkDone ?_
            generalize y4.setCell ⟨g, p, none⟩ (.slice Ax mx cx) = y5 at *
            have O4 := hide2 (show RowF y5 B B2 g n cap (swapF q (p + 1) p) by
              have := O3.out
              rw [tabF_swap (f := q) (show p + 1 < n by omega) (show p < n by omega)] at this
              exact this)
            clear O2 O3 OD
            go_wp2
            go_roundg (gk - 1)
            case measure => have := HJ.out.1; omega
            case rel => exact ⟨p, _, by go_num, HJ.out.2.1, HJ.out.2.2, hide2 ⟨by have := DN.out; simpa using this, GN.out, SN.out⟩, O4, G3⟩
          · refine tkTake (v := .bool false) rfl (by rfl) hHeld (fun w' hSw => ?_) ?_
            · (go_simp; try with_reducible rfl)
            try simp only [Act.put, List.setIfInBounds_toArray, List.set_cons_zero, List.set_cons_succ]
            refine tkEnd rfl (fun Kf hKf => ?_)
            go_simp
            refine hKf.out _ _ ?_
            clear hKf
            try simp only [Act.put, List.setIfInBounds_toArray, List.set_cons_zero, List.set_cons_succ]
            refine tkDone ?_
            clear hHeld
            have SX := hide2 (SE.out.1.stop HO.out SE.out.2.1 (by omega) (fun _ => by simpa using fun h => hneg (HV.out.2 h)))
            clear hneg HV
            go_wp2
            go_roundg (go - 1)
            case measure => have := HGK.out.1; omega
            case rel => exact ⟨i + 1, q, by go_num, by omega, HGK.out.2, .inl hlt, hide2 ⟨SX.out, SE.out.2⟩, O2, G2⟩
        · obtain rfl : j = a := by omega
          clear hj
          have SX := hide2 (SE.out.1.stop HO.out SE.out.2.1 (by omega) (fun h => absurd h haj))
          have O2 := OD
          have G2 := GX
          go_upto_region 4 with fail
          refine wp_region_scr 16 (.takes [0, 1, 2, 3, 4, 5, 6, 7, 8, 9, 10, 11, 12, 13] (.one 14 (.take 15 (.fin 16 .done)))) (fun _ => True) (by kernel_rfl) (by kernel_rfl) (by kernel_rfl) (fun _ _ _ _ _ h => h) trivial (fun hHeld => ?_)
          simp only [Scr.takes]
          generalize wr.drew = y1 at *
          iterate 2
            refine tkTake (v := ?_) rfl (by rfl) hHeld (fun w' hSw => ?_) ?_
            rotate_left
            · (go_simp; try with_reducible rfl)
            try simp only [Act.put, List.setIfInBounds_toArray, List.set_cons_zero, List.set_cons_succ]
          refine tkTake (v := .bool false) rfl (by rfl) hHeld (fun w' hSw => ?_) ?_
          · (go_simp; try with_reducible rfl)
          try simp only [Act.put, List.setIfInBounds_toArray, List.set_cons_zero, List.set_cons_succ]
          refine tkTake (v := .bool false) rfl (by rfl) hHeld (fun w' hSw => ?_) ?_
          · (go_simp; try with_reducible rfl)
          try simp only [Act.put, List.setIfInBounds_toArray, List.set_cons_zero, List.set_cons_succ]
          iterate 10
            refine tkPassI rfl (by rfl) hHeld ?_
            try simp only [Act.put, List.setIfInBounds_toArray, List.set_cons_zero, List.set_cons_succ]
          refine tkOne rfl (fun Kf hKf => ?_)
          go_simp
          refine hKf.out _ _ trivial (fun hHeld => ?_)
          clear hKf
          try simp only [Act.put, List.setIfInBounds_toArray, List.set_cons_zero, List.set_cons_succ]
          refine tkPassI rfl (by rfl) hHeld ?_
          try simp only [Act.put, List.setIfInBounds_toArray, List.set_cons_zero, List.set_cons_succ]
          refine tkEnd rfl (fun Kf hKf => ?_)
          go_simp
          refine hKf.out _ _ ?_
          clear hKf
          try simp only [Act.put, List.setIfInBounds_toArray, List.set_cons_zero, List.set_cons_succ]
          refine tkDone ?_
          clear hHeld
          go_wp2
          go_roundg (go - 1)
          case measure => have := HGK.out.1; omega
          case rel => exact ⟨i + 1, q, by go_num, by omega, HGK.out.2, .inl hlt, hide2 ⟨SX.out, SE.out.2⟩, O2, G2⟩
    · have hlti : ¬ (i : Int) + 1 < (b : Int) := by omega
      have SX := hide2 (show SegF R q a b from fun x y h1 h2 h3 => SE.out.1 x y h1 h2 (by omega))
      go_wp2
      exact bodyPost_end (v := .tuple #[]) (by simp [results, Tryz.results88, go_sem]) rfl ⟨⟨_, rfl⟩, ⟨q, OL.out, SE.out.2.1, SX.out, SE.out.2.2⟩, GR.out⟩
end Go.Proofs.YtcopnfdknclhnaaGreat
