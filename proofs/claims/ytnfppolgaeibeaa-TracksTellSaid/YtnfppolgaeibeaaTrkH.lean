/- The contract of tracks.Of. Conditions: the log reads as lists. -/
import Derived.Test.YtnfppolgaeibeaaTrkB
import Derived.Test.YtnfppolgaeibeaaTrkF
import Derived.Test.YtnfppolgaeibeaaTrkG
namespace Go.Proofs.Ytnfppolgaeibeaa
open Go.RowKit Go.Maps

/-- What Of answers. -/
def AnsPr (log : List (List Int)) (w : World) (e : Ending) (w' : World) : Prop :=
  ∃ (p : PPrints) (er : Int) (A1 A2 A3 A4 : Option Addr) (n1 c1 n2 c2 n3 c3 n4 c4 : Nat), OfP log p er ∧ e = .returned (.tuple #[.agg #[.slice A1 n1 c1, .slice A2 n2 c2, .slice A3 n3 c3, .slice A4 n4 c4], .int .i64 er]) ∧
    Ints w' A1 n1 c1 p.labels ∧ Ints w' A2 n2 c2 p.first ∧ Ints w' A3 n3 c3 p.last ∧ Pairs w' A4 n4 c4 p.behind ∧ Below w.heap.size w w'
theorem OfP.no {log : List (List Int)} {e : Int} (h : wrongV log = e) (hne : e ≠ 0) : OfP log emptyP e := ⟨h.symm, by rw [if_neg (by rw [h]; exact hne)]⟩
/-- The four sets. -/
structure FourS (w : World) (B : Nat) (S1 S2 S3 : List Int) (S4 : List (Int × Int)) : Prop where
  s1 : SetI w B S1
  s2 : SetI w (B + 1) S2
  s3 : SetI w (B + 1 + 1) S3
  s4 : SetP w (B + 1 + 1 + 1) S4
theorem FourS.drop1 {w w' : World} {B : Nat} {S1 T1 S2 S3 : List Int} {S4 : List (Int × Int)} (h : FourS w B S1 S2 S3 S4) (g : SetI w' B T1) (hg : w.grownBy w' (some B)) : FourS w' B T1 S2 S3 S4 :=
  ⟨g, h.s2.beside hg (by simp; try omega), h.s3.beside hg (by simp; try omega), h.s4.beside hg (by simp; try omega)⟩
theorem FourS.drop2 {w w' : World} {B : Nat} {S1 T2 S2 S3 : List Int} {S4 : List (Int × Int)} (h : FourS w B S1 S2 S3 S4) (g : SetI w' (B + 1) T2) (hg : w.grownBy w' (some (B + 1))) : FourS w' B S1 T2 S3 S4 :=
  ⟨h.s1.beside hg (by simp; try omega), g, h.s3.beside hg (by simp; try omega), h.s4.beside hg (by simp; try omega)⟩
theorem FourS.drop3 {w w' : World} {B : Nat} {S1 T3 S2 S3 : List Int} {S4 : List (Int × Int)} (h : FourS w B S1 S2 S3 S4) (g : SetI w' (B + 1 + 1) T3) (hg : w.grownBy w' (some (B + 1 + 1))) : FourS w' B S1 S2 T3 S4 :=
  ⟨h.s1.beside hg (by simp; try omega), h.s2.beside hg (by simp; try omega), g, h.s4.beside hg (by simp; try omega)⟩
theorem FourS.drop4 {w w' : World} {B : Nat} {S1 S2 S3 : List Int} {S4 T4 : List (Int × Int)} (h : FourS w B S1 S2 S3 S4) (g : SetP w' (B + 1 + 1 + 1) T4) (hg : w.grownBy w' (some (B + 1 + 1 + 1))) : FourS w' B S1 S2 S3 T4 :=
  ⟨h.s1.beside hg (by simp; try omega), h.s2.beside hg (by simp; try omega), h.s3.beside hg (by simp; try omega), g⟩
theorem FourS.keep {w w' : World} {B : Nat} {S1 S2 S3 : List Int} {S4 : List (Int × Int)} (h : FourS w B S1 S2 S3 S4) (hb : Below w.heap.size w w') : FourS w' B S1 S2 S3 S4 :=
  ⟨h.s1.keep hb, h.s2.keep hb, h.s3.keep hb, h.s4.keep hb⟩
theorem FourS.made {w : World} {B : Nat} (hB : w.heap.size = B) : FourS ((((w.alloc (.map #[] 0)).alloc (.map #[] 0)).alloc (.map #[] 0)).alloc (.map #[] 0)) B [] [] [] [] := by
  subst hB
  refine ⟨(((SetD.made _ _ _ w).alloc _).alloc _).alloc _, ?_, ?_, ?_⟩
  · have := SetD.made 3 okI kkI (w.alloc (.map #[] 0))
    rw [World.size_alloc] at this
    exact (this.alloc _).alloc _
  · have := SetD.made 3 okI kkI ((w.alloc (.map #[] 0)).alloc (.map #[] 0))
    rw [World.size_alloc, World.size_alloc] at this
    exact this.alloc _
  · have := SetD.made 137 okP kkP (((w.alloc (.map #[] 0)).alloc (.map #[] 0)).alloc (.map #[] 0))
    rw [World.size_alloc, World.size_alloc, World.size_alloc] at this
    exact this
/-- The four cells of a box are laid anew. -/
def lay4 (w : World) (b : Nat) (v0 v1 v2 v3 : Value) : World := (((w.setCell ⟨b, 0, none⟩ v0).setCell ⟨b, 1, none⟩ v1).setCell ⟨b, 2, none⟩ v2).setCell ⟨b, 3, none⟩ v3
theorem Box.laid {w : World} {b ty : Nat} {u0 u1 u2 u3 : Value} (h : Box w b ty #[u0, u1, u2, u3]) (v0 v1 v2 v3 : Value) : Box (lay4 w b v0 v1 v2 v3) b ty #[v0, v1, v2, v3] := by
  have := (((h.set 0 v0).set 1 v1).set 2 v2).set 3 v3
  unfold lay4
  simpa using this
theorem Beside.lay4 (w : World) (b : Nat) (v0 v1 v2 v3 : Value) : Beside b w (lay4 w b v0 v1 v2 v3) := (((Beside.set _ _ _ _).trans (Beside.set _ _ _ _)).trans (Beside.set _ _ _ _)).trans (Beside.set _ _ _ _)
theorem below_lay4 {B : Nat} {w0 w : World} (h : Below B w0 w) {b : Nat} (hb : B ≤ b) (v0 v1 v2 v3 : Value) : Below B w0 (lay4 w b v0 v1 v2 v3) :=
  (((h.setCell (p := ⟨b, 0, none⟩) hb _).setCell (p := ⟨b, 1, none⟩) hb _).setCell (p := ⟨b, 2, none⟩) hb _).setCell (p := ⟨b, 3, none⟩) hb _
theorem noInt4 {v0 v1 v2 v3 : Value} (h0 : ∀ x, v0 ≠ .int .i64 x) (h1 : ∀ x, v1 ≠ .int .i64 x) (h2 : ∀ x, v2 ≠ .int .i64 x) (h3 : ∀ x, v3 ≠ .int .i64 x) : ∀ (j : Nat) (x : Int), (#[v0, v1, v2, v3])[j]? ≠ some (.int .i64 x)
  | 0, x => by simpa using h0 x
  | 1, x => by simpa using h1 x
  | 2, x => by simpa using h2 x
  | 3, x => by simpa using h3 x
  | _ + 4, _ => by simp
theorem Pairs.beside {w w' : World} {b ty : Nat} {cs : Array Value} {A : Option Addr} {n c : Nat} {xs : List (Int × Int)} (h : Pairs w A n c xs) (hb : Box w b ty cs) (hcs : ∀ (j : Nat) (x : Int), cs[j]? ≠ some (.int .i64 x)) (hw : Beside b w w') : Pairs w' A n c xs :=
  ⟨h.len, h.le, h.cap, h.small, h.nul, fun hn => by
    obtain ⟨b', off, e, hlt, hc⟩ := h.cells hn
    refine ⟨b', off, e, by rw [hw.1]; exact hlt, fun i x hx => ?_⟩
    obtain ⟨vs, h1, h2⟩ := hc i x hx
    refine ⟨vs, fun j hj => ?_, h2⟩
    have := h1 j hj
    by_cases hbb : b' = b
    · subst hbb
      exfalso
      have h0 := h1 0 (by omega)
      rw [hb.cell, h2.1] at h0
      exact hcs _ _ h0
    · rw [hw.cell (by simpa using hbb)]; exact this⟩
theorem below_sets {w0 w w' : World} {B b : Nat} (h : Below B w0 w) (hb : B ≤ b) (hs : B ≤ w.heap.size) (hg : w.grownBy w' (some b)) : Below B w0 w' := h.grown hg hs (fun k e => by cases e; exact hb)

set_option maxRecDepth 100000 in
set_option maxHeartbeats 8000000 in
theorem of_tracks_calls {w : World} {A : Option Addr} {n c : Nat} {log : List (List Int)} (h : Lists w A n c log) :
    Calls Try.prog 28 #[.slice A n c] w (AnsPr log w) := by
  have hns := h.small
  have X0 := hide2 (Box.new w #[.slice none 0 0, .slice none 0 0, .slice none 0 0, .slice none 0 0] 57)
  have B0 := hide2 (boxBelow w (.cells #[.slice none 0 0, .slice none 0 0, .slice none 0 0, .slice none 0 0] 57))
  have HL := hide2 h.len
  have H := hide2 h
  clear h
  have hmm := @run_makeMap Try.prog
  obtain ⟨z, hz⟩ : ∃ z, wrongV log = z := ⟨_, rfl⟩
  have HZ := hide2 hz
  clear hz
  go_enter Try.func28, Try.ntmps28
  go_upto_region 1 with fail
  generalize w.alloc (.cells #[.slice none 0 0, .slice none 0 0, .slice none 0 0, .slice none 0 0] 57) = w0 at *
  go_wp2_with fail
  refine (tracksWrong_calls (Sl.keep ListR.kept H.out B0.out)).mono ?_
  rw [HZ.out]
  rintro e w1 ⟨rfl, rfl⟩
  by_cases h0 : z = 0
  · subst h0
    obtain ⟨hl60, hall⟩ := wrongV_zero HZ.out
    have hn60 : n ≤ 60 := by rw [← HL.out]; exact hl60
    have HALL := hide2 hall
    clear hall hl60
    have F_ := hide2 (FourS.made (w := w0) rfl)
    have BM := hide2 (((((Below.refl w0.heap.size w0).alloc (Nat.le_refl _) (.map #[] 0)).alloc (by simp) (.map #[] 0)).alloc (by simp; omega) (.map #[] 0)).alloc (by simp; omega) (.map #[] 0))
    go_wp2
    have NB := hide2 X0.out.lt
    go_loopw [25] (fun v wr => ∃ (k : Nat) (S1 S2 S3 : List Int) (S4 : List (Int × Int)), k ≤ n ∧ v = .int .i64 k ∧ Hid (TrP log k [] 0 S1 S2 S3 S4) ∧ Hid (FourS wr w0.heap.size S1 S2 S3 S4) ∧ Hid (Below w0.heap.size w0 wr)) (fun v _ => n - (intOf v).toNat)
    case atStart => exact ⟨0, [], [], [], [], Nat.zero_le _, rfl, TrP.start log, F_, BM⟩
    case round =>
      clear F_ BM
      obtain ⟨k, S1, S2, S3, S4, hk, rfl, TP, F_, D⟩ := hrel
      by_cases hlt : k < n
      · have hki : (k : Int) < (n : Int) := by omega
        obtain ⟨b, off, x, A1, n1, c1, rfl, hb, hx, q0', i1, hn1⟩ := Lists.get H.out hlt
        have q0 := ((B0.out.trans (D.out.mono B0.out.size)).cell (p := ⟨b, _, none⟩) hb).trans q0'
        clear q0'
        have IX := hide2 i1
        have LX := hide2 i1.len
        have HX := hide2 hx.out
        have OKX := hide2 (HALL.out x (List.mem_of_getElem? hx.out))
        have h160 : n1 ≤ 60 := by rw [← LX.out]; exact OKX.out.1
        have TE := hide2 (TP.out.enter x)
        clear i1 hx TP
        go_wp2
        obtain ⟨wo, hwo⟩ : ∃ wo : World, wo = wr := ⟨_, rfl⟩
        subst hwo
        go_loopw [31] (fun v wq => ∃ (j : Nat) (S1 S2 S3 : List Int) (S4 : List (Int × Int)), j ≤ n1 ∧ v = .int .i64 j ∧ Hid (TrP log k x j S1 S2 S3 S4) ∧ Hid (FourS wq w0.heap.size S1 S2 S3 S4) ∧ Hid (Below w0.heap.size w0 wq)) (fun v _ => n1 - (intOf v).toNat)
        case atStart => exact ⟨0, S1, S2, S3, S4, Nat.zero_le _, rfl, TE, F_, D⟩
        case round =>
          have DO := hide2 D.out
          clear F_ TE D S1 S2 S3 S4
          obtain ⟨j, S1, S2, S3, S4, hj, rfl, TP, F_, D⟩ := hrel
          by_cases hjn : j < n1
          · have hji : (j : Int) < (n1 : Int) := by omega
            obtain ⟨l1, hl1⟩ : ∃ l1, n1 = l1 + 1 := ⟨n1 - 1, by omega⟩
            have hsl : IntKind.i64.wrap ((n1 : Int) - 1) = (l1 : Int) := by simp [IntKind.wrap, IntKind.bits, IntKind.signed]; omega
            obtain ⟨b2, off2, y, rfl, hb2, hy, qy⟩ := (IX.out.keep (B0.out.trans (D.out.mono B0.out.size))).get hjn
            have HY := hide2 hy.out
            have HA := hide2 (show okI y from OKX.out.2 y (List.mem_of_getElem? hy.out))
            have LL := hide2 hl1
            clear hy hl1
            go_wp2_with fail
            refine (addI_calls F_.out.s1 (by have := TP.out.l1; omega) HA.out).mono ?_
            rintro e u1 ⟨⟨v1, rfl⟩, t1, g1⟩
            have F1 := hide2 (F_.out.drop1 t1 g1)
            have D1 := hide2 (below_sets D.out (Nat.le_refl _) D.out.size g1)
            clear t1 g1 qy
            by_cases hj0 : j = 0
            · have hj0i : (j : Int) = 0 := by omega
              go_wp2_with fail
              refine (addI_calls F1.out.s2 (by have := TP.out.l2; omega) HA.out).mono ?_
              rintro e u2 ⟨⟨v2, rfl⟩, t2, g2⟩
              have F3 := hide2 (F1.out.drop2 t2 g2)
              have D3 := hide2 (below_sets D1.out (show w0.heap.size ≤ w0.heap.size + 1 by omega) D1.out.size g2)
              clear t2 g2
              by_cases hj1 : j = l1
              · have hj1b : (j : Int) = (l1 : Int) := by omega
                go_wp2_with fail
                refine (addI_calls F3.out.s3 (by have := TP.out.l3; omega) HA.out).mono ?_
                rintro e u3 ⟨⟨v3, rfl⟩, t3, g3⟩
                have F4 := hide2 (F3.out.drop3 t3 g3)
                have D4 := hide2 (below_sets D3.out (show w0.heap.size ≤ w0.heap.size + 1 + 1 by omega) D3.out.size g3)
                have TN := hide2 (TP.out.step HY.out (T2 := y :: S2) (T3 := y :: S3) (T4 := S4) (by rw [if_pos hj0]) (by rw [if_pos (by have := LX.out; have := LL.out; omega)]) (.inl ⟨hj0, rfl⟩))
                clear t3 g3
                go_wp2
                go_roundw
                case rel => exact ⟨j + 1, _, _, _, _, by omega, by go_num, TN, F4, D4⟩
                case measure => simp [intOf]; omega
              · have hj1b : ((j : Int) == (l1 : Int)) = false := by simp; omega
                have TN := hide2 (TP.out.step HY.out (T2 := y :: S2) (T3 := S3) (T4 := S4) (by rw [if_pos hj0]) (by rw [if_neg (by have := LX.out; have := LL.out; omega)]) (.inl ⟨hj0, rfl⟩))
                go_wp2
                go_roundw
                case rel => exact ⟨j + 1, _, _, _, _, by omega, by go_num, TN, F3, D3⟩
                case measure => simp [intOf]; omega
            · have hj0b : ((j : Int) == 0) = false := by simp; omega
              obtain ⟨i, hji2⟩ : ∃ i, j = i + 1 := ⟨j - 1, by omega⟩
              have hin : i < n1 := by omega
              have hini : (i : Int) < (n1 : Int) := by omega
              have hi0 : (0 : Int) ≤ (i : Int) := by omega
              have hsi : IntKind.i64.wrap ((j : Int) - 1) = (i : Int) := by simp [IntKind.wrap, IntKind.bits, IntKind.signed]; omega
              have hji2 := hide2 hji2
              obtain ⟨b3, off3, z, e3, hb3, hz3, qz⟩ := (IX.out.keep (B0.out.trans (D1.out.mono B0.out.size))).get hin
              injection e3 with e3
              injection e3 with e3 e4
              subst e3 e4
              have HZ2 := hide2 hz3.out
              have HB := hide2 (show okI z from OKX.out.2 z (List.mem_of_getElem? hz3.out))
              clear hz3
              go_wp2_with fail
              refine (addP_calls (p := (z, y)) F1.out.s4 (by have := TP.out.l4; omega) ⟨HB.out, HA.out⟩).mono ?_
              rintro e u2 ⟨⟨v2, rfl⟩, t2, g2⟩
              have F3 := hide2 (F1.out.drop4 t2 g2)
              have D3 := hide2 (below_sets D1.out (show w0.heap.size ≤ w0.heap.size + 1 + 1 + 1 by omega) D1.out.size g2)
              clear t2 g2 qz
              by_cases hj1 : j = l1
              · have hj1b : (j : Int) = (l1 : Int) := by omega
                go_wp2_with fail
                refine (addI_calls F3.out.s3 (by have := TP.out.l3; omega) HA.out).mono ?_
                rintro e u3 ⟨⟨v3, rfl⟩, t3, g3⟩
                have F4 := hide2 (F3.out.drop3 t3 g3)
                have D4 := hide2 (below_sets D3.out (show w0.heap.size ≤ w0.heap.size + 1 + 1 by omega) D3.out.size g3)
                have TN := hide2 (TP.out.step HY.out (T2 := S2) (T3 := y :: S3) (T4 := (z, y) :: S4) (by rw [if_neg hj0]) (by rw [if_pos (by have := LX.out; have := LL.out; omega)]) (.inr ⟨z, i, hji2.out, HZ2.out, rfl⟩))
                clear t3 g3
                go_wp2
                go_roundw
                case rel => exact ⟨j + 1, _, _, _, _, by omega, by go_num, TN, F4, D4⟩
                case measure => simp [intOf]; omega
              · have hj1b : ((j : Int) == (l1 : Int)) = false := by simp; omega
                have TN := hide2 (TP.out.step HY.out (T2 := S2) (T3 := S3) (T4 := (z, y) :: S4) (by rw [if_neg hj0]) (by rw [if_neg (by have := LX.out; have := LL.out; omega)]) (.inr ⟨z, i, hji2.out, HZ2.out, rfl⟩))
                go_wp2
                go_roundw
                case rel => exact ⟨j + 1, _, _, _, _, by omega, by go_num, TN, F3, D3⟩
                case measure => simp [intOf]; omega
          · obtain rfl : j = n1 := by omega
            have TL := hide2 (show TrP log (k + 1) [] 0 S1 S2 S3 S4 from (by have := TP.out; rw [← LX.out] at this; exact this.leave HX.out OKX.out.1))
            go_wp2
            go_roundw
            case rel => exact ⟨k + 1, S1, S2, S3, S4, by omega, by go_num, TL, F_, D⟩
            case measure => simp [intOf]; omega
      · obtain rfl : k = n := by omega
        have TF := hide2 (show (∀ x, x ∈ S1 ↔ allP log x) ∧ (∀ x, x ∈ S2 ↔ firstP log x) ∧ (∀ x, x ∈ S3 ↔ lastP log x) ∧ ∀ p, p ∈ S4 ↔ behP log p from (by have := TP.out; rw [← HL.out] at this; exact this.fin))
        have L1 := hide2 TP.out.l1
        have L2 := hide2 TP.out.l2
        have L3 := hide2 TP.out.l3
        have L4 := hide2 TP.out.l4
        have XR := hide2 (X0.out.keepB D.out NB.out)
        have BR := hide2 (B0.out.trans (D.out.mono B0.out.size))
        clear TP
        go_wp2_with fail
        refine (sortedI_calls F_.out.s1 (by have := L1.out; omega)).mono ?_
        rintro e u1 ⟨v1, m1, x1, rfl, o1, hm1, hx1, b1⟩
        obtain ⟨A1, c1, rfl, i1⟩ := o1.sl (by omega)
        have I1 := hide2 i1
        have P1 := hide2 hx1
        have F1 := hide2 (F_.out.keep b1)
        have X1 := hide2 (XR.out.keep b1)
        have E1 := hide2 (BR.out.trans (b1.mono BR.out.size))
        clear o1 i1 hx1 b1
        go_wp2_with fail
        refine (sortedI_calls F1.out.s2 (by have := L2.out; omega)).mono ?_
        rintro e u2 ⟨v2, m2, x2, rfl, o2, hm2, hx2, b2⟩
        obtain ⟨A2, c2, rfl, i2⟩ := o2.sl (by omega)
        have I2 := hide2 i2
        have P2 := hide2 hx2
        have I1 := hide2 (Ints.keep I1.out b2)
        have F2 := hide2 (F1.out.keep b2)
        have X2 := hide2 (X1.out.keep b2)
        have E2 := hide2 (E1.out.trans (b2.mono E1.out.size))
        clear o2 i2 hx2 b2
        go_wp2_with fail
        refine (sortedI_calls F2.out.s3 (by have := L3.out; omega)).mono ?_
        rintro e u3 ⟨v3, m3, x3, rfl, o3, hm3, hx3, b3⟩
        obtain ⟨A3, c3, rfl, i3⟩ := o3.sl (by omega)
        have I3 := hide2 i3
        have P3 := hide2 hx3
        have I1 := hide2 (Ints.keep I1.out b3)
        have I2 := hide2 (Ints.keep I2.out b3)
        have F3 := hide2 (F2.out.keep b3)
        have X3 := hide2 (X2.out.keep b3)
        have E3 := hide2 (E2.out.trans (b3.mono E2.out.size))
        clear o3 i3 hx3 b3
        go_wp2_with fail
        refine (sortedP_calls F3.out.s4 (by have := L4.out; omega)).mono ?_
        rintro e u4 ⟨v4, m4, x4, rfl, o4, hm4, hx4, b4⟩
        obtain ⟨A4, c4, rfl, i4⟩ := o4.sl (by omega)
        have I4 := hide2 i4
        have P4 := hide2 hx4
        have I1 := hide2 (Ints.keep I1.out b4)
        have I2 := hide2 (Ints.keep I2.out b4)
        have I3 := hide2 (Ints.keep I3.out b4)
        have X4 := hide2 (X3.out.keep b4)
        have E4 := hide2 (E3.out.trans (b4.mono E3.out.size))
        clear o4 i4 hx4 b4
        have y0 := X4.out.cell 0
        have y1 := X4.out.cell 1
        have y2 := X4.out.cell 2
        have y3 := X4.out.cell 3
        have f0 := X4.out.frozen 0
        have f1 := X4.out.frozen 1
        have f2 := X4.out.frozen 2
        have f3 := X4.out.frozen 3
        simp only [List.getElem?_toArray, List.getElem?_cons_zero, List.getElem?_cons_succ] at y0 y1 y2 y3
        have XE := hide2 (X4.out.laid (.slice A1 m1 c1) (.slice A2 m2 c2) (.slice A3 m3 c3) (.slice A4 m4 c4))
        have BE := hide2 (Beside.lay4 u4 w.heap.size (.slice A1 m1 c1) (.slice A2 m2 c2) (.slice A3 m3 c3) (.slice A4 m4 c4))
        have EE := hide2 (below_lay4 E4.out (Nat.le_refl _) (.slice A1 m1 c1) (.slice A2 m2 c2) (.slice A3 m3 c3) (.slice A4 m4 c4))
        have NI := hide2 (noInt4 (v0 := .slice none 0 0) (v1 := .slice none 0 0) (v2 := .slice none 0 0) (v3 := .slice none 0 0) (fun x e => (by cases e)) (fun x e => (by cases e)) (fun x e => (by cases e)) (fun x e => (by cases e)))
        have OF := hide2 (show OfP log ⟨x1, x2, x3, x4⟩ 0 from ⟨HZ.out.symm, by
          rw [if_pos HZ.out]
          exact ⟨⟨P1.out.1, fun x => (P1.out.2 x).trans (TF.out.1 x)⟩, ⟨P2.out.1, fun x => (P2.out.2 x).trans (TF.out.2.1 x)⟩, ⟨P3.out.1, fun x => (P3.out.2 x).trans (TF.out.2.2.1 x)⟩, ⟨P4.out.1, fun x => (P4.out.2 x).trans (TF.out.2.2.2 x)⟩⟩⟩)
        go_wp2
        clear y0 y1 y2 y3 f0 f1 f2 f3
        have e0 := XE.out.cell 0
        have e1 := XE.out.cell 1
        have e2 := XE.out.cell 2
        have e3 := XE.out.cell 3
        simp only [List.getElem?_toArray, List.getElem?_cons_zero, List.getElem?_cons_succ, lay4] at e0 e1 e2 e3
        refine bodyPost_ret (v := .tuple #[.agg #[.slice A1 m1 c1, .slice A2 m2 c2, .slice A3 m3 c3, .slice A4 m4 c4], .int .i64 0]) (by simp [results, Try.results28, go_sem, e0, e1, e2, e3]) rfl ?_
        exact ⟨⟨x1, x2, x3, x4⟩, 0, A1, A2, A3, A4, m1, c1, m2, c2, m3, c3, m4, c4, OF.out, rfl, I1.out.beside X4.out NI.out BE.out, I2.out.beside X4.out NI.out BE.out, I3.out.beside X4.out NI.out BE.out, Pairs.beside I4.out X4.out NI.out BE.out, EE.out⟩
  · have hzb : (z == 0) = false := by simpa using h0
    have x0 := X0.out.cell 0
    have x1 := X0.out.cell 1
    have x2 := X0.out.cell 2
    have x3 := X0.out.cell 3
    have f0 := X0.out.frozen 0
    have f1 := X0.out.frozen 1
    have f2 := X0.out.frozen 2
    have f3 := X0.out.frozen 3
    simp only [List.getElem?_toArray, List.getElem?_cons_zero, List.getElem?_cons_succ] at x0 x1 x2 x3
    have NO := hide2 (OfP.no HZ.out h0)
    have XE := hide2 (X0.out.laid (.slice none 0 0) (.slice none 0 0) (.slice none 0 0) (.slice none 0 0))
    have EE := hide2 (below_lay4 B0.out (Nat.le_refl _) (.slice none 0 0) (.slice none 0 0) (.slice none 0 0) (.slice none 0 0))
    go_wp2
    clear x0 x1 x2 x3 f0 f1 f2 f3
    have e0 := XE.out.cell 0
    have e1 := XE.out.cell 1
    have e2 := XE.out.cell 2
    have e3 := XE.out.cell 3
    simp only [List.getElem?_toArray, List.getElem?_cons_zero, List.getElem?_cons_succ, lay4] at e0 e1 e2 e3
    refine bodyPost_ret (v := .tuple #[.agg #[.slice none 0 0, .slice none 0 0, .slice none 0 0, .slice none 0 0], .int .i64 z]) (by simp [results, Try.results28, go_sem, e0, e1, e2, e3]) rfl ?_
    exact ⟨emptyP, z, none, none, none, none, 0, 0, 0, 0, 0, 0, 0, 0, NO.out, rfl, Sl.nil0, Sl.nil0, Sl.nil0, Sl.nil0, EE.out⟩
end Go.Proofs.Ytnfppolgaeibeaa
