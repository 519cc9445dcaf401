/- The law CasesDo as a call: it returns true; and from readings to cases and things to do. Conditions: the net and the case read as lists. -/
import Derived.Test.YtmhcinmadelaeaaCaseK
import Derived.Test.YtmhcinmadelaeaaCaseL
import Derived.Test.YtmhcinmadelaeaaBusyB
import Derived.Test.YtmhcinmadelaeaaBusyD
import Derived.Test.YtmhcinmadelaeaaNetL
namespace Go.Proofs.Ytmhcinmadelaeaa
open Go.RowKit

/-- Where the case that was made lies. -/
theorem boxAt {w w1 : World} {b0 : Nat} {cs : Array Value} {ty : Nat} (h : w1.alloc (.cells cs ty) = w) (hb : w1.heap.size = b0) : Box w b0 ty cs := by
  subst h hb; exact Box.new _ _ _

set_option maxRecDepth 100000 in
set_option maxHeartbeats 4000000 in
theorem casesDo_walk {w : World} (P : Int) {A B D : Option Addr} {n c m d l k : Nat} {ts : List PTran} {mk bs : List Int} (h : Trans w A n c ts) (_ : n ≤ 2513169434916) (i : Int) (_ : (Lit.int .i64 i).wf = true)
    (g : Ints w B m d mk) (b : Ints w D l k bs) (hl : l ≤ 17592186044416) (kd t : Int) :
    Calls Try.prog 9 #[.agg #[.int .i64 P, .slice A n c], .int .i64 i, .agg #[.slice B m d, .slice D l k], .agg #[.int .i64 kd, .int .i64 t]] w fun e w' => e = .returned (.bool true) ∧ Below w.heap.size w w' := by
  obtain ⟨p, hp⟩ : ∃ p : PCase, p = ⟨mk, bs⟩ := ⟨_, rfl⟩
  have g' : Ints w B m d p.mark := by rw [hp]; exact g
  have b' : Ints w D l k p.busy := by rw [hp]; exact b
  clear g b hp
  have HB := hide2 (show Below w.heap.size w (((w.alloc (.cells #[.int .i64 P, .slice A n c] 38)).alloc (.cells #[.slice B m d, .slice D l k] 71)).alloc (.cells #[.int .i64 kd, .int .i64 t] 73)) from
    (((Below.refl _ _).alloc (Nat.le_refl _) _).alloc (by simp) _).alloc (by simp; omega) _)
  have XN := hide2 (show Box (((w.alloc (.cells #[.int .i64 P, .slice A n c] 38)).alloc (.cells #[.slice B m d, .slice D l k] 71)).alloc (.cells #[.int .i64 kd, .int .i64 t] 73)) w.heap.size 38 #[.int .i64 P, .slice A n c] from ((Box.new _ _ _).old _).old _)
  have XC := hide2 (show Box (((w.alloc (.cells #[.int .i64 P, .slice A n c] 38)).alloc (.cells #[.slice B m d, .slice D l k] 71)).alloc (.cells #[.int .i64 kd, .int .i64 t] 73)) (w.heap.size + 1) 71 #[.slice B m d, .slice D l k] from (Box.newAt (by simp) _ _).old _)
  have XO := hide2 (show Box (((w.alloc (.cells #[.int .i64 P, .slice A n c] 38)).alloc (.cells #[.slice B m d, .slice D l k] 71)).alloc (.cells #[.int .i64 kd, .int .i64 t] 73)) (w.heap.size + 2) 73 #[.int .i64 kd, .int .i64 t] from Box.newAt (by simp) _ _)
  have H := hide2 h
  have G := hide2 g'
  have BB := hide2 b'
  obtain ⟨p1, hp1⟩ : ∃ q, beginL ⟨P, ts⟩ i = q := ⟨_, rfl⟩
  obtain ⟨p2, hp2⟩ : ∃ q, doL ⟨P, ts⟩ p kd t = q := ⟨_, rfl⟩
  obtain ⟨p3, hp3⟩ : ∃ q, busyNet ⟨P, ts⟩ = q := ⟨_, rfl⟩
  obtain ⟨ok, hok⟩ : ∃ q, caseOk ⟨P, ts⟩ p = q := ⟨_, rfl⟩
  have HP1 := hide2 hp1
  have HP2 := hide2 hp2
  have HP3 := hide2 hp3
  have HOK := hide2 hok
  clear h g' b' hp1 hp2 hp3 hok
  go_enter Try.func9, Try.ntmps9
  -- cases.Begin
  go_wp2_with fail
  refine (begin_calls (P := P) i (H.out.keep HB.out)).mono ?_
  rw [HP1.out]
  rintro e w1 ⟨A1, n1, c1, A2, n2, c2, rfl, i1, i2, hb, _, _⟩
  go_upto_region 2 with fail
  generalize hw : w1.alloc (.cells #[.slice A1 n1 c1, .slice A2 n2 c2] 71) = v1
  have hc : Below w1.heap.size w1 v1 := by rw [← hw]; exact boxBelow _ _
  have BE := hide2 (show Below w.heap.size w v1 from HB.out.trans ((hb.trans (hc.mono hb.size)).mono HB.out.size))
  have YN := hide2 ((XN.out.keep hb).keep hc)
  have YC := hide2 ((XC.out.keep hb).keep hc)
  have YO := hide2 ((XO.out.keep hb).keep hc)
  have Y1 := hide2 (boxAt hw rfl)
  have I1 := hide2 (show Ints v1 A1 n1 c1 p1.1.mark from Ints.keep i1 hc)
  have I2 := hide2 (show Ints v1 A2 n2 c2 p1.1.busy from Ints.keep i2 hc)
  clear hw hc hb i1 i2 XN XC XO HB
  generalize w1.heap.size = b1 at *
  -- PBegin
  obtain ⟨cn0, cn1⟩ := YN.out.two
  go_wp2_with fail
  refine (refBegin_calls (P := P) i (H.out.keep BE.out)).mono ?_
  rw [HP1.out]
  rintro e w2 ⟨A3, n3, c3, A4, n4, c4, rfl, i3, i4, hb, _, _⟩
  clear cn0 cn1
  go_upto_region 3 with fail
  generalize hw : w2.alloc (.cells #[.slice A3 n3 c3, .slice A4 n4 c4] 71) = v2
  have hc : Below w2.heap.size w2 v2 := by rw [← hw]; exact boxBelow _ _
  have ht := hb.trans (hc.mono hb.size)
  replace BE := hide2 (BE.out.trans (ht.mono BE.out.size))
  replace YN := hide2 (YN.out.keep ht)
  replace YC := hide2 (YC.out.keep ht)
  replace YO := hide2 (YO.out.keep ht)
  replace Y1 := hide2 (Y1.out.keep ht)
  have Y2 := hide2 (boxAt hw rfl)
  replace I1 := hide2 (Ints.keep I1.out ht)
  replace I2 := hide2 (Ints.keep I2.out ht)
  have I3 := hide2 (show Ints v2 A3 n3 c3 p1.1.mark from Ints.keep i3 hc)
  have I4 := hide2 (show Ints v2 A4 n4 c4 p1.1.busy from Ints.keep i4 hc)
  clear hw hc hb ht i3 i4
  generalize w2.heap.size = b2 at *
  -- cases.Do
  obtain ⟨cn0, cn1⟩ := YN.out.two
  obtain ⟨cc0, cc1⟩ := YC.out.two
  obtain ⟨co0, co1⟩ := YO.out.two
  go_wp2_with fail
  refine (do_calls (P := P) (p := p) kd t (H.out.keep BE.out) (Ints.keep G.out BE.out) (Ints.keep BB.out BE.out) hl).mono ?_
  rw [HP2.out]
  rintro e w3 ⟨A5, n5, c5, A6, n6, c6, rfl, i5, i6, hb, _, _⟩
  clear cn0 cn1 cc0 cc1 co0 co1
  go_upto_region 4 with fail
  generalize hw : w3.alloc (.cells #[.slice A5 n5 c5, .slice A6 n6 c6] 71) = v3
  have hc : Below w3.heap.size w3 v3 := by rw [← hw]; exact boxBelow _ _
  have ht := hb.trans (hc.mono hb.size)
  replace BE := hide2 (BE.out.trans (ht.mono BE.out.size))
  replace YN := hide2 (YN.out.keep ht)
  replace YC := hide2 (YC.out.keep ht)
  replace YO := hide2 (YO.out.keep ht)
  replace Y1 := hide2 (Y1.out.keep ht)
  replace Y2 := hide2 (Y2.out.keep ht)
  have Y3 := hide2 (boxAt hw rfl)
  replace I1 := hide2 (Ints.keep I1.out ht)
  replace I2 := hide2 (Ints.keep I2.out ht)
  replace I3 := hide2 (Ints.keep I3.out ht)
  replace I4 := hide2 (Ints.keep I4.out ht)
  have I5 := hide2 (show Ints v3 A5 n5 c5 p2.1.mark from Ints.keep i5 hc)
  have I6 := hide2 (show Ints v3 A6 n6 c6 p2.1.busy from Ints.keep i6 hc)
  clear hw hc hb ht i5 i6
  generalize w3.heap.size = b3 at *
  -- PDo
  obtain ⟨cn0, cn1⟩ := YN.out.two
  obtain ⟨cc0, cc1⟩ := YC.out.two
  obtain ⟨co0, co1⟩ := YO.out.two
  go_wp2_with fail
  refine (refDo_calls (P := P) (p := p) kd t (H.out.keep BE.out) (Ints.keep G.out BE.out) (Ints.keep BB.out BE.out) hl).mono ?_
  rw [HP2.out]
  rintro e w4 ⟨A7, n7, c7, A8, n8, c8, rfl, i7, i8, hb, _, _⟩
  clear cn0 cn1 cc0 cc1 co0 co1
  go_upto_region 5 with fail
  generalize hw : w4.alloc (.cells #[.slice A7 n7 c7, .slice A8 n8 c8] 71) = v4
  have hc : Below w4.heap.size w4 v4 := by rw [← hw]; exact boxBelow _ _
  have ht := hb.trans (hc.mono hb.size)
  replace BE := hide2 (BE.out.trans (ht.mono BE.out.size))
  replace YN := hide2 (YN.out.keep ht)
  replace YC := hide2 (YC.out.keep ht)
  replace Y1 := hide2 (Y1.out.keep ht)
  replace Y2 := hide2 (Y2.out.keep ht)
  replace Y3 := hide2 (Y3.out.keep ht)
  have Y4 := hide2 (boxAt hw rfl)
  replace I1 := hide2 (Ints.keep I1.out ht)
  replace I2 := hide2 (Ints.keep I2.out ht)
  replace I3 := hide2 (Ints.keep I3.out ht)
  replace I4 := hide2 (Ints.keep I4.out ht)
  replace I5 := hide2 (Ints.keep I5.out ht)
  replace I6 := hide2 (Ints.keep I6.out ht)
  have I7 := hide2 (show Ints v4 A7 n7 c7 p2.1.mark from Ints.keep i7 hc)
  have I8 := hide2 (show Ints v4 A8 n8 c8 p2.1.busy from Ints.keep i8 hc)
  clear hw hc hb ht i7 i8 YO
  generalize w4.heap.size = b4 at *
  -- cases.Busy
  obtain ⟨cn0, cn1⟩ := YN.out.two
  go_wp2_with fail
  refine (busyNet_calls (P := P) (H.out.keep BE.out)).mono ?_
  rw [HP3.out]
  rintro e w5 ⟨A9, n9, c9, rfl, i9, hb⟩
  clear cn0 cn1
  go_upto_region 6 with fail
  generalize hw : w5.alloc (.cells #[.int .i64 p3.1.places, .slice A9 n9 c9] 38) = v5
  have hc : Below w5.heap.size w5 v5 := by rw [← hw]; exact boxBelow _ _
  have ht := hb.trans (hc.mono hb.size)
  replace BE := hide2 (BE.out.trans (ht.mono BE.out.size))
  replace YN := hide2 (YN.out.keep ht)
  replace YC := hide2 (YC.out.keep ht)
  replace Y1 := hide2 (Y1.out.keep ht)
  replace Y2 := hide2 (Y2.out.keep ht)
  replace Y3 := hide2 (Y3.out.keep ht)
  replace Y4 := hide2 (Y4.out.keep ht)
  have Y5 := hide2 (boxAt hw rfl)
  replace I1 := hide2 (Ints.keep I1.out ht)
  replace I2 := hide2 (Ints.keep I2.out ht)
  replace I3 := hide2 (Ints.keep I3.out ht)
  replace I4 := hide2 (Ints.keep I4.out ht)
  replace I5 := hide2 (Ints.keep I5.out ht)
  replace I6 := hide2 (Ints.keep I6.out ht)
  replace I7 := hide2 (Ints.keep I7.out ht)
  replace I8 := hide2 (Ints.keep I8.out ht)
  have T9 := hide2 (show Trans v5 A9 n9 c9 p3.1.trans from Trans.keep i9 hc)
  clear hw hc hb ht i9
  generalize w5.heap.size = b5 at *
  -- PBusy
  obtain ⟨cn0, cn1⟩ := YN.out.two
  go_wp2_with fail
  refine (refBusyNet_calls (P := P) (H.out.keep BE.out)).mono ?_
  rw [HP3.out]
  rintro e w6 ⟨A10, n10, c10, rfl, i10, hb⟩
  clear cn0 cn1
  go_upto_region 7 with fail
  generalize hw : w6.alloc (.cells #[.int .i64 p3.1.places, .slice A10 n10 c10] 38) = v6
  have hc : Below w6.heap.size w6 v6 := by rw [← hw]; exact boxBelow _ _
  have ht := hb.trans (hc.mono hb.size)
  replace BE := hide2 (BE.out.trans (ht.mono BE.out.size))
  replace YN := hide2 (YN.out.keep ht)
  replace YC := hide2 (YC.out.keep ht)
  replace Y1 := hide2 (Y1.out.keep ht)
  replace Y2 := hide2 (Y2.out.keep ht)
  replace Y3 := hide2 (Y3.out.keep ht)
  replace Y4 := hide2 (Y4.out.keep ht)
  replace Y5 := hide2 (Y5.out.keep ht)
  have Y6 := hide2 (boxAt hw rfl)
  replace I1 := hide2 (Ints.keep I1.out ht)
  replace I2 := hide2 (Ints.keep I2.out ht)
  replace I3 := hide2 (Ints.keep I3.out ht)
  replace I4 := hide2 (Ints.keep I4.out ht)
  replace I5 := hide2 (Ints.keep I5.out ht)
  replace I6 := hide2 (Ints.keep I6.out ht)
  replace I7 := hide2 (Ints.keep I7.out ht)
  replace I8 := hide2 (Ints.keep I8.out ht)
  replace T9 := hide2 (T9.out.keep ht)
  have T10 := hide2 (show Trans v6 A10 n10 c10 p3.1.trans from Trans.keep i10 hc)
  clear hw hc hb ht i10
  generalize w6.heap.size = b6 at *
  -- the last region
  have KEEP := hide2 (show ∀ w', Below v6.heap.size v6 w' → w'.cell? ⟨w.heap.size, 0, none⟩ = some (.int .i64 P) ∧ w'.cell? ⟨w.heap.size, 1, none⟩ = some (.slice A n c) ∧ w'.cell? ⟨w.heap.size + 1, 0, none⟩ = some (.slice B m d) ∧ w'.cell? ⟨w.heap.size + 1, 1, none⟩ = some (.slice D l k) ∧
      w'.cell? ⟨b1, 0, none⟩ = some (.slice A1 n1 c1) ∧ w'.cell? ⟨b1, 1, none⟩ = some (.slice A2 n2 c2) ∧ w'.cell? ⟨b2, 0, none⟩ = some (.slice A3 n3 c3) ∧ w'.cell? ⟨b2, 1, none⟩ = some (.slice A4 n4 c4) ∧
      w'.cell? ⟨b3, 0, none⟩ = some (.slice A5 n5 c5) ∧ w'.cell? ⟨b3, 1, none⟩ = some (.slice A6 n6 c6) ∧ w'.cell? ⟨b4, 0, none⟩ = some (.slice A7 n7 c7) ∧ w'.cell? ⟨b4, 1, none⟩ = some (.slice A8 n8 c8) ∧
      w'.cell? ⟨b5, 0, none⟩ = some (.int .i64 p3.1.places) ∧ w'.cell? ⟨b5, 1, none⟩ = some (.slice A9 n9 c9) ∧ w'.cell? ⟨b6, 0, none⟩ = some (.int .i64 p3.1.places) ∧ w'.cell? ⟨b6, 1, none⟩ = some (.slice A10 n10 c10) from fun w' hb => by
    obtain ⟨x0, x1⟩ := (YN.out.keep hb).two
    obtain ⟨x2, x3⟩ := (YC.out.keep hb).two
    obtain ⟨x4, x5⟩ := (Y1.out.keep hb).two
    obtain ⟨x6, x7⟩ := (Y2.out.keep hb).two
    obtain ⟨x8, x9⟩ := (Y3.out.keep hb).two
    obtain ⟨x10, x11⟩ := (Y4.out.keep hb).two
    obtain ⟨x12, x13⟩ := (Y5.out.keep hb).two
    obtain ⟨x14, x15⟩ := (Y6.out.keep hb).two
    exact ⟨x0, x1, x2, x3, x4, x5, x6, x7, x8, x9, x10, x11, x12, x13, x14, x15⟩)
  clear YN YC Y1 Y2 Y3 Y4 Y5 Y6
  obtain ⟨x0, x1, x2, x3, x4, x5, x6, x7, x8, x9, x10, x11, x12, x13, x14, x15⟩ := KEEP.out v6 (Below.refl _ _)
  go_region_held3 (fun w' => w'.cell? ⟨w.heap.size, 0, none⟩ = some (.int .i64 P) ∧ w'.cell? ⟨w.heap.size, 1, none⟩ = some (.slice A n c) ∧ w'.cell? ⟨w.heap.size + 1, 0, none⟩ = some (.slice B m d) ∧ w'.cell? ⟨w.heap.size + 1, 1, none⟩ = some (.slice D l k) ∧
      w'.cell? ⟨b1, 0, none⟩ = some (.slice A1 n1 c1) ∧ w'.cell? ⟨b1, 1, none⟩ = some (.slice A2 n2 c2) ∧ w'.cell? ⟨b2, 0, none⟩ = some (.slice A3 n3 c3) ∧ w'.cell? ⟨b2, 1, none⟩ = some (.slice A4 n4 c4) ∧
      w'.cell? ⟨b3, 0, none⟩ = some (.slice A5 n5 c5) ∧ w'.cell? ⟨b3, 1, none⟩ = some (.slice A6 n6 c6) ∧ w'.cell? ⟨b4, 0, none⟩ = some (.slice A7 n7 c7) ∧ w'.cell? ⟨b4, 1, none⟩ = some (.slice A8 n8 c8) ∧
      w'.cell? ⟨b5, 0, none⟩ = some (.int .i64 p3.1.places) ∧ w'.cell? ⟨b5, 1, none⟩ = some (.slice A9 n9 c9) ∧ w'.cell? ⟨b6, 0, none⟩ = some (.int .i64 p3.1.places) ∧ w'.cell? ⟨b6, 1, none⟩ = some (.slice A10 n10 c10))
    (first | go_keep)
    (first
      | (go_at_call 52; (with_reducible refine (sameCase_calls (p := p1.1) (Ints.keep I1.out ((Below.refl _ _).drew : Below v6.heap.size v6 v6.drew)) (Ints.keep I2.out (Below.refl _ _).drew) (Ints.keep I3.out (Below.refl _ _).drew) (Ints.keep I4.out (Below.refl _ _).drew)).mono ?_); rintro e u1 ⟨rfl, hb⟩; have F1 := hide2 (((Below.refl _ _).drew : Below v6.heap.size v6 v6.drew).trans (hb.mono (Nat.le_refl _))); clear hb x0 x1 x2 x3 x4 x5 x6 x7 x8 x9 x10 x11 x12 x13 x14 x15; obtain ⟨x0, x1, x2, x3, x4, x5, x6, x7, x8, x9, x10, x11, x12, x13, x14, x15⟩ := KEEP.out u1 F1.out)
      | (go_at_call 53; (with_reducible refine (caseRight_calls (P := P) (p := p) (H.out.keep (BE.out.trans (F1.out.mono BE.out.size))) (Ints.keep G.out (BE.out.trans (F1.out.mono BE.out.size))) (Ints.keep BB.out (BE.out.trans (F1.out.mono BE.out.size)))).mono ?_); rw [HOK.out]; rintro e u2 ⟨rfl, hb⟩; have F2 := hide2 (F1.out.trans (hb.mono F1.out.size)); clear hb x0 x1 x2 x3 x4 x5 x6 x7 x8 x9 x10 x11 x12 x13 x14 x15; obtain ⟨x0, x1, x2, x3, x4, x5, x6, x7, x8, x9, x10, x11, x12, x13, x14, x15⟩ := KEEP.out u2 F2.out)
      | (go_at_call 54; (with_reducible refine (refCaseRight_calls (P := P) (p := p) (H.out.keep (BE.out.trans (F2.out.mono BE.out.size))) (Ints.keep G.out (BE.out.trans (F2.out.mono BE.out.size))) (Ints.keep BB.out (BE.out.trans (F2.out.mono BE.out.size)))).mono ?_); rw [HOK.out]; rintro e u3 ⟨rfl, hb⟩; have F3 := hide2 (F2.out.trans (hb.mono F2.out.size)); clear hb x0 x1 x2 x3 x4 x5 x6 x7 x8 x9 x10 x11 x12 x13 x14 x15; obtain ⟨x0, x1, x2, x3, x4, x5, x6, x7, x8, x9, x10, x11, x12, x13, x14, x15⟩ := KEEP.out u3 F3.out)
      | (go_at_call 52; (with_reducible refine (sameCase_calls (p := p2.1) (Ints.keep I5.out F3.out) (Ints.keep I6.out F3.out) (Ints.keep I7.out F3.out) (Ints.keep I8.out F3.out)).mono ?_); rintro e u4 ⟨rfl, hb⟩; have F4 := hide2 (F3.out.trans (hb.mono F3.out.size)); clear hb x0 x1 x2 x3 x4 x5 x6 x7 x8 x9 x10 x11 x12 x13 x14 x15; obtain ⟨x0, x1, x2, x3, x4, x5, x6, x7, x8, x9, x10, x11, x12, x13, x14, x15⟩ := KEEP.out u4 F4.out)
      | (go_at_call 19; (with_reducible refine (sameNet_calls (T9.out.keep F4.out) (T10.out.keep F4.out)).mono ?_); rintro e u5 ⟨rfl, hb⟩; rw [beq_self_eq_true, beq_self_eq_true, Bool.and_self]; have F5 := hide2 (F4.out.trans (hb.mono F4.out.size)); clear hb x0 x1 x2 x3 x4 x5 x6 x7 x8 x9 x10 x11 x12 x13 x14 x15; obtain ⟨x0, x1, x2, x3, x4, x5, x6, x7, x8, x9, x10, x11, x12, x13, x14, x15⟩ := KEEP.out u5 F5.out))
  all_goals
    go_wp2
    go_ret
    exact ⟨by first | rfl | simp, BE.out.trans (F5.out.mono BE.out.size)⟩
end Go.Proofs.Ytmhcinmadelaeaa
