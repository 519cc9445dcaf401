/- The contract of the reference's kbetween on loops, given what it does within. Conditions: the block reads as a tree and is right; what comes of it stays below 300. -/
import Derived.Test.YtnfppolgaeibeaaGrowO
namespace Go.Proofs.Ytnfppolgaeibeaa
open Go.RowKit

/-- Two rows of one place each, laid anew. -/
theorem twoRows (N : Nat) (w : World) (p q : Int) : Below w.heap.size w ((w.alloc (.cells #[.int .i64 p] 3)).alloc (.cells #[.int .i64 q] 3)) ∧
    Ints ((w.alloc (.cells #[.int .i64 p] 3)).alloc (.cells #[.int .i64 q] 3)) (some ⟨w.heap.size, 0, none⟩) 1 1 [p] ∧ FarG N ((w.alloc (.cells #[.int .i64 p] 3)).alloc (.cells #[.int .i64 q] 3)) (some ⟨w.heap.size, 0, none⟩) 1 ∧
    Ints ((w.alloc (.cells #[.int .i64 p] 3)).alloc (.cells #[.int .i64 q] 3)) (some ⟨w.heap.size + 1, 0, none⟩) 1 1 [q] ∧ FarG N ((w.alloc (.cells #[.int .i64 p] 3)).alloc (.cells #[.int .i64 q] 3)) (some ⟨w.heap.size + 1, 0, none⟩) 1 := by
  have bb1 := boxBelow w (.cells #[.int .i64 p] 3)
  have bb2 := boxBelow (w.alloc (.cells #[.int .i64 p] 3)) (.cells #[.int .i64 q] 3)
  have I1 := oneG N w p
  have I2 := oneG N (w.alloc (.cells #[.int .i64 p] 3)) q
  rw [show (w.alloc (.cells #[.int .i64 p] 3)).heap.size = w.heap.size + 1 by simp] at I2
  have F_ := (I1.2.same I1.1 bb2.size (fun b hb _ => bb2.block b hb))
  exact ⟨bb1.trans (bb2.mono bb1.size), F_.2, F_.1, I2.1, I2.2⟩

set_option maxRecDepth 100000 in
set_option maxHeartbeats 8000000 in
theorem kb_loop {w0 : World} {f d had : Nat} (IH0 : KbIH w0 f) {lb : Int} {A : Option Addr} {n c : Nat} {ks : List PBlk} {p q : Int} {C : Option Addr} {cc : Nat} {g : KSt} {w : World} (hc : (chkB (f + 1) (.mk 6 lb ks) had).2 = 0) (hK : Blks d w0 A n c ks) (hL : LkM w0.heap.size w C g.links.length cc g.links) (hB : Below w0.heap.size w0 w) (hf : few (kbB (f + 1) (.mk 6 lb ks) p q g)) :
    Calls Try.prog 41 #[.agg #[.int .i64 6, .int .i64 lb, .slice A n c], .int .i64 p, .int .i64 q, .agg #[.int .i64 g.places, .slice C g.links.length cc]] w (AnsK w0.heap.size (kbB (f + 1) (.mk 6 lb ks) p q g) w) := by
  have hent : ∀ (args : Array Value) (w : World), Sem.run Try.prog (callFunc 104 args) w = .ok (.enter 104 args) w := fun args w => by kernel_rfl
  obtain ⟨_, hhd, h', _, hfold⟩ := chkB_inv hc
  replace hfold : ks.foldl (stepC (chkB f)) (had + 1, 0) = (h', 0) := hfold
  have hn2 := (headB_ok hhd).2.2.1 rfl
  simp only [PBlk.kids] at hn2
  have hnn : n = 2 := by have := hK.len; omega
  subst hnn
  obtain ⟨b0, ofA, k0, l0, s0, B0, m0, e0, d0, hd0, hA, hbA, hx0, p00, p01, p02, K0⟩ := hK.get (show 0 < 2 by omega)
  obtain ⟨b0', ofA', k1, l1, s1, B1, m1, e1, d1, hd1, hA', _, hx1, p10, p11, p12, K1⟩ := hK.get (show 1 < 2 by omega)
  subst hA
  injection hA' with hA'
  injection hA' with z1 z2
  subst z1 z2
  have hks : ks = [.mk k0 l0 s0, .mk k1 l1 s1] := by
    apply List.ext_getElem?
    intro j
    match j with
    | 0 => rw [hx0.out]; rfl
    | 1 => rw [hx1.out]; rfl
    | j + 2 => rw [List.getElem?_eq_none (by omega)]; rfl
  obtain ⟨hda, ha1, ha2⟩ := next_okC hfold hx0.out (by rfl : (ks.take 0).foldl (stepC (chkB f)) (had + 1, 0) = (had + 1, 0))
  obtain ⟨hdb, hb1, _⟩ := next_okC hfold hx1.out ha2
  obtain ⟨pl, hpl⟩ : ∃ pl, g.places = pl := ⟨_, rfl⟩
  obtain ⟨X1, hX1⟩ : ∃ X1, pl + 1 = X1 := ⟨_, rfl⟩
  obtain ⟨X2, hX2⟩ : ∃ X2, pl + 2 = X2 := ⟨_, rfl⟩
  obtain ⟨g1, hg1⟩ : ∃ g1, lnk (more g 2) 0 [p] [(pl : Int)] = g1 := ⟨_, rfl⟩
  obtain ⟨g2, hg2⟩ : ∃ g2, kbB f (.mk k0 l0 s0) (pl : Int) (X1 : Int) g1 = g2 := ⟨_, rfl⟩
  obtain ⟨g3, hg3⟩ : ∃ g3, kbB f (.mk k1 l1 s1) (X1 : Int) (pl : Int) g2 = g3 := ⟨_, rfl⟩
  obtain ⟨g4, hg4⟩ : ∃ g4, lnk g3 0 [(X1 : Int)] [q] = g4 := ⟨_, rfl⟩
  have HR := hide2 (show kbB (f + 1) (.mk 6 lb ks) p q g = g4 by rw [hks, kbB_6, hpl, hX1, hg1, hg2, hg3, hg4])
  rw [HR.out] at hf ⊢
  have W3 : few g3 := lnk_few (by rw [hg4]; exact hf)
  have W2 : few g2 := gr_few (kbB_gr f (.mk k1 l1 s1) hda _ _ g2 (by rw [hb1])).1 (by rw [hg3]; exact W3)
  have W1 : few g1 := gr_few (kbB_gr f (.mk k0 l0 s0) (had + 1) _ _ g1 (by rw [ha1])).1 (by rw [hg2]; exact W2)
  have W0 : few (more g 2) := lnk_few (by rw [hg1]; exact W1)
  have hk0 := W0.2
  have hk3 := W3.2
  have hx2 : X2 ≤ 300 := by have := W0.1; simp only [more] at this; omega
  have FR := hide2 (KFr.new w0.heap.size w #[.int .i64 6, .int .i64 lb, .slice (some ⟨b0, ofA, none⟩) 2 c] g.places (.slice C g.links.length cc) hB.size)
  have LM := hide2 (hL.keep FR.out.below)
  have HB := hide2 hB
  have CELL0 := hide2 (show ∀ wr, Below w0.heap.size w0 wr → wr.cell? ⟨b0, ofA, none⟩ = some (.int .i64 k0) ∧ wr.cell? ⟨b0, ofA + 1, none⟩ = some (.int .i64 l0) ∧ wr.cell? ⟨b0, ofA + 2, none⟩ = some (.slice B0 m0 e0) from fun wr hb => ⟨(hb.cell (p := ⟨b0, ofA, none⟩) hbA).trans (by simpa using p00), (hb.cell (p := ⟨b0, ofA + 1, none⟩) hbA).trans (by simpa using p01), (hb.cell (p := ⟨b0, ofA + 2, none⟩) hbA).trans (by simpa using p02)⟩)
  have CELL1 := hide2 (show ∀ wr, Below w0.heap.size w0 wr → wr.cell? ⟨b0, ofA + 3, none⟩ = some (.int .i64 k1) ∧ wr.cell? ⟨b0, ofA + 3 + 1, none⟩ = some (.int .i64 l1) ∧ wr.cell? ⟨b0, ofA + 3 + 2, none⟩ = some (.slice B1 m1 e1) from fun wr hb => ⟨(hb.cell (p := ⟨b0, ofA + 3, none⟩) hbA).trans (by simpa using p10), (hb.cell (p := ⟨b0, ofA + 3 + 1, none⟩) hbA).trans (by simpa using p11), (hb.cell (p := ⟨b0, ofA + 3 + 2, none⟩) hbA).trans (by simpa using p12)⟩)
  have HMG := hide2 (show (more g 2).places = X2 ∧ (more g 2).links = g.links by simp only [more]; exact ⟨by omega, trivial⟩)
  have C0 := hide2 (fun (w5 : World) (C5 : Option Addr) (c5 : Nat) (h5 : LkM w0.heap.size w5 C5 g1.links.length c5 g1.links) (hB5 : Below w0.heap.size w0 w5) => show Calls Try.prog _ _ _ (AnsK w0.heap.size g2 w5) from by rw [← hg2]; exact IH0 d0 k0 l0 B0 m0 e0 (had + 1) s0 (pl : Int) (X1 : Int) C5 c5 g1 w5 (by rw [ha1]) K0.out h5 hB5 (by rw [hg2]; exact W2))
  have C1 := hide2 (fun (w5 : World) (C5 : Option Addr) (c5 : Nat) (h5 : LkM w0.heap.size w5 C5 g2.links.length c5 g2.links) (hB5 : Below w0.heap.size w0 w5) => show Calls Try.prog _ _ _ (AnsK w0.heap.size g3 w5) from by rw [← hg3]; exact IH0 d1 k1 l1 B1 m1 e1 hda s1 (X1 : Int) (pl : Int) C5 c5 g2 w5 (by rw [hb1]) K1.out h5 hB5 (by rw [hg3]; exact W3))
  have LK1 := hide2 (fun (w5 : World) (C5 A1 A2 : Option Addr) (c5 : Nat) (h5 : LkM w0.heap.size w5 C5 g.links.length c5 g.links) (i1 : Ints w5 A1 1 1 [p]) (f1 : FarG w0.heap.size w5 A1 1) (i2 : Ints w5 A2 1 1 [(pl : Int)]) (f2 : FarG w0.heap.size w5 A2 1) => show Calls Try.prog _ _ _ (AnsK w0.heap.size g1 w5) from by
    rw [← hg1]
    have := klink_calls (g := more g 2) 0 (C := C5) h5 i1 i2 f1 f2 (by show g.links.length ≤ 1000; have : g.links.length ≤ 300 := hk0; omega)
    rw [HMG.out.1] at this
    exact this)
  have LK4 := hide2 (fun (w5 : World) (C5 A1 A2 : Option Addr) (c5 : Nat) (h5 : LkM w0.heap.size w5 C5 g3.links.length c5 g3.links) (i1 : Ints w5 A1 1 1 [(X1 : Int)]) (f1 : FarG w0.heap.size w5 A1 1) (i2 : Ints w5 A2 1 1 [q]) (f2 : FarG w0.heap.size w5 A2 1) => show Calls Try.prog _ _ _ (AnsK w0.heap.size g4 w5) from by
    rw [← hg4]
    exact klink_calls (g := g3) 0 (C := C5) h5 i1 i2 f1 f2 (by omega))
  have hadd1 : (pl : Int) + 1 = (X1 : Int) := by omega
  have hadd2 : (pl : Int) + 2 = (X2 : Int) := by omega
  rw [hpl] at FR LM ⊢
  clear hL hB hK hc IH0 hfold hf hhd hn2 hx0 hx1 p00 p01 p02 p10 p11 p12 hks ha1 ha2 hb1 hpl hg1 hg2 hg3 hg4 K0 K1 hd0 hd1 hbA hk0 hk3 W0 W1 W2 W3 HR hX1 hX2 HMG
  go_enter Try.func41, Try.ntmps41
  go_upto_region 1 with fail
  generalize ((w.alloc (.cells #[.int .i64 6, .int .i64 lb, .slice (some ⟨b0, ofA, none⟩) 2 c] 24)).alloc (.cells #[.int .i64 pl, .slice C g.links.length cc] 81)).alloc (.cells #[.int .i64 0, .slice none 0 0] 81) = u at *
  obtain ⟨c0, c1, c2⟩ := FR.out.blk.three
  obtain ⟨y0, y1⟩ := FR.out.kg.two
  go_upto_region 40 with fail
  go_region_held3 (fun w' => w'.cell? ⟨w.heap.size + 1, 0, none⟩ = some (.int .i64 pl)) (first | go_keep) (fail)
  have WX1 : IntKind.i64.wrap (X1 : Int) = (X1 : Int) := by rw [IntKind.wrap_i64]; omega
  rw [WX1]
  clear WX1 c0 c1 c2 y0 y1
  have Fa := hide2 (FR.out.keep (Below.refl _ _).drew)
  have La := hide2 (LM.out.keep (Below.refl _ _).drew)
  clear FR LM
  generalize u.drew = ua at *
  obtain ⟨y0, y1⟩ := Fa.out.kg.two
  have z0 := Fa.out.kg.frozen 0
  have Fb := hide2 (Fa.out.setP X2)
  have Lb := hide2 (La.out.setP Fa.out X2)
  go_upto_region 42 with fail
  clear y0 y1 z0 La
  clear Fa
  generalize ua.setCell ⟨w.heap.size + 1, 0, none⟩ (.int .i64 X2) = ub at *
  obtain ⟨y0, y1⟩ := Fb.out.kg.two
  obtain ⟨t1, t2, t3, t4, t5⟩ := twoRows w0.heap.size ub p (pl : Int)
  have CL1 := hide2 (LK1.out _ C _ _ cc (Lb.out.keep t1) t2 t3 t4 t5)
  have Fc := hide2 (Fb.out.keep t1)
  clear t1 t2 t3 t4 t5 Fb Lb
  go_upto_region 43 with (go_at_call 104; (with_reducible refine CL1.out.mono ?_); rintro e w3 ⟨C3, c3, rfl, lm, bl3⟩; have Fd := hide2 (Fc.out.keep bl3); have Ld := hide2 lm; clear lm bl3 y0 y1; obtain ⟨y0, y1⟩ := Fd.out.kg.two; have z0 := Fd.out.kg.frozen 0; have z1 := Fd.out.kg.frozen 1; have Fe := hide2 (Fd.out.set g1.places (.slice C3 g1.links.length c3)); have Le := hide2 (Ld.out.setK Fd.out g1.places (.slice C3 g1.links.length c3)))
  clear y0 y1 z0 z1 Ld Fc CL1
  clear Fd
  generalize (w3.setCell ⟨w.heap.size + 1, 0, none⟩ (.int .i64 g1.places)).setCell ⟨w.heap.size + 1, 1, none⟩ (.slice C3 g1.links.length c3) = we at *
  have BE := HB.out.trans (Fe.out.below.mono HB.out.size)
  obtain ⟨q0, q1, q2⟩ := CELL0.out _ BE
  obtain ⟨c0, c1, c2⟩ := Fe.out.blk.three
  obtain ⟨y0, y1⟩ := Fe.out.kg.two
  have Ff := hide2 (Fe.out.keep (Below.refl _ _).drew)
  have BF := HB.out.trans (Ff.out.below.mono HB.out.size)
  have C0f := hide2 (C0.out _ C3 c3 (Le.out.keep (Below.refl _ _).drew) BF)
  clear BE BF Fe Le
  refine wp_region_script 7 [(0, 0), (0, 1), (0, 2), (0, 3), (0, 4), (0, 5), (0, 6), (2, 7), (2, 8)] (fun w' => w'.cell? ⟨w.heap.size, 2, none⟩ = some (.slice (some ⟨b0, ofA, none⟩) 2 c) ∧ w'.cell? ⟨b0, ofA, none⟩ = some (.int .i64 k0) ∧ w'.cell? ⟨b0, ofA + 1, none⟩ = some (.int .i64 l0) ∧ w'.cell? ⟨b0, ofA + 2, none⟩ = some (.slice B0 m0 e0) ∧ w'.cell? ⟨w.heap.size + 1, 0, none⟩ = some (.int .i64 g1.places) ∧ w'.cell? ⟨w.heap.size + 1, 1, none⟩ = some (.slice C3 g1.links.length c3)) (by kernel_rfl) (by kernel_rfl) (by kernel_rfl) (fun _ _ _ _ _ h => h) ⟨c2, q0, q1, q2, y0, y1⟩ (fun hHeld => ?_)
  iterate 7
    refine scTake (v := ?_) rfl (by rfl) hHeld (fun w' hSw => ?_) ?_
    rotate_left
    · (go_simp; try with_reducible rfl)
    simp only [Act.put, List.setIfInBounds_toArray, List.set_cons_zero, List.set_cons_succ]
  refine scEnd rfl (fun K hK => ?_)
  go_simp; go_at_call 41
  (with_reducible refine C0f.out.mono ?_)
  rintro e w4 ⟨C4, c4, rfl, lm, bl4⟩
  clear c0 c1 c2 q0 q1 q2 y0 y1 hHeld
  have Fg := hide2 (Ff.out.keep bl4)
  have Lg := hide2 lm
  clear lm bl4
  obtain ⟨y0, y1⟩ := Fg.out.kg.two
  have z0 := Fg.out.kg.frozen 0
  have z1 := Fg.out.kg.frozen 1
  refine hK.out _ _ ?_
  clear hK
  try simp only [Act.put, List.setIfInBounds_toArray, List.set_cons_zero, List.set_cons_succ]
  refine scEnd rfl (fun K hK => ?_)
  go_simp
  refine hK.out _ _ ?_
  clear hK
  simp only [wpScript]
  have Fh := hide2 (Fg.out.set g2.places (.slice C4 g2.links.length c4))
  have Lh := hide2 (Lg.out.setK Fg.out g2.places (.slice C4 g2.links.length c4))
  clear y0 y1 z0 z1 Fg Lg C0f Ff
  go_upto_region 44 with fail
  generalize (w4.setCell ⟨w.heap.size + 1, 0, none⟩ (.int .i64 g2.places)).setCell ⟨w.heap.size + 1, 1, none⟩ (.slice C4 g2.links.length c4) = wh at *
  have BE := HB.out.trans (Fh.out.below.mono HB.out.size)
  obtain ⟨q0, q1, q2⟩ := CELL1.out _ BE
  obtain ⟨c0, c1, c2⟩ := Fh.out.blk.three
  obtain ⟨y0, y1⟩ := Fh.out.kg.two
  have Fi := hide2 (Fh.out.keep (Below.refl _ _).drew)
  have BF := HB.out.trans (Fi.out.below.mono HB.out.size)
  have C1f := hide2 (C1.out _ C4 c4 (Lh.out.keep (Below.refl _ _).drew) BF)
  clear BE BF Fh Lh
  refine wp_region_script 7 [(0, 0), (0, 1), (0, 2), (0, 3), (0, 4), (0, 5), (0, 6), (2, 7), (2, 8)] (fun w' => w'.cell? ⟨w.heap.size, 2, none⟩ = some (.slice (some ⟨b0, ofA, none⟩) 2 c) ∧ w'.cell? ⟨b0, ofA + 3, none⟩ = some (.int .i64 k1) ∧ w'.cell? ⟨b0, ofA + 3 + 1, none⟩ = some (.int .i64 l1) ∧ w'.cell? ⟨b0, ofA + 3 + 2, none⟩ = some (.slice B1 m1 e1) ∧ w'.cell? ⟨w.heap.size + 1, 0, none⟩ = some (.int .i64 g2.places) ∧ w'.cell? ⟨w.heap.size + 1, 1, none⟩ = some (.slice C4 g2.links.length c4)) (by kernel_rfl) (by kernel_rfl) (by kernel_rfl) (fun _ _ _ _ _ h => h) ⟨c2, q0, q1, q2, y0, y1⟩ (fun hHeld => ?_)
  iterate 7
    refine scTake (v := ?_) rfl (by rfl) hHeld (fun w' hSw => ?_) ?_
    rotate_left
    · (go_simp; try with_reducible rfl)
    simp only [Act.put, List.setIfInBounds_toArray, List.set_cons_zero, List.set_cons_succ]
  refine scEnd rfl (fun K hK => ?_)
  go_simp; go_at_call 41
  (with_reducible refine C1f.out.mono ?_)
  rintro e w5 ⟨C5, c5, rfl, lm, bl4⟩
  clear c0 c1 c2 q0 q1 q2 y0 y1 hHeld
  have Fj := hide2 (Fi.out.keep bl4)
  have Lj := hide2 lm
  clear lm bl4
  obtain ⟨y0, y1⟩ := Fj.out.kg.two
  have z0 := Fj.out.kg.frozen 0
  have z1 := Fj.out.kg.frozen 1
  refine hK.out _ _ ?_
  clear hK
  try simp only [Act.put, List.setIfInBounds_toArray, List.set_cons_zero, List.set_cons_succ]
  refine scEnd rfl (fun K hK => ?_)
  go_simp
  refine hK.out _ _ ?_
  clear hK
  simp only [wpScript]
  have Fk := hide2 (Fj.out.set g3.places (.slice C5 g3.links.length c5))
  have Lk := hide2 (Lj.out.setK Fj.out g3.places (.slice C5 g3.links.length c5))
  clear y0 y1 z0 z1 Fj Lj C1f Fi
  go_upto_region 45 with fail
  generalize (w5.setCell ⟨w.heap.size + 1, 0, none⟩ (.int .i64 g3.places)).setCell ⟨w.heap.size + 1, 1, none⟩ (.slice C5 g3.links.length c5) = wk at *
  obtain ⟨y0, y1⟩ := Fk.out.kg.two
  obtain ⟨t1, t2, t3, t4, t5⟩ := twoRows w0.heap.size wk (X1 : Int) q
  have CL4 := hide2 (LK4.out _ C5 _ _ c5 (Lk.out.keep t1) t2 t3 t4 t5)
  have Fl := hide2 (Fk.out.keep t1)
  clear t1 t2 t3 t4 t5 Fk Lk
  go_upto_region 46 with (go_at_call 104; (with_reducible refine CL4.out.mono ?_); rintro e w6 ⟨C6, c6, rfl, lm, bl6⟩; have Fm := hide2 (Fl.out.keep bl6); have Lm := hide2 lm; clear lm bl6 y0 y1; obtain ⟨y0, y1⟩ := Fm.out.kg.two; have z0 := Fm.out.kg.frozen 0; have z1 := Fm.out.kg.frozen 1; have Fn := hide2 (Fm.out.set g4.places (.slice C6 g4.links.length c6)); have Ln := hide2 (Lm.out.setK Fm.out g4.places (.slice C6 g4.links.length c6)))
  clear y0 y1 z0 z1 Lm Fl CL4
  clear Fm
  generalize (w6.setCell ⟨w.heap.size + 1, 0, none⟩ (.int .i64 g4.places)).setCell ⟨w.heap.size + 1, 1, none⟩ (.slice C6 g4.links.length c6) = wn at *
  obtain ⟨y0, y1⟩ := Fn.out.kg.two
  obtain ⟨v0, v1⟩ := Fn.out.res.two
  have z0 := Fn.out.res.frozen 0
  have z1 := Fn.out.res.frozen 1
  go_wp2
  obtain ⟨d1, d2, d3⟩ := Fn.out.done Ln.out g4.places (.slice C6 g4.links.length c6)
  have r0 := d1.cell 0
  have r1 := d1.cell 1
  exact bodyPost_ret (v := .agg #[.int .i64 g4.places, .slice C6 g4.links.length c6]) (by simp [results, Try.results41, go_sem, r0, r1]) rfl ⟨C6, c6, rfl, d2, d3⟩
end Go.Proofs.Ytnfppolgaeibeaa
