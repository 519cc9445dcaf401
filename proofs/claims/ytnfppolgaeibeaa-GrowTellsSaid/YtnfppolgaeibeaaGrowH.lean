/- The contract of grow on what goes side by side, given what it does within. Conditions: the block reads as a tree and is right. -/
import Derived.Test.YtnfppolgaeibeaaGrowD
import Derived.Test.YtnfppolgaeibeaaNetJ
import Derived.Maps.Range
namespace Go.Proofs.Ytnfppolgaeibeaa
open Go.RowKit

/-- Two values do not lie in one row. -/
def DistV (u v : Value) : Prop := u.ownBlock = none ∨ u.ownBlock ≠ v.ownBlock
theorem insL_at {pl n i : Nat} (h : i < n) : (insL pl n)[i]? = some (((pl + 2 * i : Nat)) : Int) := by simp [insL, h]
theorem outsL_at {pl n i : Nat} (h : i < n) : (outsL pl n)[i]? = some (((pl + 2 * i + 1 : Nat)) : Int) := by simp [outsL, h]

theorem grownBelow {w w' : World} (hb : Below w.heap.size w w') : w.grownBy w' none := ⟨hb.os, hb.tape, hb.output, hb.size, fun k hk _ => hb.block k hk⟩
theorem DistV.other {u v : Value} (h : DistV u v) : v.ownBlock = none ∨ v.ownBlock ≠ u.ownBlock := by
  rcases h with h | h
  · cases hv : v.ownBlock with
    | none => exact .inl rfl
    | some k => exact .inr (by rw [h]; simp)
  · exact .inr (fun e => h e.symm)
theorem Kp.jump {w u w' : World} {bg : Nat} {cs : Array Value} (h : Kp w u) (hg : u.grownBy w' (some bg)) (hx : Box u bg 72 cs) : Kp w w' := h.trans ⟨hg.size, fun b cs' ty fr _ h2 hb => hg.block b (Array.getElem?_eq_some_iff.1 hb).1 (fun e => by
  injection e with e
  subst e
  unfold Box at hx
  rw [hx] at hb
  injection hb with hb
  injection hb with _ hb
  exact h2 hb.symm)⟩
/-- An element is put behind a row of the call's own: what comes of it. -/
theorem own_step {u wa w8 : World} {bg i j B : Nat} {vi vo v8 : Value} {xs ys : List Int} {cs : Array Value} (hB : B = u.heap.size) (hbg : bg < u.heap.size) (OI : OwnInts wa B vi i xs) (OO : OwnInts wa B vo j ys) (DV : DistV vi vo) (GB : u.grownBy wa (some bg)) (XB : Box wa bg 72 cs) (hg : wa.grownBy w8 vi.ownBlock) (hat : v8.ownBlock = vi.ownBlock ∨ v8.ownBlock = some wa.heap.size) :
    OwnInts w8 B vo j ys ∧ DistV v8 vo ∧ u.grownBy w8 (some bg) ∧ Box w8 bg 72 cs := by
  subst hB
  refine ⟨OwnSl.kept OO hg DV.other (fun _ _ h => h), ?_, GB.andThen hg (fun k hk => .inl (OwnSl.lt OI k hk).1), XB.grown hg (fun e => by have := (OwnSl.lt OI bg e).1; omega)⟩
  rcases hat with h | h
  · unfold DistV; rw [h]; exact DV
  · refine .inr (fun e => ?_)
    rw [h] at e
    have := (OwnSl.lt OO _ e.symm).2
    omega

set_option maxRecDepth 100000 in
set_option maxHeartbeats 8000000 in
theorem grow_both {w0 : World} {bg f d had : Nat} (IH0 : GrowIH w0 bg f) {lb : Int} {A : Option Addr} {n c : Nat} {ks : List PBlk} {p q : Int} {v : Value} {g : KSt} {w : World} (hc : (chkB (f + 1) (.mk 5 lb ks) had).2 = 0) (hK : Blks d w0 A n c ks) (hG : GrW w0.heap.size bg w v g) (hB : Below w0.heap.size w0 w) (hf : fitsK g) :
    Calls Try.prog 38 #[.pointer (some ⟨bg, 0, none⟩), .agg #[.int .i64 5, .int .i64 lb, .slice A n c], .int .i64 p, .int .i64 q] w (AnsGrow w0 bg w (kbB (f + 1) (.mk 5 lb ks) p q g)) := by
  have hent : ∀ (args : Array Value) (w : World), Sem.run Try.prog (callFunc 100 args) w = .ok (.enter 100 args) w := fun args w => by kernel_rfl
  obtain ⟨_, _, h', _, hfold⟩ := chkB_inv hc
  replace hfold : ks.foldl (stepC (chkB f)) (had + 1, 0) = (h', 0) := hfold
  have IH := hide2 IH0
  have FO := hide2 hfold
  obtain ⟨pl, hpl⟩ : ∃ pl, g.places = pl := ⟨_, rfl⟩
  obtain ⟨F, hF⟩ : ∃ F : KSt → PBlk × Nat → KSt, F = bothF (kbB f) pl := ⟨_, rfl⟩
  obtain ⟨g1, hg1⟩ : ∃ g1, lnk (more g (2 * n)) 0 [p] (insL pl n) = g1 := ⟨_, rfl⟩
  obtain ⟨g5, hg5⟩ : ∃ g5, lnk (ks.zipIdx.foldl F g1) 0 (outsL pl n) [q] = g5 := ⟨_, rfl⟩
  have HFD := hide2 hF
  have HLs := hK.len
  have HR := hide2 (show kbB (f + 1) (.mk 5 lb ks) p q g = g5 by rw [kbB_5, HLs, hpl, hg1, ← hF, hg5])
  have TG := hide2 (fun (i hd : Nat) (h1 : (ks.take i).foldl (stepC (chkB f)) (had + 1, 0) = (hd, 0)) => show Gr ((ks.take i).zipIdx.foldl F g1) (ks.zipIdx.foldl F g1) (h' - hd) from by
    rw [hF]; exact tail_gr (fun s => s) _ both_step h1 hfold)
  rw [HR.out]
  have F5 := hide2 (show fitsK g5 → fitsK (ks.zipIdx.foldl F g1) from fun h => lnk_fits (by rw [hg5]; exact h))
  have F1 := hide2 (show fitsK g5 → fitsK g1 from fun h => (TG.out 0 (had + 1) rfl).fits (F5.out h))
  have F0 := hide2 (show fitsK g1 → fitsK (more g (2 * n)) from fun h => lnk_fits (by rw [hg1]; exact h))
  have bb := boxBelow w (.cells #[.int .i64 5, .int .i64 lb, .slice A n c] 24)
  have BB := hide2 (Box.new w #[.int .i64 5, .int .i64 lb, .slice A n c] 24)
  have GW := hide2 (hG.keep bb)
  have BX := hide2 (hB.trans (bb.mono hB.size))
  have KW := hide2 (Kp.below bb)
  have HL := hide2 HLs
  have hns := hK.small
  have K := hide2 hK
  have HFT := hide2 hf
  have LK1 := hide2 hg1
  have LK5 := hide2 hg5
  have HPL := hide2 hpl
  have hn16 : 2 * n ≤ 16 ∨ ¬ fitsK (more g (2 * n)) := by
    by_cases h : 2 * n ≤ 16
    · exact .inl h
    · exact .inr fun hh => h (by have := hh.1; simp only [more] at this; omega)
  clear hG hB bb hK hc IH0 hfold hF hf HLs hg1 hg5 hpl
  go_enter Try.func38, Try.ntmps38
  go_upto_region 1 with fail
  generalize w.alloc (.cells #[.int .i64 5, .int .i64 lb, .slice A n c] 24) = u at *
  obtain ⟨b0, b1, b2⟩ := BB.out.three
  have bgl := hide2 GW.out.lt
  have XB0 := hide2 (show Box u bg 72 #[.int .i64 ((g.places + 0 : Nat) : Int), v] from GW.out.box)
  have MF0 := hide2 (show fitsK (more g 0) from HFT.out)
  go_wp2
  clear b0 b1 b2
  have BXat := hide2 (fun (wr : World) (hg : u.grownBy wr (some bg)) => show Below w0.heap.size w0 wr from BX.out.grown hg BX.out.size (fun k hk => by cases hk; exact GW.out.lo))
  have KWat := hide2 (fun (wr : World) (hg : u.grownBy wr (some bg)) => KW.out.jump hg GW.out.box)
  have BBat := hide2 (fun (wr : World) (hg : u.grownBy wr (some bg)) => show Box wr w.heap.size 24 #[.int .i64 5, .int .i64 lb, .slice A n c] from BB.out.grown hg (fun e => by
    injection e with e
    have h1 := GW.out.box
    have h2 := BB.out
    rw [e] at h1
    unfold Box at h1 h2
    rw [h2] at h1
    injection h1 with h1
    injection h1 with _ h1
    exact absurd h1 (by decide)))
  have hNu := hide2 BX.out.size
  clear BX KW BB
  go_loopw [15, 16, 95] (fun vi vo iv wr => ∃ (i : Nat), i ≤ n ∧ iv = .int .i64 i ∧ Hid (OwnInts wr u.heap.size vi i (insL pl i)) ∧ Hid (OwnInts wr u.heap.size vo i (outsL pl i)) ∧ Hid (DistV vi vo) ∧ Hid (u.grownBy wr (some bg)) ∧ Hid (Box wr bg 72 #[.int .i64 ((g.places + 2 * i : Nat) : Int), v]) ∧ Hid (fitsK (more g (2 * i)))) (fun _ _ iv _ => n - (intOf iv).toNat)
  case atStart => exact ⟨0, Nat.zero_le _, rfl, OwnSl.nil, OwnSl.nil, .inl rfl, World.grownBy.refl _ _, XB0, MF0⟩
  case round =>
    clear XB0 MF0
    obtain ⟨i, hi, rfl, OI, OO, DV, GB, XB, MF⟩ := hrel
    by_cases hlt : i < n
    · have hki : (i : Int) < (n : Int) := by omega
      have G1 := hide2 (GW.out.far GB.out XB.out)
      have BX := hide2 (BXat.out wr GB.out)
      obtain ⟨X, hX⟩ : ∃ X : Int, ((pl + 2 * i : Nat) : Int) = X := ⟨_, rfl⟩
      obtain ⟨Y, hY⟩ : ∃ Y : Int, ((pl + 2 * i + 1 : Nat) : Int) = Y := ⟨_, rfl⟩
      have IS := hide2 (insL_succ pl i)
      have OS := hide2 (outsL_succ pl i)
      rw [hX] at IS
      rw [hY] at OS
      have hi4 : i + 1 ≤ 17592186044416 := by
        have := MF.out.1
        simp only [more] at this
        omega
      by_cases h1 : fitsK (more g (2 * i + 1))
      · have P1 := hide2 (place_call G1.out BX.out h1)
        rw [show (more g (2 * i)).places = pl + 2 * i by simp only [more, HPL.out], hX] at P1
        by_cases h2 : fitsK (more g (2 * i + 2))
        · have P2 := hide2 (fun (w5 : World) (hg5 : u.grownBy w5 (some bg)) (hx5 : Box w5 bg 72 #[.int .i64 ((g.places + (2 * i + 1) : Nat) : Int), v]) => show Calls Try.prog _ _ w5 (fun e w' => e = .returned (.int .i64 Y) ∧ GrW w0.heap.size bg w' v (more g (2 * i + 2)) ∧ Below w0.heap.size w0 w' ∧ Kp w5 w' ∧ w5.grownBy w' (some bg)) from by
            have := place_call (GW.out.far hg5 hx5) (BXat.out w5 hg5) h2
            rw [show (more g (2 * i + 1)).places = pl + 2 * i + 1 by simp only [more, HPL.out]; omega, hY] at this
            exact this)
          clear hX hY hki G1 BX
          have hki : (i : Int) < (n : Int) := by omega
          go_wp2_with (first
            | (at_builtin; refine wpList_appOwn rfl _ _ rfl rfl rfl OOd.out SRd.out (Nat.le_trans GBd.out.size (Nat.le_refl _)) hi4 (BXat.out _ GBd.out) hNu.out ?_; intro v11 w11 own11 hg11 hb11 hat11; obtain ⟨q1, q2, q3, q4⟩ := own_step rfl bgl.out OOd.out OId.out DV8.out.other GBd.out XBd.out hg11 hat11; have OO11 := hide2 own11; have OI11 := hide2 q1; have DV11 := hide2 (DistV.other q2); have GB11 := hide2 q3; have XB11 := hide2 q4; clear own11 hg11 hb11 hat11 q1 q2 q3 q4)
            | (at_builtin; refine wpList_appOwn rfl _ _ rfl rfl rfl OIa.out SRa.out GBa.out.size hi4 (BXat.out _ GBa.out) hNu.out ?_; intro v8 w8 own8 hg8 hb8 hat8; obtain ⟨q1, q2, q3, q4⟩ := own_step rfl bgl.out OIa.out OOa.out DV.out GBa.out XBa.out hg8 hat8; have OI8 := hide2 own8; have OO8 := hide2 q1; have DV8 := hide2 q2; have GB8 := hide2 q3; have XB8 := hide2 q4; clear own8 hg8 hb8 hat8 q1 q2 q3 q4)
            | (go_at_call 102; (with_reducible refine (P2.out _ GB8.out XB8.out).mono ?_); rintro e w9 ⟨rfl, hg9, _, _, hgb9⟩; have bb9 := boxBelow w9 (.cells #[.int .i64 Y] 3); have GBd := hide2 ((GB8.out.andThen hgb9 (fun j hj => .inr hj)).andThen (grownBelow bb9) (fun j hj => by cases hj)); have XBd := hide2 (show Box (w9.alloc (.cells #[.int .i64 Y] 3)) bg 72 #[.int .i64 ((g.places + (2 * i + 2) : Nat) : Int), v] from hg9.box.keep bb9); have OId := hide2 (OwnSl.keep IntR.kept (OwnSl.kept OI8.out hgb9 (.inr (fun e => by have := (OwnSl.lt OI8.out _ e).1; have := bgl.out; omega)) (fun _ _ h => h)) bb9); have OOd := hide2 (OwnSl.keep IntR.kept (OwnSl.kept OO8.out hgb9 (.inr (fun e => by have := (OwnSl.lt OO8.out _ e).1; have := bgl.out; omega)) (fun _ _ h => h)) bb9); have SRd := hide2 (oneG w0.heap.size w9 Y).1; clear bb9 hg9 hgb9)
            | (go_at_call 102; (with_reducible refine P1.out.mono ?_); rintro e w6 ⟨rfl, hg6, _, _, hgb6⟩; have bb6 := boxBelow w6 (.cells #[.int .i64 X] 3); have GBa := hide2 ((GB.out.andThen hgb6 (fun j hj => .inr hj)).andThen (grownBelow bb6) (fun j hj => by cases hj)); have XBa := hide2 (show Box (w6.alloc (.cells #[.int .i64 X] 3)) bg 72 #[.int .i64 ((g.places + (2 * i + 1) : Nat) : Int), v] from hg6.box.keep bb6); have OIa := hide2 (OwnSl.keep IntR.kept (OwnSl.kept OI.out hgb6 (.inr (fun e => by have := (OwnSl.lt OI.out _ e).1; have := bgl.out; omega)) (fun _ _ h => h)) bb6); have OOa := hide2 (OwnSl.keep IntR.kept (OwnSl.kept OO.out hgb6 (.inr (fun e => by have := (OwnSl.lt OO.out _ e).1; have := bgl.out; omega)) (fun _ _ h => h)) bb6); have SRa := hide2 (oneG w0.heap.size w6 X).1; clear bb6 hg6 hgb6))
          go_roundw
          case rel => exact ⟨i + 1, by omega, by go_num, hide2 (by rw [IS.out]; exact OI11.out), hide2 (by rw [OS.out]; exact OO11.out), DV11, GB11, XB11, hide2 h2⟩
          case measure => simp [intOf]; omega
        · have P2 := hide2 (fun (w5 : World) (hg5 : u.grownBy w5 (some bg)) (hx5 : Box w5 bg 72 #[.int .i64 ((g.places + (2 * i + 1) : Nat) : Int), v]) => show Calls Try.prog _ _ w5 (NoGrow w0) from place_none (GW.out.far hg5 hx5) (BXat.out w5 hg5) h1 h2)
          have NF := hide2 (fun h => h2 (more_fits (F0.out (F1.out h)) (by omega)))
          clear hX hY G1 BX
          go_wp2_with (first
            | (at_builtin; refine wpList_appOwn rfl _ _ rfl rfl rfl OIa.out SRa.out GBa.out.size hi4 (BXat.out _ GBa.out) hNu.out ?_; intro v8 w8 own8 hg8 hb8 hat8; obtain ⟨q1, q2, q3, q4⟩ := own_step rfl bgl.out OIa.out OOa.out DV.out GBa.out XBa.out hg8 hat8; have OI8 := hide2 own8; have OO8 := hide2 q1; have DV8 := hide2 q2; have GB8 := hide2 q3; have XB8 := hide2 q4; clear own8 hg8 hb8 hat8 q1 q2 q3 q4)
            | (go_at_call 102; (with_reducible refine (P2.out _ GB8.out XB8.out).mono ?_); rintro e w9 ⟨rfl, hb9⟩; have X9 := hide2 hb9; clear hb9)
            | (go_at_call 102; (with_reducible refine P1.out.mono ?_); rintro e w6 ⟨rfl, hg6, _, _, hgb6⟩; have bb6 := boxBelow w6 (.cells #[.int .i64 X] 3); have GBa := hide2 ((GB.out.andThen hgb6 (fun j hj => .inr hj)).andThen (grownBelow bb6) (fun j hj => by cases hj)); have XBa := hide2 (show Box (w6.alloc (.cells #[.int .i64 X] 3)) bg 72 #[.int .i64 ((g.places + (2 * i + 1) : Nat) : Int), v] from hg6.box.keep bb6); have OIa := hide2 (OwnSl.keep IntR.kept (OwnSl.kept OI.out hgb6 (.inr (fun e => by have := (OwnSl.lt OI.out _ e).1; have := bgl.out; omega)) (fun _ _ h => h)) bb6); have OOa := hide2 (OwnSl.keep IntR.kept (OwnSl.kept OO.out hgb6 (.inr (fun e => by have := (OwnSl.lt OO.out _ e).1; have := bgl.out; omega)) (fun _ _ h => h)) bb6); have SRa := hide2 (oneG w0.heap.size w6 X).1; clear bb6 hg6 hgb6))
          exact ⟨rfl, .inr ⟨NF.out, rfl, X9.out⟩⟩
      · have P1 := hide2 (place_none G1.out BX.out MF.out h1)
        have NF := hide2 (fun h => h1 (more_fits (F0.out (F1.out h)) (by omega)))
        go_wp2_with (go_at_call 102; (with_reducible refine P1.out.mono ?_); rintro e w7 ⟨rfl, hb7⟩; have X7 := hide2 hb7; clear hb7)
        exact ⟨rfl, .inr ⟨NF.out, rfl, X7.out⟩⟩
    · obtain rfl : i = n := by omega
      have G1 := hide2 (GW.out.far GB.out XB.out)
      have BX := hide2 (BXat.out wr GB.out)
      have KW := hide2 (KWat.out wr GB.out)
      have BB := hide2 (BBat.out wr GB.out)
      have hi16 : i ≤ 16 := by
        have := MF.out.1
        simp only [more] at this
        omega
      obtain ⟨Ai, ci, rfl, ii⟩ := OwnSl.sl OI.out (by omega)
      obtain ⟨Ao, co, rfl, io⟩ := OwnSl.sl OO.out (by omega)
      have fi := FarG.own (N := w0.heap.size) OI.out
      have fo := FarG.own (N := w0.heap.size) OO.out
      have bb1 := boxBelow wr (.cells #[.int .i64 p] 3)
      have I1 := oneG w0.heap.size wr p
      have II := hide2 (fi.same ii bb1.size (fun b hb _ => bb1.block b hb))
      have I_ := hide2 (fo.same io bb1.size (fun b hb _ => bb1.block b hb))
      have CL := hide2 (link_call 0 (G1.out.keep bb1) (BX.out.trans (bb1.mono BX.out.size)) I1.1 II.out.2 I1.2 II.out.1 MF.out)
      rw [LK1.out] at CL
      have X1 := hide2 (BX.out.trans (bb1.mono BX.out.size))
      have K1 := hide2 (KW.out.trans (Kp.below bb1))
      have B1 := hide2 (BB.out.keep bb1)
      obtain ⟨c0, c1, c2⟩ := BB.out.three
      clear OI OO DV GB XB G1 BX KW BB ii io fi fo bb1 I1 BXat KWat BBat hlt hn16
      by_cases h1 : fitsK g1
      · have CK := hide2 (callsOk CL.out h1)
        have FT0 := hide2 (show fitsK ((ks.take 0).zipIdx.foldl F g1) from h1)
        clear CL
        go_upto_region 31 with (first
          | (go_at_call 100; (with_reducible refine (one_calls' _ _).mono ?_); rintro e w1 ⟨rfl, rfl⟩)
          | (go_at_call 101; (with_reducible refine CK.out.mono ?_); rintro e wa ⟨rfl, ⟨va, hga⟩, hba, hka⟩; have GA := hide2 (show GrW w0.heap.size bg wa va ((ks.take 0).zipIdx.foldl F g1) from hga); have XA := hide2 hba; have KA := hide2 (K1.out.trans hka); have BBA := hide2 (hka.box B1.out (by decide) (by decide)); have IIa := hide2 (II.out.1.kp II.out.2 hka X1.out hba); have IOa := hide2 (I_.out.1.kp I_.out.2 hka X1.out hba); clear hga hba hka))
        clear c0 c1 c2 II I_ X1 K1 B1 CK
        obtain ⟨c0, c1, c2⟩ := BBA.out.three
        go_wp2
        clear c0 c1 c2
        go_loopw [117] (fun iv wr => ∃ (j hd : Nat) (v : Value), j ≤ i ∧ iv = .int .i64 j ∧ Hid (GrW w0.heap.size bg wr v ((ks.take j).zipIdx.foldl F g1)) ∧ Hid ((ks.take j).foldl (stepC (chkB f)) (had + 1, 0) = (hd, 0)) ∧ Hid (fitsK ((ks.take j).zipIdx.foldl F g1)) ∧ Hid (Below w0.heap.size w0 wr) ∧ Hid (Kp w wr) ∧ Hid (FarG w0.heap.size wr Ai i ∧ Ints wr Ai i ci (insL pl i)) ∧ Hid (FarG w0.heap.size wr Ao i ∧ Ints wr Ao i co (outsL pl i))) (fun iv _ => i - (intOf iv).toNat)
        case atStart => exact ⟨0, had + 1, va, Nat.zero_le _, rfl, GA, rfl, FT0, XA, KA, IIa, IOa⟩
        case round =>
          clear GA FT0 XA KA IIa IOa BBA
          obtain ⟨j, hd, v, hj, rfl, GW, CK, FT, BX, KW, II, I_⟩ := hrel
          by_cases hlt : j < i
          · have hki : (j : Int) < (i : Int) := by omega
            obtain ⟨bl, off, kd', lb', ks', B', m', e', d', rfl, rfl, hbl, hx, p0, p1, p2, K'⟩ := K.out.get hlt
            have q0 := (BX.out.cell (p := ⟨bl, _, none⟩) hbl).trans p0
            have q1 := (BX.out.cell (p := ⟨bl, _, none⟩) hbl).trans p1
            have q2 := (BX.out.cell (p := ⟨bl, _, none⟩) hbl).trans p2
            obtain ⟨hd', hk1, hk2⟩ := next_okC FO.out hx.out CK.out
            have CK2 := hide2 hk2
            have ZS := hide2 (zip_step (F := F) (s := g1) hx.out)
            have bb2 := boxBelow wr (.cells #[.int .i64 kd', .int .i64 lb', .slice B' m' e'] 24)
            have X3 := hide2 (BX.out.trans (bb2.mono BX.out.size)).drew
            have G3 := hide2 ((GW.out.keep bb2).keep (Below.refl _ _).drew)
            have K3 := hide2 ((KW.out.trans (Kp.below bb2)).trans (Kp.below (Below.refl _ _).drew))
            have II3 := hide2 (show FarG w0.heap.size (wr.alloc (.cells #[.int .i64 kd', .int .i64 lb', .slice B' m' e'] 24)).drew Ai i ∧ Ints (wr.alloc (.cells #[.int .i64 kd', .int .i64 lb', .slice B' m' e'] 24)).drew Ai i ci (insL pl i) from by
              have h1 := II.out.1.same II.out.2 bb2.size (fun b hb _ => bb2.block b hb)
              exact ⟨h1.1, Ints.keep h1.2 (Below.refl _ _).drew⟩)
            have IO3 := hide2 (show FarG w0.heap.size (wr.alloc (.cells #[.int .i64 kd', .int .i64 lb', .slice B' m' e'] 24)).drew Ao i ∧ Ints (wr.alloc (.cells #[.int .i64 kd', .int .i64 lb', .slice B' m' e'] 24)).drew Ao i co (outsL pl i) from by
              have h1 := I_.out.1.same I_.out.2 bb2.size (fun b hb _ => bb2.block b hb)
              exact ⟨h1.1, Ints.keep h1.2 (Below.refl _ _).drew⟩)
            have XB := hide2 (Box.new wr #[.int .i64 kd', .int .i64 lb', .slice B' m' e'] 24)
            obtain ⟨X, hX⟩ : ∃ X : Int, ((pl + 2 * j : Nat) : Int) = X := ⟨_, rfl⟩
            obtain ⟨Y, hY⟩ : ∃ Y : Int, ((pl + 2 * j + 1 : Nat) : Int) = Y := ⟨_, rfl⟩
            have CI := hide2 (IH.out d' kd' lb' B' m' e' hd ks' X Y v _ (wr.alloc (.cells #[.int .i64 kd', .int .i64 lb', .slice B' m' e'] 24)).drew (by rw [hk1]) K'.out G3.out X3.out FT.out)
            have HZ := hide2 (show kbB f (.mk kd' lb' ks') X Y ((ks.take j).zipIdx.foldl F g1) = (ks.take (j + 1)).zipIdx.foldl F g1 by rw [ZS.out, HFD.out, ← hX, ← hY]; rfl)
            rw [HZ.out] at CI
            obtain ⟨bi, ofi, xi, hAi, hbi, hxi, ci0⟩ := II3.out.2.get hlt
            obtain ⟨bo, ofo, xo, hAo, hbo, hxo, co0⟩ := IO3.out.2.get hlt
            obtain rfl : X = xi := by have := hxi.out; rw [insL_at hlt, hX] at this; injection this
            obtain rfl : Y = xo := by have := hxo.out; rw [outsL_at hlt, hY] at this; injection this
            subst hAi hAo
            have TGI := hide2 (TG.out (j + 1) hd' hk2)
            clear p0 p1 p2 hk1 hk2 bb2 hx K' HZ ZS hX hY hxi hxo hbi hbo II I_ GW KW
            go_upto_region 34 with fail
            clear q0 q1 q2
            obtain ⟨t0, t1, t2⟩ := XB.out.three
            refine wp_region_scr 10 (.takes [0, 1, 2, 3, 4, 5, 6, 7, 8, 9] (.fin 10 .done)) (fun w' => w'.cell? ⟨wr.heap.size, 0, none⟩ = some (.int .i64 kd') ∧ w'.cell? ⟨wr.heap.size, 1, none⟩ = some (.int .i64 lb') ∧ w'.cell? ⟨wr.heap.size, 2, none⟩ = some (.slice B' m' e') ∧ w'.cell? ⟨bi, ofi + j, none⟩ = some (.int .i64 X) ∧ w'.cell? ⟨bo, ofo + j, none⟩ = some (.int .i64 Y)) (by kernel_rfl) (by kernel_rfl) (by kernel_rfl) (fun _ _ _ _ _ h => h) ⟨t0, t1, t2, ci0, co0⟩ (fun hHeld => ?_)
            simp only [Scr.takes]
            generalize (wr.alloc (.cells #[.int .i64 kd', .int .i64 lb', .slice B' m' e'] 24)).drew = u5 at *
            iterate 10
              refine tkTake (v := ?_) rfl (by rfl) hHeld (fun w' hSw => ?_) ?_
              rotate_left
              · (go_simp; try with_reducible rfl)
              try simp only [Act.put, List.setIfInBounds_toArray, List.set_cons_zero, List.set_cons_succ]
            by_cases hfit : fitsK ((ks.take (j + 1)).zipIdx.foldl F g1)
            · have CJ := hide2 (callsOk CI.out hfit)
              have FT2 := hide2 hfit
              clear CI hfit
              refine tkEnd rfl (fun Kf hKf => ?_)
              go_simp; go_at_call 38
              (with_reducible refine CJ.out.mono ?_)
              rintro e w4 ⟨rfl, ⟨v4, hg4⟩, hb4, hk4⟩
              have G4 := hide2 hg4
              have X4 := hide2 hb4
              have K4 := hide2 (K3.out.trans hk4)
              have II4 := hide2 (II3.out.1.kp II3.out.2 hk4 X3.out hb4)
              have IO4 := hide2 (IO3.out.1.kp IO3.out.2 hk4 X3.out hb4)
              clear hg4 hb4 hk4 hHeld
              refine hKf.out _ _ ?_
              clear hKf
              try simp only [Act.put, List.setIfInBounds_toArray, List.set_cons_zero, List.set_cons_succ]
              refine tkDone ?_
              go_wp2
              go_roundw
              case rel => exact ⟨j + 1, hd', v4, by omega, by go_num, G4, CK2, FT2, X4, K4, II4, IO4⟩
              case measure => simp [intOf]; omega
            · have CJ := hide2 (callsNo CI.out hfit)
              have NF := hide2 (fun h => hfit (TGI.out.fits (F5.out h)))
              clear CI hfit
              refine tkEnd rfl (fun Kf hKf => ?_)
              go_simp; go_at_call 38
              (with_reducible refine CJ.out.mono ?_)
              rintro e w4 ⟨rfl, hb4⟩
              have X4 := hide2 hb4
              clear hb4 hHeld hKf
              exact And.intro rfl (Or.inr ⟨NF.out, rfl, X4.out⟩)
          · obtain rfl : j = i := by omega
            have ZA := hide2 (zip_all (F := F) (s := g1) (l := ks) (i := j) (by rw [HL.out]; exact Nat.le_refl _))
            rw [ZA.out] at GW FT
            have bb1 := boxBelow wr (.cells #[.int .i64 q] 3)
            have I1 := oneG w0.heap.size wr q
            have IO1 := hide2 (I_.out.1.same I_.out.2 bb1.size (fun b hb _ => bb1.block b hb))
            have CL := hide2 (link_call 0 (GW.out.keep bb1) (BX.out.trans (bb1.mono BX.out.size)) IO1.out.2 I1.1 IO1.out.1 I1.2 FT.out)
            rw [LK5.out] at CL
            have K1 := hide2 (KW.out.trans (Kp.below bb1))
            clear bb1 I1 II I_ GW KW
            by_cases h5 : fitsK g5
            · have CJ := hide2 (callsOk CL.out h5)
              have FT5 := hide2 h5
              clear CL
              go_wp2_with (first
                | (go_at_call 100; (with_reducible refine (one_calls' _ _).mono ?_); rintro e w1 ⟨rfl, rfl⟩)
                | (go_at_call 101; (with_reducible refine CJ.out.mono ?_); rintro e we ⟨rfl, hge, hbe, hke⟩; have GE := hide2 hge; have XE := hide2 hbe; have KE := hide2 (K1.out.trans hke); clear hge hbe hke))
              exact bodyPost_end (v := .tuple #[]) (by simp [results, Try.results38, go_sem]) rfl (.inl ⟨FT5.out, rfl, GE.out, XE.out, KE.out⟩)
            · have CJ := hide2 (callsNo CL.out h5)
              have NF := hide2 h5
              clear CL
              go_wp2_with (first
                | (go_at_call 100; (with_reducible refine (one_calls' _ _).mono ?_); rintro e w1 ⟨rfl, rfl⟩)
                | (go_at_call 101; (with_reducible refine CJ.out.mono ?_); rintro e we ⟨rfl, hbe⟩; have XE := hide2 hbe; clear hbe))
              exact ⟨rfl, .inr ⟨NF.out, rfl, XE.out⟩⟩
      · have CK := hide2 (callsNo CL.out h1)
        have NF := hide2 (fun h => h1 (F1.out h))
        clear CL
        go_wp2_with (first
          | (go_at_call 100; (with_reducible refine (one_calls' _ _).mono ?_); rintro e w1 ⟨rfl, rfl⟩)
          | (go_at_call 101; (with_reducible refine CK.out.mono ?_); rintro e we ⟨rfl, hbe⟩; have XE := hide2 hbe; clear hbe))
        exact ⟨rfl, .inr ⟨NF.out, rfl, XE.out⟩⟩
end Go.Proofs.Ytnfppolgaeibeaa
