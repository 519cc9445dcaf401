/- The contract of the reference's kbetween on what goes side by side, given what it does within. Conditions: the block reads as a tree and is right; what comes of it stays below 300. Printed by wip/gen/growS.py. -/
import Derived.Test.YtnfppolgaeibeaaGrowR
import Derived.Test.YtnfppolgaeibeaaGrowH
namespace Go.Proofs.Ytnfppolgaeibeaa
open Go.RowKit

theorem rowOne {w : World} {b : Nat} {p : Int} (hx : Box w b 3 #[.int .i64 p]) : Ints w (some ⟨b, 0, none⟩) 1 1 [p] := by
  refine ⟨rfl, Nat.le_refl _, by simp [maxLen], by omega, fun h => (by cases h), fun _ => ⟨b, 0, rfl, hx.lt, fun j x hx' => ?_⟩⟩
  obtain rfl : j = 0 := by
    have := (List.getElem?_eq_some_iff.1 hx').1
    simpa using this
  simp only [List.getElem?_cons_zero, Option.some.injEq] at hx'
  subst hx'
  refine ⟨fun _ => .int .i64 p, fun q hq => ?_, rfl⟩
  obtain rfl : q = 0 := by omega
  exact hx.cell 0
/-- An element is put behind a row of the call's own: the other row stays and stays apart. -/
theorem own_other {wa w8 : World} {i j B : Nat} {vi vo v8 : Value} {xs ys : List Int} (_ : OwnInts wa B vi i xs) (OO : OwnInts wa B vo j ys) (DV : DistV vi vo) (hg : wa.grownBy w8 vi.ownBlock) (hat : v8.ownBlock = vi.ownBlock ∨ v8.ownBlock = some wa.heap.size) :
    OwnInts w8 B vo j ys ∧ DistV v8 vo := by
  refine ⟨OwnSl.kept OO hg DV.other (fun _ _ h => h), ?_⟩
  rcases hat with h | h
  · unfold DistV; rw [h]; exact DV
  · refine .inr (fun e => ?_)
    rw [h] at e
    have := (OwnSl.lt OO _ e.symm).2
    omega
theorem FarG.turn {N n c g ty : Nat} {w w' : World} {A : Option Addr} {xs : List Int} {cs : Array Value} (h : FarG N w A n ∧ Ints w A n c xs) (hx : Box w g ty cs) (hty : ty ≠ 3) (hN : N ≤ g) (hs : w.grownBy w' (some g)) : FarG N w' A n ∧ Ints w' A n c xs :=
  h.1.same h.2 hs.size (fun b hlt hb => hs.block b hlt (fun e => by
    injection e with e
    subst e
    unfold Box at hx
    exact hb.ne hN hx hty rfl))
theorem FarG.keep {N n c : Nat} {w w' : World} {A : Option Addr} {xs : List Int} (h : FarG N w A n ∧ Ints w A n c xs) (hb : Below w.heap.size w w') : FarG N w' A n ∧ Ints w' A n c xs :=
  h.1.same h.2 hb.size (fun b hlt _ => hb.block b hlt)

set_option maxRecDepth 100000 in
set_option maxHeartbeats 16000000 in
theorem kb_both {w0 : World} {f d had : Nat} (IH0 : KbIH w0 f) {lb : Int} {A : Option Addr} {n c : Nat} {ks : List PBlk} {p q : Int} {C : Option Addr} {cc : Nat} {g : KSt} {w : World} (hc : (chkB (f + 1) (.mk 5 lb ks) had).2 = 0) (hK : Blks d w0 A n c ks) (hL : LkM w0.heap.size w C g.links.length cc g.links) (hB : Below w0.heap.size w0 w) (hf : few (kbB (f + 1) (.mk 5 lb ks) p q g)) :
    Calls Try.prog 41 #[.agg #[.int .i64 5, .int .i64 lb, .slice A n c], .int .i64 p, .int .i64 q, .agg #[.int .i64 g.places, .slice C g.links.length cc]] w (AnsK w0.heap.size (kbB (f + 1) (.mk 5 lb ks) p q g) w) := by
  have hent : ∀ (args : Array Value) (w : World), Sem.run Try.prog (callFunc 104 args) w = .ok (.enter 104 args) w := fun args w => by kernel_rfl
  obtain ⟨_, _, h', _, hfold⟩ := chkB_inv hc
  replace hfold : ks.foldl (stepC (chkB f)) (had + 1, 0) = (h', 0) := hfold
  have IH := hide2 IH0
  have FO := hide2 hfold
  obtain ⟨pl, hpl⟩ : ∃ pl, g.places = pl := ⟨_, rfl⟩
  obtain ⟨F, hF⟩ : ∃ F : KSt → PBlk × Nat → KSt, F = bothF (kbB f) pl := ⟨_, rfl⟩
  obtain ⟨g1, hg1⟩ : ∃ g1, lnk (more g (2 * n)) 0 [p] (insL pl n) = g1 := ⟨_, rfl⟩
  obtain ⟨g4, hg4⟩ : ∃ g4, ks.zipIdx.foldl F g1 = g4 := ⟨_, rfl⟩
  obtain ⟨g5, hg5⟩ : ∃ g5, lnk g4 0 (outsL pl n) [q] = g5 := ⟨_, rfl⟩
  have HFD := hide2 hF
  have HLs := hK.len
  have HR := hide2 (show kbB (f + 1) (.mk 5 lb ks) p q g = g5 by rw [kbB_5, HLs, hpl, hg1, ← hF, hg4, hg5])
  rw [HR.out] at hf ⊢
  have W4 : few g4 := lnk_few (by rw [hg5]; exact hf)
  have TG := hide2 (fun (i hd : Nat) (h1 : (ks.take i).foldl (stepC (chkB f)) (had + 1, 0) = (hd, 0)) => show few ((ks.take i).zipIdx.foldl F g1) from gr_few (by
    rw [hF]; exact tail_gr (fun s => s) _ both_step h1 hfold) (by rw [← hF, hg4]; exact W4))
  have W1 : few g1 := TG.out 0 (had + 1) rfl
  have W0 : few (more g (2 * n)) := lnk_few (by rw [hg1]; exact W1)
  have hk0 : g.links.length ≤ 300 := W0.2
  have hk4 := W4.2
  obtain ⟨M, hM⟩ : ∃ M, 2 * n = M := ⟨_, rfl⟩
  obtain ⟨Pn, hPn⟩ : ∃ Pn, pl + M = Pn := ⟨_, rfl⟩
  have hPb : Pn ≤ 300 := by have := W0.1; simp only [more] at this; omega
  have LK1 := hide2 (fun (w5 : World) (C5 A1 A2 : Option Addr) (c5 c6 : Nat) (h5 : LkM w0.heap.size w5 C5 g.links.length c5 g.links) (i1 : Ints w5 A1 1 1 [p]) (f1 : FarG w0.heap.size w5 A1 1) (i2 : Ints w5 A2 n c6 (insL pl n)) (f2 : FarG w0.heap.size w5 A2 n) => show Calls Try.prog _ _ _ (AnsK w0.heap.size g1 w5) from by
    rw [← hg1]
    have := klink_calls (g := more g (2 * n)) 0 (C := C5) h5 i1 i2 f1 f2 (by show g.links.length ≤ 1000; omega)
    rw [show (more g (2 * n)).places = Pn by simp only [more]; omega] at this
    exact this)
  have LK5 := hide2 (fun (w5 : World) (C5 A1 A2 : Option Addr) (c5 c6 : Nat) (h5 : LkM w0.heap.size w5 C5 g4.links.length c5 g4.links) (i1 : Ints w5 A1 n c6 (outsL pl n)) (f1 : FarG w0.heap.size w5 A1 n) (i2 : Ints w5 A2 1 1 [q]) (f2 : FarG w0.heap.size w5 A2 1) => show Calls Try.prog _ _ _ (AnsK w0.heap.size g5 w5) from by
    rw [← hg5]
    exact klink_calls (g := g4) 0 (C := C5) h5 i1 i2 f1 f2 (by omega))
  have FR := hide2 (KFr.new w0.heap.size w #[.int .i64 5, .int .i64 lb, .slice A n c] g.places (.slice C g.links.length cc) hB.size)
  have LM := hide2 (hL.keep FR.out.below)
  have HL := hide2 HLs
  have hns : n ≤ 150 := by omega
  have K := hide2 hK
  have HB := hide2 hB
  have H4 := hide2 hg4
  have hmul : (2 : Int) * (n : Int) = (M : Int) := by omega
  have haddn : (pl : Int) + (M : Int) = (Pn : Int) := by omega
  have hMb : M ≤ 300 := by omega
  rw [hpl] at FR LM ⊢
  clear hL hB hK hc IH0 hfold hF hf hpl hg1 hg4 hg5 HR W0 W1 W4 hM hPn hk0 hk4 HLs
  go_enter Try.func41, Try.ntmps41
  go_upto_region 1 with fail
  generalize ((w.alloc (.cells #[.int .i64 5, .int .i64 lb, .slice A n c] 24)).alloc (.cells #[.int .i64 pl, .slice C g.links.length cc] 81)).alloc (.cells #[.int .i64 0, .slice none 0 0] 81) = u at *
  obtain ⟨b0, b1, b2⟩ := FR.out.blk.three
  go_wp2
  clear b0 b1 b2
  go_loopw [15, 16, 94] (fun vi vo iv wr => ∃ i : Nat, i ≤ n ∧ iv = .int .i64 i ∧ Hid (OwnInts wr u.heap.size vi i (insL pl i)) ∧ Hid (OwnInts wr u.heap.size vo i (outsL pl i)) ∧ Hid (DistV vi vo) ∧ Hid (Below u.heap.size u wr)) (fun _ _ iv _ => n - (intOf iv).toNat)
  case atStart => exact ⟨0, Nat.zero_le _, rfl, OwnSl.nil, OwnSl.nil, .inl rfl, Below.refl _ _⟩
  case round =>
    obtain ⟨i, hi, rfl, OI, OO, DV, EB⟩ := hrel
    by_cases hlt : i < n
    · have hki : (i : Int) < (n : Int) := by omega
      have IS := hide2 (insL_succ pl i)
      have OS := hide2 (outsL_succ pl i)
      obtain ⟨m2, hm2⟩ : ∃ m2, 2 * i = m2 := ⟨_, rfl⟩
      obtain ⟨X, hX⟩ : ∃ X : Nat, pl + m2 = X := ⟨_, rfl⟩
      obtain ⟨Y, hY⟩ : ∃ Y : Nat, X + 1 = Y := ⟨_, rfl⟩
      rw [hm2, hX] at IS
      rw [hm2, hX, hY] at OS
      have a1 : (2 : Int) * (i : Int) = (m2 : Int) := by omega
      have a2 : (pl : Int) + (m2 : Int) = (X : Int) := by omega
      have a3 : (X : Int) + 1 = (Y : Int) := by omega
      have a4 : IntKind.i64.wrap (m2 : Int) = (m2 : Int) := by rw [IntKind.wrap_i64]; omega
      have a5 : IntKind.i64.wrap (X : Int) = (X : Int) := by rw [IntKind.wrap_i64]; omega
      have a6 : IntKind.i64.wrap (Y : Int) = (Y : Int) := by rw [IntKind.wrap_i64]; omega
      clear hm2 hX hY
      go_upto_region 29 with fail
      refine wp_region_scr 16 (.takes [0, 1, 2, 3, 4, 5, 8, 9, 10, 11, 12, 13, 14] (.two 6 (.two 7 (.one 15 (.fin 16 (.fin 17 (.fin 18 .done)))) 15 (.one 7 (.fin 16 (.fin 17 (.fin 18 .done))))) 15 (.one 6 (.one 7 (.fin 16 (.fin 17 (.fin 18 .done))))))) (fun w' => w'.cell? ⟨w.heap.size + 1, 0, none⟩ = some (.int .i64 pl)) (by kernel_rfl) (by kernel_rfl) (by kernel_rfl) (fun _ _ _ _ _ h => h) ((FR.out.keep EB.out).kg.cell 0) (fun hHeld => ?_)
      simp only [Scr.takes]
      have OIc := hide2 (OI.out.keep IntR.kept (Below.refl _ _).drew)
      have OOc := hide2 (OO.out.keep IntR.kept (Below.refl _ _).drew)
      replace EB := hide2 EB.out.drew
      clear OI OO
      generalize wr.drew = ux at *
      iterate 13
        refine tkTake (v := ?_) rfl (by rfl) hHeld (fun w' hSw => ?_) ?_
        rotate_left
        · (go_simp; try with_reducible rfl)
        try simp only [Act.put, List.setIfInBounds_toArray, List.set_cons_zero, List.set_cons_succ]
      refine endK (.fin 17 (.fin 18 .done)) (fun a0 a' w' => ∃ e1 e2 v1 v2 : Value, a' = ((((a0.put (some 103) e1).put (some 104) v1).put (some 112) e2).put (some 113) v2) ∧ Hid (OwnInts w' u.heap.size v1 (i + 1) (insL pl i ++ [(X : Int)])) ∧ Hid (OwnInts w' u.heap.size v2 (i + 1) (outsL pl i ++ [(Y : Int)])) ∧ Hid (DistV v1 v2) ∧ Hid (Below u.heap.size u w')) ?_ (fun EN => ?_)
      · rintro a' w6 ⟨e1, e2, v1, v2, rfl, O1, O2, D1, E1⟩ _
        simp only [Act.put, List.setIfInBounds_toArray, List.set_cons_zero, List.set_cons_succ]
        clear hHeld OIc OOc DV EB
        refine tkEnd rfl (fun K hK => ?_)
        go_simp
        refine hK.out _ _ ?_
        clear hK
        try simp only [Act.put, List.setIfInBounds_toArray, List.set_cons_zero, List.set_cons_succ]
        refine tkEnd rfl (fun K hK => ?_)
        go_simp
        refine hK.out _ _ ?_
        clear hK
        try simp only [Act.put, List.setIfInBounds_toArray, List.set_cons_zero, List.set_cons_succ]
        refine tkDone ?_
        go_wp2
        go_roundw
        case rel => exact ⟨i + 1, by omega, by go_num, hide2 (by rw [IS.out]; exact O1.out), hide2 (by rw [OS.out]; exact O2.out), D1, E1⟩
        case measure => simp [intOf]; omega
      · refine tkTwo rfl rfl (fun K hK => ?_) (fun K hK => ?_)
        · go_simp
          have hb := boxBelow ux (.cells #[.int .i64 X] 3)
          have SB := Box.new ux #[.int .i64 X] 3
          obtain ⟨H6, hHH⟩ : ∃ H6, ux.heap.size = H6 := ⟨_, rfl⟩
          have N6 := hide2 (show u15.ownBlock ≠ some H6 from fun e => by
            have := (OIc.out.lt _ e).2
            omega)
          replace OIc := hide2 (OIc.out.keep IntR.kept hb)
          replace OOc := hide2 (OOc.out.keep IntR.kept hb)
          replace EB := hide2 (EB.out.trans (hb.mono EB.out.size))
          rw [hHH] at SB ⊢
          generalize hE : ux.alloc (.cells #[.int .i64 X] 3) = u1 at *
          have S6 := hide2 SB
          clear hb hE SB hHH
          refine hK.out _ _ ((FR.out.keep EB.out).kg.cell 0) (fun hHeld => ?_)
          clear hK
          try simp only [Act.put, List.setIfInBounds_toArray, List.set_cons_zero, List.set_cons_succ]
          refine tkTwo rfl rfl (fun K hK => ?_) (fun K hK => ?_)
          · refine step_appOwn rfl (.tmp 97) (.tmp 103) rfl rfl rfl OIc.out (rowOne S6.out) EB.out.size (by omega) EB.out (Nat.le_refl _) ?_
            intro v1 u2 own' hg' hb' hat'
            obtain ⟨o1, o2⟩ := own_other OIc.out OOc.out DV.out hg' hat'
            replace OIc := hide2 own'
            replace OOc := hide2 o1
            replace DV := hide2 o2
            replace EB := hide2 hb'
            clear own' hg' hb' hat' o1 o2
            refine hK.out _ _ ((FR.out.keep EB.out).kg.cell 0) (fun hHeld => ?_)
            clear hK
            try simp only [Act.put, List.setIfInBounds_toArray, List.set_cons_zero, List.set_cons_succ]
            refine tkOne rfl (fun K hK => ?_)
            go_simp
            have hb := boxBelow u2 (.cells #[.int .i64 Y] 3)
            have SB := Box.new u2 #[.int .i64 Y] 3
            obtain ⟨H15, hHH⟩ : ∃ H15, u2.heap.size = H15 := ⟨_, rfl⟩
            have N15 := hide2 (show v1.ownBlock ≠ some H15 from fun e => by
              have := (OIc.out.lt _ e).2
              omega)
            replace OIc := hide2 (OIc.out.keep IntR.kept hb)
            replace OOc := hide2 (OOc.out.keep IntR.kept hb)
            replace EB := hide2 (EB.out.trans (hb.mono EB.out.size))
            rw [hHH] at SB ⊢
            generalize hE : u2.alloc (.cells #[.int .i64 Y] 3) = u3 at *
            have S15 := hide2 SB
            clear hb hE SB hHH
            refine hK.out _ _ ((FR.out.keep EB.out).kg.cell 0) (fun hHeld => ?_)
            clear hK
            try simp only [Act.put, List.setIfInBounds_toArray, List.set_cons_zero, List.set_cons_succ]
            refine tkEnd rfl (fun K hK => ?_)
            refine step_appOwn rfl (.tmp 105) (.tmp 112) rfl rfl rfl OOc.out (rowOne S15.out) EB.out.size (by omega) EB.out (Nat.le_refl _) ?_
            intro v2 u4 own' hg' hb' hat'
            obtain ⟨o1, o2⟩ := own_other OOc.out OIc.out DV.out.other hg' hat'
            replace OOc := hide2 own'
            replace OIc := hide2 o1
            replace DV := hide2 (DistV.other o2)
            replace EB := hide2 hb'
            clear own' hg' hb' hat' o1 o2
            refine hK.out _ _ ?_
            clear hK
            try simp only [Act.put, List.setIfInBounds_toArray, List.set_cons_zero, List.set_cons_succ]
            exact EN.out _ _ ⟨_, _, _, _, rfl, OIc, OOc, DV, EB⟩ ((FR.out.keep EB.out).kg.cell 0)
          · go_simp
            have hb := boxBelow u1 (.cells #[.int .i64 Y] 3)
            have SB := Box.new u1 #[.int .i64 Y] 3
            obtain ⟨H15, hHH⟩ : ∃ H15, u1.heap.size = H15 := ⟨_, rfl⟩
            have N15 := hide2 (show u15.ownBlock ≠ some H15 from fun e => by
              have := (OIc.out.lt _ e).2
              omega)
            replace S6 := hide2 (S6.out.keep hb)
            replace OIc := hide2 (OIc.out.keep IntR.kept hb)
            replace OOc := hide2 (OOc.out.keep IntR.kept hb)
            replace EB := hide2 (EB.out.trans (hb.mono EB.out.size))
            rw [hHH] at SB ⊢
            generalize hE : u1.alloc (.cells #[.int .i64 Y] 3) = u2 at *
            have S15 := hide2 SB
            clear hb hE SB hHH
            refine hK.out _ _ ((FR.out.keep EB.out).kg.cell 0) (fun hHeld => ?_)
            clear hK
            try simp only [Act.put, List.setIfInBounds_toArray, List.set_cons_zero, List.set_cons_succ]
            refine tkOne rfl (fun K hK => ?_)
            refine step_appOwn rfl (.tmp 97) (.tmp 103) rfl rfl rfl OIc.out (rowOne S6.out) EB.out.size (by omega) EB.out (Nat.le_refl _) ?_
            intro v1 u3 own' hg' hb' hat'
            obtain ⟨o1, o2⟩ := own_other OIc.out OOc.out DV.out hg' hat'
            replace S15 := hide2 (S15.out.grown hg' N15.out)
            replace OIc := hide2 own'
            replace OOc := hide2 o1
            replace DV := hide2 o2
            replace EB := hide2 hb'
            clear own' hg' hb' hat' o1 o2
            refine hK.out _ _ ((FR.out.keep EB.out).kg.cell 0) (fun hHeld => ?_)
            clear hK
            try simp only [Act.put, List.setIfInBounds_toArray, List.set_cons_zero, List.set_cons_succ]
            refine tkEnd rfl (fun K hK => ?_)
            refine step_appOwn rfl (.tmp 105) (.tmp 112) rfl rfl rfl OOc.out (rowOne S15.out) EB.out.size (by omega) EB.out (Nat.le_refl _) ?_
            intro v2 u4 own' hg' hb' hat'
            obtain ⟨o1, o2⟩ := own_other OOc.out OIc.out DV.out.other hg' hat'
            replace OOc := hide2 own'
            replace OIc := hide2 o1
            replace DV := hide2 (DistV.other o2)
            replace EB := hide2 hb'
            clear own' hg' hb' hat' o1 o2
            refine hK.out _ _ ?_
            clear hK
            try simp only [Act.put, List.setIfInBounds_toArray, List.set_cons_zero, List.set_cons_succ]
            exact EN.out _ _ ⟨_, _, _, _, rfl, OIc, OOc, DV, EB⟩ ((FR.out.keep EB.out).kg.cell 0)
        · go_simp
          have hb := boxBelow ux (.cells #[.int .i64 Y] 3)
          have SB := Box.new ux #[.int .i64 Y] 3
          obtain ⟨H15, hHH⟩ : ∃ H15, ux.heap.size = H15 := ⟨_, rfl⟩
          have N15 := hide2 (show u15.ownBlock ≠ some H15 from fun e => by
            have := (OIc.out.lt _ e).2
            omega)
          replace OIc := hide2 (OIc.out.keep IntR.kept hb)
          replace OOc := hide2 (OOc.out.keep IntR.kept hb)
          replace EB := hide2 (EB.out.trans (hb.mono EB.out.size))
          rw [hHH] at SB ⊢
          generalize hE : ux.alloc (.cells #[.int .i64 Y] 3) = u1 at *
          have S15 := hide2 SB
          clear hb hE SB hHH
          refine hK.out _ _ ((FR.out.keep EB.out).kg.cell 0) (fun hHeld => ?_)
          clear hK
          try simp only [Act.put, List.setIfInBounds_toArray, List.set_cons_zero, List.set_cons_succ]
          refine tkOne rfl (fun K hK => ?_)
          go_simp
          have hb := boxBelow u1 (.cells #[.int .i64 X] 3)
          have SB := Box.new u1 #[.int .i64 X] 3
          obtain ⟨H6, hHH⟩ : ∃ H6, u1.heap.size = H6 := ⟨_, rfl⟩
          have N6 := hide2 (show u15.ownBlock ≠ some H6 from fun e => by
            have := (OIc.out.lt _ e).2
            omega)
          replace S15 := hide2 (S15.out.keep hb)
          replace OIc := hide2 (OIc.out.keep IntR.kept hb)
          replace OOc := hide2 (OOc.out.keep IntR.kept hb)
          replace EB := hide2 (EB.out.trans (hb.mono EB.out.size))
          rw [hHH] at SB ⊢
          generalize hE : u1.alloc (.cells #[.int .i64 X] 3) = u2 at *
          have S6 := hide2 SB
          clear hb hE SB hHH
          refine hK.out _ _ ((FR.out.keep EB.out).kg.cell 0) (fun hHeld => ?_)
          clear hK
          try simp only [Act.put, List.setIfInBounds_toArray, List.set_cons_zero, List.set_cons_succ]
          refine tkOne rfl (fun K hK => ?_)
          refine step_appOwn rfl (.tmp 97) (.tmp 103) rfl rfl rfl OIc.out (rowOne S6.out) EB.out.size (by omega) EB.out (Nat.le_refl _) ?_
          intro v1 u3 own' hg' hb' hat'
          obtain ⟨o1, o2⟩ := own_other OIc.out OOc.out DV.out hg' hat'
          replace S15 := hide2 (S15.out.grown hg' N15.out)
          replace OIc := hide2 own'
          replace OOc := hide2 o1
          replace DV := hide2 o2
          replace EB := hide2 hb'
          clear own' hg' hb' hat' o1 o2
          refine hK.out _ _ ((FR.out.keep EB.out).kg.cell 0) (fun hHeld => ?_)
          clear hK
          try simp only [Act.put, List.setIfInBounds_toArray, List.set_cons_zero, List.set_cons_succ]
          refine tkEnd rfl (fun K hK => ?_)
          refine step_appOwn rfl (.tmp 105) (.tmp 112) rfl rfl rfl OOc.out (rowOne S15.out) EB.out.size (by omega) EB.out (Nat.le_refl _) ?_
          intro v2 u4 own' hg' hb' hat'
          obtain ⟨o1, o2⟩ := own_other OOc.out OIc.out DV.out.other hg' hat'
          replace OOc := hide2 own'
          replace OIc := hide2 o1
          replace DV := hide2 (DistV.other o2)
          replace EB := hide2 hb'
          clear own' hg' hb' hat' o1 o2
          refine hK.out _ _ ?_
          clear hK
          try simp only [Act.put, List.setIfInBounds_toArray, List.set_cons_zero, List.set_cons_succ]
          exact EN.out _ _ ⟨_, _, _, _, rfl, OIc, OOc, DV, EB⟩ ((FR.out.keep EB.out).kg.cell 0)
    · obtain rfl : i = n := by omega
      obtain ⟨Ai, ci, rfl, ii⟩ := OwnSl.sl OI.out (by omega)
      obtain ⟨Ao, co, rfl, io⟩ := OwnSl.sl OO.out (by omega)
      have II := hide2 (show FarG w0.heap.size wr Ai i ∧ Ints wr Ai i ci (insL pl i) from ⟨FarG.own OI.out, ii⟩)
      have I_ := hide2 (show FarG w0.heap.size wr Ao i ∧ Ints wr Ao i co (outsL pl i) from ⟨FarG.own OO.out, io⟩)
      have Fa := hide2 (FR.out.keep EB.out)
      have La := hide2 (LM.out.keep EB.out)
      have hlo : w0.heap.size ≤ w.heap.size + 1 := by have := HB.out.size; omega
      clear OI OO DV EB ii io FR LM hlt
      obtain ⟨b0, b1, b2⟩ := Fa.out.blk.three
      obtain ⟨y0, y1⟩ := Fa.out.kg.two
      have z0 := Fa.out.kg.frozen 0
      have Fb := hide2 (Fa.out.setP Pn)
      have Lb := hide2 (La.out.setP Fa.out Pn)
      have IIb := hide2 (FarG.turn II.out Fa.out.kg (by decide) hlo (grownK wr (w.heap.size + 1) 0 (.int .i64 Pn)))
      have IOb := hide2 (FarG.turn I_.out Fa.out.kg (by decide) hlo (grownK wr (w.heap.size + 1) 0 (.int .i64 Pn)))
      clear II I_ La
      go_upto_region 32 with fail
      clear y0 y1 z0 b0 b1 b2
      clear Fa
      generalize wr.setCell ⟨w.heap.size + 1, 0, none⟩ (.int .i64 Pn) = wb at *
      obtain ⟨y0, y1⟩ := Fb.out.kg.two
      have bb1 := boxBelow wb (.cells #[.int .i64 p] 3)
      have I1 := oneG w0.heap.size wb p
      have IIc := hide2 (FarG.keep IIb.out bb1)
      have IOc := hide2 (FarG.keep IOb.out bb1)
      have CL1 := hide2 (LK1.out _ C _ Ai cc ci (Lb.out.keep bb1) I1.1 I1.2 IIc.out.2 IIc.out.1)
      have Fc := hide2 (Fb.out.keep bb1)
      clear bb1 I1 Fb Lb IIb IOb
      go_upto_region 33 with (go_at_call 104; (with_reducible refine CL1.out.mono ?_); rintro e w3 ⟨C3, c3, rfl, lm, bl3⟩; have Fd := hide2 (Fc.out.keep bl3); have Ld := hide2 lm; have IId := hide2 (FarG.keep IIc.out bl3); have IOd := hide2 (FarG.keep IOc.out bl3); clear lm bl3 y0 y1; obtain ⟨y0, y1⟩ := Fd.out.kg.two; have z0 := Fd.out.kg.frozen 0; have z1 := Fd.out.kg.frozen 1; have Fe := hide2 (Fd.out.set g1.places (.slice C3 g1.links.length c3)); have Le := hide2 (Ld.out.setK Fd.out g1.places (.slice C3 g1.links.length c3)); have IIe := hide2 (FarG.turn IId.out Fd.out.kg (by decide) hlo (grown_set2 w3 ⟨w.heap.size + 1, 0, none⟩ ⟨w.heap.size + 1, 1, none⟩ (.int .i64 g1.places) (.slice C3 g1.links.length c3) rfl)); have IOe := hide2 (FarG.turn IOd.out Fd.out.kg (by decide) hlo (grown_set2 w3 ⟨w.heap.size + 1, 0, none⟩ ⟨w.heap.size + 1, 1, none⟩ (.int .i64 g1.places) (.slice C3 g1.links.length c3) rfl)))
      clear y0 y1 z0 z1 Ld Fc CL1 IId IOd IIc IOc
      clear Fd
      generalize (w3.setCell ⟨w.heap.size + 1, 0, none⟩ (.int .i64 g1.places)).setCell ⟨w.heap.size + 1, 1, none⟩ (.slice C3 g1.links.length c3) = we at *
      obtain ⟨b0, b1, b2⟩ := Fe.out.blk.three
      go_wp2
      clear b0 b1 b2
      go_loopw [132] (fun iv wr => ∃ (j hd : Nat) (C' : Option Addr) (cc' : Nat) (gi : KSt), j ≤ i ∧ iv = .int .i64 j ∧ Hid ((ks.take j).zipIdx.foldl F g1 = gi) ∧ Hid ((ks.take j).foldl (stepC (chkB f)) (had + 1, 0) = (hd, 0)) ∧ Hid (KFr w0.heap.size w.heap.size w wr #[.int .i64 5, .int .i64 lb, .slice A i c] gi.places (.slice C' gi.links.length cc')) ∧ Hid (LkM w0.heap.size wr C' gi.links.length cc' gi.links) ∧ Hid (FarG w0.heap.size wr Ai i ∧ Ints wr Ai i ci (insL pl i)) ∧ Hid (FarG w0.heap.size wr Ao i ∧ Ints wr Ao i co (outsL pl i))) (fun iv _ => i - (intOf iv).toNat)
      case atStart => exact ⟨0, had + 1, C3, c3, g1, Nat.zero_le _, rfl, rfl, rfl, Fe, Le, IIe, IOe⟩
      case round =>
        clear Fe Le IIe IOe
        obtain ⟨j, hd, C', cc', gi, hj, rfl, GI, CK, FR, LM, II, I_⟩ := hrel
        by_cases hlt : j < i
        · have hki : (j : Int) < (i : Int) := by omega
          obtain ⟨bl, off, kd', lb', ks', B', m', e', d', rfl, rfl, hbl, hx, p0, p1, p2, K'⟩ := K.out.get hlt
          have BX := hide2 (HB.out.trans (FR.out.below.mono HB.out.size))
          have q0 := (BX.out.cell (p := ⟨bl, _, none⟩) hbl).trans p0
          have q1 := (BX.out.cell (p := ⟨bl, _, none⟩) hbl).trans p1
          have q2 := (BX.out.cell (p := ⟨bl, _, none⟩) hbl).trans p2
          obtain ⟨hd', hk1, hk2⟩ := next_okC FO.out hx.out CK.out
          have CK2 := hide2 hk2
          obtain ⟨X, hX⟩ : ∃ X : Int, ((pl + 2 * j : Nat) : Int) = X := ⟨_, rfl⟩
          obtain ⟨Y, hY⟩ : ∃ Y : Int, ((pl + 2 * j + 1 : Nat) : Int) = Y := ⟨_, rfl⟩
          obtain ⟨r, hr⟩ : ∃ r, kbB f (.mk kd' lb' ks') X Y gi = r := ⟨_, rfl⟩
          have HZ := hide2 (show (ks.take (j + 1)).zipIdx.foldl F g1 = r by rw [zip_step hx.out, GI.out, HFD.out, ← hr, ← hX, ← hY]; rfl)
          have FW := TG.out (j + 1) hd' hk2
          rw [HZ.out] at FW
          have bb2 := boxBelow wr (.cells #[.int .i64 kd', .int .i64 lb', .slice B' m' e'] 24)
          have XB := hide2 (Box.new wr #[.int .i64 kd', .int .i64 lb', .slice B' m' e'] 24)
          have bb3 := bb2.drew
          have F3 := hide2 (FR.out.keep bb3)
          have II3 := hide2 (FarG.keep II.out bb3)
          have IO3 := hide2 (FarG.keep I_.out bb3)
          have CI := hide2 (IH.out d' kd' lb' B' m' e' hd ks' X Y C' cc' gi (wr.alloc (.cells #[.int .i64 kd', .int .i64 lb', .slice B' m' e'] 24)).drew (by rw [hk1]) K'.out (LM.out.keep bb3) (BX.out.trans (bb3.mono BX.out.size)) (by rw [hr]; exact FW))
          rw [hr] at CI
          obtain ⟨bi, ofi, xi, hAi, hbi, hxi, ci0⟩ := II3.out.2.get hlt
          obtain ⟨bo, ofo, xo, hAo, hbo, hxo, co0⟩ := IO3.out.2.get hlt
          obtain rfl : X = xi := by have := hxi.out; rw [insL_at hlt, hX] at this; injection this
          obtain rfl : Y = xo := by have := hxo.out; rw [outsL_at hlt, hY] at this; injection this
          subst hAi hAo
          clear p0 p1 p2 hk1 hk2 bb2 bb3 hx K' hr FW FR LM BX hX hY hxi hxo hbi hbo II I_
          go_upto_region 36 with fail
          clear q0 q1 q2
          obtain ⟨t0, t1, t2⟩ := XB.out.three
          obtain ⟨s0, s1⟩ := F3.out.kg.two
          refine wp_region_script 10 [(0, 0), (0, 1), (0, 2), (0, 3), (0, 4), (0, 5), (0, 6), (0, 7), (0, 8), (0, 9), (2, 10), (2, 11)] (fun w' => w'.cell? ⟨wr.heap.size, 0, none⟩ = some (.int .i64 kd') ∧ w'.cell? ⟨wr.heap.size, 1, none⟩ = some (.int .i64 lb') ∧ w'.cell? ⟨wr.heap.size, 2, none⟩ = some (.slice B' m' e') ∧ w'.cell? ⟨bi, ofi + j, none⟩ = some (.int .i64 X) ∧ w'.cell? ⟨bo, ofo + j, none⟩ = some (.int .i64 Y) ∧ w'.cell? ⟨w.heap.size + 1, 0, none⟩ = some (.int .i64 gi.places) ∧ w'.cell? ⟨w.heap.size + 1, 1, none⟩ = some (.slice C' gi.links.length cc')) (by kernel_rfl) (by kernel_rfl) (by kernel_rfl) (fun _ _ _ _ _ h => h) ⟨t0, t1, t2, ci0, co0, s0, s1⟩ (fun hHeld => ?_)
          generalize (wr.alloc (.cells #[.int .i64 kd', .int .i64 lb', .slice B' m' e'] 24)).drew = u5 at *
          iterate 10
            refine scTake (v := ?_) rfl (by rfl) hHeld (fun w' hSw => ?_) ?_
            rotate_left
            · (go_simp; try with_reducible rfl)
            try simp only [Act.put, List.setIfInBounds_toArray, List.set_cons_zero, List.set_cons_succ]
          refine scEnd rfl (fun Kf hKf => ?_)
          go_simp; go_at_call 41
          (with_reducible refine CI.out.mono ?_)
          rintro e w4 ⟨C4, c4, rfl, lm, bl4⟩
          clear hHeld t0 t1 t2 s0 s1 ci0 co0
          have F6 := hide2 (F3.out.keep bl4)
          have L6 := hide2 lm
          have II6 := hide2 (FarG.keep II3.out bl4)
          have IO6 := hide2 (FarG.keep IO3.out bl4)
          clear lm bl4
          obtain ⟨y0, y1⟩ := F6.out.kg.two
          have z0 := F6.out.kg.frozen 0
          have z1 := F6.out.kg.frozen 1
          refine hKf.out _ _ ?_
          clear hKf
          try simp only [Act.put, List.setIfInBounds_toArray, List.set_cons_zero, List.set_cons_succ]
          refine scEnd rfl (fun Kf hKf => ?_)
          go_simp
          refine hKf.out _ _ ?_
          clear hKf
          simp only [wpScript]
          go_wp2
          go_roundw
          case rel => exact ⟨j + 1, hd', C4, c4, r, by omega, by go_num, HZ, CK2, hide2 (F6.out.set _ _), hide2 (L6.out.setK F6.out _ _), hide2 (FarG.turn II6.out F6.out.kg (by decide) hlo (grown_set2 w4 ⟨w.heap.size + 1, 0, none⟩ ⟨w.heap.size + 1, 1, none⟩ _ _ rfl)), hide2 (FarG.turn IO6.out F6.out.kg (by decide) hlo (grown_set2 w4 ⟨w.heap.size + 1, 0, none⟩ ⟨w.heap.size + 1, 1, none⟩ _ _ rfl))⟩
          case measure => simp [intOf]; omega
        · obtain rfl : j = i := by omega
          have G4 : g4 = gi := by rw [← H4.out, ← GI.out, zip_all (i := j) (by rw [HL.out]; exact Nat.le_refl _)]
          subst G4
          have bb1 := boxBelow wr (.cells #[.int .i64 q] 3)
          have I1 := oneG w0.heap.size wr q
          have IO1 := FarG.keep I_.out bb1
          have CL5 := hide2 (LK5.out _ C' _ _ cc' co (LM.out.keep bb1) IO1.2 IO1.1 I1.1 I1.2)
          have Fl := hide2 (FR.out.keep bb1)
          obtain ⟨y0, y1⟩ := FR.out.kg.two
          clear bb1 I1 IO1 II I_ FR LM
          go_upto_region 46 with (go_at_call 104; (with_reducible refine CL5.out.mono ?_); rintro e w6 ⟨C6, c6, rfl, lm, bl6⟩; have Fm := hide2 (Fl.out.keep bl6); have Lm := hide2 lm; clear lm bl6 y0 y1; obtain ⟨y0, y1⟩ := Fm.out.kg.two; have z0 := Fm.out.kg.frozen 0; have z1 := Fm.out.kg.frozen 1; have Fn := hide2 (Fm.out.set g5.places (.slice C6 g5.links.length c6)); have Ln := hide2 (Lm.out.setK Fm.out g5.places (.slice C6 g5.links.length c6)))
          clear y0 y1 z0 z1 Lm Fl CL5
          clear Fm
          generalize (w6.setCell ⟨w.heap.size + 1, 0, none⟩ (.int .i64 g5.places)).setCell ⟨w.heap.size + 1, 1, none⟩ (.slice C6 g5.links.length c6) = wn at *
          obtain ⟨y0, y1⟩ := Fn.out.kg.two
          obtain ⟨v0, v1⟩ := Fn.out.res.two
          have z0 := Fn.out.res.frozen 0
          have z1 := Fn.out.res.frozen 1
          go_wp2
          obtain ⟨d1, d2, d3⟩ := Fn.out.done Ln.out g5.places (.slice C6 g5.links.length c6)
          have r0 := d1.cell 0
          have r1 := d1.cell 1
          exact bodyPost_ret (v := .agg #[.int .i64 g5.places, .slice C6 g5.links.length c6]) (by simp [results, Try.results41, go_sem, r0, r1]) rfl ⟨C6, c6, rfl, d2, d3⟩
end Go.Proofs.Ytnfppolgaeibeaa
