/- The contract of shape.Close. Conditions: the net reads as a list. -/
import Derived.Test.YtnfppolgaeibeaaPlainH
import Derived.Test.YtnfppolgaeibeaaHeld
import Derived.Test.YtnfppolgaeibeaaCaseA
namespace Go.Proofs.Ytnfppolgaeibeaa
open Go.RowKit

/-- What a call answers that hands back a net and what is wrong. -/
def AnsNS (p : PNet × Int) (w : World) (e : Ending) (w' : World) : Prop :=
  ∃ A n c, e = .returned (.tuple #[.agg #[.int .i64 p.1.places, .slice A n c], .int .i64 p.2]) ∧ Trans w' A n c p.1.trans ∧ Below w.heap.size w w'
theorem AnsNS.no {e : Int} {w w' : World} (hb : Below w.heap.size w w') : AnsNS (⟨0, []⟩, e) w (.returned (.tuple #[.agg #[.int .i64 0, .slice none 0 0], .int .i64 e])) w' :=
  ⟨none, 0, 0, rfl, Sl.nil0, hb⟩

theorem TranR0.good (w0 : World) : Good (TranR0 w0) 3 where
  kept := TranR0.kept w0
  one := fun w vs x h j hj => TranR.good.one w0 vs x h j hj
  pos := by omega
theorem Trans.to0 {w w' : World} {A : Option Addr} {n c : Nat} {ts : List PTran} (h : Trans w A n c ts) (hb : Below w.heap.size w w') : Sl (TranR0 w) 3 w' A n c ts :=
  Sl.keep (TranR0.kept w) (h.imp (R' := TranR0 w) fun _ _ h => h) hb
set_option maxRecDepth 100000 in
theorem cloneTrans_calls {w0 w : World} {A : Option Addr} {n c : Nat} {xs : List PTran} (h : Sl (TranR0 w0) 3 w A n c xs) (hn : n ≤ 1000) :
    Calls Try.prog 44 #[.slice A n c] w (AnsOwn (TranR0 w0) 3 78 n xs w) := by
  have HB := hide2 (show ∀ o, Below w.heap.size w (w.alloc o) from fun o => (Below.refl _ _).alloc (Nat.le_refl _) _)
  rcases A with _ | ad
  · have hc := h.nul rfl
    have hn0 : n = 0 := by have := h.le; omega
    subst hc hn0
    have hx := List.eq_nil_of_length_eq_zero h.len
    subst hx
    clear h
    have he := fun (w : World) => Lib.run_eql_slice_nil (P := Try.prog) w 25 78 none 0 0 0 0 Try.underlying25
    go_enter Try.func44, Try.ntmps44
    go_wp2
    go_ret
    exact ⟨_, rfl, OwnSl.nil, Below.refl _ _⟩
  · have H := hide2 h
    have O := hide2 (OwnSl.empty (R := TranR0 w0) (sz := 3) (w := w) (B := w.heap.size) (e := 78) (Nat.le_refl _))
    clear h
    have he := fun (w : World) => Lib.run_eql_slice_nil (P := Try.prog) w 25 78 (some ad) n c 0 0 Try.underlying25
    go_enter Try.func44, Try.ntmps44
    go_wp2_with (at_builtin; refine wpList_appSl tyTrans (TranR0.good w0) rfl _ _ rfl rfl rfl O.out (Sl.keep (TranR0.kept w0) H.out (HB.out _)) (HB.out _) (by simp) (by omega) (by omega) (fun _ _ _ _ h => h) ?_; intro v1 w1 own1 hg1 hb1)
    go_ret
    exact ⟨_, rfl, by simpa using own1, hb1⟩

/-- What is known of a transition in each world that meets Q. -/
def LateR (Q : World → Prop) : World → (Nat → Value) → PTran → Prop := fun _ vs t => ∀ w', Q w' → TranV w' (vs 0) (vs 1) (vs 2) t
theorem OwnSl.imp {α : Type} {R R' : World → (Nat → Value) → α → Prop} {sz : Nat} {w : World} {B e : Nat} {v : Value} {n : Nat} {xs : List α} (h : OwnSl R sz w B e v n xs) (hR : ∀ vs x, R w vs x → R' w vs x) : OwnSl R' sz w B e v n xs := by
  obtain ⟨cells, h1, h2, h3⟩ := h
  exact ⟨cells, h1, ⟨h2.1, fun i x hx => by obtain ⟨vs, a, b⟩ := h2.2 i x hx; exact ⟨vs, a, hR _ _ b⟩⟩, h3⟩
theorem Ints.far {w w' : World} {A : Option Addr} {n c b : Nat} {xs : List Int} (h : Ints w A n c xs) (hg : w.grownBy w' (some b)) (hb : ∀ a, A = some a → a.block ≠ b) : Ints w' A n c xs :=
  ⟨h.len, h.le, h.cap, h.small, h.nul, fun hn => by
    obtain ⟨b', off, e, hlt, hc⟩ := h.cells hn
    have hne := hb _ e
    refine ⟨b', off, e, Nat.lt_of_lt_of_le hlt hg.size, fun i x hx => ?_⟩
    obtain ⟨vs, h1, h2⟩ := hc i x hx
    exact ⟨vs, fun j hj => (World.cell?_of_block (hg.block b' hlt (by simpa using hne))).trans (h1 j hj), h2⟩⟩
theorem grown_below {a b c : World} {r : Option Nat} (h : a.grownBy b r) (g : Below a.heap.size b c) : a.grownBy c r :=
  ⟨g.os.trans h.os, g.tape.trans h.tape, g.output.trans h.output, Nat.le_trans h.size g.size, fun k hk hne => (g.block k hk).trans (h.block k hk hne)⟩
theorem grown_cell {a b : World} {q j : Nat} {u : Value} (h : a.grownBy b (some q)) : a.grownBy (b.setCell ⟨q, j, none⟩ u) (some q) :=
  ⟨h.os, h.tape, h.output, by simpa [World.setCell] using h.size, fun k hk hne => (Below.heap_setCell _ _ _ _ (fun e => hne (by rw [e]))).trans (h.block k hk hne)⟩
theorem shapeL_zero {N : PNet} {i o : Int} (h : shapeL N i o = 0) : netOk N = true ∧ inB N i o = true := by
  unfold shapeL at h
  by_cases h1 : netOk N = true
  · rw [if_pos h1] at h
    by_cases h2 : inB N i o = true
    · exact ⟨h1, h2⟩
    · rw [if_neg h2] at h; cases h
  · rw [if_neg h1] at h; cases h

set_option maxRecDepth 100000 in
set_option maxHeartbeats 8000000 in
theorem close_calls {w : World} {P : Int} {A : Option Addr} {n c : Nat} {ts : List PTran} (i o : Int) (h : Trans w A n c ts) (hn : n ≤ 2513169434916) :
    Calls Try.prog 12 #[.agg #[.int .i64 P, .slice A n c], .int .i64 i, .int .i64 o] w (AnsNS (closeL ⟨P, ts⟩ i o) w) := by
  generalize hw0 : (w.alloc (.cells #[.int .i64 P, .slice A n c] 27)).alloc (.cells #[.int .i64 0, .slice none 0 0] 27) = w0
  have D0 := hide2 (show Below w.heap.size w w0 by rw [← hw0]; exact ((Below.refl _ _).alloc (Nat.le_refl _) _).alloc (by simp) _)
  have X0 := hide2 (show Box w0 w.heap.size 27 #[.int .i64 P, .slice A n c] by rw [← hw0]; exact (Box.new _ _ _).old _)
  have X1 := hide2 (show Box w0 (w.heap.size + 1) 27 #[.int .i64 0, .slice none 0 0] by rw [← hw0]; exact Box.newAt (by simp) _ _)
  have H := hide2 h
  have HL := hide2 h.len
  have hns := h.small
  clear h
  obtain ⟨s, hs⟩ : ∃ s, shapeL ⟨P, ts⟩ i o = s := ⟨_, rfl⟩
  have HS := hide2 hs
  have CW := hide2 (shapeWrong_calls (P := P) i o (H.out.keep D0.out) hn)
  rw [hs] at CW
  clear hs
  go_enter Try.func12, Try.ntmps12
  go_upto_region 1 with fail
  clear hw0
  obtain ⟨c0, c1⟩ := X0.out.two
  go_wp2_with fail
  refine CW.out.mono ?_
  rintro e w1 ⟨rfl, hb⟩
  have B1 := hide2 (D0.out.trans (hb.mono D0.out.size))
  have Y0 := hide2 (X0.out.keep hb)
  have Y1 := hide2 (X1.out.keep hb)
  clear hb c0 c1 X0 X1 D0 CW
  obtain ⟨c0, c1⟩ := Y0.out.two
  obtain ⟨z0, z1⟩ := Y1.out.two
  have zf := Y1.out.frozen 0
  have zg := Y1.out.frozen 1
  by_cases hz : s = 0
  · subst hz
    obtain ⟨hok, hin⟩ := shapeL_zero HS.out
    simp only [inB, Bool.and_eq_true, decide_eq_true_eq] at hin
    obtain ⟨⟨⟨⟨hi0, ho0⟩, hiP⟩, hoP⟩, _⟩ := hin
    have HO := hide2 hok
    obtain ⟨p, rfl⟩ : ∃ p : Nat, P = (p : Int) := ⟨P.toNat, by have := ((netOk_iff _).1 HO.out).1; simp only [] at this; omega⟩
    have hp16 : p ≤ 16 := by have := ((netOk_iff _).1 HO.out).2.1; simp only [] at this; omega
    have hn24 : n ≤ 24 := by have := ((netOk_iff _).1 HO.out).2.2.1; rw [HL.out] at this; exact this
    obtain ⟨i, rfl⟩ : ∃ k : Nat, i = (k : Int) := ⟨i.toNat, by omega⟩
    obtain ⟨o, rfl⟩ : ∃ k : Nat, o = (k : Int) := ⟨o.toNat, by omega⟩
    clear hok hi0 ho0
    by_cases hfull : n = 24
    · have FIN := hide2 (show closeL ⟨(p : Int), ts⟩ i o = (⟨0, []⟩, 4) by rw [closeL, if_pos HS.out, if_pos (by rw [HL.out]; exact hfull)])
      have hni : ((n : Int) == 24) = true := by simp; omega
      clear hfull
      go_wp2
      obtain ⟨r0, r1⟩ := (Y1.out.set2 (.int .i64 0) (.slice none 0 0)).two
      exact bodyPost_ret (v := .tuple #[.agg #[.int .i64 0, .slice none 0 0], .int .i64 4]) (by simp [results, Try.results12, go_sem, r0, r1]) rfl (by rw [FIN.out]; exact AnsNS.no ((B1.out.setCell (by simp) _).setCell (by simp) _))
    · have FIN := hide2 (show closeL ⟨(p : Int), ts⟩ i o = (⟨(p : Int), ts ++ [⟨0, oneL p o, oneL p i⟩]⟩, 0) by rw [closeL, if_pos HS.out, if_neg (by rw [HL.out]; exact hfull)]; rfl)
      have hni : ((n : Int) == 24) = false := by simp; omega
      have hn23 : n ≤ 23 := by omega
      clear hfull
      go_upto_region 7 with fail
      generalize hw2 : w1.alloc (.cells #[.int .i64 p, .slice none 0 0] 27) = w2
      have hb2 : Below w1.heap.size w1 w2 := by rw [← hw2]; exact boxBelow _ _
      have V0 := hide2 (Y0.out.keep hb2).drew
      have V1 := hide2 (Y1.out.keep hb2).drew
      have V9 := hide2 (show Box w2.drew w1.heap.size 27 #[.int .i64 p, .slice none 0 0] by rw [← hw2]; exact (Box.new _ _ _).drew)
      have D := hide2 (B1.out.trans (hb2.mono B1.out.size)).drew
      have hb69 : w.heap.size + 1 < w1.heap.size := Y1.out.lt
      obtain ⟨x0, x1⟩ := (Y0.out.keep hb2).two
      clear hw2 hb2 Y0 Y1 B1 c0 c1 z0 z1 zf zg
      generalize w1.heap.size = b9 at *
      refine wp_region_scrP 14 15 15 (.takes [0, 1, 3, 4, 5, 7, 8, 9] (.one 2 (.one 6 (.one 10 (.take 11 (.one 12 (.one 13 (.fin 14 .done)))))))) (fun w' => w'.cell? ⟨w.heap.size, 0, none⟩ = some (.int .i64 p) ∧ w'.cell? ⟨w.heap.size, 1, none⟩ = some (.slice A n c)) (v := ?_) (by kernel_rfl) (by kernel_rfl) (by kernel_rfl) rfl (by kernel_rfl) (fun _ _ _ _ _ h => h) rfl (by rfl) (fun w' => ?_) ⟨x0, x1⟩ (fun hHeld => ?_)
      rotate_left
      · (go_simp; try with_reducible rfl)
      simp only [Act.put, List.setIfInBounds_toArray, List.set_cons_zero, List.set_cons_succ]
      simp only [Scr.takes]
      generalize w2.drew = u0 at *
      iterate 8
        refine tkTake (v := ?_) rfl (by rfl) hHeld (fun w' hSw => ?_) ?_
        rotate_left
        · (go_simp; try with_reducible rfl)
        simp only [Act.put, List.setIfInBounds_toArray, List.set_cons_zero, List.set_cons_succ]
      refine tkOne rfl (fun K hK => ?_)
      go_simp; go_at_call 44
      (with_reducible refine (cloneTrans_calls (H.out.to0 D.out) (by omega)).mono ?_)
      rintro e u1 ⟨v1, rfl, own1, hb⟩
      have O1 := hide2 own1
      have W0 := hide2 (V0.out.keep hb)
      have W1 := hide2 (V1.out.keep hb)
      have W9 := hide2 (V9.out.keep hb)
      have D1 := hide2 (D.out.trans (hb.mono D.out.size))
      have S1 := hb.size
      have hb9u : b9 < u0.heap.size := V9.out.lt
      clear own1 hb x0 x1 V0 V1 V9 D
      obtain ⟨x0, x1⟩ := W0.out.two
      refine hK.out _ _ ⟨x0, x1⟩ (fun hHeld => ?_)
      clear hK
      try simp only [Act.put, List.setIfInBounds_toArray, List.set_cons_zero, List.set_cons_succ]
      refine tkOne rfl (fun K hK => ?_)
      go_simp; go_at_call 45
      (with_reducible refine (one_calls u1 (p : Int) o (by omega)).mono ?_)
      rw [Int.toNat_natCast]
      rintro e u2 ⟨Co, ko, rfl, io, hb, fo⟩
      have I_ := hide2 io
      have FO := hide2 fo
      have O2 := hide2 (show OwnSl (TranR0 w) 3 u2 u0.heap.size 78 v1 n ts from O1.out.keep (TranR0.kept w) hb)
      have V0 := hide2 (W0.out.keep hb)
      have V1 := hide2 (W1.out.keep hb)
      have V9 := hide2 (W9.out.keep hb)
      have D2 := hide2 (D1.out.trans (hb.mono D1.out.size))
      have S2 := Nat.le_trans S1 hb.size
      have S12 := hb.size
      clear io fo hb x0 x1 W0 W1 W9 D1
      obtain ⟨x0, x1⟩ := V0.out.two
      refine hK.out _ _ ⟨x0, x1⟩ (fun hHeld => ?_)
      clear hK
      try simp only [Act.put, List.setIfInBounds_toArray, List.set_cons_zero, List.set_cons_succ]
      refine tkOne rfl (fun K hK => ?_)
      go_simp; go_at_call 45
      (with_reducible refine (one_calls u2 (p : Int) i (by omega)).mono ?_)
      rw [Int.toNat_natCast]
      rintro e u3 ⟨Ci, ki, rfl, ii, hb, fi⟩
      have IO3 := hide2 (Ints.keep I_.out hb)
      have II3 := hide2 ii
      have FI := hide2 fi
      have O3 := hide2 (show OwnSl (TranR0 w) 3 u3 u0.heap.size 78 v1 n ts from O2.out.keep (TranR0.kept w) hb)
      have W0 := hide2 (V0.out.keep hb)
      have W1 := hide2 (V1.out.keep hb)
      have W9 := hide2 (V9.out.keep hb)
      have D3 := hide2 (D2.out.trans (hb.mono D2.out.size))
      have S3 := Nat.le_trans S2 hb.size
      have RLT := hide2 (show ∀ q, v1.ownBlock = some q → q < u1.heap.size from fun q hq => (O1.out.lt q hq).2)
      clear ii fi hb x0 x1 V0 V1 V9 D2 I_
      obtain ⟨x0, x1⟩ := W0.out.two
      refine hK.out _ _ ⟨x0, x1⟩ (fun hHeld => ?_)
      clear hK
      try simp only [Act.put, List.setIfInBounds_toArray, List.set_cons_zero, List.set_cons_succ]
      iterate 1
        refine tkTake (v := ?_) rfl (by rfl) hHeld (fun w' hSw => ?_) ?_
        rotate_left
        · (go_simp; try with_reducible rfl)
        simp only [Act.put, List.setIfInBounds_toArray, List.set_cons_zero, List.set_cons_succ]
      refine tkOne rfl (fun K hK => ?_)
      go_simp
      refine hK.out _ _ ⟨(W0.out.old _).two.1, (W0.out.old _).two.2⟩ (fun hHeld => ?_)
      clear hK
      try simp only [Act.put, List.setIfInBounds_toArray, List.set_cons_zero, List.set_cons_succ]
      obtain ⟨Q0, hQ0⟩ : ∃ Q : World → Prop, Q = fun w' => Below w.heap.size w w' ∧ Ints w' Co p ko (oneL p o) ∧ Ints w' Ci p ki (oneL p i) := ⟨_, rfl⟩
      have OL := hide2 (show OwnSl (LateR Q0) 3 u3 u0.heap.size 78 v1 n ts from O3.out.imp (R' := LateR Q0) fun vs t ht w' hw' => by rw [hQ0] at hw'; exact TranV.keep hw'.1 ht)
      have RD := hide2 (show LateR Q0 u3 (fun j => [Value.int .i64 0, .slice Co p ko, .slice Ci p ki].getD j undef) ⟨0, oneL p o, oneL p i⟩ from fun w' hw' => by rw [hQ0] at hw'; exact ⟨rfl, Co, p, ko, Ci, p, ki, rfl, rfl, hw'.2.1, hw'.2.2, by omega, by omega⟩)
      refine tkOne rfl (fun K hK => ?_)
      refine step_appNew tyTrans rfl (.tmp 30) (.tmp 40) rfl [⟨0, oneL p o, oneL p i⟩] #[.int .i64 0, .slice Co p ko, .slice Ci p ki] rfl rfl (by first | rfl | simp) rfl rfl (by omega) (by simp [Value.oneCell']) OL.out (Reads.tran RD.out) rfl (Below.refl u0.heap.size u3) S3 (by omega) (by omega) (fun _ _ _ _ h => h) ?_
      intro g cap wz own4 hg4 hb4 hBg hgl
      replace hg4 : u3.grownBy wz v1.ownBlock := hg4
      have OZ := hide2 own4
      have Z0 := hide2 (W0.out.keepB hb4 (by omega))
      have Z1 := hide2 (W1.out.keepB hb4 (by omega))
      have Z9 := hide2 (W9.out.keepB hb4 hb9u)
      have DZ := hide2 (D3.out.trans (hb4.mono (show w.heap.size ≤ u0.heap.size by omega)))
      have SZ := Nat.le_trans S3 hg4.size
      have IOZ := hide2 (show Ints wz Co p ko (oneL p o) from by
        rcases hv : v1.ownBlock with _ | q
        · rw [hv] at hg4; exact Ints.far (b := b9) IO3.out (hg4.but _) (fun a ha => by have := FO.out a ha; omega)
        · rw [hv] at hg4; exact Ints.far IO3.out hg4 (fun a ha => by have := FO.out a ha; have := RLT.out q hv; omega))
      have IIZ := hide2 (show Ints wz Ci p ki (oneL p i) from by
        rcases hv : v1.ownBlock with _ | q
        · rw [hv] at hg4; exact Ints.far (b := b9) II3.out (hg4.but _) (fun a ha => by have := FI.out a ha; omega)
        · rw [hv] at hg4; exact Ints.far II3.out hg4 (fun a ha => by have := FI.out a ha; have := RLT.out q hv; omega))
      have FO9 := hide2 (show ∀ a, Co = some a → a.block ≠ b9 from fun a ha => by have := FO.out a ha; omega)
      have FI9 := hide2 (show ∀ a, Ci = some a → a.block ≠ b9 from fun a ha => by have := FI.out a ha; omega)
      have HQ0 := hide2 hQ0
      clear own4 hg4 hb4 W0 W1 W9 D3 S3 S2 S1 O1 O2 O3 OL RD IO3 II3 FO FI RLT x0 x1 hQ0
      obtain ⟨x0, x1⟩ := Z0.out.two
      refine hK.out _ _ ⟨x0, x1⟩ (fun hHeld => ?_)
      clear hK
      simp only [Act.put, List.setIfInBounds_toArray, List.set_cons_zero, List.set_cons_succ]
      refine tkEnd rfl (fun K hK => ?_)
      go_simp
      refine hK.out _ _ ?_
      clear hK hHeld x0 x1
      try simp only [Act.put, List.setIfInBounds_toArray, List.set_cons_zero, List.set_cons_succ]
      refine tkDone ?_
      obtain ⟨LL, hLL⟩ : ∃ L, ts ++ [⟨0, oneL p o, oneL p i⟩] = L := ⟨_, rfl⟩
      have HLL := hide2 (show LL.length = n + 1 by rw [← hLL]; simp [HL.out])
      rw [hLL] at OZ FIN
      clear hLL
      have hb9z : b9 < wz.heap.size := by omega
      go_wp2
      go_loopw [43] (fun v wr => ∃ (k : Nat) (A' : Option Addr) (c' : Nat), k ≤ n + 1 ∧ v = .int .i64 k ∧ Hid (Box wr b9 27 #[.int .i64 p, .slice A' k c']) ∧ Hid (OwnSl (OwnTranR wz.heap.size) 3 wr wz.heap.size 78 (.slice A' k c') k (LL.take k)) ∧ Hid (wz.grownBy wr (some b9)) ∧ wz.heap.size ≤ wr.heap.size) (fun v _ => n + 1 - (intOf v).toNat)
      case atStart => exact ⟨0, none, 0, Nat.zero_le _, rfl, Z9, OwnSl.nil, World.grownBy.refl _ _, Nat.le_refl _⟩
      case round =>
        obtain ⟨k, A', c', hk, rfl, V9, OW, GR, hsz⟩ := hrel
        by_cases hlt : k < n + 1
        · have hki : (k : Int) < (n : Int) + 1 := by omega
          have QW : Q0 wr := by
            rw [HQ0.out]
            exact ⟨DZ.out.grown GR.out DZ.out.size (fun k hk => by cases hk; omega), IOZ.out.far GR.out FO9.out, IIZ.out.far GR.out FI9.out⟩
          obtain ⟨AL, cL, hv, hSL⟩ := (OwnSl.kept OZ.out GR.out (.inr (fun e => by have := (OZ.out.lt _ e).1; omega)) (fun _ _ h => h)).sl (by omega)
          injection hv with e1 e2 e3
          subst e1 e3
          obtain ⟨bl, off, t, A1, n1, k1, A2, n2, k2, hA, hbl, ht, q0, q1, q2, i1, i2, m1, m2⟩ := Trans.get (hSL.imp (R' := TranR) fun vs x h => h wr QW) hlt
          cases hA
          simp only [Nat.zero_add] at q0 q1 q2
          have HST := hide2 (take_snoc ht.out)
          have I1 := hide2 i1
          have I2 := hide2 i2
          clear hSL i1 i2 QW
          go_upto_region 10 with fail
          generalize hw2 : wr.alloc (.cells #[.int .i64 t.label, .slice A1 n1 k1, .slice A2 n2 k2] 78) = w2
          have bb : Below wr.heap.size wr w2.drew := by rw [← hw2]; exact (boxBelow _ _).drew
          have V3 := hide2 (show Box w2.drew wr.heap.size 78 #[.int .i64 t.label, .slice A1 n1 k1, .slice A2 n2 k2] by rw [← hw2]; exact (Box.new _ _ _).drew)
          have J1 := hide2 (Ints.keep I1.out bb)
          have J2 := hide2 (Ints.keep I2.out bb)
          replace V9 := hide2 (V9.out.keep bb)
          replace OW := hide2 (OW.out.keep (OwnTranR.kept _) bb)
          replace GR := hide2 (grown_below GR.out (bb.mono hsz))
          replace hsz := Nat.le_trans hsz bb.size
          obtain ⟨t0, t1, t2⟩ := V3.out.three
          obtain ⟨_, o1⟩ := V9.out.two
          clear hw2 bb I1 I2 q0 q1 q2
          generalize wr.heap.size = bx at *
          refine wp_region_scr 12 (.takes [0, 1, 2, 3, 4, 5, 7, 8] (.one 6 (.one 9 (.take 10 (.one 11 (.fins [12, 13, 14] .done)))))) (fun w' => w'.cell? ⟨bx, 0, none⟩ = some (.int .i64 t.label) ∧ w'.cell? ⟨bx, 1, none⟩ = some (.slice A1 n1 k1) ∧ w'.cell? ⟨bx, 2, none⟩ = some (.slice A2 n2 k2) ∧ w'.cell? ⟨b9, 1, none⟩ = some (.slice A' k c')) (by kernel_rfl) (by kernel_rfl) (by kernel_rfl) (fun _ _ _ _ _ h => h) ⟨t0, t1, t2, o1⟩ (fun hHeld => ?_)
          simp only [Scr.takes, Scr.fins]
          generalize w2.drew = u0' at *
          clear t0 t1 t2 o1
          iterate 8
            refine tkTake (v := ?_) rfl (by rfl) hHeld (fun w' hSw => ?_) ?_
            rotate_left
            · (go_simp; try with_reducible rfl)
            simp only [Act.put, List.setIfInBounds_toArray, List.set_cons_zero, List.set_cons_succ]
          refine tkOne rfl (fun K hK => ?_)
          go_simp; go_at_call 46
          (with_reducible refine (cloneInts_calls J1.out m1).mono ?_)
          rintro e w3 ⟨v3, rfl, o3, b3⟩
          obtain ⟨C3, k3, hv3, _⟩ := o3.sl (by omega)
          subst hv3
          have O3 := hide2 (show OwnInts w3 wz.heap.size (.slice C3 n1 k3) n1 t.pre from o3.base hsz)
          replace V3 := hide2 (V3.out.keep b3)
          replace V9 := hide2 (V9.out.keep b3)
          replace OW := hide2 (OW.out.keep (OwnTranR.kept _) b3)
          replace GR := hide2 (grown_below GR.out (b3.mono hsz))
          replace hsz := Nat.le_trans hsz b3.size
          have K2 := hide2 (Ints.keep J2.out b3)
          clear o3 b3 J1 J2
          obtain ⟨t0, t1, t2⟩ := V3.out.three
          obtain ⟨_, o1⟩ := V9.out.two
          refine hK.out _ _ ⟨t0, t1, t2, o1⟩ (fun hHeld => ?_)
          clear hK t0 t1 t2 o1
          try simp only [Act.put, List.setIfInBounds_toArray, List.set_cons_zero, List.set_cons_succ]
          refine tkOne rfl (fun K hK => ?_)
          go_simp; go_at_call 46
          (with_reducible refine (cloneInts_calls K2.out m2).mono ?_)
          rintro e w4 ⟨v4, rfl, o4, b4⟩
          obtain ⟨C4, k4, hv4, _⟩ := o4.sl (by omega)
          subst hv4
          have O4 := hide2 (show OwnInts w4 wz.heap.size (.slice C4 n2 k4) n2 t.post from o4.base hsz)
          replace O3 := hide2 (show OwnInts w4 wz.heap.size (.slice C3 n1 k3) n1 t.pre from O3.out.keep IntR.kept b4)
          replace V3 := hide2 (V3.out.keep b4)
          replace V9 := hide2 (V9.out.keep b4)
          replace OW := hide2 (OW.out.keep (OwnTranR.kept _) b4)
          replace GR := hide2 (grown_below GR.out (b4.mono hsz))
          replace hsz := Nat.le_trans hsz b4.size
          clear o4 b4 K2
          obtain ⟨t0, t1, t2⟩ := V3.out.three
          obtain ⟨_, o1⟩ := V9.out.two
          refine hK.out _ _ ⟨t0, t1, t2, o1⟩ (fun hHeld => ?_)
          clear hK
          try simp only [Act.put, List.setIfInBounds_toArray, List.set_cons_zero, List.set_cons_succ]
          iterate 1
            refine tkTake (v := ?_) rfl (by rfl) hHeld (fun w' hSw => ?_) ?_
            rotate_left
            · (go_simp; try with_reducible rfl)
            simp only [Act.put, List.setIfInBounds_toArray, List.set_cons_zero, List.set_cons_succ]
          refine tkOne rfl (fun K hK => ?_)
          go_simp
          refine hK.out _ _ ⟨(V3.out.old _).three.1, (V3.out.old _).three.2.1, (V3.out.old _).three.2.2, (V9.out.old _).two.2⟩ (fun hHeld => ?_)
          clear hK
          try simp only [Act.put, List.setIfInBounds_toArray, List.set_cons_zero, List.set_cons_succ]
          have RD := hide2 (show OwnTranR wz.heap.size w4 (fun j => [Value.int .i64 t.label, .slice C3 n1 k3, .slice C4 n2 k4].getD j undef) t from ⟨rfl, n1, n2, O3.out, O4.out, m1, m2⟩)
          refine tkEnd rfl (fun K hK => ?_)
          have KP := keepTran OW.out
          refine step_appNew tyTrans rfl (.tmp 48) (.tmp 58) rfl [t] #[.int .i64 t.label, .slice C3 n1 k3, .slice C4 n2 k4] rfl rfl (by first | rfl | simp) rfl rfl (by omega) (by simp [Value.oneCell']) OW.out (Reads.tran RD.out) rfl (Below.refl wz.heap.size w4) hsz (by omega) (by omega) KP ?_
          intro g2 cap2 wy ownz hgz hbz hBg2 hgl2
          have Z9' := hide2 (V9.out.keepB hbz hb9z)
          have GY := hide2 (grown_below GR.out hbz)
          have SY := Nat.le_trans hsz hbz.size
          obtain ⟨z0, z1⟩ := Z9'.out.two
          have zf := Z9'.out.frozen 1
          have OY := hide2 ownz
          clear KP ownz hgz hbz
          refine hK.out _ _ ?_
          clear hK
          simp only [Act.put, List.setIfInBounds_toArray, List.set_cons_zero, List.set_cons_succ]
          iterate 2
            refine tkEnd rfl (fun K hK => ?_)
            go_simp
            refine hK.out _ _ ?_
            clear hK
            try simp only [Act.put, List.setIfInBounds_toArray, List.set_cons_zero, List.set_cons_succ]
          refine tkDone ?_
          have Q9 := hide2 (show Box (wy.setCell ⟨b9, 1, none⟩ (.slice (some ⟨g2, 0, none⟩) (k + 1) cap2)) b9 27 #[.int .i64 p, .slice (some ⟨g2, 0, none⟩) (k + 1) cap2] by simpa using Z9'.out.set 1 (.slice (some ⟨g2, 0, none⟩) (k + 1) cap2))
          have OQ := turnedEnd (j := 1) (u := .slice (some ⟨g2, 0, none⟩) (k + 1) cap2) OY.out hb9z
          have GQ := hide2 (grown_cell (j := 1) (u := .slice (some ⟨g2, 0, none⟩) (k + 1) cap2) GY.out)
          have SQ : wz.heap.size ≤ (wy.setCell ⟨b9, 1, none⟩ (.slice (some ⟨g2, 0, none⟩) (k + 1) cap2)).heap.size := by simpa [World.setCell] using SY
          clear V3 V9 OW GR Z9' GY SY OY z0 z1 zf hHeld t0 t1 t2 o1
          go_wp2
          go_roundw
          case rel => exact ⟨k + 1, some ⟨g2, 0, none⟩, cap2, by omega, by go_num, Q9, by rw [HST.out]; exact OQ, GQ, SQ⟩
          case measure => simp [intOf]; omega
        · obtain rfl : k = n + 1 := by omega
          have ET := hide2 (show LL.take (n + 1) = LL by rw [List.take_of_length_le (by rw [HLL.out]; exact Nat.le_refl _)])
          rw [ET.out] at OW
          have V1 := hide2 (Z1.out.grown GR.out (by simp; omega))
          have DF := hide2 (show Below w.heap.size w wr from DZ.out.grown GR.out DZ.out.size (fun k hk => by cases hk; omega))
          obtain ⟨z0, z1⟩ := V9.out.two
          obtain ⟨x0, x1⟩ := V1.out.two
          have xf := V1.out.frozen 0
          have xg := V1.out.frozen 1
          have hb1q : w.heap.size + 1 < wz.heap.size := by omega
          go_wp2
          have OW1 := turnedEnd (j := 0) (u := .int .i64 p) OW.out hb1q
          have OW2 := turnedEnd (j := 1) (u := .slice A' (n + 1) c') OW1.out hb1q
          obtain ⟨E', es', hv', hE'⟩ := OW2.out.ofOwnTran.sl (by omega)
          injection hv' with h1 h2 h3
          subst h1 h3
          obtain ⟨r0, r1⟩ := (V1.out.set2 (.int .i64 p) (.slice A' (n + 1) c')).two
          exact bodyPost_ret (v := .tuple #[.agg #[.int .i64 p, .slice A' (n + 1) c'], .int .i64 0]) (by simp [results, Try.results12, go_sem, r0, r1]) rfl
            ⟨A', n + 1, c', by rw [FIN.out], by rw [FIN.out]; exact hE', (DF.out.setCell (by simp) _).setCell (by simp) _⟩
  · have hne : (s == 0) = false := by simpa using hz
    have FIN := hide2 (show closeL ⟨P, ts⟩ i o = (⟨0, []⟩, s) by rw [closeL, HS.out, if_neg hz])
    clear hz
    go_wp2
    obtain ⟨r0, r1⟩ := (Y1.out.set2 (.int .i64 0) (.slice none 0 0)).two
    exact bodyPost_ret (v := .tuple #[.agg #[.int .i64 0, .slice none 0 0], .int .i64 s]) (by simp [results, Try.results12, go_sem, r0, r1]) rfl (by rw [FIN.out]; exact AnsNS.no ((B1.out.setCell (by simp) _).setCell (by simp) _))
end Go.Proofs.Ytnfppolgaeibeaa
