/- Blocks: plain, and as they lie in memory; what is wrong with a block; the contracts of blocks.Wrong and JWrong. Conditions: the block reads as a tree. -/
import Derived.Test.YtnfppolgaeibeaaBlkP
import Derived.Test.YtnfppolgaeibeaaBox
import Derived.Test.YtnfppolgaeibeaaOwnB
import Derived.Test.YtnfppolgaeibeaaNetD
namespace Go.Proofs.Ytnfppolgaeibeaa
open Go.RowKit

/-! ### in memory -/
def BlkD : Nat → World → (Nat → Value) → PBlk → Prop
  | 0 => fun _ _ _ => False
  | d + 1 => fun w vs b => vs 0 = .int .i64 b.kind ∧ vs 1 = .int .i64 b.label ∧ ∃ A n c, vs 2 = .slice A n c ∧ Sl (BlkD d) 3 w A n c b.kids
theorem BlkD.kept : ∀ d, Kept (BlkD d)
  | 0 => fun _ _ _ _ _ h => h
  | d + 1 => fun _ _ _ _ hb h => by
    obtain ⟨h0, h1, A, n, c, h2, h3⟩ := h
    exact ⟨h0, h1, A, n, c, h2, h3.keep (BlkD.kept d) hb⟩
abbrev Blks (d : Nat) (w : World) (A : Option Addr) (n c : Nat) (l : List PBlk) : Prop := Sl (BlkD d) 3 w A n c l
theorem Blks.keep {d : Nat} {w w' : World} {A : Option Addr} {n c : Nat} {l : List PBlk} (h : Blks d w A n c l) (hb : Below w.heap.size w w') : Blks d w' A n c l := Sl.keep (BlkD.kept d) h hb
theorem Blks.get {d : Nat} {w : World} {A : Option Addr} {n c k : Nat} {l : List PBlk} (h : Blks d w A n c l) (hk : k < n) :
    ∃ b off kd lb ks B m e d', d = d' + 1 ∧ A = some ⟨b, off, none⟩ ∧ b < w.heap.size ∧ Hid (l[k]? = some (.mk kd lb ks)) ∧ w.cell? ⟨b, off + k * 3, none⟩ = some (.int .i64 kd) ∧ w.cell? ⟨b, off + k * 3 + 1, none⟩ = some (.int .i64 lb) ∧ w.cell? ⟨b, off + k * 3 + 2, none⟩ = some (.slice B m e) ∧ Hid (Blks d' w B m e ks) := by
  obtain ⟨b, off, x, vs, h1, h2, h3, h4, h5⟩ := Sl.get h hk
  match d, h5 with
  | d' + 1, h5 =>
    obtain ⟨e0, e1, B, m, e, e2, e3⟩ := h5
    obtain ⟨kd, lb, ks⟩ := x
    refine ⟨b, off, kd, lb, ks, B, m, e, d', rfl, h1, h2, h3, ?_, ?_, ?_, e3⟩
    · have := h4 0 (by omega); rw [e0] at this; simpa [PBlk.kind] using this
    · have := h4 1 (by omega); rw [e1] at this; simpa [PBlk.label, Nat.add_assoc] using this
    · have := h4 2 (by omega); rw [e2] at this; simpa [Nat.add_assoc] using this
def checkV (bn bc : Nat) : Value := .func (.func 99) #[] #[.pointer (some ⟨bn, 0, none⟩), .pointer (some ⟨bc, 0, none⟩)]
/-- What the closure leaves behind: how many there were. -/
def AnsChk (r : Nat × Int) (B : Nat) (w0 : World) (bn bc : Nat) (e : Ending) (w' : World) : Prop := e = .returned (.int .i64 r.2) ∧ Box w' bn 3 #[.int .i64 r.1] ∧ Box w' bc 65 #[checkV bn bc] ∧ Below B w0 w'

set_option maxRecDepth 100000 in
set_option maxHeartbeats 16000000 in
theorem check_calls {w0 : World} {bn bc : Nat} (g1 : w0.heap.size ≤ bn) (g3 : bn ≠ bc) :
    ∀ (f d : Nat) (kd lb : Int) (A : Option Addr) (n c had : Nat) (ks : List PBlk) (w : World), 41 ≤ had + f → had ≤ 40 → Blks d w0 A n c ks → Box w bn 3 #[.int .i64 had] → Box w bc 65 #[checkV bn bc] → Below w0.heap.size w0 w →
      Calls Try.prog 99 #[.agg #[.int .i64 kd, .int .i64 lb, .slice A n c], .pointer (some ⟨bn, 0, none⟩), .pointer (some ⟨bc, 0, none⟩)] w (AnsChk (chkB f (.mk kd lb ks) had) w0.heap.size w0 bn bc) := by
  have henter : ∀ (args : Array Value) (w : World), Sem.run Try.prog (callFunc 99 args) w = .ok (.enter 99 args) w := fun args w => by kernel_rfl
  intro f
  induction f with
  | zero =>
    intro d kd lb A n c had ks w hf h41 hK hN hC hB
    exact absurd hf (by omega)
  | succ f ih =>
    intro d kd lb A n c had ks w hf h41 hK hN hC hB
    obtain ⟨h1, hh1⟩ : ∃ h1 : Nat, had + 1 = h1 := ⟨_, rfl⟩
    have hh1i : (had : Int) + 1 = (h1 : Int) := by omega
    have HL := hide2 (show ks.length = n from hK.len)
    have FULL := hide2 (show 40 < had + 1 → chkB (f + 1) (.mk kd lb ks) had = (had + 1, 4) from fun h => by rw [chkB, if_pos h])
    have BAD := hide2 (show ¬ 40 < had + 1 → headB kd lb n ≠ 0 → chkB (f + 1) (.mk kd lb ks) had = (had + 1, headB kd lb n) from fun h g => by rw [chkB, if_neg h]; simp only [PBlk.kind, PBlk.label, PBlk.kids, HL.out]; rw [if_pos g])
    have GOOD := hide2 (show ¬ 40 < had + 1 → headB kd lb n = 0 → chkB (f + 1) (.mk kd lb ks) had = ks.foldl (stepC (chkB f)) (had + 1, 0) from fun h g => by rw [chkB, if_neg h]; simp only [PBlk.kind, PBlk.label, PBlk.kids, HL.out]; rw [if_neg (by rw [g]; simp)])
    have bb := boxBelow w (.cells #[.int .i64 kd, .int .i64 lb, .slice A n c] 24)
    have BN := hide2 (hN.keep bb)
    have BC := hide2 (hC.keep bb)
    have BX := hide2 (hB.trans (bb.mono hB.size))
    have BB := hide2 (Box.new w #[.int .i64 kd, .int .i64 lb, .slice A n c] 24)
    have NEB := hide2 (show w.heap.size ≠ bn from fun e => by have := hN.lt; omega)
    have G := hide2 (show w0.heap.size ≤ bn ∧ bn ≠ bc ∧ w0.heap.size ≤ w.heap.size from ⟨g1, g3, hB.size⟩)
    have hns := hK.small
    have K := hide2 hK
    clear hK hN hC hB bb g1 g3
    have IH := hide2 ih
    clear ih
    go_enter Try.func99, Try.ntmps99
    go_upto_region 1 with fail
    generalize w.alloc (.cells #[.int .i64 kd, .int .i64 lb, .slice A n c] 24) = u at *
    generalize w.heap.size = bb at *
    have x0 := BN.out.cell 0
    have f0 := BN.out.frozen 0
    simp only [List.getElem?_toArray, List.getElem?_cons_zero] at x0
    have N2 := hide2 (show Box (u.setCell ⟨bn, 0, none⟩ (.int .i64 (h1 : Int))) bn 3 #[.int .i64 (h1 : Int)] by simpa using BN.out.set 0 (.int .i64 (h1 : Int)))
    have C2 := hide2 (BC.out.other (a := ⟨bn, 0, none⟩) (.int .i64 (h1 : Int)) G.out.2.1.symm)
    have X2 := hide2 (BX.out.setCell (p := ⟨bn, 0, none⟩) G.out.1 (.int .i64 (h1 : Int)))
    have B2 := hide2 (BB.out.other (a := ⟨bn, 0, none⟩) (.int .i64 (h1 : Int)) NEB.out)
    clear BN BC BX BB
    go_upto_region 2 with fail
    clear x0 f0
    generalize u.setCell ⟨bn, 0, none⟩ (.int .i64 (h1 : Int)) = u2 at *
    have x0 := N2.out.cell 0
    simp only [List.getElem?_toArray, List.getElem?_cons_zero] at x0
    obtain ⟨b0, b1, b2⟩ := B2.out.three
    by_cases hov : 40 < had + 1
    · have FIN := hide2 (FULL.out hov)
      have hovi : (40 : Int) < (h1 : Int) := by omega
      go_wp2
      go_ret
      rw [FIN.out]
      exact ⟨by first | rfl | simp, by rw [hh1]; exact N2.out, C2.out, X2.out⟩
    · have hovi : ¬ (40 : Int) < (h1 : Int) := by omega
      by_cases hk1 : kd < 1
      · have HD := hide2 (show headB kd lb n = 5 by rw [headB, if_pos (.inl hk1)])
        have FIN := hide2 (BAD.out (by omega) (by rw [HD.out]; decide))
        rw [HD.out] at FIN

        go_wp2
        go_ret
        rw [FIN.out]
        exact ⟨by first | rfl | simp, by rw [hh1]; exact N2.out, C2.out, X2.out⟩
      · by_cases hk6 : 6 < kd
        · have HD := hide2 (show headB kd lb n = 5 by rw [headB, if_pos (.inr hk6)])
          have FIN := hide2 (BAD.out (by omega) (by rw [HD.out]; decide))
          rw [HD.out] at FIN

          go_wp2
          go_ret
          rw [FIN.out]
          exact ⟨by first | rfl | simp, by rw [hh1]; exact N2.out, C2.out, X2.out⟩
        · have hk : kd = 1 ∨ kd = 2 ∨ kd = 3 ∨ kd = 4 ∨ kd = 5 ∨ kd = 6 := by omega
          clear hk1 hk6
          rcases hk with rfl | rfl | rfl | rfl | rfl | rfl
          · by_cases hn0 : n = 0
            · have hn0i : ¬ (0 : Int) < (n : Int) := by omega
              have HD := hide2 (show headB 1 lb n = 0 by unfold headB; simp <;> omega)
              subst hn0
              have FIN := hide2 (GOOD.out (by omega) HD.out)
              rw [hh1] at FIN
              clear FULL BAD GOOD HD
              go_upto_region 12 with fail
              clear x0 b0 b1 b2
              obtain ⟨b0, b1, b2⟩ := B2.out.three
              go_wp2
              clear b0 b1 b2
              go_loopw [66] (fun v wr => ∃ (i hd : Nat), i ≤ 0 ∧ v = .int .i64 i ∧ had + 1 ≤ hd ∧ hd ≤ 40 ∧ Hid ((ks.take i).foldl (stepC (chkB f)) (h1, 0) = (hd, 0)) ∧ Hid (Box wr bn 3 #[.int .i64 hd]) ∧ Hid (Box wr bc 65 #[checkV bn bc]) ∧ Hid (Below w0.heap.size w0 wr)) (fun v _ => 0 - (intOf v).toNat)
              case atStart => exact ⟨0, h1, Nat.zero_le _, rfl, by omega, by omega, rfl, N2, C2, X2⟩
              case round =>
                clear N2 C2 X2 B2
                obtain ⟨i, hd, hi, rfl, hd1, hd2, FO, N2, C2, X2⟩ := hrel
                by_cases hlt : i < 0
                · exact absurd hlt (by omega)
                · obtain rfl : i = 0 := by omega
                  have FE := hide2 (show ks.foldl (stepC (chkB f)) (h1, 0) = (hd, 0) by have := FO.out; rwa [List.take_of_length_le (by rw [HL.out]; exact Nat.le_refl _)] at this)
                  go_wp2
                  go_ret
                  rw [FIN.out, FE.out]
                  exact ⟨by first | rfl | simp, N2.out, C2.out, X2.out⟩
            · have hn0i : (0 : Int) < (n : Int) := by omega
              have hn0j : ¬ (n : Int) = 0 := by omega
              have HD := hide2 (show headB 1 lb n = 1 by unfold headB; simp <;> omega)
              have FIN := hide2 (BAD.out (by omega) (by rw [HD.out]; decide))
              rw [HD.out] at FIN

              go_wp2
              go_ret
              rw [FIN.out]
              exact ⟨by first | rfl | simp, by rw [hh1]; exact N2.out, C2.out, X2.out⟩
          · by_cases hl1 : lb < 1
            · skip
              have HD := hide2 (show headB 2 lb n = 2 by unfold headB; simp <;> omega)
              have FIN := hide2 (BAD.out (by omega) (by rw [HD.out]; decide))
              rw [HD.out] at FIN

              go_wp2
              go_ret
              rw [FIN.out]
              exact ⟨by first | rfl | simp, by rw [hh1]; exact N2.out, C2.out, X2.out⟩
            · by_cases hl2 : 26 < lb
              · skip
                have HD := hide2 (show headB 2 lb n = 2 by unfold headB; simp <;> omega)
                have FIN := hide2 (BAD.out (by omega) (by rw [HD.out]; decide))
                rw [HD.out] at FIN

                go_wp2
                go_ret
                rw [FIN.out]
                exact ⟨by first | rfl | simp, by rw [hh1]; exact N2.out, C2.out, X2.out⟩
              · by_cases hn0 : n = 0
                · have hn0i : ¬ (0 : Int) < (n : Int) := by omega
                  have HD := hide2 (show headB 2 lb n = 0 by unfold headB; simp <;> omega)
                  subst hn0
                  have FIN := hide2 (GOOD.out (by omega) HD.out)
                  rw [hh1] at FIN
                  clear FULL BAD GOOD HD
                  go_upto_region 12 with fail
                  clear x0 b0 b1 b2
                  obtain ⟨b0, b1, b2⟩ := B2.out.three
                  go_wp2
                  clear b0 b1 b2
                  go_loopw [66] (fun v wr => ∃ (i hd : Nat), i ≤ 0 ∧ v = .int .i64 i ∧ had + 1 ≤ hd ∧ hd ≤ 40 ∧ Hid ((ks.take i).foldl (stepC (chkB f)) (h1, 0) = (hd, 0)) ∧ Hid (Box wr bn 3 #[.int .i64 hd]) ∧ Hid (Box wr bc 65 #[checkV bn bc]) ∧ Hid (Below w0.heap.size w0 wr)) (fun v _ => 0 - (intOf v).toNat)
                  case atStart => exact ⟨0, h1, Nat.zero_le _, rfl, by omega, by omega, rfl, N2, C2, X2⟩
                  case round =>
                    clear N2 C2 X2 B2
                    obtain ⟨i, hd, hi, rfl, hd1, hd2, FO, N2, C2, X2⟩ := hrel
                    by_cases hlt : i < 0
                    · exact absurd hlt (by omega)
                    · obtain rfl : i = 0 := by omega
                      have FE := hide2 (show ks.foldl (stepC (chkB f)) (h1, 0) = (hd, 0) by have := FO.out; rwa [List.take_of_length_le (by rw [HL.out]; exact Nat.le_refl _)] at this)
                      go_wp2
                      go_ret
                      rw [FIN.out, FE.out]
                      exact ⟨by first | rfl | simp, N2.out, C2.out, X2.out⟩
                · have hn0i : (0 : Int) < (n : Int) := by omega
                  have hn0j : ¬ (n : Int) = 0 := by omega
                  have HD := hide2 (show headB 2 lb n = 1 by unfold headB; simp <;> omega)
                  have FIN := hide2 (BAD.out (by omega) (by rw [HD.out]; decide))
                  rw [HD.out] at FIN

                  go_wp2
                  go_ret
                  rw [FIN.out]
                  exact ⟨by first | rfl | simp, by rw [hh1]; exact N2.out, C2.out, X2.out⟩
          · by_cases hn0 : n = 0
            · subst hn0
              have HD := hide2 (show headB 3 lb 0 = 1 by unfold headB; simp)
              have FIN := hide2 (BAD.out (by omega) (by rw [HD.out]; decide))
              rw [HD.out] at FIN

              go_wp2
              go_ret
              rw [FIN.out]
              exact ⟨by first | rfl | simp, by rw [hh1]; exact N2.out, C2.out, X2.out⟩
            · have hn0i : ¬ (n : Int) = 0 := by omega
              have HD := hide2 (show headB 3 lb n = 0 by unfold headB; simp <;> omega)
              have FIN := hide2 (GOOD.out (by omega) HD.out)
              rw [hh1] at FIN
              clear FULL BAD GOOD HD
              go_upto_region 12 with fail
              clear x0 b0 b1 b2
              obtain ⟨b0, b1, b2⟩ := B2.out.three
              go_wp2
              clear b0 b1 b2
              go_loopw [66] (fun v wr => ∃ (i hd : Nat), i ≤ n ∧ v = .int .i64 i ∧ had + 1 ≤ hd ∧ hd ≤ 40 ∧ Hid ((ks.take i).foldl (stepC (chkB f)) (h1, 0) = (hd, 0)) ∧ Hid (Box wr bn 3 #[.int .i64 hd]) ∧ Hid (Box wr bc 65 #[checkV bn bc]) ∧ Hid (Below w0.heap.size w0 wr)) (fun v _ => n - (intOf v).toNat)
              case atStart => exact ⟨0, h1, Nat.zero_le _, rfl, by omega, by omega, rfl, N2, C2, X2⟩
              case round =>
                clear N2 C2 X2 B2
                obtain ⟨i, hd, hi, rfl, hd1, hd2, FO, N2, C2, X2⟩ := hrel
                by_cases hlt : i < n
                · have hki : (i : Int) < (n : Int) := by omega
                  obtain ⟨bl, off, kd', lb', ks', B', m', e', d', rfl, rfl, hbl, hx, p0, p1, p2, K'⟩ := K.out.get hlt
                  have q0 := (X2.out.cell (p := ⟨bl, _, none⟩) hbl).trans p0
                  have q1 := (X2.out.cell (p := ⟨bl, _, none⟩) hbl).trans p1
                  have q2 := (X2.out.cell (p := ⟨bl, _, none⟩) hbl).trans p2
                  have TK := hide2 (foldC_take (g := chkB f) (s := (h1, 0)) hx.out)
                  rw [FO.out] at TK
                  have TB := hide2 (fun h => foldC_bad (g := chkB f) (s := (h1, 0)) (l := ks) (i := i + 1) h)
                  obtain ⟨r, hr⟩ : ∃ r, chkB f (.mk kd' lb' ks') hd = r := ⟨_, rfl⟩
                  have hst : stepC (chkB f) (hd, 0) (.mk kd' lb' ks') = r := by rw [stepC, if_pos rfl]; exact hr
                  rw [hst] at TK
                  rw [TK.out] at TB
                  have GR := hide2 (chkB_ok f (.mk kd' lb' ks') hd)
                  rw [hr] at GR
                  have bb2 := boxBelow wr (.cells #[.int .i64 kd', .int .i64 lb', .slice B' m' e'] 24)
                  have N3 := hide2 (N2.out.keep bb2)
                  have C3 := hide2 (C2.out.keep bb2)
                  have X3 := hide2 (X2.out.trans (bb2.mono X2.out.size))
                  have CI := hide2 (IH.out d' kd' lb' B' m' e' hd ks' (wr.alloc (.cells #[.int .i64 kd', .int .i64 lb', .slice B' m' e'] 24)) (by omega) hd2 K'.out N3.out C3.out X3.out)
                  rw [hr] at CI
                  have xc := C2.out.cell 0
                  have xc3 := C3.out.cell 0
                  simp only [List.getElem?_toArray, List.getElem?_cons_zero] at xc xc3
                  clear p0 p1 p2 hr hst bb2 hx
                  obtain ⟨rh, re⟩ := r
                  by_cases hre : re = 0
                  · subst hre
                    obtain ⟨gr1, gr2⟩ := GR.out rfl
                    simp only at gr1 gr2
                    go_wp2_with (refine CI.out.mono ?_; rintro e w4 ⟨rfl, n4, c4, x4⟩; have N4 := hide2 n4; have C4 := hide2 c4; have X4 := hide2 x4; clear n4 c4 x4)
                    go_roundw
                    case rel => exact ⟨i + 1, rh, by omega, by go_num, by omega, gr2, TK, N4, C4, X4⟩
                    case measure => simp [intOf]; omega
                  · have FE := hide2 (TB.out hre)
                    go_wp2_with (refine CI.out.mono ?_; rintro e w4 ⟨rfl, n4, c4, x4⟩; have N4 := hide2 n4; have C4 := hide2 c4; have X4 := hide2 x4; clear n4 c4 x4)
                    go_ret
                    rw [FIN.out, FE.out]
                    exact ⟨by first | rfl | simp, N4.out, C4.out, X4.out⟩
                · obtain rfl : i = n := by omega
                  have FE := hide2 (show ks.foldl (stepC (chkB f)) (h1, 0) = (hd, 0) by have := FO.out; rwa [List.take_of_length_le (by rw [HL.out]; exact Nat.le_refl _)] at this)
                  go_wp2
                  go_ret
                  rw [FIN.out, FE.out]
                  exact ⟨by first | rfl | simp, N2.out, C2.out, X2.out⟩
          · by_cases hn0 : n = 0
            · subst hn0
              have HD := hide2 (show headB 4 lb 0 = 1 by unfold headB; simp)
              have FIN := hide2 (BAD.out (by omega) (by rw [HD.out]; decide))
              rw [HD.out] at FIN

              go_wp2
              go_ret
              rw [FIN.out]
              exact ⟨by first | rfl | simp, by rw [hh1]; exact N2.out, C2.out, X2.out⟩
            · have hn0i : ¬ (n : Int) = 0 := by omega
              have HD := hide2 (show headB 4 lb n = 0 by unfold headB; simp <;> omega)
              have FIN := hide2 (GOOD.out (by omega) HD.out)
              rw [hh1] at FIN
              clear FULL BAD GOOD HD
              go_upto_region 12 with fail
              clear x0 b0 b1 b2
              obtain ⟨b0, b1, b2⟩ := B2.out.three
              go_wp2
              clear b0 b1 b2
              go_loopw [66] (fun v wr => ∃ (i hd : Nat), i ≤ n ∧ v = .int .i64 i ∧ had + 1 ≤ hd ∧ hd ≤ 40 ∧ Hid ((ks.take i).foldl (stepC (chkB f)) (h1, 0) = (hd, 0)) ∧ Hid (Box wr bn 3 #[.int .i64 hd]) ∧ Hid (Box wr bc 65 #[checkV bn bc]) ∧ Hid (Below w0.heap.size w0 wr)) (fun v _ => n - (intOf v).toNat)
              case atStart => exact ⟨0, h1, Nat.zero_le _, rfl, by omega, by omega, rfl, N2, C2, X2⟩
              case round =>
                clear N2 C2 X2 B2
                obtain ⟨i, hd, hi, rfl, hd1, hd2, FO, N2, C2, X2⟩ := hrel
                by_cases hlt : i < n
                · have hki : (i : Int) < (n : Int) := by omega
                  obtain ⟨bl, off, kd', lb', ks', B', m', e', d', rfl, rfl, hbl, hx, p0, p1, p2, K'⟩ := K.out.get hlt
                  have q0 := (X2.out.cell (p := ⟨bl, _, none⟩) hbl).trans p0
                  have q1 := (X2.out.cell (p := ⟨bl, _, none⟩) hbl).trans p1
                  have q2 := (X2.out.cell (p := ⟨bl, _, none⟩) hbl).trans p2
                  have TK := hide2 (foldC_take (g := chkB f) (s := (h1, 0)) hx.out)
                  rw [FO.out] at TK
                  have TB := hide2 (fun h => foldC_bad (g := chkB f) (s := (h1, 0)) (l := ks) (i := i + 1) h)
                  obtain ⟨r, hr⟩ : ∃ r, chkB f (.mk kd' lb' ks') hd = r := ⟨_, rfl⟩
                  have hst : stepC (chkB f) (hd, 0) (.mk kd' lb' ks') = r := by rw [stepC, if_pos rfl]; exact hr
                  rw [hst] at TK
                  rw [TK.out] at TB
                  have GR := hide2 (chkB_ok f (.mk kd' lb' ks') hd)
                  rw [hr] at GR
                  have bb2 := boxBelow wr (.cells #[.int .i64 kd', .int .i64 lb', .slice B' m' e'] 24)
                  have N3 := hide2 (N2.out.keep bb2)
                  have C3 := hide2 (C2.out.keep bb2)
                  have X3 := hide2 (X2.out.trans (bb2.mono X2.out.size))
                  have CI := hide2 (IH.out d' kd' lb' B' m' e' hd ks' (wr.alloc (.cells #[.int .i64 kd', .int .i64 lb', .slice B' m' e'] 24)) (by omega) hd2 K'.out N3.out C3.out X3.out)
                  rw [hr] at CI
                  have xc := C2.out.cell 0
                  have xc3 := C3.out.cell 0
                  simp only [List.getElem?_toArray, List.getElem?_cons_zero] at xc xc3
                  clear p0 p1 p2 hr hst bb2 hx
                  obtain ⟨rh, re⟩ := r
                  by_cases hre : re = 0
                  · subst hre
                    obtain ⟨gr1, gr2⟩ := GR.out rfl
                    simp only at gr1 gr2
                    go_wp2_with (refine CI.out.mono ?_; rintro e w4 ⟨rfl, n4, c4, x4⟩; have N4 := hide2 n4; have C4 := hide2 c4; have X4 := hide2 x4; clear n4 c4 x4)
                    go_roundw
                    case rel => exact ⟨i + 1, rh, by omega, by go_num, by omega, gr2, TK, N4, C4, X4⟩
                    case measure => simp [intOf]; omega
                  · have FE := hide2 (TB.out hre)
                    go_wp2_with (refine CI.out.mono ?_; rintro e w4 ⟨rfl, n4, c4, x4⟩; have N4 := hide2 n4; have C4 := hide2 c4; have X4 := hide2 x4; clear n4 c4 x4)
                    go_ret
                    rw [FIN.out, FE.out]
                    exact ⟨by first | rfl | simp, N4.out, C4.out, X4.out⟩
                · obtain rfl : i = n := by omega
                  have FE := hide2 (show ks.foldl (stepC (chkB f)) (h1, 0) = (hd, 0) by have := FO.out; rwa [List.take_of_length_le (by rw [HL.out]; exact Nat.le_refl _)] at this)
                  go_wp2
                  go_ret
                  rw [FIN.out, FE.out]
                  exact ⟨by first | rfl | simp, N2.out, C2.out, X2.out⟩
          · by_cases hn0 : n = 0
            · subst hn0
              have HD := hide2 (show headB 5 lb 0 = 1 by unfold headB; simp)
              have FIN := hide2 (BAD.out (by omega) (by rw [HD.out]; decide))
              rw [HD.out] at FIN

              go_wp2
              go_ret
              rw [FIN.out]
              exact ⟨by first | rfl | simp, by rw [hh1]; exact N2.out, C2.out, X2.out⟩
            · have hn0i : ¬ (n : Int) = 0 := by omega
              have HD := hide2 (show headB 5 lb n = 0 by unfold headB; simp <;> omega)
              have FIN := hide2 (GOOD.out (by omega) HD.out)
              rw [hh1] at FIN
              clear FULL BAD GOOD HD
              go_upto_region 12 with fail
              clear x0 b0 b1 b2
              obtain ⟨b0, b1, b2⟩ := B2.out.three
              go_wp2
              clear b0 b1 b2
              go_loopw [66] (fun v wr => ∃ (i hd : Nat), i ≤ n ∧ v = .int .i64 i ∧ had + 1 ≤ hd ∧ hd ≤ 40 ∧ Hid ((ks.take i).foldl (stepC (chkB f)) (h1, 0) = (hd, 0)) ∧ Hid (Box wr bn 3 #[.int .i64 hd]) ∧ Hid (Box wr bc 65 #[checkV bn bc]) ∧ Hid (Below w0.heap.size w0 wr)) (fun v _ => n - (intOf v).toNat)
              case atStart => exact ⟨0, h1, Nat.zero_le _, rfl, by omega, by omega, rfl, N2, C2, X2⟩
              case round =>
                clear N2 C2 X2 B2
                obtain ⟨i, hd, hi, rfl, hd1, hd2, FO, N2, C2, X2⟩ := hrel
                by_cases hlt : i < n
                · have hki : (i : Int) < (n : Int) := by omega
                  obtain ⟨bl, off, kd', lb', ks', B', m', e', d', rfl, rfl, hbl, hx, p0, p1, p2, K'⟩ := K.out.get hlt
                  have q0 := (X2.out.cell (p := ⟨bl, _, none⟩) hbl).trans p0
                  have q1 := (X2.out.cell (p := ⟨bl, _, none⟩) hbl).trans p1
                  have q2 := (X2.out.cell (p := ⟨bl, _, none⟩) hbl).trans p2
                  have TK := hide2 (foldC_take (g := chkB f) (s := (h1, 0)) hx.out)
                  rw [FO.out] at TK
                  have TB := hide2 (fun h => foldC_bad (g := chkB f) (s := (h1, 0)) (l := ks) (i := i + 1) h)
                  obtain ⟨r, hr⟩ : ∃ r, chkB f (.mk kd' lb' ks') hd = r := ⟨_, rfl⟩
                  have hst : stepC (chkB f) (hd, 0) (.mk kd' lb' ks') = r := by rw [stepC, if_pos rfl]; exact hr
                  rw [hst] at TK
                  rw [TK.out] at TB
                  have GR := hide2 (chkB_ok f (.mk kd' lb' ks') hd)
                  rw [hr] at GR
                  have bb2 := boxBelow wr (.cells #[.int .i64 kd', .int .i64 lb', .slice B' m' e'] 24)
                  have N3 := hide2 (N2.out.keep bb2)
                  have C3 := hide2 (C2.out.keep bb2)
                  have X3 := hide2 (X2.out.trans (bb2.mono X2.out.size))
                  have CI := hide2 (IH.out d' kd' lb' B' m' e' hd ks' (wr.alloc (.cells #[.int .i64 kd', .int .i64 lb', .slice B' m' e'] 24)) (by omega) hd2 K'.out N3.out C3.out X3.out)
                  rw [hr] at CI
                  have xc := C2.out.cell 0
                  have xc3 := C3.out.cell 0
                  simp only [List.getElem?_toArray, List.getElem?_cons_zero] at xc xc3
                  clear p0 p1 p2 hr hst bb2 hx
                  obtain ⟨rh, re⟩ := r
                  by_cases hre : re = 0
                  · subst hre
                    obtain ⟨gr1, gr2⟩ := GR.out rfl
                    simp only at gr1 gr2
                    go_wp2_with (refine CI.out.mono ?_; rintro e w4 ⟨rfl, n4, c4, x4⟩; have N4 := hide2 n4; have C4 := hide2 c4; have X4 := hide2 x4; clear n4 c4 x4)
                    go_roundw
                    case rel => exact ⟨i + 1, rh, by omega, by go_num, by omega, gr2, TK, N4, C4, X4⟩
                    case measure => simp [intOf]; omega
                  · have FE := hide2 (TB.out hre)
                    go_wp2_with (refine CI.out.mono ?_; rintro e w4 ⟨rfl, n4, c4, x4⟩; have N4 := hide2 n4; have C4 := hide2 c4; have X4 := hide2 x4; clear n4 c4 x4)
                    go_ret
                    rw [FIN.out, FE.out]
                    exact ⟨by first | rfl | simp, N4.out, C4.out, X4.out⟩
                · obtain rfl : i = n := by omega
                  have FE := hide2 (show ks.foldl (stepC (chkB f)) (h1, 0) = (hd, 0) by have := FO.out; rwa [List.take_of_length_le (by rw [HL.out]; exact Nat.le_refl _)] at this)
                  go_wp2
                  go_ret
                  rw [FIN.out, FE.out]
                  exact ⟨by first | rfl | simp, N2.out, C2.out, X2.out⟩
          · by_cases hn0 : n = 2
            · have hn0i : (n : Int) = 2 := by omega
              have HD := hide2 (show headB 6 lb n = 0 by unfold headB; simp <;> omega)
              subst hn0
              have FIN := hide2 (GOOD.out (by omega) HD.out)
              rw [hh1] at FIN
              clear FULL BAD GOOD HD
              go_upto_region 12 with fail
              clear x0 b0 b1 b2
              obtain ⟨b0, b1, b2⟩ := B2.out.three
              go_wp2
              clear b0 b1 b2
              go_loopw [66] (fun v wr => ∃ (i hd : Nat), i ≤ 2 ∧ v = .int .i64 i ∧ had + 1 ≤ hd ∧ hd ≤ 40 ∧ Hid ((ks.take i).foldl (stepC (chkB f)) (h1, 0) = (hd, 0)) ∧ Hid (Box wr bn 3 #[.int .i64 hd]) ∧ Hid (Box wr bc 65 #[checkV bn bc]) ∧ Hid (Below w0.heap.size w0 wr)) (fun v _ => 2 - (intOf v).toNat)
              case atStart => exact ⟨0, h1, Nat.zero_le _, rfl, by omega, by omega, rfl, N2, C2, X2⟩
              case round =>
                clear N2 C2 X2 B2
                obtain ⟨i, hd, hi, rfl, hd1, hd2, FO, N2, C2, X2⟩ := hrel
                by_cases hlt : i < 2
                · have hki : (i : Int) < (2 : Int) := by omega
                  obtain ⟨bl, off, kd', lb', ks', B', m', e', d', rfl, rfl, hbl, hx, p0, p1, p2, K'⟩ := K.out.get hlt
                  have q0 := (X2.out.cell (p := ⟨bl, _, none⟩) hbl).trans p0
                  have q1 := (X2.out.cell (p := ⟨bl, _, none⟩) hbl).trans p1
                  have q2 := (X2.out.cell (p := ⟨bl, _, none⟩) hbl).trans p2
                  have TK := hide2 (foldC_take (g := chkB f) (s := (h1, 0)) hx.out)
                  rw [FO.out] at TK
                  have TB := hide2 (fun h => foldC_bad (g := chkB f) (s := (h1, 0)) (l := ks) (i := i + 1) h)
                  obtain ⟨r, hr⟩ : ∃ r, chkB f (.mk kd' lb' ks') hd = r := ⟨_, rfl⟩
                  have hst : stepC (chkB f) (hd, 0) (.mk kd' lb' ks') = r := by rw [stepC, if_pos rfl]; exact hr
                  rw [hst] at TK
                  rw [TK.out] at TB
                  have GR := hide2 (chkB_ok f (.mk kd' lb' ks') hd)
                  rw [hr] at GR
                  have bb2 := boxBelow wr (.cells #[.int .i64 kd', .int .i64 lb', .slice B' m' e'] 24)
                  have N3 := hide2 (N2.out.keep bb2)
                  have C3 := hide2 (C2.out.keep bb2)
                  have X3 := hide2 (X2.out.trans (bb2.mono X2.out.size))
                  have CI := hide2 (IH.out d' kd' lb' B' m' e' hd ks' (wr.alloc (.cells #[.int .i64 kd', .int .i64 lb', .slice B' m' e'] 24)) (by omega) hd2 K'.out N3.out C3.out X3.out)
                  rw [hr] at CI
                  have xc := C2.out.cell 0
                  have xc3 := C3.out.cell 0
                  simp only [List.getElem?_toArray, List.getElem?_cons_zero] at xc xc3
                  clear p0 p1 p2 hr hst bb2 hx
                  obtain ⟨rh, re⟩ := r
                  by_cases hre : re = 0
                  · subst hre
                    obtain ⟨gr1, gr2⟩ := GR.out rfl
                    simp only at gr1 gr2
                    go_wp2_with (refine CI.out.mono ?_; rintro e w4 ⟨rfl, n4, c4, x4⟩; have N4 := hide2 n4; have C4 := hide2 c4; have X4 := hide2 x4; clear n4 c4 x4)
                    go_roundw
                    case rel => exact ⟨i + 1, rh, by omega, by go_num, by omega, gr2, TK, N4, C4, X4⟩
                    case measure => simp [intOf]; omega
                  · have FE := hide2 (TB.out hre)
                    go_wp2_with (refine CI.out.mono ?_; rintro e w4 ⟨rfl, n4, c4, x4⟩; have N4 := hide2 n4; have C4 := hide2 c4; have X4 := hide2 x4; clear n4 c4 x4)
                    go_ret
                    rw [FIN.out, FE.out]
                    exact ⟨by first | rfl | simp, N4.out, C4.out, X4.out⟩
                · obtain rfl : i = 2 := by omega
                  have FE := hide2 (show ks.foldl (stepC (chkB f)) (h1, 0) = (hd, 0) by have := FO.out; rwa [List.take_of_length_le (by rw [HL.out]; exact Nat.le_refl _)] at this)
                  go_wp2
                  go_ret
                  rw [FIN.out, FE.out]
                  exact ⟨by first | rfl | simp, N2.out, C2.out, X2.out⟩
            · by_cases hn1 : n = 0
              · subst hn1
                have HD := hide2 (show headB 6 lb 0 = 1 by unfold headB; simp)
                have FIN := hide2 (BAD.out (by omega) (by rw [HD.out]; decide))
                rw [HD.out] at FIN

                go_wp2
                go_ret
                rw [FIN.out]
                exact ⟨by first | rfl | simp, by rw [hh1]; exact N2.out, C2.out, X2.out⟩
              · have hn0i : ¬ (n : Int) = 0 := by omega
                have hn2i : ¬ (n : Int) = 2 := by omega
                have hnb : ((n : Int) != 2) = true := by simpa using hn2i
                have HD := hide2 (show headB 6 lb n = 1 by unfold headB; simp <;> omega)
                have FIN := hide2 (BAD.out (by omega) (by rw [HD.out]; decide))
                rw [HD.out] at FIN

                go_wp2
                go_ret
                rw [FIN.out]
                exact ⟨by first | rfl | simp, by rw [hh1]; exact N2.out, C2.out, X2.out⟩
end Go.Proofs.Ytnfppolgaeibeaa

