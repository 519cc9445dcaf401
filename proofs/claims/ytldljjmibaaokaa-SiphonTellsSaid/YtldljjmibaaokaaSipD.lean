/- The contracts of siphon.Most and MostTrap. Conditions: the net and the places read as lists. -/
import Derived.Test.YtldljjmibaaokaaSipC
import Derived.ScopeJumps
namespace Go.Proofs.Ytldljjmibaaokaa
open Go.RowKit

/-- A scope in which the run jumps back to one label; what stands behind the label is walked once. -/
theorem wp_scope_again {P : Program} {a : Act} {w : World} {Q : Exit → Act → World → Prop} {c rest : Code} (l : Nat) (J : Act → World → Prop) (μ : Act → World → Nat) (hf : findLabel c l = some (Code.seq .skip rest))
    (pass : ∀ a w, J a w → rest.wp P (Exit.jump l (fun a' w' => J a' w' ∧ μ a' w' < μ a w) Q) a w)
    (first : (∀ a w, J a w → rest.wp P (Exit.jump l J Q) a w) → c.wp P (Exit.jump l J Q) a w) : (Code.scope c).wp P Q a w :=
  wp_scope_jumps l J μ hf (first fun a w h => wp_mono (pass a w h) (fun e a w hq => by
    cases e
    all_goals first
      | exact hq
      | exact ⟨hq.1, hq.2.1⟩)) (fun a w h => wp_seq (wp_skip (pass a w h)))

def MostP (N : PNet) (l xs : List Int) : Prop := if wholeB N l = true then IsMost N.trans l xs else xs = []
theorem MostP.uniq {N : PNet} {l xs ys : List Int} (h : MostP N l xs) (g : MostP N l ys) : xs = ys := by
  unfold MostP at h g
  split at h
  · rename_i hw
    rw [if_pos hw] at g
    exact h.uniq g
  · rename_i hw
    rw [if_neg hw] at g
    rw [h, g]
def AnsMost (N : PNet) (l : List Int) (w : World) (e : Ending) (w' : World) : Prop := ∃ A k c xs, e = .returned (.slice A k c) ∧ Ints w' A k c xs ∧ MostP N l xs ∧ Below w.heap.size w w'
theorem listS_le (s : Nat) : (listS s).length ≤ 16 := listK_len s 16
theorem notand {s b : Nat} (hs : s < 65536) (hb : b < 65536) : bits .andNot .u32 (s : Int) (b : Int) = ((s &&& (4294967295 - b) : Nat) : Int) := u32_andNot_nat s b (by omega) (by omega)
theorem anyB_false {ts : List PTran} {s : Nat} (h : ∀ j, j < ts.length → ∀ y, ts[j]? = some y → badT s y = false) : ts.any (badT s) = false := by
  rw [List.any_eq_false]
  intro t ht
  obtain ⟨j, hj, rfl⟩ := List.getElem_of_mem ht
  rw [h j hj _ (List.getElem?_eq_getElem hj)]
  simp
/-- The frame where the run comes to the label. -/
def MostJ (w0 : World) (bn : Nat) (P : Int) (A : Option Addr) (n c : Nat) (B : Option Addr) (m d : Nat) (ts : List PTran) (l : List Int) (a : Act) (w : World) : Prop :=
  ∃ (s : Nat) (u7 u8 u9 u10 u11 u12 u13 u14 u15 u16 u17 u18 u19 u20 u21 u22 u23 u24 u25 u26 u27 u28 u29 u30 u31 u32 u33 u34 u35 u36 u37 u38 u39 u40 : Value),
    a = { tmps := #[.agg #[.int .i64 P, .slice A n c], .slice B m d, .pointer (some ⟨bn, 0, none⟩), undef, .slice none 0 0, .int .u32 (s : Int), undef, u7, u8, u9, u10, u11, u12, u13, u14, u15, u16, u17, u18, u19, u20, u21, u22, u23, u24, u25, u26, u27, u28, u29, u30, u31, u32, u33, u34, u35, u36, u37, u38, u39, u40, undef, undef], defers := [] } ∧
    Hid (wholeB ⟨P, ts⟩ l = true) ∧ Hid (MostI ts l s) ∧ Hid (Box w bn 24 #[.int .i64 P, .slice A n c]) ∧ Hid (Below w0.heap.size w0 w)

set_option maxRecDepth 100000 in
set_option maxHeartbeats 4000000 in
theorem most_calls {w : World} {P : Int} {A B : Option Addr} {n c m d : Nat} {ts : List PTran} {l : List Int} (h : Trans w A n c ts) (g : Ints w B m d l) :
    Calls Try.prog 22 #[.agg #[.int .i64 P, .slice A n c], .slice B m d] w (AnsMost ⟨P, ts⟩ l w) := by
  have X0 := hide2 (Box.new w #[.int .i64 P, .slice A n c] 24)
  have B0 := hide2 (boxBelow w (.cells #[.int .i64 P, .slice A n c] 24))
  have H := hide2 h
  have G := hide2 g
  have hns := h.small
  have HL := hide2 h.len
  clear h g
  obtain ⟨r, hr⟩ : ∃ r, wholeB ⟨P, ts⟩ l = r := ⟨_, rfl⟩
  have HR := hide2 hr
  clear hr
  go_enter Try.func22, Try.ntmps22
  go_wp2
  generalize w.alloc (.cells #[.int .i64 P, .slice A n c] 24) = w0 at *
  refine wp_scope_again 0 (MostJ w w.heap.size P A n c B m d ts l) (fun a _ => (intOf (a.tmps.getD 5 undef)).toNat) rfl ?pass ?first
  case first =>
    intro PASS
    obtain ⟨c0, c1⟩ := X0.out.two
    have HP := hide2 PASS
    clear PASS
    cases r
    · go_wp2_with fail
      refine (whole_calls (P := P) (H.out.keep B0.out) (G.out.keep B0.out)).mono ?_
      rw [HR.out]
      rintro e w1 ⟨rfl, hb⟩
      have B1 := hide2 (B0.out.trans (hb.mono B0.out.size))
      clear hb
      go_wp2
      simp only [Exit.jump]
      go_ret
      exact ⟨none, 0, 0, [], rfl, Sl.nil0, by rw [MostP, HR.out]; rfl, B1.out⟩
    · go_wp2_with fail
      refine (whole_calls (P := P) (H.out.keep B0.out) (G.out.keep B0.out)).mono ?_
      rw [HR.out]
      rintro e w1 ⟨rfl, hb⟩
      have X1 := hide2 (X0.out.keep hb)
      have B1 := hide2 (B0.out.trans (hb.mono B0.out.size))
      clear hb c0 c1
      go_wp2_with fail
      refine (set_calls (G.out.keep B1.out)).mono ?_
      rintro e w2 ⟨rfl, rfl⟩
      have MI := hide2 (MostI.start (ts := ts) (l := l) (fun x hx => by
        obtain ⟨k1, k2⟩ := whole_in HR.out
        have k3 := (netOk_iff _).1 k1
        have := k2 x hx
        simp only [] at *
        omega))
      go_wp2
      go_step3
      rename_i K hK
      exact hK _ _ (HP.out _ _ ⟨_, _, _, _, _, _, _, _, _, _, _, _, _, _, _, _, _, _, _, _, _, _, _, _, _, _, _, _, _, _, _, _, _, _, _, rfl, HR, MI, X1, B1⟩)
  case pass =>
    rintro a w1 ⟨s, u7, u8, u9, u10, u11, u12, u13, u14, u15, u16, u17, u18, u19, u20, u21, u22, u23, u24, u25, u26, u27, u28, u29, u30, u31, u32, u33, u34, u35, u36, u37, u38, u39, u40, rfl, HW, MI, X1, B1⟩
    clear HR
    obtain ⟨c0, c1⟩ := X1.out.two
    have HS := hide2 MI.out.1
    go_wp2
    clear c0 c1
    go_loopw [5, 18] (fun u5 i wr => ∃ k : Nat, k ≤ n ∧ i = .int .i64 k ∧ u5 = .int .u32 (s : Int) ∧ Hid (∀ j, j < k → ∀ y, ts[j]? = some y → badT s y = false) ∧ Hid (Below w1.heap.size w1 wr)) (fun _ i _ => n - (intOf i).toNat)
    case atStart => exact ⟨0, Nat.zero_le _, rfl, rfl, fun j hj => absurd hj (by omega), Below.refl _ _⟩
    case round =>
      obtain ⟨k, hk, rfl, rfl, hlow, D⟩ := hrel
      have BR := hide2 (B1.out.trans (D.out.mono B1.out.size))
      by_cases hlt : k < n
      · have hki : (k : Int) < (n : Int) := by omega
        obtain ⟨b, off, t, A1, n1, d1, A2, n2, d2, rfl, hb, ht, q0, q1, q2, i1, i2, _, _⟩ := Trans.get (H.out.keep BR.out) hlt
        have htm : t ∈ ts := List.mem_of_getElem? ht.out
        have TM := hide2 htm
        obtain ⟨k1, k2, k3, k4⟩ := tok_of (N := ⟨P, ts⟩) (whole_in HW.out).1 t htm
        have bb := boxBelow wr (.cells #[.int .i64 t.label, .slice A1 n1 d1, .slice A2 n2 d2] 79)
        have XT := hide2 (Box.new wr #[.int .i64 t.label, .slice A1 n1 d1, .slice A2 n2 d2] 79)
        have J1 := hide2 (Ints.keep i1 bb)
        have J2 := hide2 (Ints.keep i2 bb)
        have D2 := hide2 (D.out.trans (bb.mono D.out.size))
        have hn1 : n1 ≤ 16 := by rw [← i1.len]; exact k1
        have hn2 : n2 ≤ 16 := by rw [← i2.len]; exact k2
        have a1 := and16 (ofW_lt k2) HS.out
        have a2 := and16 (ofW_lt k1) HS.out
        have BT := hide2 (show badT s t = (decide (ofW t.post &&& s ≠ 0) && decide (ofW t.pre &&& s = 0)) from rfl)
        have CT := hide2 (show cutS s t = s &&& (4294967295 - (ofW t.post &&& s)) from rfl)
        have E16 := hide2 (show ofW t.post &&& s < 65536 from Nat.lt_of_le_of_lt Nat.and_le_right HS.out)
        generalize ofW t.post &&& s = e1 at *
        generalize ofW t.pre &&& s = e2 at *
        have a3 := notand HS.out E16.out
        rw [← CT.out] at a3
        clear i1 i2 k1 k2 k3 k4 bb htm
        go_upto_region 7 with fail
        clear q0 q1 q2
        generalize wr.alloc (.cells #[.int .i64 t.label, .slice A1 n1 d1, .slice A2 n2 d2] 79) = w3 at *
        obtain ⟨y0, y1, y2⟩ := XT.out.three
        by_cases h1 : e1 = 0
        · subst h1
          go_wp2_with (refine (of_calls J2.out hn2).mono ?_; rintro e w4 ⟨rfl, rfl⟩)
          go_roundw
          case rel =>
            refine ⟨k + 1, by omega, by go_num, rfl, fun j hj y hy => ?_, D2⟩
            by_cases hjk : j = k
            · subst hjk
              have := ht.out
              rw [hy] at this
              injection this with this
              rw [this, BT.out]
              simp
            · exact hlow.out j (by omega) y hy
          case measure => simp [intOf]; omega
        · have h1' : ((e1 : Int) == 0) = false := by simp; omega
          by_cases h2 : e2 = 0
          · subst h2
            have MC := hide2 (MI.out.cut TM.out (show badT s t = true by rw [BT.out]; simp [h1]))
            have X3 := hide2 (X1.out.keep D2.out)
            have B3 := hide2 (B1.out.trans (D2.out.mono B1.out.size))
            have hlts := MC.out.2
            go_wp2_with (first | (with_reducible refine (of_calls J2.out hn2).mono ?_; rintro e w4 ⟨rfl, rfl⟩) | (with_reducible refine (of_calls J1.out hn1).mono ?_; rintro e w4 ⟨rfl, rfl⟩))
            go_step3
            refine ⟨rfl, ⟨cutS s t, _, _, _, _, _, _, _, _, _, _, _, _, _, _, _, _, _, _, _, _, _, _, _, _, _, _, _, _, _, _, _, _, _, _, rfl, HW, hide2 MC.out.1, X3, B3⟩, ?_⟩
            simp [intOf]
            omega
          · have h2' : ((e2 : Int) == 0) = false := by simp; omega
            go_wp2_with (first | (with_reducible refine (of_calls J2.out hn2).mono ?_; rintro e w4 ⟨rfl, rfl⟩) | (with_reducible refine (of_calls J1.out hn1).mono ?_; rintro e w4 ⟨rfl, rfl⟩))
            go_roundw
            case rel =>
              refine ⟨k + 1, by omega, by go_num, rfl, fun j hj y hy => ?_, D2⟩
              by_cases hjk : j = k
              · subst hjk
                have := ht.out
                rw [hy] at this
                injection this with this
                rw [this, BT.out]
                simp [h2]
              · exact hlow.out j (by omega) y hy
            case measure => simp [intOf]; omega
      · obtain rfl : k = n := by omega
        have FN := hide2 (MI.out.fin (anyB_false (fun j hj => hlow.out j (by rw [← HL.out]; exact hj))))
        have LE := hide2 (listS_le s)
        go_wp2_with (with_reducible refine (list_calls HS.out).mono ?_; rintro e w4 ⟨v, rfl, own, hb⟩; obtain ⟨A5, k5, rfl, I5⟩ := own.sl (by have := LE.out; omega); have BE := hide2 (BR.out.trans (hb.mono BR.out.size)); have IE := hide2 I5; clear own hb I5)
        simp only [Exit.jump]
        go_ret
        exact ⟨A5, _, k5, listS s, rfl, IE.out, by rw [MostP, HW.out]; exact FN.out, BE.out⟩

set_option maxRecDepth 100000 in
theorem mostTrap_calls {w : World} {P : Int} {A B : Option Addr} {n c m d : Nat} {ts : List PTran} {l : List Int} (h : Trans w A n c ts) (hn : n ≤ 2513169434916) (g : Ints w B m d l) :
    Calls Try.prog 24 #[.agg #[.int .i64 P, .slice A n c], .slice B m d] w (AnsMost (turned ⟨P, ts⟩) l w) := by
  have X0 := hide2 (Box.new w #[.int .i64 P, .slice A n c] 24)
  have B0 := hide2 (boxBelow w (.cells #[.int .i64 P, .slice A n c] 24))
  have H := hide2 h
  have G := hide2 g
  clear h g
  go_enter Try.func24, Try.ntmps24
  go_upto_region 1 with fail
  generalize w.alloc (.cells #[.int .i64 P, .slice A n c] 24) = w0 at *
  obtain ⟨c0, c1⟩ := X0.out.two
  go_wp2_with fail
  refine (netTurned_calls (P := P) (H.out.keep B0.out) hn).mono ?_
  rintro e w1 ⟨A1, n1, k1, rfl, t1, hb⟩
  have T1 := hide2 t1
  have B1 := hide2 (B0.out.trans (hb.mono B0.out.size))
  clear hb t1
  go_wp2_with (refine (most_calls (P := P) T1.out (G.out.keep B1.out)).mono ?_; rintro e w2 ⟨A2, n2, k2, xs, rfl, i2, mp, hb⟩; have I2 := hide2 i2; have M2 := hide2 mp; have B2 := hide2 (B1.out.trans (hb.mono B1.out.size)); clear hb i2 mp)
  go_ret
  exact ⟨A2, n2, k2, xs, rfl, I2.out, M2.out, B2.out⟩
end Go.Proofs.Ytldljjmibaaokaa
