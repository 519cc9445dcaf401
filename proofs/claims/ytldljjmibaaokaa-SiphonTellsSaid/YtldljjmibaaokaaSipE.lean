/- The contracts of the reference's fany, fplaces and FSiphon. Conditions: the net and the places read as lists. -/
import Derived.Test.YtldljjmibaaokaaSipC
import Derived.Test.YtldljjmibaaokaaNetC
namespace Go.Proofs.Ytldljjmibaaokaa
open Go.RowKit

def fanyP (w : List Int) (p : Int) : Bool := decide (0 ≤ p) && decide (p < w.length) && decide (w.getD p.toNat 0 ≠ 0)
theorem fanyW_eq (w l : List Int) : fanyW w l = l.any (fanyP w) := rfl
theorem any_take_false {α : Type} {p : α → Bool} {l : List α} {k : Nat} {x : α} (h : (l.take k).any p = false) (hx : l[k]? = some x) (hp : p x = false) : (l.take (k + 1)).any p = false := by
  rw [take_snoc hx, List.any_append, h]
  simp [hp]
theorem any_get_true {α : Type} {p : α → Bool} {l : List α} {k : Nat} {x : α} (hx : l[k]? = some x) (hp : p x = true) : l.any p = true :=
  List.any_eq_true.2 ⟨x, List.mem_of_getElem? hx, hp⟩

set_option maxRecDepth 100000 in
set_option maxHeartbeats 1000000 in
theorem fany_calls {w : World} {A B : Option Addr} {n c m d : Nat} {xs l : List Int} (h : Ints w A n c xs) (g : Ints w B m d l) :
    Calls Try.prog 67 #[.slice A n c, .slice B m d] w fun e w' => e = .returned (.bool (fanyW xs l)) ∧ w = w' := by
  have hm := g.small
  have hns := h.small
  have HL := hide2 h.len
  have GL := hide2 g.len
  have H := hide2 h
  have G := hide2 g
  clear h g
  go_enter Try.func67, Try.ntmps67
  go_wp2
  go_loop [9] (fun i => ∃ k : Nat, k ≤ m ∧ i = .int .i64 k ∧ Hid ((l.take k).any (fanyP xs) = false)) (fun i => m - (intOf i).toNat)
  case atStart => exact ⟨0, Nat.zero_le _, rfl, rfl⟩
  case round =>
    obtain ⟨k, hk, rfl, hlow⟩ := hrel
    by_cases hlt : k < m
    · have hki : (k : Int) < (m : Int) := by omega
      obtain ⟨b, off, x, rfl, hb, hx, hc⟩ := G.out.get hlt
      by_cases h0 : 0 ≤ x
      · by_cases h1 : x < (n : Int)
        · obtain ⟨q, rfl⟩ : ∃ q : Nat, x = (q : Int) := ⟨x.toNat, by omega⟩
          obtain ⟨b', off', y, rfl, hb', hy, hc'⟩ := H.out.get (k := q) (by omega)
          have FP := hide2 (show fanyP xs (q : Int) = decide (y ≠ 0) by
            unfold fanyP
            rw [HL.out, Int.toNat_natCast, List.getD_eq_getElem?_getD, hy.out]
            simp [h1])
          by_cases hy0 : y = 0
          · subst hy0
            have NX := hide2 (any_take_false hlow.out hx.out (by rw [FP.out]; simp))
            clear hlow
            go_wp2
            go_round
            case rel => exact ⟨k + 1, by omega, by go_num, NX⟩
            case measure => simp [intOf]; omega
          · have FT := hide2 (any_get_true hx.out (show fanyP xs (q : Int) = true by rw [FP.out]; simp [hy0]))
            have hyb : (y == 0) = false := by simpa using hy0
            clear hlow
            go_wp2
            go_ret
            exact ⟨ret_bool (by rw [fanyW_eq, FT.out]), rfl⟩
        · have NX := hide2 (any_take_false hlow.out hx.out (show fanyP xs x = false by unfold fanyP; rw [HL.out]; simp [h1]))
          clear hlow
          go_wp2
          go_round
          case rel => exact ⟨k + 1, by omega, by go_num, NX⟩
          case measure => simp [intOf]; omega
      · have NX := hide2 (any_take_false hlow.out hx.out (show fanyP xs x = false by unfold fanyP; simp [h0]))
        clear hlow
        go_wp2
        go_round
        case rel => exact ⟨k + 1, by omega, by go_num, NX⟩
        case measure => simp [intOf]; omega
    · obtain rfl : k = m := by omega
      have FN := hide2 (show fanyW xs l = false by
        have := hlow.out
        rwa [List.take_of_length_le (by rw [GL.out]; exact Nat.le_refl _)] at this)
      clear hlow
      go_wp2
      go_ret
      exact ⟨ret_bool FN.out.symm, rfl⟩

set_option maxRecDepth 100000 in
set_option maxHeartbeats 1000000 in
theorem fplaces_calls {w : World} {P : Int} {A B : Option Addr} {n c m d : Nat} {ts : List PTran} {l : List Int} (h : Trans w A n c ts) (g : Ints w B m d l) :
    Calls Try.prog 66 #[.agg #[.int .i64 P, .slice A n c], .slice B m d] w fun e w' => e = .returned (.bool (wholeB ⟨P, ts⟩ l)) ∧ Below w.heap.size w w' := by
  have X0 := hide2 (Box.new w #[.int .i64 P, .slice A n c] 24)
  have B0 := hide2 (boxBelow w (.cells #[.int .i64 P, .slice A n c] 24))
  have hm := g.small
  have GL := hide2 g.len
  have H := hide2 h
  have G := hide2 g
  clear h g
  obtain ⟨r, hr⟩ : ∃ r, netOk ⟨P, ts⟩ = r := ⟨_, rfl⟩
  have WE := hide2 (show wrongNet ⟨P, ts⟩ = if r = true then 0 else 2 by rw [wrongNet, hr])
  have WB := hide2 (show ∀ k, wholeB ⟨P, ts⟩ (l.take k) = (r && !(l.take k).any (outP P)) from fun k => by rw [wholeB, hr])
  have WA := hide2 (show wholeB ⟨P, ts⟩ l = (r && !l.any (outP P)) by rw [wholeB, hr])
  clear hr
  go_enter Try.func66, Try.ntmps66
  go_upto_region 1 with fail
  generalize w.alloc (.cells #[.int .i64 P, .slice A n c] 24) = w0 at *
  obtain ⟨c0, c1⟩ := X0.out.two
  go_wp2_with fail
  refine (refWrong_calls _ P A n c ts (H.out.keep B0.out)).mono ?_
  rintro e w1 ⟨rfl, hb⟩
  have X1 := hide2 (X0.out.keep hb)
  have B1 := hide2 (B0.out.trans (hb.mono B0.out.size))
  clear hb c0 c1
  obtain ⟨c0, c1⟩ := X1.out.two
  obtain ⟨v0, hv0, HV0⟩ : ∃ v0 : Bool, (wrongNet ⟨P, ts⟩ == 0) = v0 ∧ Hid (v0 = r) := ⟨_, rfl, by rw [WE.out]; cases r <;> rfl⟩
  go_wp2
  clear hv0
  go_loop [5, 13] (fun v i => ∃ k : Nat, k ≤ m ∧ i = .int .i64 k ∧ ∃ b : Bool, v = .bool b ∧ Hid (b = wholeB ⟨P, ts⟩ (l.take k))) (fun _ i => m - (intOf i).toNat)
  case atStart => exact ⟨0, Nat.zero_le _, rfl, v0, rfl, hide2 (by rw [WB.out, HV0.out]; simp)⟩
  case round =>
    obtain ⟨k, hk, rfl, v, rfl, hv⟩ := hrel
    by_cases hlt : k < m
    · have hki : (k : Int) < (m : Int) := by omega
      obtain ⟨b, off, x, rfl, hb, hx, hc⟩ := (G.out.keep B1.out).get hlt
      have fin : ∀ b : Bool, b = (v && !outP P x) → b = wholeB ⟨P, ts⟩ (l.take (k + 1)) := by
        intro b hb
        rw [hb, hv.out, WB.out, WB.out, take_snoc hx.out, List.any_append]
        cases r <;> simp
      have FIN := hide2 fin
      clear fin hv
      cases v
      · go_wp2
        go_round
        case rel => exact ⟨k + 1, by omega, by go_num, false, by first | rfl | simp, FIN.out false (by simp)⟩
        case measure => simp [intOf]; omega
      · by_cases h0 : 0 ≤ x
        · by_cases h1 : x < P
          · go_wp2
            go_round
            case rel => exact ⟨k + 1, by omega, by go_num, true, by first | rfl | simp, FIN.out true (by simp [outP]; omega)⟩
            case measure => simp [intOf]; omega
          · go_wp2
            go_round
            case rel => exact ⟨k + 1, by omega, by go_num, false, by first | rfl | simp, FIN.out false (by simp [outP]; omega)⟩
            case measure => simp [intOf]; omega
        · go_wp2
          go_round
          case rel => exact ⟨k + 1, by omega, by go_num, false, by first | rfl | simp, FIN.out false (by simp [outP]; omega)⟩
          case measure => simp [intOf]; omega
    · obtain rfl : k = m := by omega
      have FN := hide2 (show v = wholeB ⟨P, ts⟩ l by
        have := hv.out
        rwa [List.take_of_length_le (by rw [GL.out]; exact Nat.le_refl _)] at this)
      clear hv
      go_wp2
      go_ret
      exact ⟨ret_bool FN.out, B1.out⟩

def badF (l : List Int) (t : PTran) : Bool := fanyW t.post l && !fanyW t.pre l
theorem sipB_ref (N : PNet) (l : List Int) : (wholeB N l && !N.trans.any (badF l)) = sipB N l := by
  unfold sipB
  cases h : wholeB N l
  · rfl
  · have : N.trans.any (badF l) = N.trans.any (badT (bitL l)) := by
      rw [Bool.eq_iff_iff, List.any_eq_true, List.any_eq_true]
      constructor
      · rintro ⟨t, ht, hb⟩
        exact ⟨t, ht, by rw [badT_fany (tok_of (whole_in h).1 t ht)]; exact hb⟩
      · rintro ⟨t, ht, hb⟩
        exact ⟨t, ht, by rw [badT_fany (tok_of (whole_in h).1 t ht)] at hb; exact hb⟩
    rw [this]

set_option maxRecDepth 100000 in
set_option maxHeartbeats 2000000 in
theorem fsiphon_calls {w : World} {P : Int} {A B : Option Addr} {n c m d : Nat} {ts : List PTran} {l : List Int} (h : Trans w A n c ts) (g : Ints w B m d l) :
    Calls Try.prog 19 #[.agg #[.int .i64 P, .slice A n c], .slice B m d] w fun e w' => e = .returned (.bool (sipB ⟨P, ts⟩ l)) ∧ Below w.heap.size w w' := by
  have X0 := hide2 (Box.new w #[.int .i64 P, .slice A n c] 24)
  have B0 := hide2 (boxBelow w (.cells #[.int .i64 P, .slice A n c] 24))
  have hns := h.small
  have HL := hide2 h.len
  have H := hide2 h
  have G := hide2 g
  clear h g
  have SB := hide2 (sipB_ref ⟨P, ts⟩ l)
  go_enter Try.func19, Try.ntmps19
  go_upto_region 1 with fail
  generalize w.alloc (.cells #[.int .i64 P, .slice A n c] 24) = w0 at *
  obtain ⟨c0, c1⟩ := X0.out.two
  go_wp2_with fail
  refine (fplaces_calls (P := P) (H.out.keep B0.out) (G.out.keep B0.out)).mono ?_
  rintro e w1 ⟨rfl, hb⟩
  have X1 := hide2 (X0.out.keep hb)
  have B1 := hide2 (B0.out.trans (hb.mono B0.out.size))
  clear hb c0 c1
  obtain ⟨c0, c1⟩ := X1.out.two
  obtain ⟨v0, hv0⟩ : ∃ v0, wholeB ⟨P, ts⟩ l = v0 := ⟨_, rfl⟩
  rw [hv0]
  have HV0 := hide2 hv0
  clear hv0
  go_wp2
  clear c0 c1
  go_loopw [5, 14] (fun v i wr => ∃ k : Nat, k ≤ n ∧ i = .int .i64 k ∧ (∃ b : Bool, v = .bool b ∧ Hid (b = (v0 && !(ts.take k).any (badF l)))) ∧ Hid (Below w1.heap.size w1 wr)) (fun _ i _ => n - (intOf i).toNat)
  case atStart => exact ⟨0, Nat.zero_le _, rfl, ⟨v0, rfl, hide2 (by simp)⟩, Below.refl _ _⟩
  case round =>
    obtain ⟨k, hk, rfl, ⟨v, rfl, hv⟩, D⟩ := hrel
    have BR := hide2 (B1.out.trans (D.out.mono B1.out.size))
    by_cases hlt : k < n
    · have hki : (k : Int) < (n : Int) := by omega
      obtain ⟨b, off, t, A1, n1, d1, A2, n2, d2, rfl, hb, ht, q0, q1, q2, i1, i2, _, _⟩ := Trans.get (H.out.keep BR.out) hlt
      have bb := boxBelow wr (.cells #[.int .i64 t.label, .slice A1 n1 d1, .slice A2 n2 d2] 79)
      have XT := hide2 (Box.new wr #[.int .i64 t.label, .slice A1 n1 d1, .slice A2 n2 d2] 79)
      have J1 := hide2 (Ints.keep i1 bb)
      have J2 := hide2 (Ints.keep i2 bb)
      have D2 := hide2 (D.out.trans (bb.mono D.out.size))
      have G2 := hide2 (G.out.keep (BR.out.trans (bb.mono BR.out.size)))
      have fin : ∀ b : Bool, b = (v && !badF l t) → b = (v0 && !(ts.take (k + 1)).any (badF l)) := by
        intro b hb
        rw [hb, hv.out, take_snoc ht.out, List.any_append]
        cases v0 <;> simp
      have FIN := hide2 fin
      have BF := hide2 (show badF l t = (fanyW t.post l && !fanyW t.pre l) from rfl)
      obtain ⟨e1, he1⟩ : ∃ e, fanyW t.post l = e := ⟨_, rfl⟩
      obtain ⟨e2, he2⟩ : ∃ e, fanyW t.pre l = e := ⟨_, rfl⟩
      have E1 := hide2 he1
      have E2 := hide2 he2
      clear i1 i2 bb fin hv he1 he2
      go_upto_region 5 with fail
      clear q0 q1 q2
      generalize wr.alloc (.cells #[.int .i64 t.label, .slice A1 n1 d1, .slice A2 n2 d2] 79) = w3 at *
      obtain ⟨y0, y1, y2⟩ := XT.out.three
      cases v
      · go_wp2
        go_roundw
        case rel => exact ⟨k + 1, by omega, by go_num, ⟨false, by first | rfl | simp, FIN.out false (by simp)⟩, D2⟩
        case measure => simp [intOf]; omega
      · cases e1
        · go_wp2_with ((with_reducible refine (fany_calls J2.out G2.out).mono ?_); rintro e w4 ⟨rfl, rfl⟩; rw [E1.out])
          go_roundw
          case rel => exact ⟨k + 1, by omega, by go_num, ⟨true, by first | rfl | simp, FIN.out true (by rw [BF.out, E1.out]; rfl)⟩, D2⟩
          case measure => simp [intOf]; omega
        · go_wp2_with (first | ((with_reducible refine (fany_calls J2.out G2.out).mono ?_); rintro e w4 ⟨rfl, rfl⟩; rw [E1.out]) | ((with_reducible refine (fany_calls J1.out G2.out).mono ?_); rintro e w4 ⟨rfl, rfl⟩; rw [E2.out]))
          go_roundw
          case rel => exact ⟨k + 1, by omega, by go_num, ⟨e2, by first | rfl | simp, FIN.out e2 (by rw [BF.out, E1.out, E2.out]; simp)⟩, D2⟩
          case measure => simp [intOf]; omega
    · obtain rfl : k = n := by omega
      have FN := hide2 (show v = sipB ⟨P, ts⟩ l by
        have := hv.out
        rw [List.take_of_length_le (by rw [HL.out]; exact Nat.le_refl _)] at this
        rw [this, ← SB.out, HV0.out])
      clear hv
      go_wp2
      go_ret
      exact ⟨ret_bool FN.out, BR.out⟩
end Go.Proofs.Ytldljjmibaaokaa
