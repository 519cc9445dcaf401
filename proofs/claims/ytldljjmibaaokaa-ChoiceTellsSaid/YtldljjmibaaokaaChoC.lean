/- The contracts of choice.shares, Free, and of the reference's nshare, NFree. Conditions: the net reads as a list. -/
import Derived.Test.YtldljjmibaaokaaChoB
import Derived.Test.YtldljjmibaaokaaNetC
import Derived.Test.YtldljjmibaaokaaMarkE
import Derived.Test.YtldljjmibaaokaaNetD
import Derived.Test.YtldljjmibaaokaaBox
namespace Go.Proofs.Ytldljjmibaaokaa
open Go.RowKit

theorem pre_at {a : PTran} {p : Nat} {x : Int} (h : a.pre[p]? = some x) : a.pre.getD p 0 = x := by rw [List.getD_eq_getElem?_getD, h]; rfl

set_option maxRecDepth 100000 in
set_option maxHeartbeats 2000000 in
theorem shares_calls {w : World} {l1 l2 : Int} {A1 A2 B1 B2 : Option Addr} {n n2 c1 c2 m2 d1 d2 : Nat} {a b : PTran} (h : Ints w A1 n c1 a.pre) (g : Ints w B1 n d1 b.pre) :
    Calls Try.prog 76 #[.agg #[.int .i64 l1, .slice A1 n c1, .slice A2 n2 c2], .agg #[.int .i64 l2, .slice B1 n d1, .slice B2 m2 d2]] w fun e w' => e = .returned (.bool (shareT a b)) ∧ Below w.heap.size w w' := by
  generalize hw0 : (w.alloc (.cells #[.int .i64 l1, .slice A1 n c1, .slice A2 n2 c2] 79)).alloc (.cells #[.int .i64 l2, .slice B1 n d1, .slice B2 m2 d2] 79) = w0
  have B0 := hide2 (show Below w.heap.size w w0 by rw [← hw0]; exact ((Below.refl _ _).alloc (Nat.le_refl _) _).alloc (by simp) _)
  have X0 := hide2 (show Box w0 w.heap.size 79 #[.int .i64 l1, .slice A1 n c1, .slice A2 n2 c2] by rw [← hw0]; exact (Box.new _ _ _).old _)
  have X1 := hide2 (show Box w0 (w.heap.size + 1) 79 #[.int .i64 l2, .slice B1 n d1, .slice B2 m2 d2] by rw [← hw0]; exact Box.newAt (by simp) _ _)
  have H := hide2 (h.keep B0.out)
  have G := hide2 (g.keep B0.out)
  have hns := h.small
  have HL := hide2 h.len
  clear h g
  go_enter Try.func76, Try.ntmps76
  go_upto_region 1 with fail
  clear hw0
  obtain ⟨x0, x1, x2⟩ := X0.out.three
  obtain ⟨y0, y1, y2⟩ := X1.out.three
  go_wp2
  go_loop [9] (fun i => ∃ k : Nat, k ≤ n ∧ i = .int .i64 k ∧ Hid (∀ p, p < k → shP a b p = false)) (fun i => n - (intOf i).toNat)
  case atStart => exact ⟨0, Nat.zero_le _, rfl, fun j hj => absurd hj (by omega)⟩
  case round =>
    obtain ⟨k, hk, rfl, hlow⟩ := hrel
    by_cases hlt : k < n
    · have hki : (k : Int) < (n : Int) := by omega
      obtain ⟨b1, o1, x, rfl, hb1, hx, q1⟩ := H.out.get hlt
      obtain ⟨b2, o2, y, rfl, hb2, hy, q2⟩ := G.out.get hlt
      have SP := hide2 (show shP a b k = (decide (0 < x) && decide (0 < y)) by rw [shP, pre_at hx.out, pre_at hy.out])
      have NX := hide2 (show shP a b k = false → ∀ p, p < k + 1 → shP a b p = false from fun hf p hp => by
        by_cases e : p = k
        · rw [e]; exact hf
        · exact hlow.out p (by omega))
      clear hlow hx hy
      by_cases h1 : 0 < x
      · by_cases h2 : 0 < y
        · have FT := hide2 (shareT_true (a := a) (b := b) (p := k) (by rw [HL.out]; exact hlt) (by rw [SP.out]; simp [h1, h2]))
          go_wp2
          go_ret
          exact ⟨ret_bool FT.out.symm, B0.out⟩
        · have N1 := hide2 (NX.out (by rw [SP.out]; simp [h2]))
          go_wp2
          go_round
          case rel => exact ⟨k + 1, by omega, by go_num, N1⟩
          case measure => simp [intOf]; omega
      · have N1 := hide2 (NX.out (by rw [SP.out]; simp [h1]))
        go_wp2
        go_round
        case rel => exact ⟨k + 1, by omega, by go_num, N1⟩
        case measure => simp [intOf]; omega
    · obtain rfl : k = n := by omega
      have FF := hide2 (shareT_false (a := a) (b := b) (fun p hp => hlow.out p (by rw [← HL.out]; exact hp)))
      clear hlow
      go_wp2
      go_ret
      exact ⟨ret_bool FF.out.symm, B0.out⟩

theorem mul_small {x y : Int} (hx : 0 ≤ x ∧ x ≤ 9) (hy : 0 ≤ y ∧ y ≤ 9) : IntKind.i64.wrap (x * y) = x * y ∧ (0 < x * y ↔ 0 < x ∧ 0 < y) := by
  obtain ⟨a, rfl⟩ : ∃ a : Nat, x = (a : Int) := ⟨x.toNat, by omega⟩
  obtain ⟨b, rfl⟩ : ∃ b : Nat, y = (b : Int) := ⟨y.toNat, by omega⟩
  have hle : a * b ≤ 9 * 9 := Nat.mul_le_mul (by omega) (by omega)
  have hp : (0 < a * b) ↔ 0 < a ∧ 0 < b := ⟨fun h => ⟨Nat.pos_of_ne_zero (fun e => by rw [e, Nat.zero_mul] at h; omega), Nat.pos_of_ne_zero (fun e => by rw [e, Nat.mul_zero] at h; omega)⟩, fun ⟨h1, h2⟩ => Nat.mul_pos h1 h2⟩
  have e : ((a : Int) * (b : Int)) = ((a * b : Nat) : Int) := by simp
  rw [e]
  generalize a * b = c at *
  constructor
  · simp [IntKind.wrap, go_sem]; omega
  · constructor
    · intro h; have := hp.1 (by omega); omega
    · rintro ⟨h1, h2⟩; have := hp.2 ⟨by omega, by omega⟩; omega
set_option maxRecDepth 100000 in
set_option maxHeartbeats 4000000 in
theorem nshare_calls {w : World} {P : Nat} {A : Option Addr} {n c i j : Nat} {ts : List PTran} {a b : PTran} (h : Trans w A n c ts) (hok : netOk ⟨(P : Int), ts⟩ = true) (hi : ts[i]? = some a) (hj : ts[j]? = some b) :
    Calls Try.prog 78 #[.agg #[.int .i64 (P : Int), .slice A n c], .int .i64 (i : Int), .int .i64 (j : Int)] w fun e w' => e = .returned (.bool (shareT a b)) ∧ Below w.heap.size w w' := by
  have X0 := hide2 (Box.new w #[.int .i64 (P : Int), .slice A n c] 24)
  have B0 := hide2 (boxBelow w (.cells #[.int .i64 (P : Int), .slice A n c] 24))
  have hin : i < n := by rw [← h.len]; exact (List.getElem?_eq_some_iff.1 hi).1
  have hjn : j < n := by rw [← h.len]; exact (List.getElem?_eq_some_iff.1 hj).1
  have hP16 : P ≤ 16 := by have := ((netOk_iff _).1 hok).2.1; simp only [] at this; omega
  obtain ⟨_, _, ea, _, va, _⟩ := netOk_tran hok hi
  obtain ⟨_, _, eb, _, vb, _⟩ := netOk_tran hok hj
  have HA := hide2 (show a.pre.length = P by simp only [] at ea; omega)
  have HB := hide2 (show b.pre.length = P by simp only [] at eb; omega)
  have VA := hide2 va
  have VB := hide2 vb
  have HI := hide2 hi
  have HJ := hide2 hj
  have H := hide2 (h.keep B0.out)
  clear h hi hj ea eb va vb hok
  have hii : (i : Int) < (n : Int) := by omega
  have hjj : (j : Int) < (n : Int) := by omega
  go_enter Try.func78, Try.ntmps78
  go_upto_region 1 with fail
  generalize w.alloc (.cells #[.int .i64 (P : Int), .slice A n c] 24) = w0 at *
  obtain ⟨c0, c1⟩ := X0.out.two
  go_wp2
  clear c0 c1
  go_loopw [10] (fun i wr => ∃ k : Nat, k ≤ P ∧ i = .int .i64 k ∧ Hid (∀ p, p < k → shP a b p = false) ∧ Drew w0 wr) (fun i _ => P - (intOf i).toNat)
  case atStart => exact ⟨0, Nat.zero_le _, rfl, fun j hj => absurd hj (by omega), Drew.refl _⟩
  case round =>
    obtain ⟨k, hk, rfl, hlow, hdr⟩ := hrel
    by_cases hlt : k < P
    · have hki : (k : Int) < (P : Int) := by omega
      obtain ⟨bl, off, t1, A1, n1, k1, A2, n2, k2, rfl, hbl, ht1, q0, q1, q2, i1, i2, _, _⟩ := Trans.get (H.out.keep hdr.below) hin
      obtain ⟨bl', off', t2, A3, n3, k3, A4, n4, k4, e2, hbl', ht2, r0, r1, r2, i3, i4, _, _⟩ := Trans.get (H.out.keep hdr.below) hjn
      injection e2 with e2
      injection e2 with e2 e3
      subst e2 e3
      obtain rfl : t1 = a := by have := ht1.out; rw [HI.out] at this; injection this with this; exact this.symm
      obtain rfl : t2 = b := by have := ht2.out; rw [HJ.out] at this; injection this with this; exact this.symm
      obtain rfl : n1 = P := by rw [← i1.len]; exact HA.out
      obtain rfl : n3 = n1 := by rw [← i3.len]; exact HB.out
      obtain ⟨b1, o1, x, rfl, hb1, hx, s1⟩ := i1.get hlt
      obtain ⟨b2, o2, y, rfl, hb2, hy, s2⟩ := i3.get hlt
      obtain ⟨c0, c1⟩ := (X0.out.keep hdr.below).two
      obtain ⟨M1, M2⟩ := mul_small (badW_false (any_false_get VA.out hx.out)) (badW_false (any_false_get VB.out hy.out))
      have SP := hide2 (show shP t1 t2 k = (decide (0 < x) && decide (0 < y)) by rw [shP, pre_at hx.out, pre_at hy.out])
      have NX := hide2 (show shP t1 t2 k = false → ∀ p, p < k + 1 → shP t1 t2 p = false from fun hf p hp => by
        by_cases e : p = k
        · rw [e]; exact hf
        · exact hlow.out p (by omega))
      have KL := hide2 (show k < t1.pre.length by rw [HA.out]; exact hlt)
      clear hlow hx hy i1 i2 i3 i4 ht1 ht2
      obtain ⟨z, hz⟩ : ∃ z, x * y = z := ⟨_, rfl⟩
      rw [hz] at M1 M2
      have ZM := hide2 M2
      clear M2
      have M3 : IntKind.i64.wrap (x * y) = z := by rw [hz]; exact M1
      clear hz M1
      by_cases h1 : 0 < z
      · have FT := hide2 (shareT_true (a := t1) (b := t2) (p := k) KL.out (by have := ZM.out.1 h1; rw [SP.out]; simp [this]))
        go_upto_region 4 with fail
        go_quiet (fail)
        go_wp2
        go_ret
        exact ⟨ret_bool FT.out.symm, B0.out.trans ((hdr.more _).below.mono B0.out.size)⟩
      · have N1 := hide2 (NX.out (by
          rw [SP.out]
          cases h : (decide (0 < x) && decide (0 < y))
          · rfl
          · simp only [Bool.and_eq_true, decide_eq_true_eq] at h
            exact absurd (ZM.out.2 h) h1))
        go_upto_region 4 with fail
        go_quiet (fail)
        go_wp2
        go_roundw
        case rel => exact ⟨k + 1, by omega, by go_num, N1, hdr.more _⟩
        case measure => simp [intOf]; omega
    · obtain rfl : k = P := by omega
      have FF := hide2 (shareT_false (a := a) (b := b) (fun p hp => hlow.out p (by rw [← HA.out]; exact hp)))
      clear hlow
      go_wp2
      go_ret
      exact ⟨ret_bool FF.out.symm, B0.out.trans (hdr.below.mono B0.out.size)⟩

set_option maxRecDepth 100000 in
set_option maxHeartbeats 4000000 in
theorem free_calls {w : World} {P : Int} {A : Option Addr} {n c : Nat} {ts : List PTran} (h : Trans w A n c ts) :
    Calls Try.prog 25 #[.agg #[.int .i64 P, .slice A n c]] w fun e w' => e = .returned (.bool (freeB ⟨P, ts⟩)) ∧ Below w.heap.size w w' := by
  have X0 := hide2 (Box.new w #[.int .i64 P, .slice A n c] 24)
  have B0 := hide2 (boxBelow w (.cells #[.int .i64 P, .slice A n c] 24))
  have hns := h.small
  have hcap := h.le
  have HL := hide2 h.len
  have H := hide2 h
  clear h
  obtain ⟨r, hr⟩ : ∃ r, netOk ⟨P, ts⟩ = r := ⟨_, rfl⟩
  have HR := hide2 hr
  cases r
  · have W0 := hide2 (wrongNet_not hr)
    have FN := hide2 (freeB_bad hr)
    clear hr
    go_enter Try.func25, Try.ntmps25
    go_upto_region 1 with fail
    generalize w.alloc (.cells #[.int .i64 P, .slice A n c] 24) = w0 at *
    obtain ⟨c0, c1⟩ := X0.out.two
    go_wp2_with fail
    refine (netWrong_calls _ P A n c ts (H.out.keep B0.out)).mono ?_
    rw [W0.out]
    rintro e w1 ⟨rfl, hb⟩
    have B1 := hide2 (B0.out.trans (hb.mono B0.out.size))
    clear hb
    go_wp2
    go_ret
    exact ⟨ret_bool FN.out.symm, B1.out⟩
  · have W0 := hide2 (wrongNet_ok hr)
    clear hr
    go_enter Try.func25, Try.ntmps25
    go_upto_region 1 with fail
    generalize w.alloc (.cells #[.int .i64 P, .slice A n c] 24) = w0 at *
    obtain ⟨c0, c1⟩ := X0.out.two
    go_wp2_with fail
    refine (netWrong_calls _ P A n c ts (H.out.keep B0.out)).mono ?_
    rw [W0.out]
    rintro e w1 ⟨rfl, hb⟩
    have X1 := hide2 (X0.out.keep hb)
    have B1 := hide2 (B0.out.trans (hb.mono B0.out.size))
    clear hb c0 c1
    obtain ⟨c0, c1⟩ := X1.out.two
    go_wp2
    clear c0 c1
    go_loopw [13] (fun v wr => ∃ k : Nat, k ≤ n ∧ v = .int .i64 k ∧ Hid (∀ (i j : Nat) (a b : PTran), i < k → j < i → ts[i]? = some a → ts[j]? = some b → offT a b = false) ∧ Hid (Below w1.heap.size w1 wr)) (fun v _ => n - (intOf v).toNat)
    case atStart => exact ⟨0, Nat.zero_le _, rfl, fun i j a b hi => absurd hi (by omega), Below.refl _ _⟩
    case round =>
      obtain ⟨k, hk, rfl, hlow, D⟩ := hrel
      have BR := hide2 (B1.out.trans (D.out.mono B1.out.size))
      by_cases hlt : k < n
      · have hki : (k : Int) < (n : Int) := by omega
        obtain ⟨b, off, t, A1, n1, d1, A2, n2, d2, rfl, hb, ht, q0, q1, q2, i1, i2, _, _⟩ := Trans.get (H.out.keep BR.out) hlt
        have bb := boxBelow wr (.cells #[.int .i64 t.label, .slice A1 n1 d1, .slice A2 n2 d2] 79)
        have XT := hide2 (Box.new wr #[.int .i64 t.label, .slice A1 n1 d1, .slice A2 n2 d2] 79)
        have J1 := hide2 (Ints.keep i1 bb)
        have D2 := hide2 (D.out.trans (bb.mono D.out.size))
        have BR2 := hide2 (BR.out.trans (bb.mono BR.out.size))
        have X2 := hide2 (X1.out.keep D2.out)
        have PL := hide2 (netOk_tran HR.out ht.out).2.2.1
        clear i1 i2 bb
        go_upto_region 6 with fail
        clear q0 q1 q2
        generalize wr.alloc (.cells #[.int .i64 t.label, .slice A1 n1 d1, .slice A2 n2 d2] 79) = w3 at *
        obtain ⟨c0, c1⟩ := X2.out.two
        have hkc : (k : Int) ≤ (c : Int) := by omega
        go_wp2
        clear c0 c1
        have XW := hide2 (XT.out.three)
        generalize wr.heap.size = bt at *
        go_loopw [23] (fun v wq => ∃ q : Nat, q ≤ k ∧ v = .int .i64 q ∧ Hid (∀ (j : Nat) (b : PTran), j < q → ts[j]? = some b → offT t b = false) ∧ Hid (Below w3.heap.size w3 wq)) (fun v _ => k - (intOf v).toNat)
        case atStart => exact ⟨0, Nat.zero_le _, rfl, fun j b hj => absurd hj (by omega), Below.refl _ _⟩
        case round =>
          obtain ⟨q, hq, rfl, hlo2, E⟩ := hrel
          have BQ := hide2 (BR2.out.trans (E.out.mono BR2.out.size))
          by_cases hqk : q < k
          · have hqi : (q : Int) < (k : Int) := by omega
            obtain ⟨b', off', u, A3, n3, d3, A4, n4, d4, e2, hb', hu, r0, r1, r2, i3, i4, _, _⟩ := Trans.get (H.out.keep BQ.out) (show q < n by omega)
            injection e2 with e2
            injection e2 with e2 e3
            subst e2 e3
            have HU := hide2 hu.out
            have QL := hide2 (netOk_tran HR.out hu.out).2.2.1
            obtain rfl : n3 = n1 := by
              have h1 : (t.pre.length : Int) = P := PL.out
              have h2 : (u.pre.length : Int) = P := QL.out
              have h3 := J1.out.len
              have h4 := i3.len
              omega
            have bb := boxBelow wr (.cells #[.int .i64 u.label, .slice A3 n3 d3, .slice A4 n4 d4] 79)
            have XU := hide2 (Box.new wr #[.int .i64 u.label, .slice A3 n3 d3, .slice A4 n4 d4] 79)
            have XT2 := hide2 ((XT.out.keep E.out).keep bb)
            have K3 := hide2 (Ints.keep i3 bb)
            have E2 := hide2 (E.out.trans (bb.mono E.out.size))
            have K1 := hide2 (Ints.keep J1.out E2.out)
            clear i3 i4 bb hu
            go_upto_region 9 with fail
            clear r0 r1 r2
            generalize wr.alloc (.cells #[.int .i64 u.label, .slice A3 n3 d3, .slice A4 n4 d4] 79) = w4 at *
            obtain ⟨t0, t1, t2⟩ := XT2.out.three
            obtain ⟨u0, u1, u2⟩ := XU.out.three
            have OF := hide2 (show offT t u = (shareT t u && !(t.pre == u.pre)) from rfl)
            obtain ⟨s, hs⟩ : ∃ s, shareT t u = s := ⟨_, rfl⟩
            have HS := hide2 hs
            clear hs
            go_wp2_with fail
            refine (shares_calls (a := t) (b := u) K1.out K3.out).mono ?_
            rw [HS.out]
            rintro e w5 ⟨rfl, hb5⟩
            have XT3 := hide2 (XT2.out.keep hb5)
            have XU3 := hide2 (XU.out.keep hb5)
            have E3 := hide2 (E2.out.trans (hb5.mono E2.out.size))
            have L1 := hide2 (Ints.keep K1.out hb5)
            have L3 := hide2 (Ints.keep K3.out hb5)
            clear hb5 t0 t1 t2 u0 u1 u2
            have NX := hide2 (show offT t u = false → ∀ (j : Nat) (b : PTran), j < q + 1 → ts[j]? = some b → offT t b = false from fun hf j b hj hjb => by
              by_cases e : j = q
              · subst e
                rw [HU.out] at hjb
                injection hjb with hjb
                rw [← hjb]; exact hf
              · exact hlo2.out j b (by omega) hjb)
            clear hlo2
            cases s
            · have N1 := hide2 (NX.out (by rw [OF.out, HS.out]; rfl))
              go_wp2
              go_roundw
              case rel => exact ⟨q + 1, by omega, by go_num, N1, E3⟩
              case measure => simp [intOf]; omega
            · obtain ⟨t0, t1, t2⟩ := XT3.out.three
              obtain ⟨u0, u1, u2⟩ := XU3.out.three
              obtain ⟨v, hv⟩ : ∃ v, (t.pre == u.pre) = v := ⟨_, rfl⟩
              have HV := hide2 hv
              clear hv
              go_wp2_with fail
              refine (equalInts_calls L1.out L3.out).mono ?_
              rw [HV.out]
              rintro e w6 ⟨rfl, hd⟩
              have E4 := hide2 (E3.out.trans (hd.below.mono E3.out.size))
              clear hd
              cases v
              · have FF := hide2 (freeB_false (N := ⟨P, ts⟩) ht.out HU.out (by rw [OF.out, HS.out, HV.out]; rfl))
                go_wp2
                go_ret
                exact ⟨ret_bool FF.out.symm, BR2.out.trans (E4.out.mono BR2.out.size)⟩
              · have N1 := hide2 (NX.out (by rw [OF.out, HS.out, HV.out]; rfl))
                go_wp2
                go_roundw
                case rel => exact ⟨q + 1, by omega, by go_num, N1, E4⟩
                case measure => simp [intOf]; omega
          · obtain rfl : q = k := by omega
            go_wp2
            go_roundw
            case rel =>
              refine ⟨q + 1, by omega, by go_num, fun i j a b hi hj ha hb => ?_, D2.out.trans (E.out.mono D2.out.size)⟩
              by_cases e : i = q
              · subst e
                have := ht.out
                rw [ha] at this
                injection this with this
                rw [this]
                exact hlo2.out j b hj hb
              · exact hlow.out i j a b (by omega) hj ha hb
            case measure => simp [intOf]; omega
      · obtain rfl : k = n := by omega
        have FT := hide2 (freeB_half (N := ⟨P, ts⟩) HR.out (fun i j a b hji ha hb => hlow.out i j a b (by rw [← HL.out]; exact (List.getElem?_eq_some_iff.1 ha).1) hji ha hb))
        clear hlow
        go_wp2
        go_ret
        exact ⟨ret_bool FT.out.symm, BR.out⟩
end Go.Proofs.Ytldljjmibaaokaa
