/- The contract of RWrite. Conditions: none. -/
import Derived.Test.YtpagenlealddhaaJourB
namespace Go.Proofs.Ytpagenlealddhaa
open Go.RowKit

def fourL (o : POp) : List Int := [o.kind, o.user, o.tran, o.to_]
theorem opOk_four (o : POp) : opOk o = true ↔ (∀ x ∈ fourL o, 0 ≤ x ∧ x ≤ 255) ∧ 0 ≤ o.item ∧ o.item ≤ 65535 := by
  rw [opOk_iff]
  simp [fourL]
  omega
theorem fourBad {o : POp} {k : Nat} {x : Int} (hx : (fourL o)[k]? = some x) (h : x < 0 ∨ 255 < x) : writeL o = ([], 2) := by
  unfold writeL
  rw [if_neg]
  intro hok
  have := ((opOk_four o).1 hok).1 x (List.mem_of_getElem? hx)
  omega
theorem sixB_four (o : POp) : sixB o = (fourL o).map Int.toNat ++ [o.item.toNat / 256, o.item.toNat % 256] := by simp [sixB, fourL]
theorem Ints.box {w : World} {g n : Nat} {us : Array Value} {xs : List Int} (h : Box w g 3 us) (hu : us.toList = xs.map (Value.int .i64)) (hl : xs.length = n) (hn : n ≤ 1000) : Ints w (some ⟨g, 0, none⟩) n n xs :=
  ⟨hl, Nat.le_refl _, by simp only [maxLen]; omega, by omega, fun e => (by cases e), fun _ => ⟨g, 0, rfl, h.lt, fun i x hx => ⟨fun _ => .int .i64 x, fun j hj => by
    obtain rfl : j = 0 := by omega
    rw [h.cell, ← Array.getElem?_toList, hu, List.getElem?_map]
    simp [hx], rfl⟩⟩⟩
theorem OwnSl.notBox {α : Type} {R : World → (Nat → Value) → α → Prop} {sz : Nat} {w : World} {B e : Nat} {v : Value} {n : Nat} {xs : List α} {b ty : Nat} {cs : Array Value} (own : OwnSl R sz w B e v n xs) (x : Box w b ty cs) (hne : e ≠ ty) : v.ownBlock ≠ some b := by
  intro hv
  obtain ⟨cells, o1, _⟩ := own
  rcases o1.2 with ⟨rfl, _⟩ | ⟨g, cap, cur, rfl, _, hh, _⟩
  · cases hv
  · simp only [Value.ownBlock, Option.some.injEq] at hv
    subst hv
    have h2 : w.heap[g]? = some (.cells cs ty (0, 0)) := x
    rw [hh] at h2
    injection h2 with h2
    injection h2 with _ ht
    exact hne ht

set_option maxRecDepth 100000 in
set_option maxHeartbeats 2000000 in
theorem refWrite_calls {w : World} (o : POp) : Calls Try.prog 12 #[.agg #[.int .i64 o.kind, .int .i64 o.user, .int .i64 o.tran, .int .i64 o.item, .int .i64 o.to_]] w (AnsBE (writeL o) w) := by
  have HB := hide2 (newBelow w (.cells #[.int .i64 o.kind, .int .i64 o.user, .int .i64 o.tran, .int .i64 o.item, .int .i64 o.to_] 23))
  have X0 := hide2 (Box.new w #[.int .i64 o.kind, .int .i64 o.user, .int .i64 o.tran, .int .i64 o.item, .int .i64 o.to_] 23)
  obtain ⟨L, hL⟩ : ∃ L, fourL o = L := ⟨_, rfl⟩
  have HL := hide2 hL
  have hlen : L.length = 4 := by rw [← hL]; rfl
  have HLEN := hide2 hlen
  have HROW := hide2 (show [Value.int .i64 o.kind, .int .i64 o.user, .int .i64 o.tran, .int .i64 o.to_] = L.map (Value.int .i64) by rw [← hL]; rfl)
  clear hL hlen
  go_enter Try.func12, Try.ntmps12
  go_upto_region 1 with fail
  generalize w.alloc (.cells #[.int .i64 o.kind, .int .i64 o.user, .int .i64 o.tran, .int .i64 o.item, .int .i64 o.to_] 23) = w0 at *
  have O0 := hide2 (OwnSl.empty (R := ByteR) (sz := 1) (w := w0) (B := w.heap.size) (e := 5) HB.out.size)
  have B1 := hide2 (HB.out.trans ((newBelow w0 (.cells #[] 5)).mono HB.out.size))
  have X1 := hide2 (X0.out.old (.cells #[] 5))
  go_upto_region 2 with fail
  clear X0
  generalize w0.alloc (.cells #[] 5) = w1 at *
  generalize w0.heap.size = g0 at *
  obtain ⟨c0, c1, c2, c3, c4⟩ := X1.out.five
  have R2 := hide2 (Box.new w1 #[.int .i64 o.kind, .int .i64 o.user, .int .i64 o.tran, .int .i64 o.to_] 3)
  have B2 := hide2 (newBelow w1 (.cells #[.int .i64 o.kind, .int .i64 o.user, .int .i64 o.tran, .int .i64 o.to_] 3))
  have O2 := hide2 (OwnSl.keep ByteR.kept O0.out B2.out)
  have X2 := hide2 (X1.out.old (.cells #[.int .i64 o.kind, .int .i64 o.user, .int .i64 o.tran, .int .i64 o.to_] 3))
  go_wp2
  clear c0 c1 c2 c3 c4 O0
  have BX := hide2 (B1.out.trans (B2.out.mono B1.out.size))
  generalize w1.alloc (.cells #[.int .i64 o.kind, .int .i64 o.user, .int .i64 o.tran, .int .i64 o.to_] 3) = w2 at *
  generalize w1.heap.size = g1 at *
  go_loopw [4, 20] (fun u v wr => ∃ k : Nat, k ≤ 4 ∧ v = .int .i64 k ∧ Hid (OwnBytes wr w.heap.size u k ((L.take k).map Int.toNat)) ∧ Hid (∀ x ∈ L.take k, 0 ≤ x ∧ x ≤ 255) ∧ Hid (Below w.heap.size w wr) ∧ Hid (Box wr g1 3 #[.int .i64 o.kind, .int .i64 o.user, .int .i64 o.tran, .int .i64 o.to_]) ∧ Hid (Box wr w.heap.size 23 #[.int .i64 o.kind, .int .i64 o.user, .int .i64 o.tran, .int .i64 o.item, .int .i64 o.to_])) (fun _ v _ => 4 - (intOf v).toNat)
  case atStart => exact ⟨0, Nat.zero_le _, rfl, O2.out, fun x hx => by simp at hx, BX.out, R2.out, X2.out⟩
  case round =>
    obtain ⟨k, hk, rfl, OW, AL, BR, RR, XR⟩ := hrel
    by_cases hlt : k < 4
    · have hki : (k : Int) < 4 := by omega
      obtain ⟨bq, off, x, eq1, hbq, hx, hc⟩ := (Ints.box RR.out HROW.out HLEN.out (by omega)).get hlt
      injection eq1 with eq1
      injection eq1 with eq1 eq2
      subst eq1 eq2
      rw [Nat.zero_add] at hc
      have hk4 : k ≤ 4 := hk
      by_cases hb : x < 0 ∨ 255 < x
      · have FN := hide2 (show writeL o = ([], 2) from fourBad (by rw [HL.out]; exact hx.out) hb)
        rw [FN.out]
        by_cases h1 : x < 0
        · go_wp2
          go_ret2
          exact AnsBE.no BR.out
        · have h2 : 256 ≤ x := by omega
          clear hb
          go_wp2
          go_ret2
          exact AnsBE.no BR.out
      · obtain ⟨y, rfl⟩ : ∃ y : Nat, x = (y : Int) := ⟨x.toNat, by omega⟩
        have hy : y < 256 := by omega
        have TK := hide2 (take_snoc hx.out)
        have AL2 := hide2 (show ∀ z ∈ L.take (k + 1), 0 ≤ z ∧ z ≤ 255 from fun z hz => by
          rw [TK.out] at hz
          rcases List.mem_append.1 hz with h | h
          · exact AL.out z h
          · rw [List.mem_singleton.1 h]; omega)
        have LS := hide2 (show ∀ b ∈ [y], b < 256 from fun b hb => by rw [List.mem_singleton.1 hb]; exact hy)
        have N1 := hide2 (OW.out.notBox RR.out (by decide))
        have N2 := hide2 (OW.out.notBox XR.out (by decide))
        clear hb
        go_wp2_with (at_builtin; refine wpList_appBytes rfl _ _ rfl (m := 1) (ys := [y]) rfl rfl (by first | rfl | simp) (by first | rfl | simp) rfl LS.out OW.out BR.out BR.out.size (by omega) ?_; intro v2 w3 own2 hg2 hb2; have OX := hide2 own2; have GX := hide2 hg2; have BZ := hide2 hb2; clear own2 hg2 hb2)
        go_roundw
        case rel =>
          refine ⟨k + 1, by omega, by go_num, ?_, AL2, BZ, RR.out.grown GX.out N1.out, XR.out.grown GX.out N2.out⟩
          rw [TK.out, List.map_append]
          exact OX
        case measure => simp [intOf]; omega
    · obtain rfl : k = 4 := by omega
      rw [List.take_of_length_le (by rw [HLEN.out]; exact Nat.le_refl _)] at OW AL
      have OF := hide2 (opOk_four o)
      rw [HL.out] at OF
      clear HB B1 B2 BX O2 R2 X1 X2 RR
      obtain ⟨it, hit⟩ : ∃ it, o.item = it := ⟨_, rfl⟩
      have HIT := hide2 hit
      obtain ⟨c0, c1, c2, c3, c4⟩ := XR.out.five
      rw [hit] at c3
      clear c0 c1 c2 c4 hit
      by_cases hb : it < 0 ∨ 65535 < it
      · have FN := hide2 (show writeL o = ([], 2) by unfold writeL; rw [if_neg]; intro h; have := OF.out.1 h; have := HIT.out; omega)
        by_cases h1 : it < 0
        · go_wp2
          go_ret2
          rw [FN.out]
          exact AnsBE.no BR.out
        · have h2 : 65536 ≤ it := by omega
          clear hb
          go_wp2
          go_ret2
          rw [FN.out]
          exact AnsBE.no BR.out
      · obtain ⟨m, rfl⟩ : ∃ m : Nat, it = (m : Int) := ⟨it.toNat, by omega⟩
        have hm : m < 65536 := by omega
        have hok : opOk o = true := OF.out.2 ⟨AL.out, by have := HIT.out; omega, by have := HIT.out; omega⟩
        have FN := hide2 (show writeL o = (sixB o ++ [sumF (sixB o)], 0) by unfold writeL; rw [if_pos hok])
        have S6 := hide2 (show L.map Int.toNat ++ [m / 256, m % 256] = sixB o by rw [sixB_four, HL.out, HIT.out]; simp)
        have L6 := hide2 (show (sixB o).length = 6 from rfl)
        have LT6 := hide2 (sixB_lt hok)
        clear hb hok OF
        generalize sixB o = six at *
        have LS := hide2 (show ∀ b ∈ [m / 256, m % 256], b < 256 from fun b hb => by simp at hb; omega)
        go_upto_region 12 with (at_builtin; refine wpList_appBytes rfl _ _ rfl (m := 2) (ys := [m / 256, m % 256]) rfl rfl (by first | rfl | simp) (by first | rfl | simp | trace_state) rfl LS.out OW.out BR.out BR.out.size (by omega) ?_; intro v2 w3 own2 hg2 hb2; have OX := hide2 own2; have BZ := hide2 hb2; clear own2 hg2 hb2)
        have O6 := hide2 (show OwnBytes w3 w.heap.size v2 6 six by have := OX.out; rw [S6.out] at this; exact this)
        obtain ⟨A6, k6, hv6, s6⟩ := O6.out.sl (by omega)
        have H6 := hide2 s6
        subst hv6
        clear OX OW XR s6
        go_wp2
        go_loop [7, 57] (fun v i => ∃ k : Nat, k ≤ 6 ∧ i = .int .i64 k ∧ ∃ x : Nat, x < 256 ∧ v = .int .u8 (x : Int) ∧ Hid (x = sumF (six.take k))) (fun _ i => 6 - (intOf i).toNat)
        case atStart => exact ⟨0, Nat.zero_le _, rfl, 90, by decide, rfl, rfl⟩
        case round =>
          obtain ⟨k, hk, rfl, x, hx, rfl, hv⟩ := hrel
          by_cases hlt : k < 6
          · have hki : (k : Int) < 6 := by omega
            obtain ⟨b, off, y, rfl, hb, hy, hc, hy256⟩ := Bts.get H6.out hlt
            have hr := rotI_lt hy256 k
            have NX := hide2 (show x ^^^ rotI y k = sumF (six.take (k + 1)) by rw [take_snoc hy.out, sumF_snoc, ← hv.out, List.length_take, Nat.min_eq_left (by rw [L6.out]; omega)])
            have HX := hide2 (u8_xor_nat x (rotI y k) hx hr)
            have hx2 : x ^^^ rotI y k < 256 := Nat.xor_lt_two_pow (n := 8) hx hr
            go_wp2_with (refine (rturn_calls y k hy256 (by omega)).mono ?_; rintro e w' ⟨rfl, rfl⟩)
            go_round
            case rel => exact ⟨k + 1, by omega, by go_num, x ^^^ rotI y k, hx2, by rw [HX.out], NX⟩
            case measure => simp [intOf]; omega
          · obtain rfl : k = 6 := by omega
            have hv' := hv.out
            rw [List.take_of_length_le (by rw [L6.out]; exact Nat.le_refl _)] at hv'
            have HV := hide2 hv'
            have LX := hide2 (show ∀ b ∈ [x], b < 256 from fun b hb => by rw [List.mem_singleton.1 hb]; exact hx)
            clear hv hv'
            go_wp2_with (at_builtin; refine wpList_appBytes rfl _ _ rfl (m := 1) (ys := [x]) rfl rfl (by first | rfl | simp) (by first | rfl | simp) rfl LX.out O6.out BZ.out BZ.out.size (by omega) ?_; intro v7 w7 own7 hg7 hb7)
            obtain ⟨A7, k7, hv7, s7⟩ := own7.sl (by omega)
            subst hv7
            go_ret2
            rw [FN.out, ← HV.out]
            exact ⟨A7, 7, k7, rfl, s7, hb7⟩
end Go.Proofs.Ytpagenlealddhaa
