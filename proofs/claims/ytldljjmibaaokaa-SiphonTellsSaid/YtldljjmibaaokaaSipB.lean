/- The contracts of siphon's sets of places: set, of, list. Conditions: the lists read as lists; the weights are at most 16. -/
import Derived.Test.YtldljjmibaaokaaSipA
import Derived.Test.YtldljjmibaaokaaOwnB
import Derived.Test.YtldljjmibaaokaaMark
namespace Go.Proofs.Ytldljjmibaaokaa
open Go.RowKit

theorem bitL_take {l : List Int} {k : Nat} {x : Int} (h : l[k]? = some x) : bitL (l.take (k + 1)) = bitF (bitL (l.take k)) x := by
  unfold bitL
  rw [List.take_add_one, h, List.foldl_append]
  rfl
theorem pow16 {p : Nat} (h : p < 16) : 2 ^ p < 65536 := Nat.pow_lt_pow_right (a := 2) (n := 16) (by omega) h
theorem shl_one {p : Int} (h0 : 0 ≤ p) (h16 : p < 16) : IntKind.u32.wrap (2 ^ p.toNat) = ((2 ^ p.toNat : Nat) : Int) := by
  have hlt := pow16 (p := p.toNat) (by omega)
  rw [show ((2 : Int) ^ p.toNat) = ((2 ^ p.toNat : Nat) : Int) by simp]
  generalize 2 ^ p.toNat = q at *
  simp [IntKind.wrap, go_sem]
  omega

theorem or_two {s p : Nat} (hs : s < 65536) (hp : p < 16) : bits .or .u32 (s : Int) ((2 : Int) ^ p) = ((s ||| 2 ^ p : Nat) : Int) := by
  have := pow16 hp
  rw [show ((2 : Int) ^ p) = ((2 ^ p : Nat) : Int) by simp]
  exact u32_or_nat s (2 ^ p) (by omega) (by omega)

set_option maxRecDepth 100000 in
theorem set_calls {w : World} {A : Option Addr} {n c : Nat} {l : List Int} (h : Ints w A n c l) :
    Calls Try.prog 62 #[.slice A n c] w (fun e w' => e = .returned (.int .u32 (bitL l : Nat)) ∧ w = w') := by
  have hn := h.small
  have HL := hide2 h.len
  go_enter Try.func62, Try.ntmps62
  go_wp2
  go_loopw [3, 8] (fun u3 u8 wr => ∃ k : Nat, k ≤ n ∧ u8 = .int .i64 k ∧ u3 = .int .u32 (bitL (l.take k) : Nat) ∧ wr = w) (fun _ v _ => n - (intOf v).toNat)
  case atStart => exact ⟨0, Nat.zero_le _, rfl, rfl, rfl⟩
  case round =>
    obtain ⟨k, hk, rfl, rfl, rfl⟩ := hrel
    by_cases hlt : k < n
    · have hki : (k : Int) < (n : Int) := by omega
      obtain ⟨b, off, x, rfl, hb, hx, hc⟩ := h.get hlt
      have HT := hide2 (bitL_take hx.out)
      have hs := bitL_lt (l.take k)
      generalize bitL (l.take k) = s at *
      clear h
      by_cases h0 : 0 ≤ x
      · by_cases h16 : x < 16
        · have hw := shl_one h0 h16
          have hor := or_two (p := x.toNat) hs (by omega)
          go_wp2
          go_roundw
          case rel => exact ⟨k + 1, by omega, by go_num, by rw [HT.out, bitF, if_pos ⟨h0, h16⟩], trivial⟩
          case measure => simp [intOf]; omega
        · go_wp2
          go_roundw
          case rel => exact ⟨k + 1, by omega, by go_num, by rw [HT.out, bitF, if_neg (by omega)], trivial⟩
          case measure => simp [intOf]; omega
      · go_wp2
        go_roundw
        case rel => exact ⟨k + 1, by omega, by go_num, by rw [HT.out, bitF, if_neg (by omega)], trivial⟩
        case measure => simp [intOf]; omega
    · obtain rfl : k = n := by omega
      go_wp2
      go_ret
      exact ⟨by rw [List.take_of_length_le (by rw [HL.out]; exact Nat.le_refl _)]; rfl, rfl⟩

theorem ofW_take {w : List Int} {k : Nat} {x : Int} (h : w[k]? = some x) : (w.take (k + 1)).zipIdx.foldl ofF 0 = ofF ((w.take k).zipIdx.foldl ofF 0) (x, k) := by
  have hk : k < w.length := (List.getElem?_eq_some_iff.1 h).1
  rw [List.take_add_one, h]
  simp only [Option.toList_some, List.zipIdx_append, List.foldl_append]
  rw [List.length_take, Nat.min_eq_left (by omega)]
  simp
set_option maxRecDepth 100000 in
theorem of_calls {w : World} {A : Option Addr} {n c : Nat} {xs : List Int} (h : Ints w A n c xs) (h16 : n ≤ 16) :
    Calls Try.prog 65 #[.slice A n c] w (fun e w' => e = .returned (.int .u32 (ofW xs : Nat)) ∧ w = w') := by
  have HL := hide2 h.len
  go_enter Try.func65, Try.ntmps65
  go_wp2
  go_loopw [3, 8] (fun u3 u8 wr => ∃ k : Nat, k ≤ n ∧ u8 = .int .i64 k ∧ u3 = .int .u32 (ofW (xs.take k) : Nat) ∧ wr = w) (fun _ v _ => n - (intOf v).toNat)
  case atStart => exact ⟨0, Nat.zero_le _, rfl, rfl, rfl⟩
  case round =>
    obtain ⟨k, hk, rfl, rfl, rfl⟩ := hrel
    by_cases hlt : k < n
    · have hki : (k : Int) < (n : Int) := by omega
      obtain ⟨b, off, x, rfl, hb, hx, hc⟩ := h.get hlt
      have HT := hide2 (show ofW (xs.take (k + 1)) = ofF (ofW (xs.take k)) (x, k) from ofW_take hx.out)
      have hs : ofW (xs.take k) < 65536 := ofW_lt (by rw [List.length_take]; omega)
      generalize ofW (xs.take k) = s at *
      clear h
      by_cases h0 : 0 < x
      · have hw := shl_one (p := (k : Int)) (by omega) (by omega)
        have hor := or_two (p := k) hs (by omega)
        simp only [Int.toNat_natCast] at hw
        go_wp2
        go_roundw
        case rel => exact ⟨k + 1, by omega, by go_num, by rw [HT.out, ofF, if_pos h0], trivial⟩
        case measure => simp [intOf]; omega
      · go_wp2
        go_roundw
        case rel => exact ⟨k + 1, by omega, by go_num, by rw [HT.out, ofF, if_neg h0], trivial⟩
        case measure => simp [intOf]; omega
    · obtain rfl : k = n := by omega
      go_wp2
      go_ret
      exact ⟨by rw [List.take_of_length_le (by rw [HL.out]; exact Nat.le_refl _)]; rfl, rfl⟩

def listK (s k : Nat) : List Int := ((List.range k).filter (fun p => s.testBit p)).map (fun p : Nat => (p : Int))
theorem listK_succ (s k : Nat) : listK s (k + 1) = if s.testBit k = true then listK s k ++ [(k : Int)] else listK s k := by
  unfold listK
  rw [List.range_succ, List.filter_append]
  cases h : s.testBit k <;> simp [h]
theorem listK_len (s k : Nat) : (listK s k).length ≤ k := by
  unfold listK
  rw [List.length_map]
  exact Nat.le_trans (List.length_filter_le _ _) (by simp)
theorem shr_bit (s k : Nat) (hs : s < 65536) : (bits .and .u32 ((s : Int) / 2 ^ k) 1 == 1) = s.testBit k := by
  have e : ((s : Int) / 2 ^ k) = ((s / 2 ^ k : Nat) : Int) := by simp
  have h1 : s / 2 ^ k < 65536 := Nat.lt_of_le_of_lt (Nat.div_le_self _ _) hs
  rw [e, show (1 : Int) = ((1 : Nat) : Int) from rfl, u32_and_nat _ 1 (by omega) (by omega), Nat.testBit_eq_decide_div_mod_eq, Nat.and_one_is_mod]
  cases h : decide (s / 2 ^ k % 2 = 1)
  · have := of_decide_eq_false h
    simp
    omega
  · have := of_decide_eq_true h
    simp
    omega
set_option maxRecDepth 100000 in
theorem list_calls {w : World} {s : Nat} (hs : s < 65536) :
    Calls Try.prog 69 #[.int .u32 (s : Int)] w (fun e w' => ∃ v, e = .returned v ∧ OwnInts w' w.heap.size v (listS s).length (listS s) ∧ Below w.heap.size w w') := by
  go_enter Try.func69, Try.ntmps69
  go_wp2
  go_loopw [3, 5] (fun u3 u5 wr => ∃ k : Nat, k ≤ 16 ∧ u5 = .int .i64 k ∧ Hid (OwnInts wr w.heap.size u3 (listK s k).length (listK s k)) ∧ Hid (Below w.heap.size w wr)) (fun _ v _ => 16 - (intOf v).toNat)
  case atStart => exact ⟨0, Nat.zero_le _, rfl, OwnSl.nil, Below.refl _ _⟩
  case round =>
    obtain ⟨k, hk, rfl, OW, X⟩ := hrel
    by_cases hlt : k < 16
    · have hki : (k : Int) < 16 := by omega
      have hk32 : (k : Int) ≤ 32 := by omega
      have hb := shr_bit s k hs
      have HS := hide2 (listK_succ s k)
      have hl := listK_len s k
      cases ht : s.testBit k
      · rw [ht] at hb HS
        rw [if_neg (by simp)] at HS
        clear ht
        go_wp2
        go_roundw
        case rel => exact ⟨k + 1, by omega, by go_num, by rw [HS.out]; exact OW, X⟩
        case measure => simp [intOf]; omega
      · rw [ht] at hb HS
        rw [if_pos rfl] at HS
        clear ht
        go_wp2_with (at_builtin; refine wpList_appInt rfl _ _ rfl rfl rfl (by first | rfl | simp) OW.out X.out X.out.size (by omega) ?_; intro v2 w2 own2 hg2 hb2; have O2 := hide2 own2; have X2 := hide2 hb2; clear own2 hg2 hb2)
        go_roundw
        case rel => exact ⟨k + 1, by omega, by go_num, by rw [HS.out]; exact hide2 (by simpa using O2.out), X2⟩
        case measure => simp [intOf]; omega
    · obtain rfl : k = 16 := by omega
      go_wp2
      go_ret
      exact ⟨_, rfl, OW.out, X.out⟩
end Go.Proofs.Ytldljjmibaaokaa
