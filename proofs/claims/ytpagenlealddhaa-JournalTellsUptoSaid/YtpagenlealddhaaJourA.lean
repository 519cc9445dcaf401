/- What bytes and things done at a desk read as; contracts of the sum of bytes. Conditions: the slices read as lists. -/
import Derived.Test.YtpagenlealddhaaOwnC
import Derived.Test.YtpagenlealddhaaBox
import Derived.Test.YtpagenlealddhaaPlainK
import Derived.Laws.BitsAllLaws
import Derived.Laws.Shifts
import Derived.Laws.BytesArg
import Derived.Deep.DeepCutAuto
namespace Go.Proofs.Ytpagenlealddhaa
open Go.RowKit

theorem newBelow (w : World) (o : Obj) : Below w.heap.size w (w.alloc o) := (Below.refl _ _).alloc (Nat.le_refl _) _
def ByteR : World → (Nat → Value) → Nat → Prop := fun _ vs b => vs 0 = .int .u8 (b : Int) ∧ b < 256
theorem ByteR.kept : Kept ByteR := fun _ _ _ _ _ h => h
theorem ByteR.good : Good ByteR 1 where
  kept := ByteR.kept
  one := fun w vs x h j hj => by
    obtain rfl : j = 0 := by omega
    rw [h.1]; rfl
  pos := by omega
abbrev Bts (w : World) (A : Option Addr) (n c : Nat) (bs : List Nat) : Prop := Sl ByteR 1 w A n c bs
theorem Bts.get {w : World} {A : Option Addr} {n c k : Nat} {bs : List Nat} (h : Bts w A n c bs) (hk : k < n) :
    ∃ b off x, A = some ⟨b, off, none⟩ ∧ b < w.heap.size ∧ Hid (bs[k]? = some x) ∧ w.cell? ⟨b, off + k, none⟩ = some (.int .u8 (x : Int)) ∧ x < 256 := by
  obtain ⟨b, off, x, vs, h1, h2, h3, h4, h5, h6⟩ := Sl.get h hk
  refine ⟨b, off, x, h1, h2, h3, ?_, h6⟩
  have := h4 0 (by omega)
  rw [h5] at this
  simpa using this
theorem Bts.lt {w : World} {A : Option Addr} {n c : Nat} {bs : List Nat} (h : Bts w A n c bs) : ∀ b ∈ bs, b < 256 := by
  intro b hb
  obtain ⟨i, hi, rfl⟩ := List.getElem_of_mem hb
  obtain ⟨_, _, x, _, _, hx, _, hlt⟩ := Bts.get h (k := i) (by rw [← h.len]; exact hi)
  have := hx.out
  rw [List.getElem?_eq_getElem hi] at this
  injection this with this
  omega
/-- A piece of a slice of one-cell elements. -/
theorem Sl.piece {α : Type} {R : World → (Nat → Value) → α → Prop} {w : World} {b off n c i k : Nat} {xs : List α} (h : Sl R 1 w (some ⟨b, off, none⟩) n c xs) (hik : i + k ≤ n) (hk : 0 < k) :
    Sl R 1 w (some ⟨b, off + i, none⟩) k (c - i) ((xs.drop i).take k) := by
  have hl := h.len
  have hle := h.le
  have hcap := h.cap
  have hsm := h.small
  refine ⟨by rw [List.length_take, List.length_drop]; omega, by omega, by omega, by omega, fun e => (by cases e), fun _ => ?_⟩
  obtain ⟨b', off', e, hb, hc⟩ := h.cells (by omega)
  injection e with e
  injection e with e1 e2
  subst e1 e2
  refine ⟨b, off + i, rfl, hb, fun j x hx => ?_⟩
  rw [List.getElem?_take] at hx
  split at hx
  · rw [List.getElem?_drop] at hx
    obtain ⟨vs, a1, a2⟩ := hc _ _ hx
    refine ⟨vs, fun q hq => ?_, a2⟩
    have := a1 q hq
    rw [show off + ((i + j) * 1 + q) = off + i + (j * 1 + q) from by omega] at this
    exact this
  · cases hx
theorem tyBytes : SlTy 24 5 1 1 := SlTy.mk' (z := .int .u8 0) Try.underlying24 (by kernel_rfl) rfl (by decide)

/-! ### bits turned to the left -/
theorem turnBits : ∀ k, k < 8 → ∀ b, b < 256 → (b * 2 ^ k % 256) ||| (b / 2 ^ (8 - k)) = rotI b k := by decide +kernel
set_option maxRecDepth 100000 in
theorem rturn_calls {w : World} (b k : Nat) (hb : b < 256) (hk : k ≤ 281474976710656) :
    Calls Try.prog 55 #[.int .u8 (b : Int), .int .i64 (k : Int)] w fun e w' => e = .returned (.int .u8 ((rotI b k : Nat) : Int)) ∧ w = w' := by
  go_enter Try.func55, Try.ntmps55
  go_wp2
  go_loop [0, 6] (fun v i => ∃ j : Nat, j ≤ k ∧ i = .int .i64 j ∧ ∃ c : Nat, c < 256 ∧ v = .int .u8 (c : Int) ∧ Hid (c = rotI b j)) (fun _ i => k - (intOf i).toNat)
  case atStart => exact ⟨0, Nat.zero_le _, rfl, b, hb, rfl, rfl⟩
  case round =>
    obtain ⟨j, hj, rfl, c, hc, rfl, hv⟩ := hrel
    by_cases hlt : j < k
    · have hji : (j : Int) < (k : Int) := by omega
      go_wp2
      go_round
      case rel =>
        refine ⟨j + 1, by omega, by go_num, rotS c, rotS_lt hc, ?_, hide2 (by rw [hv.out]; rfl)⟩
        congr 1 <;> (simp only [IntKind.wrap_u8', rotS]; omega)
      case measure => simp [intOf]; omega
    · obtain rfl : j = k := by omega
      have hv' := hv.out
      subst hv'
      go_wp2
      go_ret
      exact ⟨rfl, rfl⟩
set_option maxRecDepth 100000 in
theorem rotate_calls {w : World} (b k : Nat) (hb : b < 256) (hk : k < 8) :
    Calls Try.prog 113 #[.int .u8 (b : Int), .int .i64 (k : Int)] w fun e w' => e = .returned (.int .u8 ((rotI b k : Nat) : Int)) ∧ w = w' := by
  have T := turnBits k hk b hb
  have hk' : k = 0 ∨ k = 1 ∨ k = 2 ∨ k = 3 ∨ k = 4 ∨ k = 5 ∨ k = 6 ∨ k = 7 := by omega
  rcases hk' with rfl | rfl | rfl | rfl | rfl | rfl | rfl | rfl
  all_goals
    have HT := hide2 ((u8_or_nat _ _ (Nat.mod_lt _ (by omega)) (Nat.lt_of_le_of_lt (Nat.div_le_self _ _) hb)).trans (congrArg (fun x : Nat => (x : Int)) T))
    clear T hk
    have e0 : bits .and .u64 0 7 = 0 := by rfl
    have e1 : bits .and .u64 1 7 = 1 := by rfl
    have e2 : bits .and .u64 2 7 = 2 := by rfl
    have e3 : bits .and .u64 3 7 = 3 := by rfl
    have e4 : bits .and .u64 4 7 = 4 := by rfl
    have e5 : bits .and .u64 5 7 = 5 := by rfl
    have e6 : bits .and .u64 6 7 = 6 := by rfl
    have e7 : bits .and .u64 7 7 = 7 := by rfl
    go_enter Try.func113, Try.ntmps113
    go_wp2
    go_ret
    refine ⟨congrArg (fun x => Ending.returned (.int .u8 x)) ?_, rfl⟩
    have h := HT.out
    clear HT e0 e1 e2 e3 e4 e5 e6 e7
    have hm : (b : Int) % 256 = b := by omega
    simpa [hm] using h

set_option maxRecDepth 100000 in
theorem byteSum_calls {w : World} {A : Option Addr} {n c : Nat} {bs : List Nat} (h : Bts w A n c bs) (hn : n ≤ 8) :
    Calls Try.prog 54 #[.slice A n c] w fun e w' => e = .returned (.int .u8 ((sumF bs : Nat) : Int)) ∧ w = w' := by
  have H := hide2 h
  clear h
  go_enter Try.func54, Try.ntmps54
  go_wp2
  go_loop [3, 8] (fun v i => ∃ k : Nat, k ≤ n ∧ i = .int .i64 k ∧ ∃ x : Nat, x < 256 ∧ v = .int .u8 (x : Int) ∧ Hid (x = sumF (bs.take k))) (fun _ i => n - (intOf i).toNat)
  case atStart => exact ⟨0, Nat.zero_le _, rfl, 90, by decide, rfl, rfl⟩
  case round =>
    obtain ⟨k, hk, rfl, x, hx, rfl, hv⟩ := hrel
    by_cases hlt : k < n
    · have hki : (k : Int) < (n : Int) := by omega
      obtain ⟨b, off, y, rfl, hb, hy, hc, hy256⟩ := Bts.get H.out hlt
      have hr := rotI_lt hy256 k
      have NX := hide2 (show x ^^^ rotI y k = sumF (bs.take (k + 1)) by rw [take_snoc hy.out, sumF_snoc, ← hv.out, List.length_take, Nat.min_eq_left (by rw [H.out.len]; omega)])
      have HX := hide2 (u8_xor_nat x (rotI y k) hx hr)
      have hx2 : x ^^^ rotI y k < 256 := Nat.xor_lt_two_pow (n := 8) hx hr
      go_wp2_with (refine (rotate_calls y k hy256 (by omega)).mono ?_; rintro e w' ⟨rfl, rfl⟩)
      go_round
      case rel => exact ⟨k + 1, by omega, by go_num, x ^^^ rotI y k, hx2, by rw [HX.out], NX⟩
      case measure => simp [intOf]; omega
    · obtain rfl : k = n := by omega
      have hv' := hv.out
      rw [List.take_of_length_le (by rw [H.out.len]; exact Nat.le_refl _)] at hv'
      subst hv'
      go_wp2
      go_ret
      exact ⟨rfl, rfl⟩
set_option maxRecDepth 100000 in
theorem small_calls {w : World} (n : Int) :
    Calls Try.prog 53 #[.int .i64 n] w fun e w' => e = .returned (.bool (smallI n)) ∧ w = w' := by
  by_cases h1 : 0 ≤ n
  · have FN := hide2 (show smallI n = decide (n ≤ 255) by simp [smallI, h1])
    go_enter Try.func53, Try.ntmps53
    go_wp2
    go_ret
    exact ⟨ret_bool (by rw [FN.out]), rfl⟩
  · have FN := hide2 (show smallI n = false by simp [smallI, h1])
    go_enter Try.func53, Try.ntmps53
    go_wp2
    go_ret
    exact ⟨ret_bool (by rw [FN.out]), rfl⟩
end Go.Proofs.Ytpagenlealddhaa
