/- The plain law of the journal: bytes of what is done at a desk, and back. No program in sight. | What bytes and things done at a desk read as; contracts of the sum of bytes. Conditions: the slices read as lists. | The contracts of journal.Write and RWrite. Conditions: none. | The contract of RWrite. Conditions: none. -/
import Derived.Test.YtmnacahoamkokaaOwnC
import Derived.Test.YtmnacahoamkokaaBox
import Derived.Laws.BitsAllLaws
import Derived.Laws.Shifts
import Derived.Laws.BytesArg
import Derived.Deep.DeepCutAuto
namespace Go.Proofs.Ytmnacahoamkokaa

def rotS (b : Nat) : Nat := b * 2 % 256 + b / 128
def rotI (b : Nat) : Nat → Nat
  | 0 => b
  | k + 1 => rotS (rotI b k)
theorem rotS_lt {b : Nat} (h : b < 256) : rotS b < 256 := by unfold rotS; omega
theorem rotI_lt {b : Nat} (h : b < 256) : ∀ k, rotI b k < 256
  | 0 => h
  | k + 1 => rotS_lt (rotI_lt h k)
def sumF (bs : List Nat) : Nat := bs.zipIdx.foldl (fun x p => x ^^^ rotI p.1 p.2) 90
theorem sumF_snoc (bs : List Nat) (b : Nat) : sumF (bs ++ [b]) = sumF bs ^^^ rotI b bs.length := by
  unfold sumF
  rw [List.zipIdx_append, List.foldl_append]
  simp
theorem sumF_lt {bs : List Nat} (h : ∀ b ∈ bs, b < 256) : sumF bs < 256 := by
  have key : ∀ n, ∀ l : List Nat, l.length = n → (∀ b ∈ l, b < 256) → sumF l < 256 := by
    intro n
    induction n with
    | zero => intro l hl _; rw [List.eq_nil_of_length_eq_zero hl]; decide
    | succ n ih =>
      intro l hl hb
      obtain ⟨a, b, rfl⟩ : ∃ a b, l = a ++ [b] := ⟨l.dropLast, l.getLast (by intro e; subst e; simp at hl), (List.dropLast_concat_getLast _).symm⟩
      rw [sumF_snoc]
      exact Nat.xor_lt_two_pow (n := 8) (ih a (by simpa using hl) (fun x hx => hb x (List.mem_append_left _ hx))) (rotI_lt (hb b (by simp)) _)
  exact key _ bs rfl h

structure POp where
  kind : Int
  user : Int
  tran : Int
  item : Int
  to_ : Int
def smallI (n : Int) : Bool := decide (0 ≤ n) && decide (n ≤ 255)
theorem smallI_iff (n : Int) : smallI n = true ↔ 0 ≤ n ∧ n ≤ 255 := by simp [smallI]
def itemI (n : Int) : Bool := decide (0 ≤ n) && decide (n ≤ 65535)
theorem itemI_iff (n : Int) : itemI n = true ↔ 0 ≤ n ∧ n ≤ 65535 := by simp [itemI]
def opOk (o : POp) : Bool := smallI o.kind && smallI o.user && smallI o.tran && smallI o.to_ && itemI o.item
def sixB (o : POp) : List Nat := [o.kind.toNat, o.user.toNat, o.tran.toNat, o.to_.toNat, o.item.toNat / 256, o.item.toNat % 256]
def writeL (o : POp) : List Nat × Int := if opOk o = true then (sixB o ++ [sumF (sixB o)], 0) else ([], 2)
theorem opOk_iff (o : POp) : opOk o = true ↔ (0 ≤ o.kind ∧ o.kind ≤ 255) ∧ (0 ≤ o.user ∧ o.user ≤ 255) ∧ (0 ≤ o.tran ∧ o.tran ≤ 255) ∧ (0 ≤ o.to_ ∧ o.to_ ≤ 255) ∧ (0 ≤ o.item ∧ o.item ≤ 65535) := by
  unfold opOk
  simp only [Bool.and_eq_true, smallI_iff, itemI_iff, and_assoc]
theorem sixB_lt {o : POp} (h : opOk o = true) : ∀ b ∈ sixB o, b < 256 := by
  rw [opOk_iff] at h
  intro b hb
  simp only [sixB, List.mem_cons, List.not_mem_nil, or_false] at hb
  omega
def opOf (bs : List Nat) : POp := ⟨bs.getD 0 0, bs.getD 1 0, bs.getD 2 0, ((bs.getD 4 0 * 256 + bs.getD 5 0 : Nat) : Int), bs.getD 3 0⟩
theorem opOf_ok {bs : List Nat} (h : ∀ b ∈ bs, b < 256) : opOk (opOf bs) = true := by
  have g : ∀ i, bs.getD i 0 < 256 := fun i => by
    rw [List.getD_eq_getElem?_getD]
    cases hi : bs[i]? with
    | none => simp
    | some x => exact h x (List.mem_of_getElem? hi)
  rw [opOk_iff]
  have h0 := g 0
  have h1 := g 1
  have h2 := g 2
  have h3 := g 3
  have h4 := g 4
  have h5 := g 5
  unfold opOf
  simp only []
  omega
theorem sixB_opOf {a b c d e f : Nat} (r : List Nat) (he : f < 256) : sixB (opOf (a :: b :: c :: d :: e :: f :: r)) = [a, b, c, d, e, f] := by
  simp only [sixB, opOf, List.getD_cons_zero, List.getD_cons_succ, Int.toNat_natCast]
  rw [show (e * 256 + f) / 256 = e from by omega, show (e * 256 + f) % 256 = f from by omega]
def readL (bs : List Nat) : List POp × Int × Int :=
  if h : bs.length < 7 then ([], 0, 0)
  else if sumF (bs.take 6) = bs.getD 6 0 then (opOf bs :: (readL (bs.drop 7)).1, (readL (bs.drop 7)).2.1 + 7, (readL (bs.drop 7)).2.2)
  else ([], 0, 8)
termination_by bs.length
decreasing_by all_goals (rw [List.length_drop]; omega)
theorem readL_short {bs : List Nat} (h : bs.length < 7) : readL bs = ([], 0, 0) := by rw [readL, dif_pos h]
theorem readL_bad {bs : List Nat} (h : ¬ bs.length < 7) (hs : sumF (bs.take 6) ≠ bs.getD 6 0) : readL bs = ([], 0, 8) := by rw [readL, dif_neg h, if_neg hs]
theorem readL_good {bs : List Nat} (h : ¬ bs.length < 7) (hs : sumF (bs.take 6) = bs.getD 6 0) : readL bs = (opOf bs :: (readL (bs.drop 7)).1, (readL (bs.drop 7)).2.1 + 7, (readL (bs.drop 7)).2.2) := by rw [readL, dif_neg h, if_pos hs]
theorem readL_len (bs : List Nat) : (readL bs).1.length * 7 ≤ bs.length := by
  induction h : bs.length using Nat.strongRecOn generalizing bs with
  | _ n ih =>
    by_cases h1 : bs.length < 7
    · rw [readL_short h1]; simp
    · by_cases h2 : sumF (bs.take 6) = bs.getD 6 0
      · rw [readL_good h1 h2]
        have := ih (bs.drop 7).length (by rw [List.length_drop]; omega) (bs.drop 7) rfl
        simp only [List.length_cons, List.length_drop] at this ⊢
        omega
      · rw [readL_bad h1 h2]; simp
theorem readL_at (bs : List Nat) : 0 ≤ (readL bs).2.1 ∧ (readL bs).2.1 ≤ bs.length := by
  induction h : bs.length using Nat.strongRecOn generalizing bs with
  | _ n ih =>
    by_cases h1 : bs.length < 7
    · rw [readL_short h1]; simp
    · by_cases h2 : sumF (bs.take 6) = bs.getD 6 0
      · rw [readL_good h1 h2]
        have := ih (bs.drop 7).length (by rw [List.length_drop]; omega) (bs.drop 7) rfl
        simp only [List.length_drop] at this ⊢
        omega
      · rw [readL_bad h1 h2]; simp
/-- So far, as one goes on from 7 to 7. -/
structure ReadI (bs : List Nat) (j : Nat) (out : List POp) : Prop where
  eq : readL bs = (out ++ (readL (bs.drop (7 * j))).1, ((7 * j : Nat) : Int) + (readL (bs.drop (7 * j))).2.1, (readL (bs.drop (7 * j))).2.2)
  len : out.length = j
theorem ReadI.start (bs : List Nat) : ReadI bs 0 [] := ⟨by simp, rfl⟩
theorem ReadI.next {bs : List Nat} {j : Nat} {out : List POp} (h : ReadI bs j out) (hl : 7 * j + 7 ≤ bs.length) (hs : sumF ((bs.drop (7 * j)).take 6) = (bs.drop (7 * j)).getD 6 0) : ReadI bs (j + 1) (out ++ [opOf (bs.drop (7 * j))]) := by
  refine ⟨?_, by simp [h.len]⟩
  rw [h.eq, readL_good (by rw [List.length_drop]; omega) hs, List.drop_drop, show 7 * j + 7 = 7 * (j + 1) from by omega]
  simp only [List.append_assoc, List.singleton_append, Prod.mk.injEq, true_and, and_true]
  omega
theorem ReadI.bad {bs : List Nat} {j : Nat} {out : List POp} (h : ReadI bs j out) (hl : 7 * j + 7 ≤ bs.length) (hs : sumF ((bs.drop (7 * j)).take 6) ≠ (bs.drop (7 * j)).getD 6 0) : readL bs = (out, ((7 * j : Nat) : Int), 8) := by
  rw [h.eq, readL_bad (by rw [List.length_drop]; omega) hs]; simp
theorem ReadI.fin {bs : List Nat} {j : Nat} {out : List POp} (h : ReadI bs j out) (hl : bs.length < 7 * j + 7) : readL bs = (out, ((7 * j : Nat) : Int), 0) := by
  rw [h.eq, readL_short (by rw [List.length_drop]; omega)]; simp
end Go.Proofs.Ytmnacahoamkokaa
namespace Go.Proofs.Ytmnacahoamkokaa
open Go.RowKit

theorem newBelow (w : World) (o : Obj) : Below w.heap.size w (w.alloc o) := (Below.refl _ _).alloc (Nat.le_refl _) _
theorem belowN (w : World) (q : Nat) : Below w.heap.size w (w.drewN q) := ⟨rfl, rfl, rfl, Nat.le_refl _, fun _ _ => rfl⟩
def ByteR : World → (Nat → Value) → Nat → Prop := fun _ vs b => vs 0 = .int .u8 (b : Int) ∧ b < 256
theorem ByteR.kept : Kept ByteR := fun _ _ _ _ _ h => h
theorem ByteR.good : Good ByteR 1 where
  kept := ByteR.kept
  one := fun w vs x h j hj => by
    obtain rfl : j = 0 := by omega
    rw [h.1]; rfl
  pos := by omega
abbrev Bts (w : World) (A : Option Addr) (n c : Nat) (bs : List Nat) : Prop := Sl ByteR 1 w A n c bs
theorem Bts.get {w : World} {A : Option Addr} {n c k : Nat} {bs : List Nat} (h : Bts w A n c bs) (hk : k < n) :
    ∃ b off x, A = some ⟨b, off, none⟩ ∧ b < w.heap.size ∧ Hid (bs[k]? = some x) ∧ w.cell? ⟨b, off + k, none⟩ = some (.int .u8 (x : Int)) ∧ x < 256 := by
  obtain ⟨b, off, x, vs, h1, h2, h3, h4, h5, h6⟩ := Sl.get h hk
  refine ⟨b, off, x, h1, h2, h3, ?_, h6⟩
  have := h4 0 (by omega)
  rw [h5] at this
  simpa using this
theorem Bts.lt {w : World} {A : Option Addr} {n c : Nat} {bs : List Nat} (h : Bts w A n c bs) : ∀ b ∈ bs, b < 256 := by
  intro b hb
  obtain ⟨i, hi, rfl⟩ := List.getElem_of_mem hb
  obtain ⟨_, _, x, _, _, hx, _, hlt⟩ := Bts.get h (k := i) (by rw [← h.len]; exact hi)
  have := hx.out
  rw [List.getElem?_eq_getElem hi] at this
  injection this with this
  omega
/-- A piece of a slice of one-cell elements. -/
theorem Sl.piece {α : Type} {R : World → (Nat → Value) → α → Prop} {w : World} {b off n c i k : Nat} {xs : List α} (h : Sl R 1 w (some ⟨b, off, none⟩) n c xs) (hik : i + k ≤ n) (hk : 0 < k) :
    Sl R 1 w (some ⟨b, off + i, none⟩) k (c - i) ((xs.drop i).take k) := by
  have hl := h.len
  have hle := h.le
  have hcap := h.cap
  have hsm := h.small
  refine ⟨by rw [List.length_take, List.length_drop]; omega, by omega, by omega, by omega, fun e => (by cases e), fun _ => ?_⟩
  obtain ⟨b', off', e, hb, hc⟩ := h.cells (by omega)
  injection e with e
  injection e with e1 e2
  subst e1 e2
  refine ⟨b, off + i, rfl, hb, fun j x hx => ?_⟩
  rw [List.getElem?_take] at hx
  split at hx
  · rw [List.getElem?_drop] at hx
    obtain ⟨vs, a1, a2⟩ := hc _ _ hx
    refine ⟨vs, fun q hq => ?_, a2⟩
    have := a1 q hq
    rw [show off + ((i + j) * 1 + q) = off + i + (j * 1 + q) from by omega] at this
    exact this
  · cases hx
theorem tyBytes : SlTy 155 5 1 1 := SlTy.mk' (z := .int .u8 0) Try.underlying155 (by kernel_rfl) rfl (by decide)

/-! ### bits turned to the left -/
theorem turnBits : ∀ k, k < 8 → ∀ b, b < 256 → (b * 2 ^ k % 256) ||| (b / 2 ^ (8 - k)) = rotI b k := by decide +kernel
set_option maxRecDepth 100000 in
theorem rturn_calls {w : World} (b k : Nat) (hb : b < 256) (hk : k ≤ 281474976710656) :
    Calls Try.prog 162 #[.int .u8 (b : Int), .int .i64 (k : Int)] w fun e w' => e = .returned (.int .u8 ((rotI b k : Nat) : Int)) ∧ w = w' := by
  go_enter Try.func162, Try.ntmps162
  go_wp2
  go_loop [0, 6] (fun v i => ∃ j : Nat, j ≤ k ∧ i = .int .i64 j ∧ ∃ c : Nat, c < 256 ∧ v = .int .u8 (c : Int) ∧ Hid (c = rotI b j)) (fun _ i => k - (intOf i).toNat)
  case atStart => exact ⟨0, Nat.zero_le _, rfl, b, hb, rfl, rfl⟩
  case round =>
    obtain ⟨j, hj, rfl, c, hc, rfl, hv⟩ := hrel
    by_cases hlt : j < k
    · have hji : (j : Int) < (k : Int) := by omega
      go_wp2
      go_round
      case rel =>
        refine ⟨j + 1, by omega, by go_num, rotS c, rotS_lt hc, ?_, hide2 (by rw [hv.out]; rfl)⟩
        congr 1 <;> (simp only [IntKind.wrap_u8', rotS]; omega)
      case measure => simp [intOf]; omega
    · obtain rfl : j = k := by omega
      have hv' := hv.out
      subst hv'
      go_wp2
      go_ret
      exact ⟨rfl, rfl⟩
set_option maxRecDepth 100000 in
theorem rotate_calls {w : World} (b k : Nat) (hb : b < 256) (hk : k < 8) :
    Calls Try.prog 207 #[.int .u8 (b : Int), .int .i64 (k : Int)] w fun e w' => e = .returned (.int .u8 ((rotI b k : Nat) : Int)) ∧ w = w' := by
  have T := turnBits k hk b hb
  have hk' : k = 0 ∨ k = 1 ∨ k = 2 ∨ k = 3 ∨ k = 4 ∨ k = 5 ∨ k = 6 ∨ k = 7 := by omega
  rcases hk' with rfl | rfl | rfl | rfl | rfl | rfl | rfl | rfl
  all_goals
    have HT := hide2 ((u8_or_nat _ _ (Nat.mod_lt _ (by omega)) (Nat.lt_of_le_of_lt (Nat.div_le_self _ _) hb)).trans (congrArg (fun x : Nat => (x : Int)) T))
    clear T hk
    have e0 : bits .and .u64 0 7 = 0 := by rfl
    have e1 : bits .and .u64 1 7 = 1 := by rfl
    have e2 : bits .and .u64 2 7 = 2 := by rfl
    have e3 : bits .and .u64 3 7 = 3 := by rfl
    have e4 : bits .and .u64 4 7 = 4 := by rfl
    have e5 : bits .and .u64 5 7 = 5 := by rfl
    have e6 : bits .and .u64 6 7 = 6 := by rfl
    have e7 : bits .and .u64 7 7 = 7 := by rfl
    go_enter Try.func207, Try.ntmps207
    go_wp2
    go_ret
    refine ⟨congrArg (fun x => Ending.returned (.int .u8 x)) ?_, rfl⟩
    have h := HT.out
    clear HT e0 e1 e2 e3 e4 e5 e6 e7
    have hm : (b : Int) % 256 = b := by omega
    simpa [hm] using h

set_option maxRecDepth 100000 in
theorem byteSum_calls {w : World} {A : Option Addr} {n c : Nat} {bs : List Nat} (h : Bts w A n c bs) (hn : n ≤ 8) :
    Calls Try.prog 189 #[.slice A n c] w fun e w' => e = .returned (.int .u8 ((sumF bs : Nat) : Int)) ∧ w = w' := by
  have H := hide2 h
  clear h
  go_enter Try.func189, Try.ntmps189
  go_wp2
  go_loop [3, 8] (fun v i => ∃ k : Nat, k ≤ n ∧ i = .int .i64 k ∧ ∃ x : Nat, x < 256 ∧ v = .int .u8 (x : Int) ∧ Hid (x = sumF (bs.take k))) (fun _ i => n - (intOf i).toNat)
  case atStart => exact ⟨0, Nat.zero_le _, rfl, 90, by decide, rfl, rfl⟩
  case round =>
    obtain ⟨k, hk, rfl, x, hx, rfl, hv⟩ := hrel
    by_cases hlt : k < n
    · have hki : (k : Int) < (n : Int) := by omega
      obtain ⟨b, off, y, rfl, hb, hy, hc, hy256⟩ := Bts.get H.out hlt
      have hr := rotI_lt hy256 k
      have NX := hide2 (show x ^^^ rotI y k = sumF (bs.take (k + 1)) by rw [take_snoc hy.out, sumF_snoc, ← hv.out, List.length_take, Nat.min_eq_left (by rw [H.out.len]; omega)])
      have HX := hide2 (u8_xor_nat x (rotI y k) hx hr)
      have hx2 : x ^^^ rotI y k < 256 := Nat.xor_lt_two_pow (n := 8) hx hr
      go_wp2_with (refine (rotate_calls y k hy256 (by omega)).mono ?_; rintro e w' ⟨rfl, rfl⟩)
      go_round
      case rel => exact ⟨k + 1, by omega, by go_num, x ^^^ rotI y k, hx2, by rw [HX.out], NX⟩
      case measure => simp [intOf]; omega
    · obtain rfl : k = n := by omega
      have hv' := hv.out
      rw [List.take_of_length_le (by rw [H.out.len]; exact Nat.le_refl _)] at hv'
      subst hv'
      go_wp2
      go_ret
      exact ⟨rfl, rfl⟩
set_option maxRecDepth 100000 in
theorem small_calls {w : World} (n : Int) :
    Calls Try.prog 188 #[.int .i64 n] w fun e w' => e = .returned (.bool (smallI n)) ∧ w = w' := by
  by_cases h1 : 0 ≤ n
  · have FN := hide2 (show smallI n = decide (n ≤ 255) by simp [smallI, h1])
    go_enter Try.func188, Try.ntmps188
    go_wp2
    go_ret
    exact ⟨ret_bool (by rw [FN.out]), rfl⟩
  · have FN := hide2 (show smallI n = false by simp [smallI, h1])
    go_enter Try.func188, Try.ntmps188
    go_wp2
    go_ret
    exact ⟨ret_bool (by rw [FN.out]), rfl⟩
end Go.Proofs.Ytmnacahoamkokaa
namespace Go.Proofs.Ytmnacahoamkokaa
open Go.RowKit

theorem Box.five {w : World} {b ty : Nat} {u0 u1 u2 u3 u4 : Value} (h : Box w b ty #[u0, u1, u2, u3, u4]) : w.cell? ⟨b, 0, none⟩ = some u0 ∧ w.cell? ⟨b, 1, none⟩ = some u1 ∧ w.cell? ⟨b, 2, none⟩ = some u2 ∧ w.cell? ⟨b, 3, none⟩ = some u3 ∧ w.cell? ⟨b, 4, none⟩ = some u4 := ⟨h.cell 0, h.cell 1, h.cell 2, h.cell 3, h.cell 4⟩
def AnsBE (p : List Nat × Int) (w : World) (e : Ending) (w' : World) : Prop :=
  ∃ A n c, e = .returned (.tuple #[.slice A n c, .int .i64 p.2]) ∧ Bts w' A n c p.1 ∧ Below w.heap.size w w'
theorem AnsBE.no {e : Int} {w w' : World} (hb : Below w.heap.size w w') : AnsBE ([], e) w (.returned (.tuple #[.slice none 0 0, .int .i64 e])) w' := ⟨none, 0, 0, rfl, Sl.nil0, hb⟩
/-- The same, the bytes being the call's own. -/
def AnsBO (p : List Nat × Int) (w : World) (e : Ending) (w' : World) : Prop :=
  ∃ A n c, e = .returned (.tuple #[.slice A n c, .int .i64 p.2]) ∧ OwnSl ByteR 1 w' w.heap.size 5 (.slice A n c) n p.1 ∧ Below w.heap.size w w'
/-- A new row, all of it used. -/
theorem OwnSl.row {α : Type} {R : World → (Nat → Value) → α → Prop} {sz : Nat} {w : World} {B e n : Nat} {us : Array Value} {xs : List α} (hB : B ≤ w.heap.size) (hus : us.size = n * sz) (hn : n ≤ maxLen) (hr : Reads R sz (w.alloc (.cells us e)) us.toList xs) (hl : xs.length = n) :
    OwnSl R sz (w.alloc (.cells us e)) B e (.slice (some ⟨w.heap.size, 0, none⟩) n n) n xs :=
  ⟨us.toList, ⟨by simpa using hus, .inr ⟨w.heap.size, n, us, rfl, hB, heap_alloc_new w _, Nat.le_refl _, hn, hus, by rw [List.take_of_length_le (by simp [hus])]⟩⟩, hr, hl⟩
theorem OwnSl.arr {α : Type} {R : World → (Nat → Value) → α → Prop} {sz : Nat} {w : World} {B e n c : Nat} {a : Addr} {xs : List α} (h : OwnSl R sz w B e (.slice (some a) n c) n xs) (hn : n ≤ 281474976710656) : Sl R sz w (some a) n c xs := by
  obtain ⟨A, k, hv, s⟩ := h.sl hn
  injection hv with h1 h2 h3
  subst h1 h3
  exact s
abbrev OwnBytes (w : World) (B : Nat) (v : Value) (n : Nat) (bs : List Nat) : Prop := OwnSl ByteR 1 w B 5 v n bs
theorem Reads.bytes {w : World} {us : List Value} {bs : List Nat} (h : us = bs.map fun b : Nat => Value.int .u8 (b : Int)) (hb : ∀ b ∈ bs, b < 256) : Reads ByteR 1 w us bs := by
  subst h
  refine ⟨by simp, fun i x hx => ⟨fun _ => .int .u8 (x : Int), fun j hj => ?_, rfl, hb x (List.mem_of_getElem? hx)⟩⟩
  obtain rfl : j = 0 := by omega
  simp [hx]
theorem wpList_appBytes {ops : Array Oper} {rest : List Oper} {o : Oper} {a : Act} {Q : Exit → Act → World → Prop} (hgd : o.guard = none) (s x : Operand)
    (ho : o.op = .call { callee := .builtin .append, args := #[s, x], argTypes := #[155, 155] })
    {w0 w : World} {B : Nat} {v : Value} {n m : Nat} {xs ys : List Nat} {us : Array Value} {H : Nat} (hs : a.eval s = v) (hx : a.eval x = .slice (some ⟨H, 0, none⟩) m m) (hH : H = w.heap.size) (hus : us.toList = ys.map fun b : Nat => Value.int .u8 (b : Int)) (hy : ys.length = m) (hlt : ∀ b ∈ ys, b < 256)
    (own : OwnBytes w B v n xs) (hb : Below B w0 w) (hB : B ≤ w.heap.size) (hn : n + m ≤ 1000)
    (K : ∀ v' w', OwnBytes w' B v' (n + m) (xs ++ ys) → w.grownBy w' v.ownBlock → Below B w0 w' → wpList Try.prog ops Q rest (a.put o.dst v') w') :
    wpList Try.prog ops Q (o :: rest) a (w.alloc (.cells us 5)) :=
  wpList_appNew tyBytes hgd s x ho ys us hs hx hH (by rw [← Array.length_toList, hus, List.length_map, hy, Nat.mul_one]) (by rw [hus]; intro u hu; obtain ⟨b, _, rfl⟩ := List.mem_map.1 hu; rfl) own (Reads.bytes hus hlt) hy hb hB (by omega) (by omega) (fun _ _ _ _ h => h) K
theorem opNat {o : POp} (h : opOk o = true) : ∃ K U T I D : Nat, o = ⟨K, U, T, I, D⟩ ∧ K < 256 ∧ U < 256 ∧ T < 256 ∧ D < 256 ∧ I < 65536 := by
  rw [opOk_iff] at h
  obtain ⟨k, u, t, i, d⟩ := o
  simp only at h
  exact ⟨k.toNat, u.toNat, t.toNat, i.toNat, d.toNat, by simp only [POp.mk.injEq]; omega, by omega, by omega, by omega, by omega, by omega⟩

set_option maxRecDepth 100000 in
theorem write_bad {w : World} (o : POp) (h : ¬ opOk o = true) : Calls Try.prog 158 #[.agg #[.int .i64 o.kind, .int .i64 o.user, .int .i64 o.tran, .int .i64 o.item, .int .i64 o.to_]] w (AnsBE (writeL o) w) := by
  have FN := hide2 (show writeL o = ([], 2) by unfold writeL; rw [if_neg h])
  have HB := hide2 (newBelow w (.cells #[.int .i64 o.kind, .int .i64 o.user, .int .i64 o.tran, .int .i64 o.item, .int .i64 o.to_] 187))
  rw [FN.out]
  obtain ⟨k, u, t, i, d⟩ := o
  simp only at HB ⊢
  simp only [opOk, Bool.and_eq_true, itemI_iff, not_and, and_imp] at h
  have HH := hide2 h
  clear h FN
  obtain ⟨v1, h1⟩ : ∃ v, smallI k = v := ⟨_, rfl⟩
  obtain ⟨v2, h2⟩ : ∃ v, smallI u = v := ⟨_, rfl⟩
  obtain ⟨v3, h3⟩ : ∃ v, smallI t = v := ⟨_, rfl⟩
  obtain ⟨v4, h4⟩ : ∃ v, smallI d = v := ⟨_, rfl⟩
  have H1 := hide2 h1
  have H2 := hide2 h2
  have H3 := hide2 h3
  have H4 := hide2 h4
  clear h1 h2 h3 h4
  cases v1
  · go_enter Try.func158, Try.ntmps158
    go_upto_region 1 with fail
    obtain ⟨c0, c1, c2, c3, c4⟩ := (Box.new w #[.int .i64 k, .int .i64 u, .int .i64 t, .int .i64 i, .int .i64 d] 187).five
    generalize w.alloc (.cells #[.int .i64 k, .int .i64 u, .int .i64 t, .int .i64 i, .int .i64 d] 187) = w0 at *
    go_wp2_with (refine (small_calls _).mono ?_; rintro e w' ⟨rfl, rfl⟩; first | rw [H1.out] | rw [H2.out] | rw [H3.out] | rw [H4.out])
    go_ret2
    exact AnsBE.no HB.out
  ·
    cases v2
    · go_enter Try.func158, Try.ntmps158
      go_upto_region 1 with fail
      obtain ⟨c0, c1, c2, c3, c4⟩ := (Box.new w #[.int .i64 k, .int .i64 u, .int .i64 t, .int .i64 i, .int .i64 d] 187).five
      generalize w.alloc (.cells #[.int .i64 k, .int .i64 u, .int .i64 t, .int .i64 i, .int .i64 d] 187) = w0 at *
      go_wp2_with (refine (small_calls _).mono ?_; rintro e w' ⟨rfl, rfl⟩; first | rw [H1.out] | rw [H2.out] | rw [H3.out] | rw [H4.out])
      go_ret2
      exact AnsBE.no HB.out
    ·
      cases v3
      · go_enter Try.func158, Try.ntmps158
        go_upto_region 1 with fail
        obtain ⟨c0, c1, c2, c3, c4⟩ := (Box.new w #[.int .i64 k, .int .i64 u, .int .i64 t, .int .i64 i, .int .i64 d] 187).five
        generalize w.alloc (.cells #[.int .i64 k, .int .i64 u, .int .i64 t, .int .i64 i, .int .i64 d] 187) = w0 at *
        go_wp2_with (refine (small_calls _).mono ?_; rintro e w' ⟨rfl, rfl⟩; first | rw [H1.out] | rw [H2.out] | rw [H3.out] | rw [H4.out])
        go_ret2
        exact AnsBE.no HB.out
      ·
        cases v4
        · go_enter Try.func158, Try.ntmps158
          go_upto_region 1 with fail
          obtain ⟨c0, c1, c2, c3, c4⟩ := (Box.new w #[.int .i64 k, .int .i64 u, .int .i64 t, .int .i64 i, .int .i64 d] 187).five
          generalize w.alloc (.cells #[.int .i64 k, .int .i64 u, .int .i64 t, .int .i64 i, .int .i64 d] 187) = w0 at *
          go_wp2_with (refine (small_calls _).mono ?_; rintro e w' ⟨rfl, rfl⟩; first | rw [H1.out] | rw [H2.out] | rw [H3.out] | rw [H4.out])
          go_ret2
          exact AnsBE.no HB.out
        · by_cases h5 : i < 0
          · go_enter Try.func158, Try.ntmps158
            go_upto_region 1 with fail
            obtain ⟨c0, c1, c2, c3, c4⟩ := (Box.new w #[.int .i64 k, .int .i64 u, .int .i64 t, .int .i64 i, .int .i64 d] 187).five
            generalize w.alloc (.cells #[.int .i64 k, .int .i64 u, .int .i64 t, .int .i64 i, .int .i64 d] 187) = w0 at *
            go_wp2_with (refine (small_calls _).mono ?_; rintro e w' ⟨rfl, rfl⟩; first | rw [H1.out] | rw [H2.out] | rw [H3.out] | rw [H4.out])
            go_ret2
            exact AnsBE.no HB.out
          · have h6 : 65535 < i := by have := HH.out H1.out H2.out H3.out H4.out; omega
            go_enter Try.func158, Try.ntmps158
            go_upto_region 1 with fail
            obtain ⟨c0, c1, c2, c3, c4⟩ := (Box.new w #[.int .i64 k, .int .i64 u, .int .i64 t, .int .i64 i, .int .i64 d] 187).five
            generalize w.alloc (.cells #[.int .i64 k, .int .i64 u, .int .i64 t, .int .i64 i, .int .i64 d] 187) = w0 at *
            go_wp2_with (refine (small_calls _).mono ?_; rintro e w' ⟨rfl, rfl⟩; first | rw [H1.out] | rw [H2.out] | rw [H3.out] | rw [H4.out])
            go_ret2
            exact AnsBE.no HB.out

set_option maxRecDepth 100000 in
set_option maxHeartbeats 2000000 in
theorem write_good {w : World} (o : POp) (h : opOk o = true) : Calls Try.prog 158 #[.agg #[.int .i64 o.kind, .int .i64 o.user, .int .i64 o.tran, .int .i64 o.item, .int .i64 o.to_]] w (AnsBO (writeL o) w) := by
  have FN := hide2 (show writeL o = (sixB o ++ [sumF (sixB o)], 0) by unfold writeL; rw [if_pos h])
  have LT := hide2 (sixB_lt h)
  obtain ⟨k, u, t, i, d, rfl, hk, hu, ht, hd, hi⟩ := opNat h
  rw [FN.out]
  have H1 := hide2 (show smallI (k : Int) = true by rw [smallI_iff]; omega)
  have H2 := hide2 (show smallI (u : Int) = true by rw [smallI_iff]; omega)
  have H3 := hide2 (show smallI (t : Int) = true by rw [smallI_iff]; omega)
  have H4 := hide2 (show smallI (d : Int) = true by rw [smallI_iff]; omega)
  have HB := hide2 (newBelow w (.cells #[.int .i64 (k : Int), .int .i64 (u : Int), .int .i64 (t : Int), .int .i64 (i : Int), .int .i64 (d : Int)] 187))
  have SX := hide2 (show sixB ⟨k, u, t, i, d⟩ = [k, u, t, d, i / 256, i % 256] by simp [sixB])
  clear h FN
  show Calls Try.prog 158 #[.agg #[.int .i64 (k : Int), .int .i64 (u : Int), .int .i64 (t : Int), .int .i64 (i : Int), .int .i64 (d : Int)]] w _
  rw [SX.out] at LT ⊢
  clear SX
  go_enter Try.func158, Try.ntmps158
  go_upto_region 1 with fail
  obtain ⟨c0, c1, c2, c3, c4⟩ := (Box.new w #[.int .i64 (k : Int), .int .i64 (u : Int), .int .i64 (t : Int), .int .i64 (i : Int), .int .i64 (d : Int)] 187).five
  generalize w.alloc (.cells #[.int .i64 (k : Int), .int .i64 (u : Int), .int .i64 (t : Int), .int .i64 (i : Int), .int .i64 (d : Int)] 187) = w0 at *
  have OW := hide2 (OwnSl.row (R := ByteR) (sz := 1) (w := w0) (B := w.heap.size) (e := 5) (n := 6) (us := #[.int .u8 (k : Int), .int .u8 (u : Int), .int .u8 (t : Int), .int .u8 (d : Int), .int .u8 ((i : Int) / 256), .int .u8 ((i : Int) % 256)]) (xs := [k, u, t, d, i / 256, i % 256]) HB.out.size rfl (by decide) (Reads.bytes (by simp) LT.out) rfl)
  have S1 := hide2 (OW.out.arr (by omega))
  have LS := hide2 (show ∀ b ∈ [sumF [k, u, t, d, i / 256, i % 256]], b < 256 from fun b hb => by rw [List.mem_singleton.1 hb]; exact sumF_lt LT.out)
  have B1 := hide2 (HB.out.trans ((newBelow w0 (.cells #[.int .u8 (k : Int), .int .u8 (u : Int), .int .u8 (t : Int), .int .u8 (d : Int), .int .u8 ((i : Int) / 256), .int .u8 ((i : Int) % 256)] 5)).mono HB.out.size))
  go_wp2_with (first
    | ((with_reducible refine (small_calls _).mono ?_); rintro e w' ⟨rfl, rfl⟩; first | rw [H1.out] | rw [H2.out] | rw [H3.out] | rw [H4.out])
    | ((with_reducible refine (byteSum_calls S1.out (by omega)).mono ?_); rintro e w' ⟨rfl, rfl⟩; clear c0 c1 c2 c3 c4; generalize w0.alloc (.cells #[.int .u8 (k : Int), .int .u8 (u : Int), .int .u8 (t : Int), .int .u8 (d : Int), .int .u8 ((i : Int) / 256), .int .u8 ((i : Int) % 256)] 5) = w1 at *; generalize w0.heap.size = g at *; generalize hy : sumF [k, u, t, d, i / 256, i % 256] = y at *)
    | (at_builtin; refine wpList_appBytes rfl _ _ rfl (m := 1) (ys := [y]) rfl rfl (by first | rfl | simp) (by first | rfl | simp) rfl LS.out OW.out B1.out B1.out.size (by omega) ?_; intro v2 w2 own2 hg2 hb2))
  obtain ⟨A2, c2, hv2, _⟩ := own2.sl (by omega)
  subst hv2
  go_ret2
  exact ⟨A2, 7, c2, rfl, own2, hb2⟩
theorem write_calls {w : World} (o : POp) : Calls Try.prog 158 #[.agg #[.int .i64 o.kind, .int .i64 o.user, .int .i64 o.tran, .int .i64 o.item, .int .i64 o.to_]] w (AnsBE (writeL o) w) := by
  by_cases h : opOk o = true
  · refine (write_good o h).mono ?_
    rintro e w' ⟨A, n, c, rfl, own, hb⟩
    have hn : n = 7 := by rw [← own.len, writeL, if_pos h]; rfl
    obtain ⟨A2, c2, hv, s2⟩ := own.sl (by omega)
    injection hv with e1 _ e2
    subst e1 e2
    exact ⟨A, n, c, rfl, s2, hb⟩
  · exact write_bad o h
end Go.Proofs.Ytmnacahoamkokaa
namespace Go.Proofs.Ytmnacahoamkokaa
open Go.RowKit

def fourL (o : POp) : List Int := [o.kind, o.user, o.tran, o.to_]
theorem opOk_four (o : POp) : opOk o = true ↔ (∀ x ∈ fourL o, 0 ≤ x ∧ x ≤ 255) ∧ 0 ≤ o.item ∧ o.item ≤ 65535 := by
  rw [opOk_iff]
  simp [fourL]
  omega
theorem fourBad {o : POp} {k : Nat} {x : Int} (hx : (fourL o)[k]? = some x) (h : x < 0 ∨ 255 < x) : writeL o = ([], 2) := by
  unfold writeL
  rw [if_neg]
  intro hok
  have := ((opOk_four o).1 hok).1 x (List.mem_of_getElem? hx)
  omega
theorem sixB_four (o : POp) : sixB o = (fourL o).map Int.toNat ++ [o.item.toNat / 256, o.item.toNat % 256] := by simp [sixB, fourL]
theorem Ints.box {w : World} {g n : Nat} {us : Array Value} {xs : List Int} (h : Box w g 3 us) (hu : us.toList = xs.map (Value.int .i64)) (hl : xs.length = n) (hn : n ≤ 1000) : Ints w (some ⟨g, 0, none⟩) n n xs :=
  ⟨hl, Nat.le_refl _, by simp only [maxLen]; omega, by omega, fun e => (by cases e), fun _ => ⟨g, 0, rfl, h.lt, fun i x hx => ⟨fun _ => .int .i64 x, fun j hj => by
    obtain rfl : j = 0 := by omega
    rw [h.cell, ← Array.getElem?_toList, hu, List.getElem?_map]
    simp [hx], rfl⟩⟩⟩
theorem OwnSl.notBox {α : Type} {R : World → (Nat → Value) → α → Prop} {sz : Nat} {w : World} {B e : Nat} {v : Value} {n : Nat} {xs : List α} {b ty : Nat} {cs : Array Value} (own : OwnSl R sz w B e v n xs) (x : Box w b ty cs) (hne : e ≠ ty) : v.ownBlock ≠ some b := by
  intro hv
  obtain ⟨cells, o1, _⟩ := own
  rcases o1.2 with ⟨rfl, _⟩ | ⟨g, cap, cur, rfl, _, hh, _⟩
  · cases hv
  · simp only [Value.ownBlock, Option.some.injEq] at hv
    subst hv
    have h2 : w.heap[g]? = some (.cells cs ty (0, 0)) := x
    rw [hh] at h2
    injection h2 with h2
    injection h2 with _ ht
    exact hne ht

set_option maxRecDepth 100000 in
set_option maxHeartbeats 2000000 in
theorem refWrite_calls {w : World} (o : POp) : Calls Try.prog 105 #[.agg #[.int .i64 o.kind, .int .i64 o.user, .int .i64 o.tran, .int .i64 o.item, .int .i64 o.to_]] w (AnsBE (writeL o) w) := by
  have HB := hide2 (newBelow w (.cells #[.int .i64 o.kind, .int .i64 o.user, .int .i64 o.tran, .int .i64 o.item, .int .i64 o.to_] 187))
  have X0 := hide2 (Box.new w #[.int .i64 o.kind, .int .i64 o.user, .int .i64 o.tran, .int .i64 o.item, .int .i64 o.to_] 187)
  obtain ⟨L, hL⟩ : ∃ L, fourL o = L := ⟨_, rfl⟩
  have HL := hide2 hL
  have hlen : L.length = 4 := by rw [← hL]; rfl
  have HLEN := hide2 hlen
  have HROW := hide2 (show [Value.int .i64 o.kind, .int .i64 o.user, .int .i64 o.tran, .int .i64 o.to_] = L.map (Value.int .i64) by rw [← hL]; rfl)
  clear hL hlen
  go_enter Try.func105, Try.ntmps105
  go_upto_region 1 with fail
  generalize w.alloc (.cells #[.int .i64 o.kind, .int .i64 o.user, .int .i64 o.tran, .int .i64 o.item, .int .i64 o.to_] 187) = w0 at *
  have O0 := hide2 (OwnSl.empty (R := ByteR) (sz := 1) (w := w0) (B := w.heap.size) (e := 5) HB.out.size)
  have B1 := hide2 (HB.out.trans ((newBelow w0 (.cells #[] 5)).mono HB.out.size))
  have X1 := hide2 (X0.out.old (.cells #[] 5))
  go_upto_region 2 with fail
  clear X0
  generalize w0.alloc (.cells #[] 5) = w1 at *
  generalize w0.heap.size = g0 at *
  obtain ⟨c0, c1, c2, c3, c4⟩ := X1.out.five
  have R2 := hide2 (Box.new w1 #[.int .i64 o.kind, .int .i64 o.user, .int .i64 o.tran, .int .i64 o.to_] 3)
  have B2 := hide2 (newBelow w1 (.cells #[.int .i64 o.kind, .int .i64 o.user, .int .i64 o.tran, .int .i64 o.to_] 3))
  have O2 := hide2 (OwnSl.keep ByteR.kept O0.out B2.out)
  have X2 := hide2 (X1.out.old (.cells #[.int .i64 o.kind, .int .i64 o.user, .int .i64 o.tran, .int .i64 o.to_] 3))
  go_wp2
  clear c0 c1 c2 c3 c4 O0
  have BX := hide2 (B1.out.trans (B2.out.mono B1.out.size))
  generalize w1.alloc (.cells #[.int .i64 o.kind, .int .i64 o.user, .int .i64 o.tran, .int .i64 o.to_] 3) = w2 at *
  generalize w1.heap.size = g1 at *
  go_loopw [4, 20] (fun u v wr => ∃ k : Nat, k ≤ 4 ∧ v = .int .i64 k ∧ Hid (OwnBytes wr w.heap.size u k ((L.take k).map Int.toNat)) ∧ Hid (∀ x ∈ L.take k, 0 ≤ x ∧ x ≤ 255) ∧ Hid (Below w.heap.size w wr) ∧ Hid (Box wr g1 3 #[.int .i64 o.kind, .int .i64 o.user, .int .i64 o.tran, .int .i64 o.to_]) ∧ Hid (Box wr w.heap.size 187 #[.int .i64 o.kind, .int .i64 o.user, .int .i64 o.tran, .int .i64 o.item, .int .i64 o.to_])) (fun _ v _ => 4 - (intOf v).toNat)
  case atStart => exact ⟨0, Nat.zero_le _, rfl, O2.out, fun x hx => by simp at hx, BX.out, R2.out, X2.out⟩
  case round =>
    obtain ⟨k, hk, rfl, OW, AL, BR, RR, XR⟩ := hrel
    by_cases hlt : k < 4
    · have hki : (k : Int) < 4 := by omega
      obtain ⟨bq, off, x, eq1, hbq, hx, hc⟩ := (Ints.box RR.out HROW.out HLEN.out (by omega)).get hlt
      injection eq1 with eq1
      injection eq1 with eq1 eq2
      subst eq1 eq2
      rw [Nat.zero_add] at hc
      have hk4 : k ≤ 4 := hk
      by_cases hb : x < 0 ∨ 255 < x
      · have FN := hide2 (show writeL o = ([], 2) from fourBad (by rw [HL.out]; exact hx.out) hb)
        rw [FN.out]
        by_cases h1 : x < 0
        · go_wp2
          go_ret2
          exact AnsBE.no BR.out
        · have h2 : 256 ≤ x := by omega
          clear hb
          go_wp2
          go_ret2
          exact AnsBE.no BR.out
      · obtain ⟨y, rfl⟩ : ∃ y : Nat, x = (y : Int) := ⟨x.toNat, by omega⟩
        have hy : y < 256 := by omega
        have TK := hide2 (take_snoc hx.out)
        have AL2 := hide2 (show ∀ z ∈ L.take (k + 1), 0 ≤ z ∧ z ≤ 255 from fun z hz => by
          rw [TK.out] at hz
          rcases List.mem_append.1 hz with h | h
          · exact AL.out z h
          · rw [List.mem_singleton.1 h]; omega)
        have LS := hide2 (show ∀ b ∈ [y], b < 256 from fun b hb => by rw [List.mem_singleton.1 hb]; exact hy)
        have N1 := hide2 (OW.out.notBox RR.out (by decide))
        have N2 := hide2 (OW.out.notBox XR.out (by decide))
        clear hb
        go_wp2_with (at_builtin; refine wpList_appBytes rfl _ _ rfl (m := 1) (ys := [y]) rfl rfl (by first | rfl | simp) (by first | rfl | simp) rfl LS.out OW.out BR.out BR.out.size (by omega) ?_; intro v2 w3 own2 hg2 hb2; have OX := hide2 own2; have GX := hide2 hg2; have BZ := hide2 hb2; clear own2 hg2 hb2)
        go_roundw
        case rel =>
          refine ⟨k + 1, by omega, by go_num, ?_, AL2, BZ, RR.out.grown GX.out N1.out, XR.out.grown GX.out N2.out⟩
          rw [TK.out, List.map_append]
          exact OX
        case measure => simp [intOf]; omega
    · obtain rfl : k = 4 := by omega
      rw [List.take_of_length_le (by rw [HLEN.out]; exact Nat.le_refl _)] at OW AL
      have OF := hide2 (opOk_four o)
      rw [HL.out] at OF
      clear HB B1 B2 BX O2 R2 X1 X2 RR
      obtain ⟨it, hit⟩ : ∃ it, o.item = it := ⟨_, rfl⟩
      have HIT := hide2 hit
      obtain ⟨c0, c1, c2, c3, c4⟩ := XR.out.five
      rw [hit] at c3
      clear c0 c1 c2 c4 hit
      by_cases hb : it < 0 ∨ 65535 < it
      · have FN := hide2 (show writeL o = ([], 2) by unfold writeL; rw [if_neg]; intro h; have := OF.out.1 h; have := HIT.out; omega)
        by_cases h1 : it < 0
        · go_wp2
          go_ret2
          rw [FN.out]
          exact AnsBE.no BR.out
        · have h2 : 65536 ≤ it := by omega
          clear hb
          go_wp2
          go_ret2
          rw [FN.out]
          exact AnsBE.no BR.out
      · obtain ⟨m, rfl⟩ : ∃ m : Nat, it = (m : Int) := ⟨it.toNat, by omega⟩
        have hm : m < 65536 := by omega
        have hok : opOk o = true := OF.out.2 ⟨AL.out, by have := HIT.out; omega, by have := HIT.out; omega⟩
        have FN := hide2 (show writeL o = (sixB o ++ [sumF (sixB o)], 0) by unfold writeL; rw [if_pos hok])
        have S6 := hide2 (show L.map Int.toNat ++ [m / 256, m % 256] = sixB o by rw [sixB_four, HL.out, HIT.out]; simp)
        have L6 := hide2 (show (sixB o).length = 6 from rfl)
        have LT6 := hide2 (sixB_lt hok)
        clear hb hok OF
        generalize sixB o = six at *
        have LS := hide2 (show ∀ b ∈ [m / 256, m % 256], b < 256 from fun b hb => by simp at hb; omega)
        go_upto_region 12 with (at_builtin; refine wpList_appBytes rfl _ _ rfl (m := 2) (ys := [m / 256, m % 256]) rfl rfl (by first | rfl | simp) (by first | rfl | simp | trace_state) rfl LS.out OW.out BR.out BR.out.size (by omega) ?_; intro v2 w3 own2 hg2 hb2; have OX := hide2 own2; have BZ := hide2 hb2; clear own2 hg2 hb2)
        have O6 := hide2 (show OwnBytes w3 w.heap.size v2 6 six by have := OX.out; rw [S6.out] at this; exact this)
        obtain ⟨A6, k6, hv6, s6⟩ := O6.out.sl (by omega)
        have H6 := hide2 s6
        subst hv6
        clear OX OW XR s6
        go_wp2
        go_loop [7, 57] (fun v i => ∃ k : Nat, k ≤ 6 ∧ i = .int .i64 k ∧ ∃ x : Nat, x < 256 ∧ v = .int .u8 (x : Int) ∧ Hid (x = sumF (six.take k))) (fun _ i => 6 - (intOf i).toNat)
        case atStart => exact ⟨0, Nat.zero_le _, rfl, 90, by decide, rfl, rfl⟩
        case round =>
          obtain ⟨k, hk, rfl, x, hx, rfl, hv⟩ := hrel
          by_cases hlt : k < 6
          · have hki : (k : Int) < 6 := by omega
            obtain ⟨b, off, y, rfl, hb, hy, hc, hy256⟩ := Bts.get H6.out hlt
            have hr := rotI_lt hy256 k
            have NX := hide2 (show x ^^^ rotI y k = sumF (six.take (k + 1)) by rw [take_snoc hy.out, sumF_snoc, ← hv.out, List.length_take, Nat.min_eq_left (by rw [L6.out]; omega)])
            have HX := hide2 (u8_xor_nat x (rotI y k) hx hr)
            have hx2 : x ^^^ rotI y k < 256 := Nat.xor_lt_two_pow (n := 8) hx hr
            go_wp2_with (refine (rturn_calls y k hy256 (by omega)).mono ?_; rintro e w' ⟨rfl, rfl⟩)
            go_round
            case rel => exact ⟨k + 1, by omega, by go_num, x ^^^ rotI y k, hx2, by rw [HX.out], NX⟩
            case measure => simp [intOf]; omega
          · obtain rfl : k = 6 := by omega
            have hv' := hv.out
            rw [List.take_of_length_le (by rw [L6.out]; exact Nat.le_refl _)] at hv'
            have HV := hide2 hv'
            have LX := hide2 (show ∀ b ∈ [x], b < 256 from fun b hb => by rw [List.mem_singleton.1 hb]; exact hx)
            clear hv hv'
            go_wp2_with (at_builtin; refine wpList_appBytes rfl _ _ rfl (m := 1) (ys := [x]) rfl rfl (by first | rfl | simp) (by first | rfl | simp) rfl LX.out O6.out BZ.out BZ.out.size (by omega) ?_; intro v7 w7 own7 hg7 hb7)
            obtain ⟨A7, k7, hv7, s7⟩ := own7.sl (by omega)
            subst hv7
            go_ret2
            rw [FN.out, ← HV.out]
            exact ⟨A7, 7, k7, rfl, s7, hb7⟩
end Go.Proofs.Ytmnacahoamkokaa
