/- The plain law of the journal: bytes of what is done at a desk, and back. No program in sight. | What bytes and things done at a desk read as; contracts of the sum of bytes. Conditions: the slices read as lists. | The contracts of journal.Write and RWrite. Conditions: none. | The contract of RWrite. Conditions: none. -/
import Derived.Test.YtnfppolgaeibeaaOwnB
import Derived.Test.YtnfppolgaeibeaaBox
import Derived.Laws.BitsAllLaws
import Derived.Laws.Shifts
import Derived.Laws.BytesArg
import Derived.Deep.DeepCutAuto
namespace Go.Proofs.Ytnfppolgaeibeaa

def rotS (b : Nat) : Nat := b * 2 % 256 + b / 128
def rotI (b : Nat) : Nat → Nat
  | 0 => b
  | k + 1 => rotS (rotI b k)
theorem rotS_lt {b : Nat} (h : b < 256) : rotS b < 256 := by unfold rotS; omega
theorem rotI_lt {b : Nat} (h : b < 256) : ∀ k, rotI b k < 256
  | 0 => h
  | k + 1 => rotS_lt (rotI_lt h k)
def sumF (bs : List Nat) : Nat := bs.zipIdx.foldl (fun x p => x ^^^ rotI p.1 p.2) 90
theorem sumF_snoc (bs : List Nat) (b : Nat) : sumF (bs ++ [b]) = sumF bs ^^^ rotI b bs.length := by
  unfold sumF
  rw [List.zipIdx_append, List.foldl_append]
  simp
theorem sumF_lt {bs : List Nat} (h : ∀ b ∈ bs, b < 256) : sumF bs < 256 := by
  have key : ∀ n, ∀ l : List Nat, l.length = n → (∀ b ∈ l, b < 256) → sumF l < 256 := by
    intro n
    induction n with
    | zero => intro l hl _; rw [List.eq_nil_of_length_eq_zero hl]; decide
    | succ n ih =>
      intro l hl hb
      obtain ⟨a, b, rfl⟩ : ∃ a b, l = a ++ [b] := ⟨l.dropLast, l.getLast (by intro e; subst e; simp at hl), (List.dropLast_concat_getLast _).symm⟩
      rw [sumF_snoc]
      exact Nat.xor_lt_two_pow (n := 8) (ih a (by simpa using hl) (fun x hx => hb x (List.mem_append_left _ hx))) (rotI_lt (hb b (by simp)) _)
  exact key _ bs rfl h

structure POp where
  kind : Int
  user : Int
  tran : Int
  item : Int
  to_ : Int
def smallI (n : Int) : Bool := decide (0 ≤ n) && decide (n ≤ 255)
theorem smallI_iff (n : Int) : smallI n = true ↔ 0 ≤ n ∧ n ≤ 255 := by simp [smallI]
def itemI (n : Int) : Bool := decide (0 ≤ n) && decide (n ≤ 65535)
theorem itemI_iff (n : Int) : itemI n = true ↔ 0 ≤ n ∧ n ≤ 65535 := by simp [itemI]
def opOk (o : POp) : Bool := smallI o.kind && smallI o.user && smallI o.tran && smallI o.to_ && itemI o.item
def sixB (o : POp) : List Nat := [o.kind.toNat, o.user.toNat, o.tran.toNat, o.to_.toNat, o.item.toNat / 256, o.item.toNat % 256]
def writeL (o : POp) : List Nat × Int := if opOk o = true then (sixB o ++ [sumF (sixB o)], 0) else ([], 2)
theorem opOk_iff (o : POp) : opOk o = true ↔ (0 ≤ o.kind ∧ o.kind ≤ 255) ∧ (0 ≤ o.user ∧ o.user ≤ 255) ∧ (0 ≤ o.tran ∧ o.tran ≤ 255) ∧ (0 ≤ o.to_ ∧ o.to_ ≤ 255) ∧ (0 ≤ o.item ∧ o.item ≤ 65535) := by
  unfold opOk
  simp only [Bool.and_eq_true, smallI_iff, itemI_iff, and_assoc]
theorem sixB_lt {o : POp} (h : opOk o = true) : ∀ b ∈ sixB o, b < 256 := by
  rw [opOk_iff] at h
  intro b hb
  simp only [sixB, List.mem_cons, List.not_mem_nil, or_false] at hb
  omega
def opOf (bs : List Nat) : POp := ⟨bs.getD 0 0, bs.getD 1 0, bs.getD 2 0, ((bs.getD 4 0 * 256 + bs.getD 5 0 : Nat) : Int), bs.getD 3 0⟩
theorem opOf_ok {bs : List Nat} (h : ∀ b ∈ bs, b < 256) : opOk (opOf bs) = true := by
  have g : ∀ i, bs.getD i 0 < 256 := fun i => by
    rw [List.getD_eq_getElem?_getD]
    cases hi : bs[i]? with
    | none => simp
    | some x => exact h x (List.mem_of_getElem? hi)
  rw [opOk_iff]
  have h0 := g 0
  have h1 := g 1
  have h2 := g 2
  have h3 := g 3
  have h4 := g 4
  have h5 := g 5
  unfold opOf
  simp only []
  omega
theorem sixB_opOf {a b c d e f : Nat} (r : List Nat) (he : f < 256) : sixB (opOf (a :: b :: c :: d :: e :: f :: r)) = [a, b, c, d, e, f] := by
  simp only [sixB, opOf, List.getD_cons_zero, List.getD_cons_succ, Int.toNat_natCast]
  rw [show (e * 256 + f) / 256 = e from by omega, show (e * 256 + f) % 256 = f from by omega]
def readL (bs : List Nat) : List POp × Int × Int :=
  if h : bs.length < 7 then ([], 0, 0)
  else if sumF (bs.take 6) = bs.getD 6 0 then (opOf bs :: (readL (bs.drop 7)).1, (readL (bs.drop 7)).2.1 + 7, (readL (bs.drop 7)).2.2)
  else ([], 0, 8)
termination_by bs.length
decreasing_by all_goals (rw [List.length_drop]; omega)
theorem readL_short {bs : List Nat} (h : bs.length < 7) : readL bs = ([], 0, 0) := by rw [readL, dif_pos h]
theorem readL_bad {bs : List Nat} (h : ¬ bs.length < 7) (hs : sumF (bs.take 6) ≠ bs.getD 6 0) : readL bs = ([], 0, 8) := by rw [readL, dif_neg h, if_neg hs]
theorem readL_good {bs : List Nat} (h : ¬ bs.length < 7) (hs : sumF (bs.take 6) = bs.getD 6 0) : readL bs = (opOf bs :: (readL (bs.drop 7)).1, (readL (bs.drop 7)).2.1 + 7, (readL (bs.drop 7)).2.2) := by rw [readL, dif_neg h, if_pos hs]
theorem readL_len (bs : List Nat) : (readL bs).1.length * 7 ≤ bs.length := by
  induction h : bs.length using Nat.strongRecOn generalizing bs with
  | _ n ih =>
    by_cases h1 : bs.length < 7
    · rw [readL_short h1]; simp
    · by_cases h2 : sumF (bs.take 6) = bs.getD 6 0
      · rw [readL_good h1 h2]
        have := ih (bs.drop 7).length (by rw [List.length_drop]; omega) (bs.drop 7) rfl
        simp only [List.length_cons, List.length_drop] at this ⊢
        omega
      · rw [readL_bad h1 h2]; simp
theorem readL_at (bs : List Nat) : 0 ≤ (readL bs).2.1 ∧ (readL bs).2.1 ≤ bs.length := by
  induction h : bs.length using Nat.strongRecOn generalizing bs with
  | _ n ih =>
    by_cases h1 : bs.length < 7
    · rw [readL_short h1]; simp
    · by_cases h2 : sumF (bs.take 6) = bs.getD 6 0
      · rw [readL_good h1 h2]
        have := ih (bs.drop 7).length (by rw [List.length_drop]; omega) (bs.drop 7) rfl
        simp only [List.length_drop] at this ⊢
        omega
      · rw [readL_bad h1 h2]; simp
/-- So far, as one goes on from 7 to 7. -/
structure ReadI (bs : List Nat) (j : Nat) (out : List POp) : Prop where
  eq : readL bs = (out ++ (readL (bs.drop (7 * j))).1, ((7 * j : Nat) : Int) + (readL (bs.drop (7 * j))).2.1, (readL (bs.drop (7 * j))).2.2)
  len : out.length = j
theorem ReadI.start (bs : List Nat) : ReadI bs 0 [] := ⟨by simp, rfl⟩
theorem ReadI.next {bs : List Nat} {j : Nat} {out : List POp} (h : ReadI bs j out) (hl : 7 * j + 7 ≤ bs.length) (hs : sumF ((bs.drop (7 * j)).take 6) = (bs.drop (7 * j)).getD 6 0) : ReadI bs (j + 1) (out ++ [opOf (bs.drop (7 * j))]) := by
  refine ⟨?_, by simp [h.len]⟩
  rw [h.eq, readL_good (by rw [List.length_drop]; omega) hs, List.drop_drop, show 7 * j + 7 = 7 * (j + 1) from by omega]
  simp only [List.append_assoc, List.singleton_append, Prod.mk.injEq, true_and, and_true]
  omega
theorem ReadI.bad {bs : List Nat} {j : Nat} {out : List POp} (h : ReadI bs j out) (hl : 7 * j + 7 ≤ bs.length) (hs : sumF ((bs.drop (7 * j)).take 6) ≠ (bs.drop (7 * j)).getD 6 0) : readL bs = (out, ((7 * j : Nat) : Int), 8) := by
  rw [h.eq, readL_bad (by rw [List.length_drop]; omega) hs]; simp
theorem ReadI.fin {bs : List Nat} {j : Nat} {out : List POp} (h : ReadI bs j out) (hl : bs.length < 7 * j + 7) : readL bs = (out, ((7 * j : Nat) : Int), 0) := by
  rw [h.eq, readL_short (by rw [List.length_drop]; omega)]; simp
end Go.Proofs.Ytnfppolgaeibeaa
namespace Go.Proofs.Ytnfppolgaeibeaa
open Go.RowKit

theorem newBelow (w : World) (o : Obj) : Below w.heap.size w (w.alloc o) := (Below.refl _ _).alloc (Nat.le_refl _) _
theorem belowN (w : World) (q : Nat) : Below w.heap.size w (w.drewN q) := ⟨rfl, rfl, rfl, Nat.le_refl _, fun _ _ => rfl⟩
def ByteR : World → (Nat → Value) → Nat → Prop := fun _ vs b => vs 0 = .int .u8 (b : Int) ∧ b < 256
theorem ByteR.kept : Kept ByteR := fun _ _ _ _ _ h => h
theorem ByteR.good : Good ByteR 1 where
  kept := ByteR.kept
  one := fun w vs x h j hj => by
    obtain rfl : j = 0 := by omega
    rw [h.1]; rfl
  pos := by omega
abbrev Bts (w : World) (A : Option Addr) (n c : Nat) (bs : List Nat) : Prop := Sl ByteR 1 w A n c bs
theorem Bts.get {w : World} {A : Option Addr} {n c k : Nat} {bs : List Nat} (h : Bts w A n c bs) (hk : k < n) :
    ∃ b off x, A = some ⟨b, off, none⟩ ∧ b < w.heap.size ∧ Hid (bs[k]? = some x) ∧ w.cell? ⟨b, off + k, none⟩ = some (.int .u8 (x : Int)) ∧ x < 256 := by
  obtain ⟨b, off, x, vs, h1, h2, h3, h4, h5, h6⟩ := Sl.get h hk
  refine ⟨b, off, x, h1, h2, h3, ?_, h6⟩
  have := h4 0 (by omega)
  rw [h5] at this
  simpa using this
theorem Bts.lt {w : World} {A : Option Addr} {n c : Nat} {bs : List Nat} (h : Bts w A n c bs) : ∀ b ∈ bs, b < 256 := by
  intro b hb
  obtain ⟨i, hi, rfl⟩ := List.getElem_of_mem hb
  obtain ⟨_, _, x, _, _, hx, _, hlt⟩ := Bts.get h (k := i) (by rw [← h.len]; exact hi)
  have := hx.out
  rw [List.getElem?_eq_getElem hi] at this
  injection this with this
  omega
/-- A piece of a slice of one-cell elements. -/
theorem Sl.piece {α : Type} {R : World → (Nat → Value) → α → Prop} {w : World} {b off n c i k : Nat} {xs : List α} (h : Sl R 1 w (some ⟨b, off, none⟩) n c xs) (hik : i + k ≤ n) (hk : 0 < k) :
    Sl R 1 w (some ⟨b, off + i, none⟩) k (c - i) ((xs.drop i).take k) := by
  have hl := h.len
  have hle := h.le
  have hcap := h.cap
  have hsm := h.small
  refine ⟨by rw [List.length_take, List.length_drop]; omega, by omega, by omega, by omega, fun e => (by cases e), fun _ => ?_⟩
  obtain ⟨b', off', e, hb, hc⟩ := h.cells (by omega)
  injection e with e
  injection e with e1 e2
  subst e1 e2
  refine ⟨b, off + i, rfl, hb, fun j x hx => ?_⟩
  rw [List.getElem?_take] at hx
  split at hx
  · rw [List.getElem?_drop] at hx
    obtain ⟨vs, a1, a2⟩ := hc _ _ hx
    refine ⟨vs, fun q hq => ?_, a2⟩
    have := a1 q hq
    rw [show off + ((i + j) * 1 + q) = off + i + (j * 1 + q) from by omega] at this
    exact this
  · cases hx
theorem tyBytes : SlTy 209 5 1 1 := SlTy.mk' (z := .int .u8 0) Try.underlying209 (by kernel_rfl) rfl (by decide)

/-! ### bits turned to the left -/
theorem turnBits : ∀ k, k < 8 → ∀ b, b < 256 → (b * 2 ^ k % 256) ||| (b / 2 ^ (8 - k)) = rotI b k := by decide +kernel
end Go.Proofs.Ytnfppolgaeibeaa
namespace Go.Proofs.Ytnfppolgaeibeaa
open Go.RowKit

theorem Box.five {w : World} {b ty : Nat} {u0 u1 u2 u3 u4 : Value} (h : Box w b ty #[u0, u1, u2, u3, u4]) : w.cell? ⟨b, 0, none⟩ = some u0 ∧ w.cell? ⟨b, 1, none⟩ = some u1 ∧ w.cell? ⟨b, 2, none⟩ = some u2 ∧ w.cell? ⟨b, 3, none⟩ = some u3 ∧ w.cell? ⟨b, 4, none⟩ = some u4 := ⟨h.cell 0, h.cell 1, h.cell 2, h.cell 3, h.cell 4⟩
def AnsBE (p : List Nat × Int) (w : World) (e : Ending) (w' : World) : Prop :=
  ∃ A n c, e = .returned (.tuple #[.slice A n c, .int .i64 p.2]) ∧ Bts w' A n c p.1 ∧ Below w.heap.size w w'
theorem AnsBE.no {e : Int} {w w' : World} (hb : Below w.heap.size w w') : AnsBE ([], e) w (.returned (.tuple #[.slice none 0 0, .int .i64 e])) w' := ⟨none, 0, 0, rfl, Sl.nil0, hb⟩
/-- The same, the bytes being the call's own. -/
def AnsBO (p : List Nat × Int) (w : World) (e : Ending) (w' : World) : Prop :=
  ∃ A n c, e = .returned (.tuple #[.slice A n c, .int .i64 p.2]) ∧ OwnSl ByteR 1 w' w.heap.size 5 (.slice A n c) n p.1 ∧ Below w.heap.size w w'
/-- A new row, all of it used. -/
theorem OwnSl.row {α : Type} {R : World → (Nat → Value) → α → Prop} {sz : Nat} {w : World} {B e n : Nat} {us : Array Value} {xs : List α} (hB : B ≤ w.heap.size) (hus : us.size = n * sz) (hn : n ≤ maxLen) (hr : Reads R sz (w.alloc (.cells us e)) us.toList xs) (hl : xs.length = n) :
    OwnSl R sz (w.alloc (.cells us e)) B e (.slice (some ⟨w.heap.size, 0, none⟩) n n) n xs :=
  ⟨us.toList, ⟨by simpa using hus, .inr ⟨w.heap.size, n, us, rfl, hB, heap_alloc_new w _, Nat.le_refl _, hn, hus, by rw [List.take_of_length_le (by simp [hus])]⟩⟩, hr, hl⟩
theorem OwnSl.arr {α : Type} {R : World → (Nat → Value) → α → Prop} {sz : Nat} {w : World} {B e n c : Nat} {a : Addr} {xs : List α} (h : OwnSl R sz w B e (.slice (some a) n c) n xs) (hn : n ≤ 281474976710656) : Sl R sz w (some a) n c xs := by
  obtain ⟨A, k, hv, s⟩ := h.sl hn
  injection hv with h1 h2 h3
  subst h1 h3
  exact s
abbrev OwnBytes (w : World) (B : Nat) (v : Value) (n : Nat) (bs : List Nat) : Prop := OwnSl ByteR 1 w B 5 v n bs
theorem Reads.bytes {w : World} {us : List Value} {bs : List Nat} (h : us = bs.map fun b : Nat => Value.int .u8 (b : Int)) (hb : ∀ b ∈ bs, b < 256) : Reads ByteR 1 w us bs := by
  subst h
  refine ⟨by simp, fun i x hx => ⟨fun _ => .int .u8 (x : Int), fun j hj => ?_, rfl, hb x (List.mem_of_getElem? hx)⟩⟩
  obtain rfl : j = 0 := by omega
  simp [hx]
theorem wpList_appBytes {ops : Array Oper} {rest : List Oper} {o : Oper} {a : Act} {Q : Exit → Act → World → Prop} (hgd : o.guard = none) (s x : Operand)
    (ho : o.op = .call { callee := .builtin .append, args := #[s, x], argTypes := #[209, 209] })
    {w0 w : World} {B : Nat} {v : Value} {n m : Nat} {xs ys : List Nat} {us : Array Value} {H : Nat} (hs : a.eval s = v) (hx : a.eval x = .slice (some ⟨H, 0, none⟩) m m) (hH : H = w.heap.size) (hus : us.toList = ys.map fun b : Nat => Value.int .u8 (b : Int)) (hy : ys.length = m) (hlt : ∀ b ∈ ys, b < 256)
    (own : OwnBytes w B v n xs) (hb : Below B w0 w) (hB : B ≤ w.heap.size) (hn : n + m ≤ 1000)
    (K : ∀ v' w', OwnBytes w' B v' (n + m) (xs ++ ys) → w.grownBy w' v.ownBlock → Below B w0 w' → wpList Try.prog ops Q rest (a.put o.dst v') w') :
    wpList Try.prog ops Q (o :: rest) a (w.alloc (.cells us 5)) :=
  wpList_appNew tyBytes hgd s x ho ys us hs hx hH (by rw [← Array.length_toList, hus, List.length_map, hy, Nat.mul_one]) (by rw [hus]; intro u hu; obtain ⟨b, _, rfl⟩ := List.mem_map.1 hu; rfl) own (Reads.bytes hus hlt) hy hb hB (by omega) (by omega) (fun _ _ _ _ h => h) K
theorem opNat {o : POp} (h : opOk o = true) : ∃ K U T I D : Nat, o = ⟨K, U, T, I, D⟩ ∧ K < 256 ∧ U < 256 ∧ T < 256 ∧ D < 256 ∧ I < 65536 := by
  rw [opOk_iff] at h
  obtain ⟨k, u, t, i, d⟩ := o
  simp only at h
  exact ⟨k.toNat, u.toNat, t.toNat, i.toNat, d.toNat, by simp only [POp.mk.injEq]; omega, by omega, by omega, by omega, by omega, by omega⟩

end Go.Proofs.Ytnfppolgaeibeaa
namespace Go.Proofs.Ytnfppolgaeibeaa
open Go.RowKit

def fourL (o : POp) : List Int := [o.kind, o.user, o.tran, o.to_]
theorem opOk_four (o : POp) : opOk o = true ↔ (∀ x ∈ fourL o, 0 ≤ x ∧ x ≤ 255) ∧ 0 ≤ o.item ∧ o.item ≤ 65535 := by
  rw [opOk_iff]
  simp [fourL]
  omega
theorem fourBad {o : POp} {k : Nat} {x : Int} (hx : (fourL o)[k]? = some x) (h : x < 0 ∨ 255 < x) : writeL o = ([], 2) := by
  unfold writeL
  rw [if_neg]
  intro hok
  have := ((opOk_four o).1 hok).1 x (List.mem_of_getElem? hx)
  omega
theorem sixB_four (o : POp) : sixB o = (fourL o).map Int.toNat ++ [o.item.toNat / 256, o.item.toNat % 256] := by simp [sixB, fourL]
theorem Ints.box {w : World} {g n : Nat} {us : Array Value} {xs : List Int} (h : Box w g 3 us) (hu : us.toList = xs.map (Value.int .i64)) (hl : xs.length = n) (hn : n ≤ 1000) : Ints w (some ⟨g, 0, none⟩) n n xs :=
  ⟨hl, Nat.le_refl _, by simp only [maxLen]; omega, by omega, fun e => (by cases e), fun _ => ⟨g, 0, rfl, h.lt, fun i x hx => ⟨fun _ => .int .i64 x, fun j hj => by
    obtain rfl : j = 0 := by omega
    rw [h.cell, ← Array.getElem?_toList, hu, List.getElem?_map]
    simp [hx], rfl⟩⟩⟩
theorem OwnSl.notBox {α : Type} {R : World → (Nat → Value) → α → Prop} {sz : Nat} {w : World} {B e : Nat} {v : Value} {n : Nat} {xs : List α} {b ty : Nat} {cs : Array Value} (own : OwnSl R sz w B e v n xs) (x : Box w b ty cs) (hne : e ≠ ty) : v.ownBlock ≠ some b := by
  intro hv
  obtain ⟨cells, o1, _⟩ := own
  rcases o1.2 with ⟨rfl, _⟩ | ⟨g, cap, cur, rfl, _, hh, _⟩
  · cases hv
  · simp only [Value.ownBlock, Option.some.injEq] at hv
    subst hv
    have h2 : w.heap[g]? = some (.cells cs ty (0, 0)) := x
    rw [hh] at h2
    injection h2 with h2
    injection h2 with _ ht
    exact hne ht

end Go.Proofs.Ytnfppolgaeibeaa
