/- The contract of journal.Read. Conditions: the bytes read as a list, of bounded length. | The contract of RRead. Conditions: the bytes read as a list, of bounded length. -/
import Derived.Test.YtnfppolgaeibeaaPlainK
import Derived.Test.YtnfppolgaeibeaaHeld
import Derived.Maps.AppendAt
import Derived.Deep.QuietTactic
namespace Go.Proofs.Ytnfppolgaeibeaa
open Go.RowKit

def DOpR : World → (Nat → Value) → POp → Prop := fun _ vs o => vs 0 = .int .i64 o.kind ∧ vs 1 = .int .i64 o.user ∧ vs 2 = .int .i64 o.tran ∧ vs 3 = .int .i64 o.item ∧ vs 4 = .int .i64 o.to_
theorem DOpR.kept : Kept DOpR := fun _ _ _ _ _ h => h
theorem DOpR.good : Good DOpR 5 where
  kept := DOpR.kept
  one := fun w vs x h j hj => by
    obtain ⟨h0, h1, h2, h3, h4⟩ := h
    match j, hj with
    | 0, _ => rw [h0]; rfl
    | 1, _ => rw [h1]; rfl
    | 2, _ => rw [h2]; rfl
    | 3, _ => rw [h3]; rfl
    | 4, _ => rw [h4]; rfl
  pos := by omega
abbrev DOps (w : World) (A : Option Addr) (n c : Nat) (os : List POp) : Prop := Sl DOpR 5 w A n c os
theorem Reads.dop {w : World} {o : POp} : Reads DOpR 5 w [.int .i64 o.kind, .int .i64 o.user, .int .i64 o.tran, .int .i64 o.item, .int .i64 o.to_] [o] :=
  Reads.one (vs := fun j => [Value.int .i64 o.kind, .int .i64 o.user, .int .i64 o.tran, .int .i64 o.item, .int .i64 o.to_].getD j undef) ⟨rfl, rfl, rfl, rfl, rfl⟩ rfl (fun j hj => by
    match j, hj with
    | 0, _ => rfl
    | 1, _ => rfl
    | 2, _ => rfl
    | 3, _ => rfl
    | 4, _ => rfl)
def AnsRead (p : List POp × Int × Int) (w : World) (e : Ending) (w' : World) : Prop :=
  ∃ A n c, e = .returned (.tuple #[.slice A n c, .int .i64 p.2.1, .int .i64 p.2.2]) ∧ DOps w' A n c p.1 ∧ Below w.heap.size w w'
theorem or_i64 (a b : Nat) (ha : a < 256) (hb : b < 256) : bits .or .i64 ((a : Int) * 256) (b : Int) = ((a * 256 + b : Nat) : Int) := by
  have hx : a * 256 ||| b = a * 256 + b := by
    have := Nat.shiftLeft_add_eq_or_of_lt (i := 8) (b := b) (by omega) a
    rw [Nat.shiftLeft_eq] at this
    exact this.symm
  have h1 : (BitVec.ofInt 64 ((a : Int) * 256)).toNat = a * 256 := by
    rw [show (a : Int) * 256 = ((a * 256 : Nat) : Int) by omega, BitVec.ofInt_natCast, BitVec.toNat_ofNat]; exact Nat.mod_eq_of_lt (by omega)
  have h2 : (BitVec.ofInt 64 (b : Int)).toNat = b := by
    rw [BitVec.ofInt_natCast, BitVec.toNat_ofNat]; exact Nat.mod_eq_of_lt (by omega)
  show IntKind.i64.wrap ((BitVec.ofInt 64 ((a : Int) * 256) ||| BitVec.ofInt 64 (b : Int)).toNat : Int) = _
  rw [BitVec.toNat_or, h1, h2, hx]
  simp [IntKind.wrap, IntKind.bits, IntKind.signed]; omega
theorem Bts.seven {w : World} {b off c : Nat} {L : List Nat} (h : Bts w (some ⟨b, off, none⟩) 7 c L) :
    ∃ b0 b1 b2 b3 b4 b5 b6, L = [b0, b1, b2, b3, b4, b5, b6] ∧ w.cell? ⟨b, off, none⟩ = some (.int .u8 (b0 : Int)) ∧ w.cell? ⟨b, off + 1, none⟩ = some (.int .u8 (b1 : Int)) ∧ w.cell? ⟨b, off + 2, none⟩ = some (.int .u8 (b2 : Int)) ∧ w.cell? ⟨b, off + 3, none⟩ = some (.int .u8 (b3 : Int)) ∧
      w.cell? ⟨b, off + 4, none⟩ = some (.int .u8 (b4 : Int)) ∧ w.cell? ⟨b, off + 5, none⟩ = some (.int .u8 (b5 : Int)) ∧ w.cell? ⟨b, off + 6, none⟩ = some (.int .u8 (b6 : Int)) ∧ b0 < 256 ∧ b1 < 256 ∧ b2 < 256 ∧ b3 < 256 ∧ b4 < 256 ∧ b5 < 256 ∧ b6 < 256 := by
  have key : ∀ k, k < 7 → ∃ x : Nat, L[k]? = some x ∧ w.cell? ⟨b, off + k, none⟩ = some (.int .u8 (x : Int)) ∧ x < 256 := fun k hk => by
    obtain ⟨b', off', x, e, _, hx, hc, hlt⟩ := Bts.get h hk
    injection e with e
    injection e with e1 e2
    subst e1 e2
    exact ⟨x, hx.out, hc, hlt⟩
  obtain ⟨x0, h0, c0, l0⟩ := key 0 (by omega)
  obtain ⟨x1, h1, c1, l1⟩ := key 1 (by omega)
  obtain ⟨x2, h2, c2, l2⟩ := key 2 (by omega)
  obtain ⟨x3, h3, c3, l3⟩ := key 3 (by omega)
  obtain ⟨x4, h4, c4, l4⟩ := key 4 (by omega)
  obtain ⟨x5, h5, c5, l5⟩ := key 5 (by omega)
  obtain ⟨x6, h6, c6, l6⟩ := key 6 (by omega)
  refine ⟨x0, x1, x2, x3, x4, x5, x6, ?_, c0, c1, c2, c3, c4, c5, c6, l0, l1, l2, l3, l4, l5, l6⟩
  have hl := h.len
  match L, hl with
  | [y0, y1, y2, y3, y4, y5, y6], _ =>
    simp at h0 h1 h2 h3 h4 h5 h6
    rw [h0, h1, h2, h3, h4, h5, h6]

theorem wrap_small {b : Nat} (h : b < 256) : IntKind.i64.wrap (b : Int) = (b : Int) := by rw [IntKind.wrap_i64]; omega
theorem wrap_hi {b : Nat} (h : b < 256) : IntKind.i64.wrap ((b : Int) * 256) = (b : Int) * 256 := by rw [IntKind.wrap_i64]; omega
theorem seven_op {L : List Nat} {b0 b1 b2 b3 b4 b5 b6 : Nat} (h : L.take 7 = [b0, b1, b2, b3, b4, b5, b6]) :
    L.take 6 = [b0, b1, b2, b3, b4, b5] ∧ L.getD 6 0 = b6 ∧ opOf L = ⟨b0, b1, b2, ((b4 * 256 + b5 : Nat) : Int), b3⟩ := by
  have e : L = b0 :: b1 :: b2 :: b3 :: b4 :: b5 :: b6 :: L.drop 7 := by
    have := List.take_append_drop 7 L
    rw [h] at this
    exact this.symm
  rw [e]
  exact ⟨rfl, rfl, rfl⟩
end Go.Proofs.Ytnfppolgaeibeaa
namespace Go.Proofs.Ytnfppolgaeibeaa
open Go.RowKit

theorem wrap_sum {a b : Nat} (ha : a < 256) (hb : b < 256) : IntKind.i64.wrap ((a : Int) * 256 + (b : Int)) = (a : Int) * 256 + (b : Int) := by rw [IntKind.wrap_i64]; omega
theorem Box.set5 {w : World} {b ty : Nat} {u0 u1 u2 u3 u4 : Value} (h : Box w b ty #[u0, u1, u2, u3, u4]) (v0 v1 v2 v3 v4 : Value) : Box (((((w.setCell ⟨b, 0, none⟩ v0).setCell ⟨b, 1, none⟩ v1).setCell ⟨b, 2, none⟩ v2).setCell ⟨b, 3, none⟩ v3).setCell ⟨b, 4, none⟩ v4) b ty #[v0, v1, v2, v3, v4] := by
  have := ((((h.set 0 v0).set 1 v1).set 2 v2).set 3 v3).set 4 v4
  simpa using this
theorem below_set5 {B b : Nat} {w0 w : World} (h : Below B w0 w) (hb : B ≤ b) (v0 v1 v2 v3 v4 : Value) : Below B w0 (((((w.setCell ⟨b, 0, none⟩ v0).setCell ⟨b, 1, none⟩ v1).setCell ⟨b, 2, none⟩ v2).setCell ⟨b, 3, none⟩ v3).setCell ⟨b, 4, none⟩ v4) :=
  ((((h.setCell hb _).setCell hb _).setCell hb _).setCell hb _).setCell hb _
theorem writeL_seven {b0 b1 b2 b3 b4 b5 : Nat} (l0 : b0 < 256) (l1 : b1 < 256) (l2 : b2 < 256) (l3 : b3 < 256) (l4 : b4 < 256) (l5 : b5 < 256) : writeL ⟨b0, b1, b2, ((b4 * 256 + b5 : Nat) : Int), b3⟩ = ([b0, b1, b2, b3, b4, b5, sumF [b0, b1, b2, b3, b4, b5]], 0) := by
  have hok : opOk ⟨b0, b1, b2, ((b4 * 256 + b5 : Nat) : Int), b3⟩ = true := by rw [opOk_iff]; simp only; omega
  have h6 : sixB ⟨b0, b1, b2, ((b4 * 256 + b5 : Nat) : Int), b3⟩ = [b0, b1, b2, b3, b4, b5] := by
    simp only [sixB, Int.toNat_natCast]
    rw [show (b4 * 256 + b5) / 256 = b4 from by omega, show (b4 * 256 + b5) % 256 = b5 from by omega]
  rw [writeL, if_pos hok, h6]; rfl
def strB (bs : List Nat) : ByteArray := strOfNums (bs.map fun b : Nat => (b : Int))
theorem Bts.str {w : World} {A : Option Addr} {n c : Nat} {bs : List Nat} (h : Bts w A n c bs) : (convert 209 9 (.slice A n c)).run Try.prog w = .ok (.string (strB bs)) w := by
  rcases Nat.eq_zero_or_pos n with h0 | h0
  · subst h0
    have hx := List.eq_nil_of_length_eq_zero h.len
    subst hx
    rcases A with _ | ⟨b, off, s⟩
    · exact run_convert_bytes_nil w 209 5 Try.underlying209 Try.underlying5 0 c 9 Try.underlying9
    · rw [run_convert_bytes_string w 209 9 5 _ 0 c Try.underlying209 Try.underlying5 Try.underlying9, run_bytesToString w _ 0 c [] (by
        have := run_loadCells_list (P := Try.prog) w ⟨b, off, s⟩ [] (fun j v hj => by simp at hj)
        simpa using this)]
      rfl
  · obtain ⟨b, off, e, _, hc⟩ := h.cells h0
    subst e
    refine run_convert_bytes_arg w 209 5 Try.underlying209 Try.underlying5 b off n c _ (by rw [List.length_map, h.len]) (fun i hi => ?_) 9 Try.underlying9
    obtain ⟨b', off', x, e, _, hx, hcx, _⟩ := Bts.get h hi
    injection e with e
    injection e with e1 e2
    subst e1 e2
    rw [hcx, List.getD_eq_getElem?_getD, List.getElem?_map, hx.out]
    rfl
theorem strB_ne {L : List Nat} {x y : Nat} (hx : x < 256) (hy : y < 256) (hne : x ≠ y) : ((strB (L ++ [x])).toList == (strB (L ++ [y])).toList) = false := by
  rw [beq_eq_false_iff_ne, ByteArray.toList_eq, ByteArray.toList_eq]
  intro h1
  unfold strB at h1
  rw [strOfNums_data, strOfNums_data] at h1
  simp only [List.map_append, List.map_cons, List.map_nil, Int.toNat_natCast] at h1
  have h2 := List.append_cancel_left h1
  injection h2 with h3
  have h4 := congrArg UInt8.toNat h3
  rw [UInt8.toNat_ofNat', UInt8.toNat_ofNat'] at h4
  omega
/-- Append of any slice (nil too) that reads as ys to a slice of the call's own. -/
theorem wpList_appAny {α : Type} {R : World → (Nat → Value) → α → Prop} {t e size bytes : Nat} (T : SlTy t e size bytes) (G : Good R size) {ops : Array Oper} {rest : List Oper} {o : Oper} {a : Act} {Q : Exit → Act → World → Prop} (hgd : o.guard = none) (s x : Operand)
    (ho : o.op = .call { callee := .builtin .append, args := #[s, x], argTypes := #[t, t] })
    {w0 w : World} {B : Nat} {v : Value} {n m c : Nat} {A : Option Addr} {xs ys : List α} (hs : a.eval s = v) (hx : a.eval x = .slice A m c)
    (own : OwnSl R size w B e v n xs) (src : Sl R size w A m c ys) (hb : Below B w0 w) (hB : B ≤ w.heap.size) (h63 : n + m ≤ 281474976710656) (hn : (n + m) * bytes ≤ 140737488355328)
    (hkeep : ∀ w', w.grownBy w' v.ownBlock → ∀ vs y, R w vs y → R w' vs y)
    (K : ∀ v' w', OwnSl R size w' B e v' (n + m) (xs ++ ys) → w.grownBy w' v.ownBlock → Below B w0 w' → wpList Try.prog ops Q rest (a.put o.dst v') w') :
    wpList Try.prog ops Q (o :: rest) a w := by
  cases hA : A with
  | some ad =>
    subst hA
    exact wpList_appSl T G hgd s x ho hs hx own src hb hB h63 hn hkeep K
  | none =>
    subst hA
    have hc := src.nul rfl
    have hm : m = 0 := by have := src.le; omega
    subst hc hm
    have hy := List.eq_nil_of_length_eq_zero src.len
    subst hy
    obtain ⟨i, z, h1, h2, h3, h4, h5⟩ := T.info
    have hr := fun ty => run_append_owned_none (P := Try.prog) (w := w) B t ty e i size T.und h1 v n _ own.choose_spec.1
    have h := K v w (by simpa using own) (World.grownBy.refl _ _) hb
    refine wpList_plain hgd fun K' hK' => ?_
    unfold Oper.wp execOp
    simp only [ho, resolve, invoke, builtin, Sem.run_bind, Sem.run_pure, Result.andThen_ok, List.map_toArray, List.map_cons, List.map_nil, hs, hx, hr]
    exact hK' _ _ h

end Go.Proofs.Ytnfppolgaeibeaa
