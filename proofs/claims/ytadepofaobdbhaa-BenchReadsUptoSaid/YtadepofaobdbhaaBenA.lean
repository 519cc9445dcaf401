/- The plain law of logs' texts: a block's text, and the log that a text is. No program in sight. -/
import Derived.Test.YtadepofaobdbhaaGrowA
import Derived.Lib.Join
namespace Go.Proofs.Ytadepofaobdbhaa

/-- How a block begins: > ? & *. -/
def signB (k : Int) : UInt8 := if k = 3 then 62 else if k = 4 then 63 else if k = 5 then 38 else 42
/-- A block's text. -/
def txtB : Nat → PBlk → List UInt8
  | 0, _ => []
  | f + 1, b => if b.kind = 1 then [45] else if b.kind = 2 then [UInt8.ofNat (96 + b.label.toNat)] else signB b.kind :: 40 :: (Lib.join (b.kids.map (txtB f)) [44] ++ [41])
theorem txtB_1 {f : Nat} {lb : Int} {ks : List PBlk} : txtB (f + 1) (.mk 1 lb ks) = [45] := by simp [txtB, PBlk.kind]
theorem txtB_2 {f : Nat} {lb : Int} {ks : List PBlk} : txtB (f + 1) (.mk 2 lb ks) = [UInt8.ofNat (96 + lb.toNat)] := by simp [txtB, PBlk.kind, PBlk.label]
theorem txtB_3 {f : Nat} {kd lb : Int} {ks : List PBlk} (h : 3 ≤ kd) : txtB (f + 1) (.mk kd lb ks) = signB kd :: 40 :: (Lib.join (ks.map (txtB f)) [44] ++ [41]) := by
  unfold txtB
  rw [if_neg (by simp only [PBlk.kind]; omega), if_neg (by simp only [PBlk.kind]; omega)]
  rfl

theorem join_len : ∀ xs : List (List UInt8), (Lib.join xs [44]).length ≤ (xs.map (fun x => x.length + 1)).sum
  | [] => by simp [Lib.join_nil]
  | x :: r => by
    rw [Lib.join_cons]
    have : (Lib.joinTail [44] r).length = (r.map (fun x => x.length + 1)).sum := by
      induction r with
      | nil => rfl
      | cons y r ih => simp [Lib.joinTail] at ih ⊢; omega
    simp [this]
theorem txt_len : ∀ (f : Nat) (b : PBlk) (had : Nat), (chkB f b had).2 = 0 → (txtB f b).length + 1 ≤ 4 * ((chkB f b had).1 - had)
  | 0, b, had, h => by rw [chkB] at h; cases h
  | f + 1, b, had, h => by
    have hok := (chkB_ok (f + 1) b had h).1
    obtain ⟨h1, h2, h', h3, h4⟩ := chkB_inv h
    have key : ∀ i, ∀ hd, (b.kids.take i).foldl (stepC (chkB f)) (had + 1, 0) = (hd, 0) → had + 1 ≤ hd ∧ ((b.kids.take i).map (fun k => (txtB f k).length + 1)).sum ≤ 4 * (hd - (had + 1)) := by
      intro i
      induction i with
      | zero => intro hd e; simp at e; simp [e]
      | succ i ih =>
        intro hd e
        cases hx : b.kids[i]? with
        | none =>
          have hlen : b.kids.length ≤ i := by simpa using hx
          have e2 : b.kids.take (i + 1) = b.kids.take i := by rw [List.take_of_length_le (by omega), List.take_of_length_le hlen]
          rw [e2] at e ⊢
          exact ih hd e
        | some x =>
          obtain ⟨hd0, e0⟩ := pre_okC h4 i
          obtain ⟨hd', e1, e2⟩ := next_okC h4 hx e0
          rw [e2] at e
          injection e with e _
          subst e
          obtain ⟨i1, i2⟩ := ih hd0 e0
          have ht := txt_len f x hd0 (by rw [e1])
          have hc := (chkB_ok f x hd0 (by rw [e1])).1
          rw [e1] at ht hc
          simp only at ht hc
          obtain ⟨hk, rfl⟩ := List.getElem?_eq_some_iff.1 hx
          rw [List.take_succ_eq_append_getElem hk, List.map_append, List.sum_append]
          simp only [List.map_cons, List.map_nil, List.sum_cons, List.sum_nil]
          omega
    have kall := key b.kids.length h' (by rw [List.take_length]; exact h4)
    rw [List.take_length] at kall
    have hj := join_len (b.kids.map (txtB f))
    rw [List.map_map] at hj
    have hj' : (Lib.join (b.kids.map (txtB f)) [44]).length ≤ (b.kids.map (fun k => (txtB f k).length + 1)).sum := hj
    rw [h3]
    simp only
    unfold txtB
    split
    · simp; omega
    · split
      · simp; omega
      · simp; omega

/-! ### the log -/
def letB (c : UInt8) : Bool := decide (97 ≤ c.toNat) && decide (c.toNat ≤ 122)
def numB (c : UInt8) : Int := (c.toNat : Int) - 96
def logR : List UInt8 → List (List Int) → List Int → List (List Int) × Int × Int
  | [], out, now => if now = [] then (out, 0, 0) else ([], (out.length : Int), 1)
  | c :: r, out, now => if c = 10 then logR r (out ++ [now]) [] else if letB c = true then logR r out (now ++ [numB c]) else ([], (out.length : Int), 1)
def logL (s : List UInt8) : List (List Int) × Int × Int := logR s [] []
theorem logR_line (r : List UInt8) (out : List (List Int)) : ∀ (l : List UInt8) (now : List Int), (∀ c ∈ l, c ≠ 10) → logR (l ++ 10 :: r) out now = if l.all letB = true then logR r (out ++ [now ++ l.map numB]) [] else ([], (out.length : Int), 1)
  | [], now, _ => by simp [logR]
  | c :: l, now, h => by
    have hc : c ≠ 10 := h c (by simp)
    rw [List.cons_append, logR, if_neg hc]
    by_cases hl : letB c = true
    · rw [if_pos hl, logR_line r out l _ (fun x hx => h x (by simp [hx]))]
      simp [hl, List.append_assoc]
    · rw [if_neg hl, if_neg]
      simp [hl]
theorem logR_none (out : List (List Int)) : ∀ (l : List UInt8) (now : List Int), (∀ c ∈ l, c ≠ 10) → (l ≠ [] ∨ now ≠ []) → logR l out now = ([], (out.length : Int), 1)
  | [], now, _, h => by
    rcases h with h | h
    · exact absurd rfl h
    · rw [logR, if_neg h]
  | c :: l, now, h, _ => by
    have hc : c ≠ 10 := h c (by simp)
    rw [logR, if_neg hc]
    split
    · exact logR_none out l _ (fun x hx => h x (by simp [hx])) (.inr (by simp))
    · rfl
end Go.Proofs.Ytadepofaobdbhaa
