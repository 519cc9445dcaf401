/- The plain law of the journal: bytes of what is done at a desk, and back. No program in sight. -/
namespace Go.Proofs.Ytpagenlealddhaa

def rotS (b : Nat) : Nat := b * 2 % 256 + b / 128
def rotI (b : Nat) : Nat → Nat
  | 0 => b
  | k + 1 => rotS (rotI b k)
theorem rotS_lt {b : Nat} (h : b < 256) : rotS b < 256 := by unfold rotS; omega
theorem rotI_lt {b : Nat} (h : b < 256) : ∀ k, rotI b k < 256
  | 0 => h
  | k + 1 => rotS_lt (rotI_lt h k)
def sumF (bs : List Nat) : Nat := bs.zipIdx.foldl (fun x p => x ^^^ rotI p.1 p.2) 90
theorem sumF_snoc (bs : List Nat) (b : Nat) : sumF (bs ++ [b]) = sumF bs ^^^ rotI b bs.length := by
  unfold sumF
  rw [List.zipIdx_append, List.foldl_append]
  simp
theorem sumF_lt {bs : List Nat} (h : ∀ b ∈ bs, b < 256) : sumF bs < 256 := by
  have key : ∀ n, ∀ l : List Nat, l.length = n → (∀ b ∈ l, b < 256) → sumF l < 256 := by
    intro n
    induction n with
    | zero => intro l hl _; rw [List.eq_nil_of_length_eq_zero hl]; decide
    | succ n ih =>
      intro l hl hb
      obtain ⟨a, b, rfl⟩ : ∃ a b, l = a ++ [b] := ⟨l.dropLast, l.getLast (by intro e; subst e; simp at hl), (List.dropLast_concat_getLast _).symm⟩
      rw [sumF_snoc]
      exact Nat.xor_lt_two_pow (n := 8) (ih a (by simpa using hl) (fun x hx => hb x (List.mem_append_left _ hx))) (rotI_lt (hb b (by simp)) _)
  exact key _ bs rfl h

structure POp where
  kind : Int
  user : Int
  tran : Int
  item : Int
  to_ : Int
def smallI (n : Int) : Bool := decide (0 ≤ n) && decide (n ≤ 255)
theorem smallI_iff (n : Int) : smallI n = true ↔ 0 ≤ n ∧ n ≤ 255 := by simp [smallI]
def itemI (n : Int) : Bool := decide (0 ≤ n) && decide (n ≤ 65535)
theorem itemI_iff (n : Int) : itemI n = true ↔ 0 ≤ n ∧ n ≤ 65535 := by simp [itemI]
def opOk (o : POp) : Bool := smallI o.kind && smallI o.user && smallI o.tran && smallI o.to_ && itemI o.item
def sixB (o : POp) : List Nat := [o.kind.toNat, o.user.toNat, o.tran.toNat, o.to_.toNat, o.item.toNat / 256, o.item.toNat % 256]
def writeL (o : POp) : List Nat × Int := if opOk o = true then (sixB o ++ [sumF (sixB o)], 0) else ([], 2)
theorem opOk_iff (o : POp) : opOk o = true ↔ (0 ≤ o.kind ∧ o.kind ≤ 255) ∧ (0 ≤ o.user ∧ o.user ≤ 255) ∧ (0 ≤ o.tran ∧ o.tran ≤ 255) ∧ (0 ≤ o.to_ ∧ o.to_ ≤ 255) ∧ (0 ≤ o.item ∧ o.item ≤ 65535) := by
  unfold opOk
  simp only [Bool.and_eq_true, smallI_iff, itemI_iff, and_assoc]
theorem sixB_lt {o : POp} (h : opOk o = true) : ∀ b ∈ sixB o, b < 256 := by
  rw [opOk_iff] at h
  intro b hb
  simp only [sixB, List.mem_cons, List.not_mem_nil, or_false] at hb
  omega
def opOf (bs : List Nat) : POp := ⟨bs.getD 0 0, bs.getD 1 0, bs.getD 2 0, ((bs.getD 4 0 * 256 + bs.getD 5 0 : Nat) : Int), bs.getD 3 0⟩
theorem opOf_ok {bs : List Nat} (h : ∀ b ∈ bs, b < 256) : opOk (opOf bs) = true := by
  have g : ∀ i, bs.getD i 0 < 256 := fun i => by
    rw [List.getD_eq_getElem?_getD]
    cases hi : bs[i]? with
    | none => simp
    | some x => exact h x (List.mem_of_getElem? hi)
  rw [opOk_iff]
  have h0 := g 0
  have h1 := g 1
  have h2 := g 2
  have h3 := g 3
  have h4 := g 4
  have h5 := g 5
  unfold opOf
  simp only []
  omega
theorem sixB_opOf {a b c d e f : Nat} (r : List Nat) (he : f < 256) : sixB (opOf (a :: b :: c :: d :: e :: f :: r)) = [a, b, c, d, e, f] := by
  simp only [sixB, opOf, List.getD_cons_zero, List.getD_cons_succ, Int.toNat_natCast]
  rw [show (e * 256 + f) / 256 = e from by omega, show (e * 256 + f) % 256 = f from by omega]
def readL (bs : List Nat) : List POp × Int × Int :=
  if h : bs.length < 7 then ([], 0, 0)
  else if sumF (bs.take 6) = bs.getD 6 0 then (opOf bs :: (readL (bs.drop 7)).1, (readL (bs.drop 7)).2.1 + 7, (readL (bs.drop 7)).2.2)
  else ([], 0, 8)
termination_by bs.length
decreasing_by all_goals (rw [List.length_drop]; omega)
theorem readL_short {bs : List Nat} (h : bs.length < 7) : readL bs = ([], 0, 0) := by rw [readL, dif_pos h]
theorem readL_bad {bs : List Nat} (h : ¬ bs.length < 7) (hs : sumF (bs.take 6) ≠ bs.getD 6 0) : readL bs = ([], 0, 8) := by rw [readL, dif_neg h, if_neg hs]
theorem readL_good {bs : List Nat} (h : ¬ bs.length < 7) (hs : sumF (bs.take 6) = bs.getD 6 0) : readL bs = (opOf bs :: (readL (bs.drop 7)).1, (readL (bs.drop 7)).2.1 + 7, (readL (bs.drop 7)).2.2) := by rw [readL, dif_neg h, if_pos hs]
theorem readL_len (bs : List Nat) : (readL bs).1.length * 7 ≤ bs.length := by
  induction h : bs.length using Nat.strongRecOn generalizing bs with
  | _ n ih =>
    by_cases h1 : bs.length < 7
    · rw [readL_short h1]; simp
    · by_cases h2 : sumF (bs.take 6) = bs.getD 6 0
      · rw [readL_good h1 h2]
        have := ih (bs.drop 7).length (by rw [List.length_drop]; omega) (bs.drop 7) rfl
        simp only [List.length_cons, List.length_drop] at this ⊢
        omega
      · rw [readL_bad h1 h2]; simp
theorem readL_at (bs : List Nat) : 0 ≤ (readL bs).2.1 ∧ (readL bs).2.1 ≤ bs.length := by
  induction h : bs.length using Nat.strongRecOn generalizing bs with
  | _ n ih =>
    by_cases h1 : bs.length < 7
    · rw [readL_short h1]; simp
    · by_cases h2 : sumF (bs.take 6) = bs.getD 6 0
      · rw [readL_good h1 h2]
        have := ih (bs.drop 7).length (by rw [List.length_drop]; omega) (bs.drop 7) rfl
        simp only [List.length_drop] at this ⊢
        omega
      · rw [readL_bad h1 h2]; simp
/-- So far, as one goes on from 7 to 7. -/
structure ReadI (bs : List Nat) (j : Nat) (out : List POp) : Prop where
  eq : readL bs = (out ++ (readL (bs.drop (7 * j))).1, ((7 * j : Nat) : Int) + (readL (bs.drop (7 * j))).2.1, (readL (bs.drop (7 * j))).2.2)
  len : out.length = j
theorem ReadI.start (bs : List Nat) : ReadI bs 0 [] := ⟨by simp, rfl⟩
theorem ReadI.next {bs : List Nat} {j : Nat} {out : List POp} (h : ReadI bs j out) (hl : 7 * j + 7 ≤ bs.length) (hs : sumF ((bs.drop (7 * j)).take 6) = (bs.drop (7 * j)).getD 6 0) : ReadI bs (j + 1) (out ++ [opOf (bs.drop (7 * j))]) := by
  refine ⟨?_, by simp [h.len]⟩
  rw [h.eq, readL_good (by rw [List.length_drop]; omega) hs, List.drop_drop, show 7 * j + 7 = 7 * (j + 1) from by omega]
  simp only [List.append_assoc, List.singleton_append, Prod.mk.injEq, true_and, and_true]
  omega
theorem ReadI.bad {bs : List Nat} {j : Nat} {out : List POp} (h : ReadI bs j out) (hl : 7 * j + 7 ≤ bs.length) (hs : sumF ((bs.drop (7 * j)).take 6) ≠ (bs.drop (7 * j)).getD 6 0) : readL bs = (out, ((7 * j : Nat) : Int), 8) := by
  rw [h.eq, readL_bad (by rw [List.length_drop]; omega) hs]; simp
theorem ReadI.fin {bs : List Nat} {j : Nat} {out : List POp} (h : ReadI bs j out) (hl : bs.length < 7 * j + 7) : readL bs = (out, ((7 * j : Nat) : Int), 0) := by
  rw [h.eq, readL_short (by rw [List.length_drop]; omega)]; simp
end Go.Proofs.Ytpagenlealddhaa
