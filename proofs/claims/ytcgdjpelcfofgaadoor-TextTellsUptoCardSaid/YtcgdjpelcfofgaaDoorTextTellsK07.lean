/- The plain law of nets' texts: a line, read; a text, read line by line. No program in sight. -/
import Derived.Test.YtcgdjpelcfofgaaDoorTextTellsK06
set_option linter.all false
namespace Go.Proofs.YtcgdjpelcfofgaaDoor
open Go.Lib

/-! ### a line, read -/
def labOk (c : UInt8) : Bool := c == 45 || (decide (97 ≤ c.toNat) && decide (c.toNat ≤ 122))
def labOf (c : UInt8) : Int := if c = 45 then 0 else (c.toNat : Int) - 96
/-- The line's transition, if it is one's. -/
def tranR (P : Nat) (s : List UInt8) : Option PTran := match s with
  | c :: 32 :: 58 :: s2 =>
    if labOk c = true then
      match sideR (P : Int) (s2.length + P) s2 (List.replicate P 0) (-1) with
      | some (pre, 32 :: 62 :: s3) =>
        match sideR (P : Int) (s3.length + P) s3 (List.replicate P 0) (-1) with
        | some (post, []) => some ⟨labOf c, pre, post⟩
        | _ => none
      | _ => none
    else none
  | _ => none
theorem labT_of {c : UInt8} (h : labOk c = true) : labT (labOf c) = [c] ∧ 0 ≤ labOf c ∧ labOf c ≤ 26 := by
  have key : ∀ k : Fin 256, labOk (UInt8.ofNat k.val) = true → labT (labOf (UInt8.ofNat k.val)) = [UInt8.ofNat k.val] ∧ 0 ≤ labOf (UInt8.ofNat k.val) ∧ labOf (UInt8.ofNat k.val) ≤ 26 := by decide +kernel
  have e : UInt8.ofNat c.toNat = c := UInt8.ofNat_toNat
  have := key ⟨c.toNat, c.toNat_lt⟩
  simp only [e] at this
  exact this h
theorem labT_is {l : Int} (h0 : 0 ≤ l) (h1 : l ≤ 26) : ∃ c, labT l = [c] ∧ labOk c = true ∧ labOf c = l := by
  have key : ∀ k : Fin 27, ∃ c, labT (k.val : Int) = [c] ∧ labOk c = true ∧ labOf c = (k.val : Int) := by
    intro k
    refine ⟨(labT (k.val : Int)).headD 0, ?_⟩
    revert k
    decide +kernel
  have := key ⟨l.toNat, by omega⟩
  simp only [show ((l.toNat : Nat) : Int) = l by omega] at this
  exact this
theorem sides_ok {P : Nat} {t : PTran} (h : tranOk (P : Int) t = true) : t.pre.length = P ∧ t.post.length = P ∧ (∀ x ∈ t.pre, 0 ≤ x ∧ x ≤ 9) ∧ (∀ x ∈ t.post, 0 ≤ x ∧ x ≤ 9) ∧ 0 ≤ t.label ∧ t.label ≤ 26 := by
  obtain ⟨h1, h2, h3, h4, h5, h6⟩ := (tranOk_iff _ _).1 h
  exact ⟨by omega, by omega, fun x hx => badW_false (Bool.eq_false_iff.2 (List.any_eq_false.1 h5 x hx)), fun x hx => badW_false (Bool.eq_false_iff.2 (List.any_eq_false.1 h6 x hx)), h1, h2⟩
theorem end_gt (q : List UInt8) : EndT (32 :: 62 :: q) := .inl ⟨q, rfl⟩
theorem end_nil : EndT [] := .inr (fun c h => by cases h)
theorem tranR_line {P : Nat} (hP : P ≤ 16) {t : PTran} (h : tranOk (P : Int) t = true) : tranR P (lineT t) = some t := by
  obtain ⟨h1, h2, h3, h4, h5, h6⟩ := sides_ok h
  obtain ⟨c, c1, c2, c3⟩ := labT_is h5 h6
  have e : lineT t = c :: 32 :: 58 :: (sideT 0 t.pre ++ 32 :: 62 :: sideT 0 t.post) := by
    unfold lineT
    rw [c1]
    simp
  have r1 := sideR_reads h1 h3 hP (r := 32 :: 62 :: sideT 0 t.post) (end_gt _) (fun c hc => by simp at hc; subst hc; exact ⟨by decide, by decide⟩) P 0 (by omega) ((sideT 0 t.pre ++ 32 :: 62 :: sideT 0 t.post).length + P) (by omega) (-1) (by decide)
  have r2 := sideR_reads h2 h4 hP (r := []) end_nil (fun c hc => by cases hc) P 0 (by omega) ((sideT 0 t.post).length + P) (by omega) (-1) (by decide)
  simp only [List.drop_zero, List.take_zero, List.nil_append, List.append_nil] at r1 r2
  rw [e]
  unfold tranR
  simp only
  rw [if_pos c2, r1]
  simp only
  rw [r2]
  simp only
  rw [c3]
theorem zeros_get (P q : Nat) (h : q < P) : (List.replicate P (0 : Int))[q]? = some 0 := by rw [List.getElem?_replicate, if_pos h]
theorem tranR_is {P : Nat} {s : List UInt8} {t : PTran} (h : tranR P s = some t) : tranOk (P : Int) t = true ∧ s = lineT t := by
  unfold tranR at h
  split at h
  · rename_i c s2
    split at h
    · rename_i hc
      split at h
      · rename_i pre s3 h1
        split at h
        · rename_i post h2
          injection h with h
          subst h
          obtain ⟨a1, a2, _, a4, _⟩ := sideR_sound (P := P) _ _ _ 0 _ _ (by omega) (by simp) (fun q _ hq => zeros_get P q hq) (fun x hx => by rw [List.eq_of_mem_replicate hx]; omega) h1
          obtain ⟨b1, b2, _, b4, _⟩ := sideR_sound (P := P) _ _ _ 0 _ _ (by omega) (by simp) (fun q _ hq => zeros_get P q hq) (fun x hx => by rw [List.eq_of_mem_replicate hx]; omega) h2
          obtain ⟨l1, l2, l3⟩ := labT_of hc
          have nb : ∀ w : List Int, (∀ x ∈ w, 0 ≤ x ∧ x ≤ 9) → w.any badW = false := fun w hw => by
            rw [List.any_eq_false]
            intro x hx
            have := hw x hx
            unfold badW
            simp
            omega
          refine ⟨(tranOk_iff _ _).2 ⟨l2, l3, by simp only; omega, by simp only; omega, nb _ a2, nb _ b2⟩, ?_⟩
          unfold lineT
          simp only
          rw [l1]
          rw [List.drop_zero] at a4 b4
          rw [List.append_nil] at b4
          rw [a4, b4]
          simp
        · cases h
      · cases h
    · cases h
  · cases h
/-! ### the first line -/
def headR (l : List UInt8) : Option Nat := (List.range 17).find? fun p => headT (p : Int) == l
theorem headT_inj {p q : Nat} (hp : p < 17) (hq : q < 17) (h : headT (p : Int) = headT (q : Int)) : p = q := by
  have key : ∀ a b : Fin 17, headT (a.val : Int) = headT (b.val : Int) → a = b := by decide +kernel
  have := key ⟨p, hp⟩ ⟨q, hq⟩ h
  injection this
theorem headR_some {l : List UInt8} {p : Nat} : headR l = some p ↔ p ≤ 16 ∧ l = headT (p : Int) := by
  unfold headR
  constructor
  · intro h
    have h1 := List.find?_some h
    have h2 := List.mem_of_find?_eq_some h
    rw [List.mem_range] at h2
    exact ⟨by omega, by have := beq_iff_eq.1 h1; exact this.symm⟩
  · rintro ⟨h1, rfl⟩
    cases hf : (List.range 17).find? (fun q : Nat => headT (q : Int) == headT (p : Int)) with
    | none =>
      rw [List.find?_eq_none] at hf
      exact absurd (beq_self_eq_true _) (hf p (List.mem_range.2 (by omega)))
    | some q =>
      have h2 := List.mem_of_find?_eq_some hf
      have h4 := List.find?_some hf
      have h3 := beq_iff_eq.1 h4
      rw [List.mem_range] at h2
      rw [headT_inj h2 (by omega) h3]
/-! ### lines -/
/-- The whole lines, and what is left behind the last one's end. -/
def linesT : List UInt8 → List (List UInt8) × List UInt8
  | [] => ([], [])
  | c :: s => if c = 10 then ([] :: (linesT s).1, (linesT s).2) else match (linesT s).1 with
    | [] => ([], c :: (linesT s).2)
    | l :: ls => ((c :: l) :: ls, (linesT s).2)
theorem linesT_tail {s : List UInt8} (h : ∀ c ∈ s, c ≠ 10) : linesT s = ([], s) := by
  induction s with
  | nil => rfl
  | cons c s ih => rw [linesT, if_neg (h c (by simp)), ih (fun x hx => h x (by simp [hx]))]
theorem linesT_line {l : List UInt8} (s : List UInt8) (h : ∀ c ∈ l, c ≠ 10) : linesT (l ++ 10 :: s) = (l :: (linesT s).1, (linesT s).2) := by
  induction l with
  | nil => rw [List.nil_append, linesT, if_pos rfl]
  | cons c l ih => rw [List.cons_append, linesT, if_neg (h c (by simp)), ih (fun x hx => h x (by simp [hx]))]
/-! ### the text, read -/
def noT (k : Nat) : PNet × Int × Int := (⟨0, []⟩, (k : Int), 1)
/-- Line by line: from line k on. -/
def parseL (tail : List UInt8) : List (List UInt8) → Nat → Nat → List PTran → PNet × Int × Int
  | [], k, P, ts => if 0 < k ∧ tail = [] then (⟨(P : Int), ts⟩, 0, 0) else noT k
  | l :: ls, k, P, ts => if 24 < k then noT k else if k = 0 then (match headR l with
      | some p => parseL tail ls 1 p ts
      | none => noT k) else (match tranR P l with
      | some t => parseL tail ls (k + 1) P (ts ++ [t])
      | none => noT k)
def parseT (s : List UInt8) : PNet × Int × Int := parseL (linesT s).2 (linesT s).1 0 0 []
def printE (N : PNet) : List UInt8 × Int := if netOk N = true then (printT N, 0) else ([], wrongNet N)
end Go.Proofs.YtcgdjpelcfofgaaDoor
