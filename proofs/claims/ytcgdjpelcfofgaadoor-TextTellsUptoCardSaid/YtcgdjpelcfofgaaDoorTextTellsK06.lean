/- The plain law of nets' texts: a line's text, and the reading of a side, byte by byte. No program in sight. -/
import Derived.Test.YtcgdjpelcfofgaaDoorTextTellsK01
import Derived.Lib.AtoiAll
import Derived.Lib.ItoaNum
set_option linter.all false
namespace Go.Proofs.YtcgdjpelcfofgaaDoor
open Go.Lib

/-! ### numbers -/
def dgt (c : UInt8) : Bool := decide (48 ≤ c.toNat) && decide (c.toNat ≤ 57)
/-- What is read as a number, and whether it is one as it is written. -/
def numT (d : List UInt8) : Int × Bool := match atoiAll d with
  | .ok v => (v, itoa v == d)
  | .range => (atoiSat d, false)
  | _ => (0, false)
theorem dec_dgt : ∀ n : Nat, ∀ c ∈ decDigits n, dgt c = true := fun n => by
  induction n using Nat.strongRecOn with
  | ind n ih =>
    intro c hc
    rw [decDigits] at hc
    have hd : ∀ k : Nat, k < 10 → dgt (UInt8.ofNat (48 + k)) = true := fun k hk => by
      unfold dgt
      rw [UInt8.toNat_ofNat', Nat.mod_eq_of_lt (by omega)]
      simp
      omega
    split at hc
    · rename_i h
      rw [List.mem_singleton.1 hc]
      exact hd n h
    · rename_i h
      rcases List.mem_append.1 hc with hc | hc
      · exact ih (n / 10) (by omega) c hc
      · rw [List.mem_singleton.1 hc]
        exact hd _ (Nat.mod_lt _ (by omega))
theorem dec_ne (n : Nat) : decDigits n ≠ [] := by
  rw [decDigits]
  split
  · simp
  · simp
theorem num_dec {k : Nat} (h : k < 100) : numT (decDigits k) = ((k : Int), true) := by
  have key : ∀ j : Fin 100, atoiAll (decDigits j.val) = .ok (j.val : Int) ∧ itoa (j.val : Int) = decDigits j.val := by
    intro j
    refine ⟨?_, by unfold itoa; rw [if_neg (by omega)]; rfl⟩
    by_cases h1 : j.val < 10
    · rw [decDigits_one h1]
      revert h1
      revert j
      decide +kernel
    · rw [decDigits_two h1 j.isLt]
      revert h1
      revert j
      decide +kernel
  obtain ⟨h1, h2⟩ := key ⟨k, h⟩
  unfold numT
  simp only at h1 h2
  rw [h1]
  simp [h2]
/-- What is a number as it is written, of digits alone, is not below nothing. -/
theorem num_is {d : List UInt8} (hd : ∀ c ∈ d, dgt c = true) (h : (numT d).2 = true) : ∃ k : Nat, (numT d).1 = (k : Int) ∧ d = decDigits k := by
  unfold numT at h ⊢
  cases ha : atoiAll d with
  | ok v =>
    rw [ha] at h
    simp only [beq_iff_eq] at h
    simp only
    by_cases hv : v < 0
    · unfold itoa at h
      rw [if_pos hv] at h
      have := hd 45 (by rw [← h]; simp)
      exact absurd this (by decide)
    · unfold itoa at h
      rw [if_neg hv] at h
      exact ⟨v.toNat, by omega, h.symm⟩
  | range => rw [ha] at h; cases h
  | _ => rw [ha] at h; cases h

/-! ### a line's text -/
def labT (l : Int) : List UInt8 := if l = 0 then [45] else [UInt8.ofNat (96 + l.toNat)]
/-- One place of a side. -/
def oneT (p : Nat) (n : Int) : List UInt8 := if n = 0 then [] else if 1 < n then 32 :: (decDigits n.toNat ++ 42 :: decDigits p) else 32 :: decDigits p
def sideT : Nat → List Int → List UInt8
  | _, [] => []
  | p, n :: w => oneT p n ++ sideT (p + 1) w
def lineT (t : PTran) : List UInt8 := labT t.label ++ (32 :: 58 :: sideT 0 t.pre) ++ (32 :: 62 :: sideT 0 t.post)
def headT (P : Int) : List UInt8 := [110, 101, 116, 32] ++ decDigits P.toNat
def printT (N : PNet) : List UInt8 := headT N.places ++ 10 :: N.trans.flatMap fun t => lineT t ++ [10]
theorem sideT_append (p : Nat) (a b : List Int) : sideT p (a ++ b) = sideT p a ++ sideT (p + a.length) b := by
  induction a generalizing p with
  | nil => rfl
  | cons x a ih =>
    rw [List.cons_append, sideT, sideT, ih, List.append_assoc, List.length_cons]
    congr 3
    omega
theorem sideT_zeros (p n : Nat) : sideT p (List.replicate n 0) = [] := by
  induction n generalizing p with
  | zero => rfl
  | succ n ih => rw [List.replicate_succ, sideT, ih]; rfl

/-! ### a side, read -/
/-- Read from s on: the weights and what is left; none: it is no side. With fuel. -/
def sideR (P : Int) : Nat → List UInt8 → List Int → Int → Option (List Int × List UInt8)
  | 0, s, out, _ => some (out, s)
  | f + 1, s, out, last =>
    match s with
    | 32 :: s1 =>
      if s1.head? = some 62 then some (out, s)
      else
        if (s1.dropWhile dgt).head? = some 42 then
          (if (numT (s1.takeWhile dgt)).1 < 2 ∨ 9 < (numT (s1.takeWhile dgt)).1 then none
          else if ((numT (s1.takeWhile dgt)).2 && (numT (((s1.dropWhile dgt).drop 1).takeWhile dgt)).2) = false ∨ (numT (((s1.dropWhile dgt).drop 1).takeWhile dgt)).1 ≤ last ∨ P ≤ (numT (((s1.dropWhile dgt).drop 1).takeWhile dgt)).1 then none
          else sideR P f (((s1.dropWhile dgt).drop 1).dropWhile dgt) (out.set (numT (((s1.dropWhile dgt).drop 1).takeWhile dgt)).1.toNat (numT (s1.takeWhile dgt)).1) (numT (((s1.dropWhile dgt).drop 1).takeWhile dgt)).1)
        else
          (if (numT (s1.takeWhile dgt)).2 = false ∨ (numT (s1.takeWhile dgt)).1 ≤ last ∨ P ≤ (numT (s1.takeWhile dgt)).1 then none
          else sideR P f (s1.dropWhile dgt) (out.set (numT (s1.takeWhile dgt)).1.toNat 1) (numT (s1.takeWhile dgt)).1)
    | _ => some (out, s)
theorem span_dgt (d r : List UInt8) (hd : ∀ c ∈ d, dgt c = true) (hr : ∀ c, r.head? = some c → dgt c = false) : (d ++ r).takeWhile dgt = d ∧ (d ++ r).dropWhile dgt = r := by
  induction d with
  | nil =>
    cases r with
    | nil => exact ⟨rfl, rfl⟩
    | cons c r =>
      have := hr c rfl
      simp [this]
  | cons c d ih =>
    have h1 := hd c (by simp)
    obtain ⟨h2, h3⟩ := ih (fun x hx => hd x (by simp [hx]))
    exact ⟨by rw [List.cons_append, List.takeWhile_cons, if_pos h1, h2], by rw [List.cons_append, List.dropWhile_cons, if_pos h1, h3]⟩
theorem take_drop_dgt (s : List UInt8) : s.takeWhile dgt ++ s.dropWhile dgt = s ∧ (∀ c ∈ s.takeWhile dgt, dgt c = true) := by
  refine ⟨List.takeWhile_append_dropWhile, fun c hc => ?_⟩
  induction s with
  | nil => simp at hc
  | cons x s ih =>
    rw [List.takeWhile_cons] at hc
    split at hc
    · rename_i h
      rcases List.mem_cons.1 hc with rfl | hc
      · exact h
      · exact ih hc
    · simp at hc
/-- How a side ends: with no place behind it. -/
def EndT (r : List UInt8) : Prop := (∃ q, r = 32 :: 62 :: q) ∨ (∀ c, r.head? = some c → c ≠ 32)
theorem sideR_end {P : Int} {f : Nat} {r : List UInt8} {out : List Int} {last : Int} (h : EndT r) : sideR P f r out last = some (out, r) := by
  cases f with
  | zero => rfl
  | succ f =>
    rcases h with ⟨q, rfl⟩ | h
    · simp [sideR]
    · unfold sideR
      split
      · rename_i s1
        exact absurd rfl (h 32 rfl)
      · rfl

/-! ### what is written is read -/
theorem oneT_head (p : Nat) (n : Int) (h : n ≠ 0) : ∃ q, oneT p n = 32 :: q := by
  unfold oneT
  rw [if_neg h]
  split
  · exact ⟨_, rfl⟩
  · exact ⟨_, rfl⟩
theorem sideT_head : ∀ (w : List Int) (p : Nat), sideT p w = [] ∨ ∃ q, sideT p w = 32 :: q
  | [], _ => .inl rfl
  | n :: w, p => by
    unfold sideT
    by_cases h : n = 0
    · subst h
      exact sideT_head w (p + 1)
    · obtain ⟨q, e⟩ := oneT_head p n h
      exact .inr ⟨q ++ sideT (p + 1) w, by rw [e]; rfl⟩
theorem side_rest {w : List Int} {p : Nat} {r : List UInt8} (hr : ∀ c, r.head? = some c → dgt c = false ∧ c ≠ 42) : ∀ c, (sideT p w ++ r).head? = some c → dgt c = false ∧ c ≠ 42 := by
  intro c hc
  rcases sideT_head w p with e | ⟨q, e⟩
  · rw [e, List.nil_append] at hc
    exact hr c hc
  · rw [e] at hc
    simp at hc
    subst hc
    exact ⟨by decide, by decide⟩
theorem dec_head {n : Nat} {r : List UInt8} : ∃ c, (decDigits n ++ r).head? = some c ∧ dgt c = true := by
  cases hd : decDigits n with
  | nil => exact absurd hd (dec_ne n)
  | cons c d => exact ⟨c, rfl, dec_dgt n c (by rw [hd]; simp)⟩
theorem sideR_reads {P : Nat} {w : List Int} (hw : w.length = P) (hok : ∀ x ∈ w, 0 ≤ x ∧ x ≤ 9) (hP : P ≤ 16) {r : List UInt8} (he : EndT r) (hr : ∀ c, r.head? = some c → dgt c = false ∧ c ≠ 42) :
    ∀ (n q : Nat), q + n = P → ∀ (f : Nat), n ≤ f → ∀ last : Int, last < (q : Int) → sideR (P : Int) f (sideT q (w.drop q) ++ r) (w.take q ++ List.replicate n 0) last = some (w, r) := by
  intro n
  induction n with
  | zero =>
    intro q hq f _ last _
    rw [List.drop_of_length_le (by omega), List.take_of_length_le (by omega)]
    simp only [sideT, List.nil_append, List.replicate_zero, List.append_nil]
    exact sideR_end he
  | succ n ih =>
    intro q hq f hf last hl
    have hqw : q < w.length := by omega
    obtain ⟨x, hx⟩ : ∃ x, w[q]? = some x := ⟨_, List.getElem?_eq_getElem hqw⟩
    have hd : w.drop q = x :: w.drop (q + 1) := by
      rw [List.drop_eq_getElem_cons hqw]
      rw [List.getElem?_eq_getElem hqw] at hx
      injection hx with hx
      rw [hx]
    have ht : w.take (q + 1) = w.take q ++ [x] := by rw [List.take_add_one, hx]; rfl
    have hset : ∀ v : Int, (w.take q ++ List.replicate (n + 1) 0).set q v = w.take q ++ v :: List.replicate n 0 := fun v => by
      have hl : (w.take q).length = q := by rw [List.length_take]; omega
      rw [List.set_append_right _ _ (by omega), hl, Nat.sub_self, List.replicate_succ, List.set_cons_zero]
    have hxo := hok x (List.mem_of_getElem? hx)
    rw [hd, sideT]
    by_cases h0 : x = 0
    · subst h0
      have := ih (q + 1) (by omega) f (by omega) last (by omega)
      rw [ht, List.append_assoc, List.singleton_append, ← List.replicate_succ] at this
      exact this
    · obtain ⟨f, rfl⟩ : ∃ g, f = g + 1 := ⟨f - 1, by omega⟩
      have hrest := side_rest (w := w.drop (q + 1)) (p := q + 1) hr
      have hnq := num_dec (k := q) (by omega)
      obtain ⟨s4, hs4⟩ : ∃ s4, s4 = sideT (q + 1) (w.drop (q + 1)) ++ r := ⟨_, rfl⟩
      have hsp := span_dgt (decDigits q) s4 (dec_dgt q) (fun c hc => (hrest c (by rw [← hs4]; exact hc)).1)
      have h42 : s4.head? ≠ some 42 := fun e => (hrest 42 (by rw [← hs4]; exact e)).2 rfl
      by_cases h1 : 1 < x
      · have hone : oneT q x = 32 :: (decDigits x.toNat ++ 42 :: decDigits q) := by unfold oneT; rw [if_neg h0, if_pos h1]
        rw [hone, List.append_assoc, ← hs4, List.cons_append, List.append_assoc, List.cons_append]
        obtain ⟨c, hc1, hc2⟩ := dec_head (n := x.toNat) (r := 42 :: (decDigits q ++ s4))
        have hsx := span_dgt (decDigits x.toNat) (42 :: (decDigits q ++ s4)) (dec_dgt _) (fun c hc => by simp at hc; subst hc; decide)
        have hnx := num_dec (k := x.toNat) (by omega)
        have hxx : ((x.toNat : Nat) : Int) = x := by omega
        unfold sideR
        simp only
        rw [if_neg (by rw [hc1]; intro e; injection e with e; subst e; exact absurd hc2 (by decide)), hsx.1, hsx.2, hnx, if_pos (show (42 :: (decDigits q ++ s4)).head? = some 42 from rfl), List.drop_succ_cons, List.drop_zero, hsp.1, hsp.2, hnq, hxx, if_neg (by omega), if_neg (by simp only [Bool.and_self, Int.toNat_natCast]; intro e; rcases e with e | e | e; exact absurd e (by decide); omega; omega)]
        simp only [Int.toNat_natCast]
        rw [hset, hs4]
        have := ih (q + 1) (by omega) f (by omega) (q : Int) (by omega)
        rw [ht, List.append_assoc, List.singleton_append] at this
        exact this
      · have h2 : x = 1 := by omega
        subst h2
        have hone : oneT q 1 = 32 :: decDigits q := by unfold oneT; rw [if_neg (by decide), if_neg (by decide)]
        rw [hone, List.append_assoc, ← hs4, List.cons_append]
        obtain ⟨c, hc1, hc2⟩ := dec_head (n := q) (r := s4)
        unfold sideR
        simp only
        rw [if_neg (by rw [hc1]; intro e; injection e with e; subst e; exact absurd hc2 (by decide)), hsp.1, hsp.2, hnq, if_neg h42, if_neg (by simp only; intro e; rcases e with e | e | e; exact absurd e (by decide); omega; omega)]
        simp only [Int.toNat_natCast]
        rw [hset, hs4]
        have := ih (q + 1) (by omega) f (by omega) (q : Int) (by omega)
        rw [ht, List.append_assoc, List.singleton_append] at this
        exact this
/-! ### what is read was written -/
theorem side_split {out' out1 : List Int} {L p P : Nat} {v : Int} (h1 : out'.length = P) (hLp : L ≤ p) (hp : p < P) (ht : out'.take (p + 1) = out1.take (p + 1)) (hz : ∀ q, L ≤ q → q < p → out1[q]? = some 0) (hv : out1[p]? = some v) :
    sideT L (out'.drop L) = oneT p v ++ sideT (p + 1) (out'.drop (p + 1)) := by
  have hget : ∀ q, q ≤ p → out'[q]? = out1[q]? := fun q hq => by
    have h := congrArg (fun l => l[q]?) ht
    simpa [List.getElem?_take, show q < p + 1 by omega] using h
  have e : out'.drop L = List.replicate (p - L) 0 ++ v :: out'.drop (p + 1) := by
    apply List.ext_getElem?
    intro i
    rw [List.getElem?_drop]
    by_cases hi : i < p - L
    · rw [List.getElem?_append_left (by simpa using hi), hget _ (by omega), hz _ (by omega) (by omega), List.getElem?_replicate, if_pos hi]
    · rw [List.getElem?_append_right (by simpa using Nat.le_of_not_lt hi), List.length_replicate]
      by_cases hi2 : i = p - L
      · subst hi2
        rw [Nat.sub_self, List.getElem?_cons_zero, show L + (p - L) = p by omega, hget p (Nat.le_refl _), hv]
      · obtain ⟨j, hj⟩ : ∃ j, i - (p - L) = j + 1 := ⟨i - (p - L) - 1, by omega⟩
        rw [hj, List.getElem?_cons_succ, List.getElem?_drop]
        congr 1
        omega
  rw [e, sideT_append, sideT_zeros, List.nil_append, List.length_replicate, sideT, show L + (p - L) = p by omega]
theorem sideR_sound {P : Nat} : ∀ (f : Nat) (s : List UInt8) (out : List Int) (L : Nat) (out' : List Int) (rest : List UInt8), s.length ≤ f → out.length = P → (∀ q, L ≤ q → q < P → out[q]? = some 0) → (∀ x ∈ out, 0 ≤ x ∧ x ≤ 9) →
    sideR (P : Int) f s out ((L : Int) - 1) = some (out', rest) → out'.length = P ∧ (∀ x ∈ out', 0 ≤ x ∧ x ≤ 9) ∧ out'.take L = out.take L ∧ s = sideT L (out'.drop L) ++ rest ∧ EndT rest := by
  have stop : ∀ (s : List UInt8) (out : List Int) (L : Nat), out.length = P → (∀ q, L ≤ q → q < P → out[q]? = some 0) → s = sideT L (out.drop L) ++ s := fun s out L hl hz => by
    have : out.drop L = List.replicate (P - L) 0 := by
      apply List.ext_getElem?
      intro i
      rw [List.getElem?_drop, List.getElem?_replicate]
      split
      · exact hz _ (by omega) (by omega)
      · exact List.getElem?_eq_none (by omega)
    rw [this, sideT_zeros, List.nil_append]
  intro f
  induction f with
  | zero =>
    intro s out L out' rest hf hl hz ho h
    have hs : s = [] := List.eq_nil_of_length_eq_zero (by omega)
    subst hs
    simp only [sideR, Option.some.injEq, Prod.mk.injEq] at h
    obtain ⟨rfl, rfl⟩ := h
    exact ⟨hl, ho, rfl, stop _ _ _ hl hz, .inr (fun c hc => by simp at hc)⟩
  | succ f ih =>
    intro s out L out' rest hf hl hz ho h
    have tok : ∀ (s4 : List UInt8) (k : Nat) (v : Int), s4.length ≤ f → L ≤ k → k < P → 1 ≤ v → v ≤ 9 → sideR (P : Int) f s4 (out.set k v) (k : Int) = some (out', rest) →
        out'.length = P ∧ (∀ x ∈ out', 0 ≤ x ∧ x ≤ 9) ∧ out'.take L = out.take L ∧ oneT k v ++ s4 = sideT L (out'.drop L) ++ rest ∧ EndT rest := fun s4 k v h4 hk1 hk2 hv1 hv2 h => by
      obtain ⟨i1, i2, i3, i4, i5⟩ := ih s4 (out.set k v) (k + 1) out' rest h4 (by simpa using hl) (fun q hq1 hq2 => by rw [List.getElem?_set_ne (by omega)]; exact hz q (by omega) hq2) (fun x hx => by
        rcases List.mem_or_eq_of_mem_set hx with hx | rfl
        · exact ho x hx
        · omega) (by rw [show ((k + 1 : Nat) : Int) - 1 = (k : Int) by omega]; exact h)
      refine ⟨i1, i2, ?_, ?_, i5⟩
      · have h1 := congrArg (List.take L) i3
        rw [List.take_take, List.take_take, Nat.min_eq_left (by omega)] at h1
        rw [h1]
        apply List.ext_getElem?
        intro i
        rw [List.getElem?_take, List.getElem?_take]
        split
        · rw [List.getElem?_set_ne (by omega)]
        · rfl
      · rw [side_split i1 hk1 hk2 i3 (fun q hq1 hq2 => by rw [List.getElem?_set_ne (by omega)]; exact hz q hq1 (by omega)) (by rw [List.getElem?_set_self (by omega)]), List.append_assoc, ← i4]
    unfold sideR at h
    split at h
    · rename_i s1
      obtain ⟨hs1, hd1⟩ := take_drop_dgt s1
      split at h
      · rename_i h62
        simp only [Option.some.injEq, Prod.mk.injEq] at h
        obtain ⟨rfl, rfl⟩ := h
        refine ⟨hl, ho, rfl, stop _ _ _ hl hz, .inl ?_⟩
        cases s1 with
        | nil => simp at h62
        | cons c q => simp at h62; subst h62; exact ⟨q, rfl⟩
      · split at h
        · rename_i h42
          obtain ⟨s3, hs3⟩ : ∃ s3, s1.dropWhile dgt = 42 :: s3 := by
            cases hc : s1.dropWhile dgt with
            | nil => rw [hc] at h42; simp at h42
            | cons c q => rw [hc] at h42; simp at h42; subst h42; exact ⟨q, rfl⟩
          rw [hs3, List.drop_succ_cons, List.drop_zero] at h
          obtain ⟨hs2, hd2⟩ := take_drop_dgt s3
          split at h
          · cases h
          · rename_i hn
            split at h
            · cases h
            · rename_i hp
              have hok : (numT (s1.takeWhile dgt)).2 = true ∧ (numT (s3.takeWhile dgt)).2 = true := by
                cases h1 : (numT (s1.takeWhile dgt)).2 <;> cases h2 : (numT (s3.takeWhile dgt)).2
                · exact absurd (.inl (by rw [h1, h2]; rfl)) hp
                · exact absurd (.inl (by rw [h1, h2]; rfl)) hp
                · exact absurd (.inl (by rw [h1, h2]; rfl)) hp
                · exact ⟨rfl, rfl⟩
              obtain ⟨kn, en, dn⟩ := num_is hd1 hok.1
              obtain ⟨kp, ep, dp⟩ := num_is hd2 hok.2
              rw [en] at hn h
              rw [ep] at hp h
              rw [Int.toNat_natCast] at h
              have hlen : (s3.dropWhile dgt).length ≤ f := by
                have e1 := congrArg List.length hs1
                have e2 := congrArg List.length hs2
                rw [List.length_append, hs3, List.length_cons] at e1
                rw [List.length_append] at e2
                simp only [List.length_cons] at hf
                omega
              obtain ⟨i1, i2, i3, i4, i5⟩ := tok (s3.dropWhile dgt) kp (kn : Int) hlen (by omega) (by omega) (by omega) (by omega) h
              refine ⟨i1, i2, i3, ?_, i5⟩
              rw [← i4]
              unfold oneT
              rw [if_neg (by omega), if_pos (by omega), Int.toNat_natCast, ← dn, ← dp, List.cons_append, List.append_assoc, List.cons_append, hs2, ← hs3, hs1]
        · split at h
          · cases h
          · rename_i hp
            have hok : (numT (s1.takeWhile dgt)).2 = true := by
              cases h1 : (numT (s1.takeWhile dgt)).2
              · exact absurd (.inl h1) hp
              · rfl
            obtain ⟨kp, ep, dp⟩ := num_is hd1 hok
            rw [ep] at hp h
            rw [Int.toNat_natCast] at h
            have hlen : (s1.dropWhile dgt).length ≤ f := by
              have e1 := congrArg List.length hs1
              rw [List.length_append] at e1
              simp only [List.length_cons] at hf
              omega
            obtain ⟨i1, i2, i3, i4, i5⟩ := tok (s1.dropWhile dgt) kp 1 hlen (by omega) (by omega) (by omega) (by omega) h
            refine ⟨i1, i2, i3, ?_, i5⟩
            rw [← i4]
            unfold oneT
            rw [if_neg (by decide), if_neg (by decide), ← dp, List.cons_append, hs1]
    · rename_i hns
      simp only [Option.some.injEq, Prod.mk.injEq] at h
      obtain ⟨rfl, rfl⟩ := h
      refine ⟨hl, ho, rfl, stop _ _ _ hl hz, .inr (fun c hc e => ?_)⟩
      cases s with
      | nil => simp at hc
      | cons x q => simp at hc; subst hc; subst e; exact hns q rfl
end Go.Proofs.YtcgdjpelcfofgaaDoor
