/- Texts melted into one: The plain law of blocks' words: bounds: how many rests, how great, and what a block that isn't wrong is. No program in sight. | The plain law of nets' texts: a line's text, and the reading of a side, byte by byte. No program in sight. | The plain law of blocks' words: a block's key tells it from every other one. No program in sight. -/
import Derived.Test.YtniolbbhjibobaaDoorBlocksListK13
import Derived.Test.YtniolbbhjibobaaDoorBlocksListK01
import Derived.Lib.AtoiAll
import Derived.Lib.ItoaNum
import Derived.Test.YtniolbbhjibobaaDoorBlocksListK02
set_option linter.all false
namespace Go.Proofs.YtniolbbhjibobaaDoor

theorem len_flat {α β : Type} (l : List α) (f : α → List β) : (l.flatMap f).length = (l.map fun x => (f x).length).sum := by
  induction l with
  | nil => rfl
  | cons a l ih => simp only [List.flatMap_cons, List.length_append, List.map_cons, List.sum_cons, ih]
theorem sum_le {l : List Nat} {f g : Nat → Nat} (h : ∀ i ∈ l, f i ≤ g i) : (l.map f).sum ≤ (l.map g).sum := by
  induction l with
  | nil => exact Nat.le_refl _
  | cons a l ih =>
    have := h a (by simp)
    have := ih (fun i hi => h i (by simp [hi]))
    simp only [List.map_cons, List.sum_cons]
    omega
theorem flat_bag {A n : Nat} {β : Type} (f : Nat → List β) (h : ∀ i, (f i).length ≤ bag A (i + 1)) : ((List.range n).flatMap f).length + 1 ≤ bag (A + 1) n := by
  rw [len_flat, ← bag_sum]
  have := sum_le (l := List.range n) (f := fun i => (f i).length) (g := fun i => bag A (i + 1)) (fun i _ => h i)
  omega
theorem resC_len {n : Nat} (hn : n ≠ 0) : ∀ {ks : List PBlk}, (∀ b ∈ ks, (resB b n).length ≤ bag (2 * szB b) n) → (resC ks n).length ≤ bag (2 * szK ks) n
  | [], _ => by simp [resC]
  | b :: bs, h => by
    rw [resC, szK_cons, List.length_append]
    have h1 := h b (by simp)
    have h2 := resC_len hn (ks := bs) (fun c hc => h c (by simp [hc]))
    have h3 := bag_add (2 * szB b) (2 * szK bs) hn
    rw [show 2 * (szB b + szK bs) = 2 * szB b + 2 * szK bs by omega]
    omega
theorem resS_len {n : Nat} (hn : n ≠ 0) : ∀ {ks : List PBlk}, (∀ b ∈ ks, ∀ i, (resB b i).length ≤ bag (2 * szB b) i) → (resS ks n).length + 1 ≤ bag (2 * szK ks + 1) n
  | [], _ => by simp [resS, szK_nil, bag_one]
  | b :: bs, h => by
    rw [resS, szK_cons, List.length_append]
    have h1 := flat_bag (A := 2 * szB b) (n := n) (fun i => (resB b (i + 1)).map fun x => thnB x (tailB i bs)) (fun i => by rw [List.length_map]; exact h b (by simp) (i + 1))
    have h2 := resS_len hn (ks := bs) (fun c hc => h c (by simp [hc]))
    have h3 := bag_two (2 * szB b) (2 * szK bs) n
    rw [show 2 * (szB b + szK bs) + 1 = 2 * szB b + 2 * szK bs + 1 by omega]
    omega
theorem resM_len : ∀ {ks : List PBlk} {n : Nat}, (∀ b ∈ ks, ∀ i, (resB b i).length ≤ bag (2 * szB b) i) → (resM ks n).length ≤ bag (2 * szK ks) n
  | [], n, _ => by
    unfold resM
    rw [szK_nil]
    split
    · rename_i h; subst h; rw [bag_0]; exact Nat.le_refl _
    · exact Nat.zero_le _
  | b :: bs, n, h => by
    rw [resM, szK_cons, show 2 * (szB b + szK bs) = 2 * szB b + 2 * szK bs by omega, ← conv_bag, len_flat]
    refine sum_le (fun i _ => ?_)
    have h1 := h b (by simp) i
    have h2 := resM_len (ks := bs) (n := n - i) (fun c hc => h c (by simp [hc]))
    have key : ∀ l : List PBlk, (l.flatMap fun x => (resM bs (n - i)).map fun xs => x :: xs).length = l.length * (resM bs (n - i)).length := fun l => by
      induction l with
      | nil => simp
      | cons a l ih => simp only [List.flatMap_cons, List.length_append, List.length_map, ih, List.length_cons, Nat.add_mul]; omega
    rw [key]
    exact Nat.mul_le_mul h1 h2
/-- How many may be left behind n letters. -/
theorem res_len : ∀ (b : PBlk), wfB b → ∀ n, (resB b n).length ≤ bag (2 * szB b) n
  | .mk k l ks, h => by
    have ih : wfK ks → ∀ b ∈ ks, ∀ n, (resB b n).length ≤ bag (2 * szB b) n := fun hk b hb => res_len b (wfK_iff.1 hk b hb)
    intro n
    by_cases hn : n = 0
    · subst hn
      rw [res_0, bag_0]
      exact Nat.le_refl _
    rw [szB_mk, show 2 * (1 + szK ks) = 2 * szK ks + 1 + 1 by omega]
    have up := bag_le (N := 2 * szK ks) (M := 2 * szK ks + 1 + 1) (by omega) n
    have pos := bag_pos (2 * szK ks + 1) n
    cases h.shp with
    | sil => rw [res_1 hn]; exact Nat.zero_le _
    | step =>
      rw [res_2 hn]
      split
      · exact pos
      · exact Nat.zero_le _
    | seq _ _ hne hk =>
      rw [res_3 hn]
      have h1 := resS_len hn (ih hk)
      have := bag_up (2 * szK ks + 1) n
      omega
    | choice _ _ hne hk => rw [res_4 hn]; exact Nat.le_trans (resC_len hn (fun b hb => ih hk b hb n)) up
    | both _ _ hne hk => rw [res_5 hn, List.length_map]; exact Nat.le_trans (resM_len (ih hk)) up
    | loop _ p q hp hq =>
      have ih := ih ⟨hp, hq, trivial⟩
      have hp' := ih p (by simp)
      have hq' : ∀ i, (resC [q] i).length ≤ bag (2 * szB q) i := fun i => by
        have e : resC [q] i = resB q i := by simp [resC]
        rw [e]
        exact ih q (by simp) i
      rw [res_6 hn, resL, List.length_append, List.length_append, szK_cons, szK_cons, szK_nil]
      have h1 := flat_bag (A := 2 * szB p) (n := n) (fun i => (resB p (i + 1)).map fun x => thnB x (wrapB i (onceL l p [q]))) (fun i => by rw [List.length_map]; exact hp' (i + 1))
      have h2 := flat_bag (A := 2 * szB q) (n := n) (fun i => (resC [q] (i + 1)).map fun x => thnB x (wrapB i (.mk 6 l [p, q]))) (fun i => by rw [List.length_map]; exact hq' (i + 1))
      have h3 := flat_bag (A := 2 * szB q) (n := n - 1) (fun i => (resC [q] (i + 1)).map fun x => thnB x (wrapB (i + 1) (.mk 6 l [p, q]))) (fun i => by rw [List.length_map]; exact hq' (i + 1))
      have h4 := bag_two (2 * szB p) (2 * szB q) n
      obtain ⟨m, rfl⟩ : ∃ m, n = m + 1 := ⟨n - 1, by omega⟩
      rw [show 2 * (szB p + (szB q + 0)) + 1 + 1 = (2 * szB p + 2 * szB q + 1) + 1 by omega, bag_SS]
      have h5 := bag_le (N := 2 * szB q + 1) (M := 2 * szB p + 2 * szB q + 1 + 1) (by omega) m
      rw [Nat.add_sub_cancel] at h3 ⊢
      omega
termination_by b => SizeOf.sizeOf b
decreasing_by
  have := List.sizeOf_lt_of_mem hb
  simp only [PBlk.mk.sizeOf_spec]
  omega

/-! ### the number -/
def sumsB : Nat → List Nat → List Nat
  | _, [] => []
  | s, a :: l => (s + a) :: sumsB (s + a) l
def rowB : Nat → List Nat
  | 0 => [1, 0, 0, 0, 0, 0, 0, 0, 0, 0]
  | N + 1 => sumsB 0 (rowB N)
theorem rowB_eq : ∀ N, rowB N = [bag N 0, bag N 1, bag N 2, bag N 3, bag N 4, bag N 5, bag N 6, bag N 7, bag N 8, bag N 9]
  | 0 => by simp [rowB, bag_0, bag_00]
  | N + 1 => by
    rw [rowB, rowB_eq N]
    have e0 : bag (N + 1) 0 = 1 := bag_0 _
    have f0 : bag N 0 = 1 := bag_0 _
    have e1 : bag (N + 1) 1 = bag N 1 + bag (N + 1) 0 := bag_SS N 0
    have e2 : bag (N + 1) 2 = bag N 2 + bag (N + 1) 1 := bag_SS N 1
    have e3 : bag (N + 1) 3 = bag N 3 + bag (N + 1) 2 := bag_SS N 2
    have e4 : bag (N + 1) 4 = bag N 4 + bag (N + 1) 3 := bag_SS N 3
    have e5 : bag (N + 1) 5 = bag N 5 + bag (N + 1) 4 := bag_SS N 4
    have e6 : bag (N + 1) 6 = bag N 6 + bag (N + 1) 5 := bag_SS N 5
    have e7 : bag (N + 1) 7 = bag N 7 + bag (N + 1) 6 := bag_SS N 6
    have e8 : bag (N + 1) 8 = bag N 8 + bag (N + 1) 7 := bag_SS N 7
    have e9 : bag (N + 1) 9 = bag N 9 + bag (N + 1) 8 := bag_SS N 8
    simp only [sumsB, List.cons.injEq, and_true]
    refine ⟨by omega, by omega, by omega, by omega, by omega, by omega, by omega, by omega, by omega, by omega⟩
theorem bag_80 : bag 80 9 ≤ 1000000000000 := by
  have h := rowB_eq 80
  have e : (rowB 80).getD 9 0 ≤ 1000000000000 := by decide +kernel
  rw [h] at e
  exact e
theorem bag_right {N n : Nat} (hN : N ≤ 80) (hn : n ≤ 9) : bag N n ≤ 1000000000000 := by
  cases N with
  | zero => cases n with
    | zero => rw [bag_0]; omega
    | succ n => rw [bag_00]; omega
  | succ N =>
    have mono : ∀ m, bag (N + 1) m ≤ bag (N + 1) (m + 1) := fun m => by rw [bag_SS]; omega
    have : ∀ k, n ≤ k → bag (N + 1) n ≤ bag (N + 1) k := fun k hk => by
      induction hk with
      | refl => exact Nat.le_refl _
      | step _ ih => exact Nat.le_trans ih (mono _)
    exact Nat.le_trans (this 9 hn) (Nat.le_trans (bag_le hN 9) bag_80)

/-! ### how great -/
def grB (N : Nat) : Nat := N * N + 20 * N
theorem grB_S (N : Nat) : grB (N + 1) = grB N + 2 * N + 21 := by unfold grB; simp only [Nat.add_mul, Nat.mul_add, Nat.mul_one, Nat.one_mul]; omega
theorem grB_le {N M : Nat} (h : N ≤ M) : grB N ≤ grB M := by
  induction h with
  | refl => exact Nat.le_refl _
  | step _ ih => rw [grB_S]; omega
theorem grB_add (A B : Nat) : grB A + grB B ≤ grB (A + B) := by unfold grB; simp only [Nat.add_mul, Nat.mul_add]; omega
theorem wrap_sz (r : PBlk) : ∀ j, szB (wrapB j r) = j + szB r
  | 0 => by rw [wrapB]; omega
  | j + 1 => by rw [wrapB, szB_mk, szK_cons, szK_nil, wrap_sz r j]; omega
theorem sil_sz : szB silB = 1 := by rw [silB, szB_mk, szK_nil]
theorem tail_sz (bs : List PBlk) (i : Nat) : szB (tailB i bs) ≤ i + 1 + szK bs := by
  unfold tailB
  cases bs with
  | nil => simp only [List.isEmpty_nil, if_true]; rw [sil_sz]; omega
  | cons c cs => rw [if_neg (by simp), wrap_sz, szB_mk]; omega
theorem resM_sz : ∀ {ks xs : List PBlk} {n : Nat}, n ≤ 9 → (∀ b ∈ ks, ∀ n, n ≤ 9 → ∀ x ∈ resB b n, szB x ≤ grB (szB b)) → xs ∈ resM ks n → szK xs ≤ grB (szK ks)
  | [], xs, n, _, _, h => by
    unfold resM at h
    split at h
    · rw [List.mem_singleton.1 h, szK_nil]; exact Nat.zero_le _
    · cases h
  | b :: bs, xs, n, hn, ih, h => by
    rw [resM] at h
    obtain ⟨i, hi, h⟩ := List.mem_flatMap.1 h
    obtain ⟨x, hx, h⟩ := List.mem_flatMap.1 h
    obtain ⟨ys, hys, rfl⟩ := List.mem_map.1 h
    have hi := List.mem_range.1 hi
    have h1 := ih b (by simp) i (by omega) x hx
    have h2 := resM_sz (by omega) (fun c hc => ih c (by simp [hc])) hys
    have h3 := grB_add (szB b) (szK bs)
    rw [szK_cons, szK_cons]
    omega
/-- How great what is left is. -/
theorem res_sz : ∀ (b : PBlk), wfB b → ∀ n, n ≤ 9 → ∀ x ∈ resB b n, szB x ≤ grB (szB b)
  | .mk k l ks, h => by
    have ih : wfK ks → ∀ b ∈ ks, ∀ n, n ≤ 9 → ∀ x ∈ resB b n, szB x ≤ grB (szB b) := fun hk b hb => res_sz b (wfK_iff.1 hk b hb)
    intro n hn9 x hx
    rw [szB_mk, show 1 + szK ks = szK ks + 1 by omega, grB_S]
    by_cases hn : n = 0
    · subst hn
      rw [res_0, List.mem_singleton] at hx
      rw [hx, szB_mk]
      omega
    cases h.shp with
    | sil => rw [res_1 hn] at hx; cases hx
    | step =>
      rw [res_2 hn] at hx
      split at hx
      · rw [List.mem_singleton.1 hx, sil_sz]; omega
      · cases hx
    | seq _ _ hne hk =>
      rw [res_3 hn] at hx
      have key : ∀ ks : List PBlk, (∀ b ∈ ks, ∀ n, n ≤ 9 → ∀ x ∈ resB b n, szB x ≤ grB (szB b)) → x ∈ resS ks n → szB x ≤ grB (szK ks) + szK ks + 12 := fun ks => by
        induction ks with
        | nil => intro _ hx; simp [resS] at hx
        | cons b bs IH =>
          intro ih hx
          rw [resS] at hx
          rw [szK_cons]
          have hm := grB_add (szB b) (szK bs)
          rcases List.mem_append.1 hx with hx | hx
          · obtain ⟨i, hi, hx⟩ := List.mem_flatMap.1 hx
            obtain ⟨y, hy, rfl⟩ := List.mem_map.1 hx
            have hi := List.mem_range.1 hi
            have h1 := ih b (by simp) (i + 1) (by omega) y hy
            have h2 := sz_thn y (tailB i bs)
            have h3 := tail_sz bs i
            omega
          · have := IH (fun c hc => ih c (by simp [hc])) hx
            omega
      have := key ks (ih hk) hx
      omega
    | choice _ _ hne hk =>
      rw [res_4 hn] at hx
      obtain ⟨b, hb, hx⟩ := resC_iff.1 hx
      have h1 := ih hk b hb n hn9 x hx
      have := grB_le (szK_mem hb)
      omega
    | both _ _ hne hk =>
      rw [res_5 hn] at hx
      obtain ⟨xs, hxs, rfl⟩ := List.mem_map.1 hx
      have := resM_sz hn9 (ih hk) hxs
      rw [szB_mk]
      omega
    | loop _ p q hp hq =>
      rw [res_6 hn, resL] at hx
      have ih := ih ⟨hp, hq, trivial⟩
      have hc : ∀ i y, i ≤ 9 → y ∈ resC [q] i → szB y ≤ grB (szB q) := fun i y hi hy => by
        obtain ⟨b, hb, hy⟩ := resC_iff.1 hy
        rw [List.mem_singleton.1 hb] at hy
        exact ih q (by simp) i hi y hy
      have h1p := szB_pos p
      have h1q := szB_pos q
      have hm := grB_add (szB p) (szB q)
      have hl : szB (.mk 6 l [p, q]) = 1 + szB p + szB q := by rw [szB_mk, szK_cons, szK_cons, szK_nil]; omega
      have ho : szB (onceL l p [q]) ≤ 4 + szB p + szB q + szB q := by
        have := sz_thn q (.mk 6 l [p, q])
        rw [onceL, szB_mk, szK_cons, szK_cons, szK_nil, sil_sz]
        have e : [q].getD 0 silB = q := rfl
        rw [e]
        omega
      have e2 : szK [p, q] = szB p + szB q := by rw [szK_cons, szK_cons, szK_nil]; omega
      rw [e2]
      have b1 : 21 * szB p ≤ grB (szB p) := by unfold grB; have := Nat.mul_le_mul_right (szB p) h1p; omega
      have b2 : 21 * szB q ≤ grB (szB q) := by unfold grB; have := Nat.mul_le_mul_right (szB q) h1q; omega
      rcases List.mem_append.1 hx with hx | hx
      · rcases List.mem_append.1 hx with hx | hx
        · obtain ⟨i, hi, hx⟩ := List.mem_flatMap.1 hx
          obtain ⟨y, hy, rfl⟩ := List.mem_map.1 hx
          have hi := List.mem_range.1 hi
          have g1 := ih p (by simp) (i + 1) (by omega) y hy
          have g2 := sz_thn y (wrapB i (onceL l p [q]))
          rw [wrap_sz] at g2
          omega
        · obtain ⟨i, hi, hx⟩ := List.mem_flatMap.1 hx
          obtain ⟨y, hy, rfl⟩ := List.mem_map.1 hx
          have hi := List.mem_range.1 hi
          have g1 := hc (i + 1) y (by omega) hy
          have g2 := sz_thn y (wrapB i (.mk 6 l [p, q]))
          rw [wrap_sz] at g2
          omega
      · obtain ⟨i, hi, hx⟩ := List.mem_flatMap.1 hx
        obtain ⟨y, hy, rfl⟩ := List.mem_map.1 hx
        have hi := List.mem_range.1 hi
        have g1 := hc (i + 1) y (by omega) hy
        have g2 := sz_thn y (wrapB (i + 1) (.mk 6 l [p, q]))
        rw [wrap_sz] at g2
        omega
termination_by b => SizeOf.sizeOf b
decreasing_by
  have := List.sizeOf_lt_of_mem hb
  simp only [PBlk.mk.sizeOf_spec]
  omega
end Go.Proofs.YtniolbbhjibobaaDoor
namespace Go.Proofs.YtniolbbhjibobaaDoor
open Go.Lib

/-! ### numbers -/
def dgt (c : UInt8) : Bool := decide (48 ≤ c.toNat) && decide (c.toNat ≤ 57)
theorem dec_dgt : ∀ n : Nat, ∀ c ∈ decDigits n, dgt c = true := fun n => by
  induction n using Nat.strongRecOn with
  | ind n ih =>
    intro c hc
    rw [decDigits] at hc
    have hd : ∀ k : Nat, k < 10 → dgt (UInt8.ofNat (48 + k)) = true := fun k hk => by
      unfold dgt
      rw [UInt8.toNat_ofNat', Nat.mod_eq_of_lt (by omega)]
      simp
      omega
    split at hc
    · rename_i h
      rw [List.mem_singleton.1 hc]
      exact hd n h
    · rename_i h
      rcases List.mem_append.1 hc with hc | hc
      · exact ih (n / 10) (by omega) c hc
      · rw [List.mem_singleton.1 hc]
        exact hd _ (Nat.mod_lt _ (by omega))
theorem dec_ne (n : Nat) : decDigits n ≠ [] := by
  rw [decDigits]
  split
  · simp
  · simp
end Go.Proofs.YtniolbbhjibobaaDoor
namespace Go.Proofs.YtniolbbhjibobaaDoor
open Go.Lib

/-! ### an integer's text tells it -/
def valD (l : List UInt8) : Nat := l.foldl (fun n c => 10 * n + (c.toNat - 48)) 0
theorem val_dec : ∀ n : Nat, valD (decDigits n) = n := fun n => by
  induction n using Nat.strongRecOn with
  | ind n ih =>
    rw [decDigits]
    have hs : ∀ k, k < 10 → (UInt8.ofNat (48 + k)).toNat - 48 = k := fun k hk => by
      rw [UInt8.toNat_ofNat']
      omega
    split
    · rename_i h
      simp only [valD, List.foldl_cons, List.foldl_nil, hs n h]
      omega
    · rename_i h
      have := ih (n / 10) (by omega)
      unfold valD at this ⊢
      rw [List.foldl_append, this]
      simp only [List.foldl_cons, List.foldl_nil, hs (n % 10) (by omega)]
      omega
theorem dec_inj {n m : Nat} (h : decDigits n = decDigits m) : n = m := by
  rw [← val_dec n, h, val_dec]
/-- Behind an integer's text, no letter of an integer. -/
def numCh (c : UInt8) : Bool := c == 45 || dgt c
theorem itoa_ch (n : Int) : ∀ c ∈ itoa n, numCh c = true := fun c hc => by
  unfold itoa at hc
  split at hc
  · rcases List.mem_cons.1 hc with rfl | hc
    · rfl
    · unfold numCh; rw [dec_dgt _ c hc, Bool.or_true]
  · unfold numCh; rw [dec_dgt _ c hc, Bool.or_true]
theorem itoa_ne (n : Int) : itoa n ≠ [] := by
  unfold itoa
  split
  · simp
  · exact dec_ne _
theorem itoa_inj {n m : Int} (h : itoa n = itoa m) : n = m := by
  unfold itoa at h
  have h45 : dgt 45 = false := by decide
  split at h <;> split at h
  · have := dec_inj (List.cons.inj h).2
    omega
  · have := dec_dgt m.toNat 45 (by rw [← h]; simp)
    rw [h45] at this
    cases this
  · have := dec_dgt n.toNat 45 (by rw [h]; simp)
    rw [h45] at this
    cases this
  · have := dec_inj h
    omega
/-- Two texts that end at their first letter of another kind. -/
theorem split_num {p : UInt8 → Bool} {d : UInt8} (hd : p d = false) : ∀ {u v s t : List UInt8}, (∀ c ∈ u, p c = true) → (∀ c ∈ v, p c = true) → u ++ d :: s = v ++ d :: t → u = v ∧ s = t
  | [], [], _, _, _, _, h => ⟨rfl, (List.cons.inj h).2⟩
  | [], c :: v, _, _, _, hv, h => by
    have e := (List.cons.inj h).1
    have := hv c (by simp)
    rw [← e, hd] at this
    cases this
  | c :: u, [], _, _, hu, _, h => by
    have e := (List.cons.inj h).1
    have := hu c (by simp)
    rw [e, hd] at this
    cases this
  | c :: u, c' :: v, s, t, hu, hv, h => by
    obtain ⟨e1, e2⟩ := List.cons.inj h
    obtain ⟨g1, g2⟩ := split_num hd (fun x hx => hu x (by simp [hx])) (fun x hx => hv x (by simp [hx])) e2
    exact ⟨by rw [e1, g1], g2⟩

/-! ### keys -/
mutual
def keyB : PBlk → List UInt8
  | .mk k l ks => itoa k ++ 46 :: (itoa l ++ 40 :: (keyK ks ++ [41]))
def keyK : List PBlk → List UInt8
  | [] => []
  | b :: bs => keyB b ++ keyK bs
end
theorem key_ne41 : ∀ b : PBlk, ∃ c r, keyB b = c :: r ∧ c ≠ 41
  | .mk k l ks => by
    rw [keyB]
    cases h : itoa k with
    | nil => exact absurd h (itoa_ne k)
    | cons c r =>
      refine ⟨c, _, rfl, fun e => ?_⟩
      have := itoa_ch k c (by rw [h]; simp)
      rw [e] at this
      exact absurd this (by decide)
mutual
theorem key_app : ∀ {b c : PBlk} {s t : List UInt8}, keyB b ++ s = keyB c ++ t → b = c ∧ s = t
  | .mk k l ks, .mk k' l' ks', s, t, h => by
    rw [keyB, keyB] at h
    simp only [List.append_assoc, List.cons_append] at h
    obtain ⟨h1, h2⟩ := split_num (p := numCh) (by decide) (itoa_ch k) (itoa_ch k') h
    obtain ⟨h3, h4⟩ := split_num (p := numCh) (by decide) (itoa_ch l) (itoa_ch l') h2
    obtain ⟨h5, h6⟩ := keyK_app h4
    refine ⟨by rw [itoa_inj h1, itoa_inj h3, h5], ?_⟩
    simpa using h6
theorem keyK_app : ∀ {bs cs : List PBlk} {s t : List UInt8}, keyK bs ++ ([41] ++ s) = keyK cs ++ ([41] ++ t) → bs = cs ∧ s = t
  | [], [], s, t, h => ⟨rfl, by simpa [keyK] using h⟩
  | [], c :: cs, s, t, h => by
    obtain ⟨d, r, e, hd⟩ := key_ne41 c
    rw [keyK, keyK, e] at h
    exact absurd (List.cons.inj h).1.symm hd
  | b :: bs, [], s, t, h => by
    obtain ⟨d, r, e, hd⟩ := key_ne41 b
    rw [keyK, keyK, e] at h
    exact absurd (List.cons.inj h).1 hd
  | b :: bs, c :: cs, s, t, h => by
    rw [keyK, keyK, List.append_assoc, List.append_assoc] at h
    obtain ⟨h1, h2⟩ := key_app h
    obtain ⟨h3, h4⟩ := keyK_app h2
    exact ⟨by rw [h1, h3], h4⟩
end
theorem key_inj {b c : PBlk} (h : keyB b = keyB c) : b = c := (key_app (s := []) (t := []) (by rw [h])).1
end Go.Proofs.YtniolbbhjibobaaDoor
