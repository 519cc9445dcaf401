/- The plain law of blocks' words: how many rests of a block there are behind so many letters, and how great they are. No program in sight. -/
import Derived.Test.YtniolbbhjibobaaDoorBlocksListK03
set_option linter.all false
namespace Go.Proofs.YtniolbbhjibobaaDoor

/-! ### how many bags of n things out of N -/
def bag : Nat → Nat → Nat
  | _, 0 => 1
  | 0, _ + 1 => 0
  | N + 1, n + 1 => bag N (n + 1) + bag (N + 1) n
theorem bag_0 (N : Nat) : bag N 0 = 1 := by rw [bag]
theorem bag_00 (n : Nat) : bag 0 (n + 1) = 0 := by rw [bag]
theorem bag_SS (N n : Nat) : bag (N + 1) (n + 1) = bag N (n + 1) + bag (N + 1) n := by rw [bag]
theorem bag_up (N n : Nat) : bag N n ≤ bag (N + 1) n := by
  cases n with
  | zero => rw [bag_0, bag_0]; exact Nat.le_refl _
  | succ n => rw [bag_SS]; omega
theorem bag_le {N M : Nat} (h : N ≤ M) (n : Nat) : bag N n ≤ bag M n := by
  induction h with
  | refl => exact Nat.le_refl _
  | step _ ih => exact Nat.le_trans ih (bag_up _ _)
theorem bag_one (n : Nat) : bag 1 n = 1 := by
  induction n with
  | zero => rw [bag_0]
  | succ n ih => rw [bag_SS, ih, bag_00]
theorem bag_pos (N n : Nat) : 1 ≤ bag (N + 1) n := by have := bag_le (N := 1) (M := N + 1) (by omega) n; rw [bag_one] at this; exact this
theorem bag_sum (A n : Nat) : ((List.range n).map fun i => bag A (i + 1)).sum + 1 = bag (A + 1) n := by
  induction n with
  | zero => rw [bag_0]; rfl
  | succ n ih => rw [List.range_succ, List.map_append, List.sum_append, bag_SS, ← ih]; simp; omega
theorem bag_two (A S n : Nat) : bag (A + 1) n + bag (S + 1) n ≤ bag (A + S + 1) n + 1 := by
  induction S with
  | zero => rw [bag_one]; exact Nat.le_refl _
  | succ S ih =>
    cases n with
    | zero => simp only [bag_0]; omega
    | succ n =>
      have h1 : bag (S + 1 + 1) (n + 1) = bag (S + 1) (n + 1) + bag (S + 1 + 1) n := bag_SS _ _
      have h2 : bag (A + (S + 1) + 1) (n + 1) = bag (A + S + 1) (n + 1) + bag (A + (S + 1) + 1) n := bag_SS _ _
      have h3 := bag_le (N := S + 1 + 1) (M := A + (S + 1) + 1) (by omega) n
      omega
theorem bag_add (A B : Nat) {n : Nat} (hn : n ≠ 0) : bag A n + bag B n ≤ bag (A + B) n := by
  induction B with
  | zero =>
    cases n with
    | zero => exact absurd rfl hn
    | succ n => rw [bag_00]; exact Nat.le_refl _
  | succ B ih =>
    cases n with
    | zero => exact absurd rfl hn
    | succ n =>
      have h1 : bag (B + 1) (n + 1) = bag B (n + 1) + bag (B + 1) n := bag_SS _ _
      have h2 : bag (A + (B + 1)) (n + 1) = bag (A + B) (n + 1) + bag (A + (B + 1)) n := bag_SS _ _
      have h3 := bag_le (N := B + 1) (M := A + (B + 1)) (by omega) n
      omega
def conv (A B n : Nat) : Nat := ((List.range (n + 1)).map fun i => bag A i * bag B (n - i)).sum
theorem sum_add (l : List Nat) (f g : Nat → Nat) : (l.map fun i => f i + g i).sum = (l.map f).sum + (l.map g).sum := by
  induction l with
  | nil => rfl
  | cons a l ih => simp only [List.map_cons, List.sum_cons, ih]; omega
theorem conv_head (A B n : Nat) : conv A B (n + 1) = bag B (n + 1) + ((List.range (n + 1)).map fun j => bag A (j + 1) * bag B (n - j)).sum := by
  unfold conv
  rw [List.range_succ_eq_map, List.map_cons, List.sum_cons, List.map_map, bag_0]
  simp only [Nat.one_mul, Nat.sub_zero]
  congr 2
  refine List.map_congr_left (fun j _ => ?_)
  simp only [Function.comp, Nat.succ_eq_add_one, Nat.add_sub_add_right]
theorem conv_bag (A B n : Nat) : conv A B n = bag (A + B) n := by
  induction A generalizing n with
  | zero =>
    cases n with
    | zero => simp [conv, bag_0]
    | succ n =>
      rw [conv_head, Nat.zero_add]
      have : ((List.range (n + 1)).map fun j => bag 0 (j + 1) * bag B (n - j)) = (List.range (n + 1)).map fun _ => 0 := List.map_congr_left (fun j _ => by rw [bag_00, Nat.zero_mul])
      rw [this, List.map_const']
      have h0 : ∀ k : Nat, (List.replicate k 0).sum = 0 := fun k => by induction k with | zero => rfl | succ k ih => rw [List.replicate_succ, List.sum_cons, ih]
      rw [h0]
      rfl
  | succ A ih =>
    induction n with
    | zero => simp [conv, bag_0]
    | succ n IH =>
      have e : ((List.range (n + 1)).map fun j => bag (A + 1) (j + 1) * bag B (n - j)).sum = ((List.range (n + 1)).map fun j => bag A (j + 1) * bag B (n - j)).sum + conv (A + 1) B n := by
        unfold conv
        rw [← sum_add]
        congr 1
        refine List.map_congr_left (fun j _ => ?_)
        rw [bag_SS, Nat.add_mul]
      have h1 := ih (n + 1)
      rw [conv_head] at h1
      rw [conv_head, e, IH, Nat.succ_add, bag_SS, ← h1]
      have e2 : bag (A + B).succ n = bag (A + B + 1) n := rfl
      omega

/-! ### sizes -/
mutual
def szB : PBlk → Nat
  | .mk _ _ ks => 1 + szK ks
def szK : List PBlk → Nat
  | [] => 0
  | b :: bs => szB b + szK bs
end
theorem szB_pos : ∀ b : PBlk, 1 ≤ szB b
  | .mk _ _ ks => by rw [szB]; omega
theorem szB_mk {k l : Int} {ks : List PBlk} : szB (.mk k l ks) = 1 + szK ks := by rw [szB]
theorem szK_cons {b : PBlk} {bs : List PBlk} : szK (b :: bs) = szB b + szK bs := by rw [szK]
theorem szK_nil : szK [] = 0 := by rw [szK]
theorem szK_app : ∀ ps ks : List PBlk, szK (ps ++ ks) = szK ps + szK ks
  | [], ks => by rw [List.nil_append, szK_nil, Nat.zero_add]
  | p :: ps, ks => by rw [List.cons_append, szK_cons, szK_cons, szK_app]; omega
theorem szK_mem : ∀ {ks : List PBlk} {b : PBlk}, b ∈ ks → szB b ≤ szK ks
  | c :: cs, b, h => by
    rw [szK_cons]
    rcases List.mem_cons.1 h with rfl | h
    · omega
    · have := szK_mem h; omega
theorem sz_thn (x y : PBlk) : szB (thnB x y) ≤ 1 + szB x + szB y := by
  unfold thnB
  split
  · omega
  · split
    · omega
    · rw [szB_mk, szK_cons, szK_cons, szK_nil]; omega

/-! ### what is left behind n letters -/
def wrapB : Nat → PBlk → PBlk
  | 0, r => r
  | j + 1, r => .mk 3 0 [wrapB j r]
def tailB (i : Nat) (bs : List PBlk) : PBlk := if bs.isEmpty then silB else wrapB i (.mk 3 0 bs)
def onceL (l : Int) (b : PBlk) (bs : List PBlk) : PBlk := .mk 4 0 [silB, thnB (bs.getD 0 silB) (.mk 6 l (b :: bs))]
mutual
def resB : PBlk → Nat → List PBlk
  | .mk k l ks, n => if n = 0 then [.mk k l ks] else if k = 2 then (if n = 1 then [silB] else []) else if k = 3 then resS ks n else if k = 4 then resC ks n else if k = 5 then (resM ks n).map (fun xs => .mk 5 0 xs) else if k = 6 then resL l ks n else []
def resS : List PBlk → Nat → List PBlk
  | [], _ => []
  | b :: bs, n => ((List.range n).flatMap fun i => (resB b (i + 1)).map fun x => thnB x (tailB i bs)) ++ resS bs n
def resC : List PBlk → Nat → List PBlk
  | [], _ => []
  | b :: bs, n => resB b n ++ resC bs n
def resM : List PBlk → Nat → List (List PBlk)
  | [], n => if n = 0 then [[]] else []
  | b :: bs, n => (List.range (n + 1)).flatMap fun i => (resB b i).flatMap fun x => (resM bs (n - i)).map fun xs => x :: xs
def resL (l : Int) : List PBlk → Nat → List PBlk
  | [], _ => []
  | b :: bs, n => ((List.range n).flatMap fun i => (resB b (i + 1)).map fun x => thnB x (wrapB i (onceL l b bs))) ++
      ((List.range n).flatMap fun i => (resC bs (i + 1)).map fun x => thnB x (wrapB i (.mk 6 l (b :: bs)))) ++
      ((List.range (n - 1)).flatMap fun i => (resC bs (i + 1)).map fun x => thnB x (wrapB (i + 1) (.mk 6 l (b :: bs))))
end
theorem res_0 {b : PBlk} : resB b 0 = [b] := by obtain ⟨k, l, ks⟩ := b; rw [resB, if_pos rfl]
theorem res_3 {l : Int} {ks : List PBlk} {n : Nat} (h : n ≠ 0) : resB (.mk 3 l ks) n = resS ks n := by rw [resB, if_neg h]; simp
theorem res_4 {l : Int} {ks : List PBlk} {n : Nat} (h : n ≠ 0) : resB (.mk 4 l ks) n = resC ks n := by rw [resB, if_neg h]; simp
theorem res_5 {l : Int} {ks : List PBlk} {n : Nat} (h : n ≠ 0) : resB (.mk 5 l ks) n = (resM ks n).map (fun xs => .mk 5 0 xs) := by rw [resB, if_neg h]; simp
theorem res_6 {l : Int} {ks : List PBlk} {n : Nat} (h : n ≠ 0) : resB (.mk 6 l ks) n = resL l ks n := by rw [resB, if_neg h]; simp
theorem res_1 {l : Int} {ks : List PBlk} {n : Nat} (h : n ≠ 0) : resB (.mk 1 l ks) n = [] := by rw [resB, if_neg h]; simp
theorem res_2 {l : Int} {ks : List PBlk} {n : Nat} (h : n ≠ 0) : resB (.mk 2 l ks) n = if n = 1 then [silB] else [] := by rw [resB, if_neg h]; simp
theorem aft_1 {l a : Int} {ks : List PBlk} : afterB (.mk 1 l ks) a = [] := by simp [afterB]
theorem aft_2 {l a : Int} {ks : List PBlk} : afterB (.mk 2 l ks) a = if l = a then [silB] else [] := by simp [afterB]
theorem aft_3 {l a : Int} {ks : List PBlk} : afterB (.mk 3 l ks) a = afterS ks a := by simp [afterB]
theorem aft_4 {l a : Int} {ks : List PBlk} : afterB (.mk 4 l ks) a = afterC ks a := by simp [afterB]
theorem aft_5 {l a : Int} {ks : List PBlk} : afterB (.mk 5 l ks) a = afterM [] ks a := by simp [afterB]
theorem aft_6 {l a : Int} {x y : PBlk} : afterB (.mk 6 l [x, y]) a = (afterB x a).map (fun z => thnB z (onceL l x [y])) ++ (if leastB x = 0 then (afterB y a).map (fun z => thnB z (.mk 6 l [x, y])) else []) := by
  simp [afterB, afterL, afterC, onceL]
/-- What is left and is silent is the silent block. -/
theorem aft_sil {a : Int} : ∀ (b : PBlk), wfB b → ∀ x ∈ afterB b a, x.kind = 1 → x = silB
  | .mk k l ks, h => by
    have ih : wfK ks → ∀ b ∈ ks, ∀ x ∈ afterB b a, x.kind = 1 → x = silB := fun hk b hb => aft_sil b (wfK_iff.1 hk b hb)
    intro x hx h1
    cases h.shp with
    | sil => rw [aft_1] at hx; cases hx
    | step =>
      rw [aft_2] at hx
      split at hx
      · exact List.mem_singleton.1 hx
      · cases hx
    | seq _ _ hne hk =>
      rw [aft_3] at hx
      have key : ∀ ks : List PBlk, (∀ b ∈ ks, ∀ x ∈ afterB b a, x.kind = 1 → x = silB) → x ∈ afterS ks a → x = silB := fun ks => by
        induction ks with
        | nil => intro _ hx; simp [afterS] at hx
        | cons b bs IH =>
          intro ih hx
          rw [afterS] at hx
          rcases List.mem_append.1 hx with hx | hx
          · obtain ⟨y, hy, rfl⟩ := List.mem_map.1 hx
            unfold thnB at h1 ⊢
            split
            · rename_i hk1
              rw [if_pos hk1] at h1
              cases bs with
              | nil => rfl
              | cons c cs => exact absurd h1 (by simp [PBlk.kind])
            · rename_i hk1
              rw [if_neg hk1] at h1
              split
              · rename_i hk2
                rw [if_pos hk2] at h1
                exact absurd h1 hk1
              · rename_i hk2
                rw [if_neg hk2] at h1
                exact absurd h1 (by simp [PBlk.kind])
          · split at hx
            · exact IH (fun d hd => ih d (by simp [hd])) hx
            · cases hx
      exact key ks (ih hk) hx
    | choice _ _ hne hk =>
      rw [aft_4] at hx
      have key : ∀ ks : List PBlk, (∀ b ∈ ks, ∀ x ∈ afterB b a, x.kind = 1 → x = silB) → x ∈ afterC ks a → x = silB := fun ks => by
        induction ks with
        | nil => intro _ hx; simp [afterC] at hx
        | cons b bs IH =>
          intro ih hx
          rw [afterC] at hx
          rcases List.mem_append.1 hx with hx | hx
          · exact ih b (by simp) x hx h1
          · exact IH (fun d hd => ih d (by simp [hd])) hx
      exact key ks (ih hk) hx
    | both _ _ hne hk =>
      rw [aft_5] at hx
      have key : ∀ (ks ps : List PBlk), ∀ x ∈ afterM ps ks a, x.kind = 5 := fun ks => by
        induction ks with
        | nil => intro ps x hx; simp [afterM] at hx
        | cons b bs IH =>
          intro ps x hx
          rw [afterM] at hx
          rcases List.mem_append.1 hx with hx | hx
          · obtain ⟨y, hy, rfl⟩ := List.mem_map.1 hx
            rfl
          · exact IH _ x hx
      rw [key ks [] x hx] at h1
      exact absurd h1 (by decide)
    | loop _ p q hp hq =>
      rw [aft_6] at hx
      have key : ∀ (z r : PBlk), r.kind ≠ 1 → (thnB z r).kind ≠ 1 := fun z r hr => by
        unfold thnB
        split
        · exact hr
        · simp [PBlk.kind, hr]
      rcases List.mem_append.1 hx with hx | hx
      · obtain ⟨y, hy, rfl⟩ := List.mem_map.1 hx
        exact absurd h1 (key _ _ (by simp [PBlk.kind, onceL]))
      · split at hx
        · obtain ⟨y, hy, rfl⟩ := List.mem_map.1 hx
          exact absurd h1 (key _ _ (by simp [PBlk.kind]))
        · cases hx
termination_by b => SizeOf.sizeOf b
decreasing_by
  have := List.sizeOf_lt_of_mem hb
  simp only [PBlk.mk.sizeOf_spec]
  omega
theorem thn_sil {x : PBlk} (h : x.kind = 1 → x = silB) : thnB x silB = x := by
  unfold thnB
  split
  · rename_i h1; exact (h h1).symm
  · exact if_pos rfl
theorem aft_one {r x : PBlk} {a : Int} (hr : wfB r) (hx : x ∈ afterS [r] a) : x ∈ afterB r a := by
  rw [afterS] at hx
  rcases List.mem_append.1 hx with hx | hx
  · obtain ⟨y, hy, rfl⟩ := List.mem_map.1 hx
    have : thnB y (if ([] : List PBlk).isEmpty = true then silB else .mk 3 0 []) = y := thn_sil (aft_sil r hr y hy)
    rw [this]
    exact hy
  · split at hx
    · simp [afterS] at hx
    · cases hx
theorem wrap_wf {r : PBlk} (hr : wfB r) : ∀ j, wfB (wrapB j r)
  | 0 => hr
  | j + 1 => Shp.wf (.seq 0 [wrapB j r] (by simp) ⟨wrap_wf hr j, trivial⟩)
theorem aft_wrap {r x : PBlk} {a : Int} (hr : wfB r) : ∀ j, x ∈ afterB (wrapB j r) a → x ∈ afterB r a
  | 0, h => h
  | j + 1, h => by
    rw [wrapB, aft_3] at h
    exact aft_wrap hr j (aft_one (wrap_wf hr j) h)
/-- What is left of one thing behind another. -/
theorem aft_thn {x r y : PBlk} {a : Int} (hx : wfB x) (hr : wfB r) (hs : r.kind = 1 → r = silB) (h : y ∈ afterB (thnB x r) a) :
    (∃ z ∈ afterB x a, y = thnB z (if r.kind = 1 then r else wrapB 1 r)) ∨ y ∈ afterB r a := by
  unfold thnB at h
  split at h
  · exact .inr h
  · split at h
    · rename_i h1
      refine .inl ⟨y, h, ?_⟩
      rw [if_pos h1, hs h1, thn_sil (aft_sil x hx y h)]
    · rename_i h1
      rw [aft_3, afterS] at h
      rcases List.mem_append.1 h with h | h
      · obtain ⟨z, hz, rfl⟩ := List.mem_map.1 h
        exact .inl ⟨z, hz, by rw [if_neg h1]; rfl⟩
      · split at h
        · exact .inr (aft_one hr h)
        · cases h
end Go.Proofs.YtniolbbhjibobaaDoor
