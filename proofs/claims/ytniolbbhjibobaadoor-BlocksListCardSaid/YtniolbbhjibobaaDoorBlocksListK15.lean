/- The plain law of blocks' words: what isn't wrong is right and small; texts of keys aren't long. No program in sight. -/
import Derived.Test.YtniolbbhjibobaaDoorBlocksListK11
import Derived.Test.YtniolbbhjibobaaDoorBlocksListK14
set_option linter.all false
namespace Go.Proofs.YtniolbbhjibobaaDoor
open Go.Lib

theorem headB_ok {k l : Int} {n : Nat} (h : headB k l n = 0) : ((k = 1 ∨ k = 2) ∧ n = 0 ∨ (k = 3 ∨ k = 4 ∨ k = 5) ∧ n ≠ 0 ∨ k = 6 ∧ n = 2) ∧ (k = 2 → 1 ≤ l ∧ l ≤ 26) := by
  unfold headB at h
  split at h
  · cases h
  · split at h
    · cases h
    · split at h
      · cases h
      · omega
theorem chk_right : ∀ (f : Nat) (b : PBlk) (had : Nat), (chkB f b had).2 = 0 → wfB b ∧ (chkB f b had).1 = had + szB b ∧ ∀ c ∈ labB b, 1 ≤ c ∧ c ≤ 26
  | 0, b, had, h => by rw [chkB] at h; cases h
  | f + 1, .mk k l ks, had, h => by
    have key : ∀ (ks : List PBlk) (s : Nat × Int), (ks.foldl (stepC (chkB f)) s).2 = 0 → s.2 = 0 ∧ wfK ks ∧ (ks.foldl (stepC (chkB f)) s).1 = s.1 + szK ks ∧ ∀ c ∈ labK ks, 1 ≤ c ∧ c ≤ 26 := fun ks => by
      induction ks with
      | nil => intro s h; exact ⟨h, trivial, by rw [szK_nil]; rfl, fun c hc => by simp [labK] at hc⟩
      | cons b bs IH =>
        intro s h
        rw [List.foldl_cons] at h ⊢
        obtain ⟨i1, i2, i3, i4⟩ := IH _ h
        by_cases hs : s.2 = 0
        · rw [stepC, if_pos hs] at i1 i3 ⊢
          obtain ⟨j1, j2, j3⟩ := chk_right f b s.1 i1
          refine ⟨hs, ⟨j1, i2⟩, by rw [i3, j2, szK_cons]; omega, fun c hc => ?_⟩
          rw [labK] at hc
          exact (List.mem_append.1 hc).elim (j3 c) (i4 c)
        · rw [stepC, if_neg hs] at i1
          exact absurd i1 hs
    rw [chkB] at h ⊢
    split at h
    · cases h
    · rename_i h1
      rw [if_neg h1]
      split at h
      · rename_i h2; exact absurd h h2
      · rename_i h2
        rw [if_neg h2]
        simp only [PBlk.kind, PBlk.label, PBlk.kids] at h h2 ⊢
        obtain ⟨_, k2, k3, k4⟩ := key _ _ h
        have h3 := headB_ok (Decidable.not_not.1 h2)
        refine ⟨?_, by rw [k3, szB_mk]; simp only; omega, fun c hc => ?_⟩
        · unfold wfB
          rcases h3.1 with ⟨g1, g2⟩ | ⟨g1, g2⟩ | ⟨g1, g2⟩
          · exact .inl ⟨g1, List.eq_nil_of_length_eq_zero g2⟩
          · exact .inr (.inl ⟨g1, fun e => g2 (by rw [e]; rfl), k2⟩)
          · exact .inr (.inr ⟨g1, g2, k2⟩)
        · rw [labB] at hc
          split at hc
          · rename_i hk
            rcases List.mem_cons.1 hc with rfl | hc
            · exact h3.2 hk
            · exact k4 c hc
          · exact k4 c hc
theorem wrong_right {b : PBlk} (h : wrongB b = 0) : wfB b ∧ szB b ≤ 40 ∧ ∀ c ∈ labB b, 1 ≤ c ∧ c ≤ 26 := by
  obtain ⟨h1, h2, h3⟩ := chk_right 41 b 0 h
  have := (chkB_ok 41 b 0 h).2
  exact ⟨h1, by omega, h3⟩
theorem lab_len : ∀ b : PBlk, (labB b).length ≤ szB b
  | .mk k l ks => by
    have key : ∀ ks : List PBlk, (∀ b ∈ ks, (labB b).length ≤ szB b) → (labK ks).length ≤ szK ks := fun ks => by
      induction ks with
      | nil => intro _; simp [labK]
      | cons b bs IH =>
        intro h
        rw [labK, szK_cons, List.length_append]
        have := h b (by simp)
        have := IH (fun c hc => h c (by simp [hc]))
        omega
    have := key ks (fun b hb => lab_len b)
    rw [labB, szB_mk]
    split
    · rw [List.length_cons]; omega
    · omega
termination_by b => SizeOf.sizeOf b
decreasing_by
  have := List.sizeOf_lt_of_mem hb
  simp only [PBlk.mk.sizeOf_spec]
  omega
theorem labK_len : ∀ ks : List PBlk, (labK ks).length ≤ szK ks
  | [] => by simp [labK]
  | b :: bs => by
    rw [labK, szK_cons, List.length_append]
    have := lab_len b
    have := labK_len bs
    omega
theorem least_sz : ∀ b : PBlk, wfB b → leastB b ≤ szB b
  | .mk k l ks, h => by
    have ih : wfK ks → ∀ b ∈ ks, leastB b ≤ szB b := fun hk b hb => least_sz b (wfK_iff.1 hk b hb)
    have key : ∀ ks : List PBlk, (∀ b ∈ ks, leastB b ≤ szB b) → sumK ks ≤ szK ks := fun ks => by
      induction ks with
      | nil => intro _; exact Nat.zero_le _
      | cons b bs IH =>
        intro h
        have := h b (by simp)
        have := IH (fun c hc => h c (by simp [hc]))
        rw [szK_cons]
        simp only [sumK, List.map_cons, List.sum_cons] at this ⊢
        omega
    rw [szB_mk]
    cases h.shp with
    | sil => rw [least_sum (by decide) (by decide) (by decide)]; have := key [] (fun b hb => by cases hb); omega
    | step => rw [least_step]; omega
    | seq _ _ hne hk => rw [least_sum (by decide) (by decide) (by decide)]; have := key ks (ih hk); omega
    | choice _ _ hne hk =>
      obtain ⟨_, b, hb, e⟩ := least_choice (l := l) hne
      rw [e]
      have := ih hk b hb
      have := szK_mem hb
      omega
    | both _ _ hne hk => rw [least_sum (by decide) (by decide) (by decide)]; have := key ks (ih hk); omega
    | loop _ x y hx hy =>
      rw [least_loop]
      have := ih ⟨hx, hy, trivial⟩ x (by simp)
      have := szK_mem (ks := [x, y]) (b := x) (by simp)
      omega
termination_by b => SizeOf.sizeOf b
decreasing_by
  have := List.sizeOf_lt_of_mem hb
  simp only [PBlk.mk.sizeOf_spec]
  omega
/-- So many at the most behind one letter. -/
theorem aft_len (a : Int) : ∀ b : PBlk, wfB b → (afterB b a).length ≤ szB b
  | .mk k l ks, h => by
    have ih : wfK ks → ∀ b ∈ ks, (afterB b a).length ≤ szB b := fun hk b hb => aft_len a b (wfK_iff.1 hk b hb)
    rw [szB_mk]
    cases h.shp with
    | sil => rw [aft_1]; exact Nat.zero_le _
    | step => rw [aft_2]; split <;> simp
    | seq _ _ hne hk =>
      rw [aft_3]
      have key : ∀ ks : List PBlk, (∀ b ∈ ks, (afterB b a).length ≤ szB b) → (afterS ks a).length ≤ szK ks := fun ks => by
        induction ks with
        | nil => intro _; simp [afterS]
        | cons b bs IH =>
          intro h
          have := h b (by simp)
          have := IH (fun c hc => h c (by simp [hc]))
          rw [afterS, szK_cons, List.length_append, List.length_map]
          split
          · omega
          · rw [List.length_nil]; omega
      have := key ks (ih hk)
      omega
    | choice _ _ hne hk =>
      rw [aft_4]
      have key : ∀ ks : List PBlk, (∀ b ∈ ks, (afterB b a).length ≤ szB b) → (afterC ks a).length ≤ szK ks := fun ks => by
        induction ks with
        | nil => intro _; simp [afterC]
        | cons b bs IH =>
          intro h
          have := h b (by simp)
          have := IH (fun c hc => h c (by simp [hc]))
          rw [afterC, szK_cons, List.length_append]
          omega
      have := key ks (ih hk)
      omega
    | both _ _ hne hk =>
      rw [aft_5]
      have key : ∀ (ks ps : List PBlk), (∀ b ∈ ks, (afterB b a).length ≤ szB b) → (afterM ps ks a).length ≤ szK ks := fun ks => by
        induction ks with
        | nil => intro _ _; simp [afterM]
        | cons b bs IH =>
          intro ps h
          have := h b (by simp)
          have := IH (ps ++ [b]) (fun c hc => h c (by simp [hc]))
          rw [afterM, szK_cons, List.length_append, List.length_map]
          omega
      have := key ks [] (ih hk)
      omega
    | loop _ x y hx hy =>
      rw [aft_6, szK_cons, szK_cons, szK_nil, List.length_append, List.length_map]
      have := ih ⟨hx, hy, trivial⟩ x (by simp)
      have := ih ⟨hx, hy, trivial⟩ y (by simp)
      split
      · rw [List.length_map]; omega
      · rw [List.length_nil]; omega
termination_by b => SizeOf.sizeOf b
decreasing_by
  have := List.sizeOf_lt_of_mem hb
  simp only [PBlk.mk.sizeOf_spec]
  omega

/-! ### labels that lie in an int -/
mutual
def intB : PBlk → Prop
  | .mk _ l ks => (-9223372036854775808 ≤ l ∧ l ≤ 9223372036854775807) ∧ intK ks
def intK : List PBlk → Prop
  | [] => True
  | b :: bs => intB b ∧ intK bs
end
theorem intK_iff : ∀ {ks : List PBlk}, intK ks ↔ ∀ b ∈ ks, intB b
  | [] => by simp [intK]
  | b :: bs => by simp [intK, intK_iff (ks := bs)]
theorem in_mk {k l : Int} {ks : List PBlk} : intB (.mk k l ks) ↔ (-9223372036854775808 ≤ l ∧ l ≤ 9223372036854775807) ∧ intK ks := by rw [intB]
theorem in_sil : intB silB := in_mk.2 ⟨by omega, trivial⟩
theorem in_thn {x y : PBlk} (hx : intB x) (hy : intB y) : intB (thnB x y) := by
  unfold thnB
  split
  · exact hy
  · split
    · exact hx
    · exact in_mk.2 ⟨by omega, hx, hy, trivial⟩
theorem aft_in (a : Int) : ∀ b : PBlk, wfB b → intB b → ∀ x ∈ afterB b a, intB x
  | .mk k l ks, h, hi => by
    have ih : wfK ks → ∀ b ∈ ks, ∀ x ∈ afterB b a, intB x := fun hk b hb => aft_in a b (wfK_iff.1 hk b hb) (intK_iff.1 (in_mk.1 hi).2 b hb)
    have hks := (in_mk.1 hi).2
    intro x hx
    cases h.shp with
    | sil => rw [aft_1] at hx; cases hx
    | step =>
      rw [aft_2] at hx
      split at hx
      · rw [List.mem_singleton.1 hx]; exact in_sil
      · cases hx
    | seq _ _ hne hk =>
      rw [aft_3] at hx
      have key : ∀ ks : List PBlk, intK ks → (∀ b ∈ ks, ∀ x ∈ afterB b a, intB x) → x ∈ afterS ks a → intB x := fun ks => by
        induction ks with
        | nil => intro _ _ hx; simp [afterS] at hx
        | cons b bs IH =>
          intro hks ih hx
          rw [afterS] at hx
          rcases List.mem_append.1 hx with hx | hx
          · obtain ⟨y, hy, rfl⟩ := List.mem_map.1 hx
            refine in_thn (ih b (by simp) y hy) ?_
            split
            · exact in_sil
            · exact in_mk.2 ⟨by omega, hks.2⟩
          · split at hx
            · exact IH hks.2 (fun c hc => ih c (by simp [hc])) hx
            · cases hx
      exact key ks hks (ih hk) hx
    | choice _ _ hne hk =>
      rw [aft_4] at hx
      have key : ∀ ks : List PBlk, (∀ b ∈ ks, ∀ x ∈ afterB b a, intB x) → x ∈ afterC ks a → intB x := fun ks => by
        induction ks with
        | nil => intro _ hx; simp [afterC] at hx
        | cons b bs IH =>
          intro ih hx
          rw [afterC] at hx
          rcases List.mem_append.1 hx with hx | hx
          · exact ih b (by simp) x hx
          · exact IH (fun c hc => ih c (by simp [hc])) hx
      exact key ks (ih hk) hx
    | both _ _ hne hk =>
      rw [aft_5] at hx
      obtain ⟨qs, z, rs, u, rfl, hu, rfl⟩ := aft_pick hx
      refine in_mk.2 ⟨by omega, intK_iff.2 (fun c hc => ?_)⟩
      have hm : ∀ d ∈ qs ++ z :: rs, intB d := intK_iff.1 hks
      rw [List.nil_append] at hc
      rcases List.mem_append.1 hc with hc | hc
      · exact hm c (by simp [hc])
      · rcases List.mem_cons.1 hc with rfl | hc
        · exact ih hk z (by simp) c hu
        · exact hm c (by simp [hc])
    | loop _ p q hp hq =>
      rw [aft_6] at hx
      have ih := ih ⟨hp, hq, trivial⟩
      rcases List.mem_append.1 hx with hx | hx
      · obtain ⟨y, hy, rfl⟩ := List.mem_map.1 hx
        exact in_thn (ih p (by simp) y hy) (in_mk.2 ⟨by omega, in_sil, in_thn hks.2.1 hi, trivial⟩)
      · split at hx
        · obtain ⟨y, hy, rfl⟩ := List.mem_map.1 hx
          exact in_thn (ih q (by simp) y hy) hi
        · cases hx
termination_by b => SizeOf.sizeOf b
decreasing_by
  have := List.sizeOf_lt_of_mem hb
  simp only [PBlk.mk.sizeOf_spec]
  omega

/-! ### keys aren't long -/
theorem dec_short : ∀ (d n : Nat), n < 10 ^ (d + 1) → (decDigits n).length ≤ d + 1
  | 0, n, h => by rw [decDigits, dif_pos (by simpa using h)]; simp
  | d + 1, n, h => by
    rw [decDigits]
    split
    · simp
    · rw [List.length_append]
      have := dec_short d (n / 10) (by rw [Nat.pow_succ] at h; omega)
      simp only [List.length_cons, List.length_nil]
      omega
theorem itoa_short {n : Int} (h0 : -9223372036854775808 ≤ n) (h1 : n ≤ 9223372036854775807) : (itoa n).length ≤ 20 := by
  unfold itoa
  split
  · have := dec_short 18 n.natAbs (by omega)
    rw [List.length_cons]
    omega
  · have := dec_short 18 n.toNat (by omega)
    omega
theorem wf_kind {b : PBlk} (h : wfB b) : 1 ≤ b.kind ∧ b.kind ≤ 6 := by
  cases h.shp <;> simp [PBlk.kind]
theorem key_len : ∀ b : PBlk, wfB b → intB b → (keyB b).length ≤ 44 * szB b
  | .mk k l ks, h, hi => by
    have hk6 := wf_kind h
    simp only [PBlk.kind] at hk6
    have hwk : wfK ks := by
      unfold wfB at h
      rcases h with ⟨_, rfl⟩ | ⟨_, _, h⟩ | ⟨_, _, h⟩
      · trivial
      · exact h
      · exact h
    have ih : ∀ b ∈ ks, (keyB b).length ≤ 44 * szB b := fun b hb => key_len b (wfK_iff.1 hwk b hb) (intK_iff.1 (in_mk.1 hi).2 b hb)
    have key : ∀ ks : List PBlk, (∀ b ∈ ks, (keyB b).length ≤ 44 * szB b) → (keyK ks).length ≤ 44 * szK ks := fun ks => by
      induction ks with
      | nil => intro _; simp [keyK]
      | cons b bs IH =>
        intro h
        have := h b (by simp)
        have := IH (fun c hc => h c (by simp [hc]))
        rw [keyK, szK_cons, List.length_append]
        omega
    have h1 := key ks ih
    have h2 := itoa_short (n := k) (by omega) (by omega)
    have h3 := itoa_short (in_mk.1 hi).1.1 (in_mk.1 hi).1.2
    rw [keyB, szB_mk]
    simp only [List.length_append, List.length_cons, List.length_nil]
    omega
termination_by b => SizeOf.sizeOf b
decreasing_by
  have := List.sizeOf_lt_of_mem hb
  simp only [PBlk.mk.sizeOf_spec]
  omega
/-- What is known of what may be left of a block that isn't wrong, behind at most eight letters and one more. -/
structure LeftB (b : PBlk) (n : Nat) (x : PBlk) : Prop where
  wf : wfB x
  int : intB x
  small : szB x ≤ 2400
  mem : x ∈ resB b n
theorem LeftB.start {b : PBlk} (h : wrongB b = 0) (hi : intB b) : LeftB b 0 b := by
  obtain ⟨h1, h2, _⟩ := wrong_right h
  exact ⟨h1, hi, by omega, by simp [res_0]⟩
theorem LeftB.next {b x y : PBlk} {n : Nat} {a : Int} (h : wrongB b = 0) (hx : LeftB b n x) (hn : n ≤ 8) (hy : y ∈ afterB x a) : LeftB b (n + 1) y := by
  obtain ⟨h1, h2, _⟩ := wrong_right h
  have hm := res_next a b h1 n x hx.mem y hy
  refine ⟨res_wf b h1 _ y hm, aft_in a x hx.wf hx.int y hy, ?_, hm⟩
  have := res_sz b h1 (n + 1) (by omega) y hm
  have := grB_le h2
  have e : grB 40 = 2400 := by decide
  omega
theorem LeftB.all {b : PBlk} (h : wrongB b = 0) (hi : intB b) : ∀ (n : Nat) (w : List Int), w.length = n → n ≤ 9 → ∀ x ∈ restB b w, LeftB b n x
  | 0, w, hw, _ => by
    rw [List.eq_nil_of_length_eq_zero hw]
    intro x hx
    have : x ∈ [b] := hx
    rw [List.mem_singleton.1 this]
    exact LeftB.start h hi
  | n + 1, w, hw, hn => by
    have hne : w ≠ [] := fun e => by rw [e] at hw; simp at hw
    obtain ⟨v, a, rfl⟩ : ∃ v a, w = v ++ [a] := ⟨w.dropLast, w.getLast hne, (List.dropLast_concat_getLast hne).symm⟩
    intro x hx
    rw [restB_snoc] at hx
    obtain ⟨y, hy, hx⟩ := mem_nextB.1 hx
    exact (LeftB.all h hi n v (by simpa using hw) (by omega) y hy).next h (by omega) hx
theorem left_len {b : PBlk} (h : wrongB b = 0) {n : Nat} (hn : n ≤ 9) {L : List PBlk} (hd : L.Nodup) (hL : ∀ x ∈ L, LeftB b n x) : L.length ≤ 1000000000000 := by
  obtain ⟨h1, h2, _⟩ := wrong_right h
  have := hd.length_le_of_subset (fun x hx => (hL x hx).mem)
  have := res_len b h1 n
  have := bag_right (N := 2 * szB b) (by omega) hn
  omega
end Go.Proofs.YtniolbbhjibobaaDoor
