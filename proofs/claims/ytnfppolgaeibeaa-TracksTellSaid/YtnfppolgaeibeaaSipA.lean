/- The plain law of siphons: sets of places as bits, the largest siphon in a set. No program in sight. -/
import Derived.Test.YtnfppolgaeibeaaPlainA
import Derived.Lib.SlicesCompact
namespace Go.Proofs.Ytnfppolgaeibeaa

/-! ### sets of places, bit by bit -/
def bitF (s : Nat) (p : Int) : Nat := if 0 ≤ p ∧ p < 16 then s ||| 2 ^ p.toNat else s
def bitL (l : List Int) : Nat := l.foldl bitF 0
def ofF (s : Nat) (x : Int × Nat) : Nat := if 0 < x.1 then s ||| 2 ^ x.2 else s
def ofW (w : List Int) : Nat := w.zipIdx.foldl ofF 0
def listS (s : Nat) : List Int := ((List.range 16).filter (fun p => s.testBit p)).map (fun p : Nat => (p : Int))

theorem bitF_bit (s : Nat) (p : Int) (i : Nat) : (bitF s p).testBit i = (s.testBit i || decide (i < 16 ∧ (i : Int) = p)) := by
  unfold bitF
  split
  · rename_i h
    rw [Nat.testBit_or, Nat.testBit_two_pow]
    congr 1
    apply decide_eq_decide.2
    omega
  · rename_i h
    have : decide (i < 16 ∧ (i : Int) = p) = false := by simp; omega
    rw [this, Bool.or_false]
theorem bitFold_bit : ∀ (l : List Int) (s i : Nat), (l.foldl bitF s).testBit i = (s.testBit i || decide (i < 16 ∧ (i : Int) ∈ l))
  | [], s, i => by simp
  | p :: l, s, i => by
    rw [List.foldl_cons, bitFold_bit l, bitF_bit, Bool.or_assoc]
    congr 1
    rw [← Bool.decide_or]
    apply decide_eq_decide.2
    simp only [List.mem_cons]
    constructor
    · rintro (⟨h, e⟩ | ⟨h, e⟩)
      · exact ⟨h, .inl e⟩
      · exact ⟨h, .inr e⟩
    · rintro ⟨h, e | e⟩
      · exact .inl ⟨h, e⟩
      · exact .inr ⟨h, e⟩
theorem bitL_bit (l : List Int) (i : Nat) : (bitL l).testBit i = decide (i < 16 ∧ (i : Int) ∈ l) := by
  unfold bitL; rw [bitFold_bit]; simp
theorem bitF_lt {s : Nat} (h : s < 65536) (p : Int) : bitF s p < 65536 := by
  unfold bitF
  split
  · rename_i hp
    exact Nat.or_lt_two_pow (n := 16) h (Nat.pow_lt_pow_right (by omega) (by omega))
  · exact h
theorem bitFold_lt : ∀ (l : List Int) {s : Nat}, s < 65536 → l.foldl bitF s < 65536
  | [], _, h => h
  | p :: l, _, h => by rw [List.foldl_cons]; exact bitFold_lt l (bitF_lt h p)
theorem bitL_lt (l : List Int) : bitL l < 65536 := bitFold_lt l (by omega)

theorem ofFold_bit : ∀ (w : List Int) (k s i : Nat), ((w.zipIdx k).foldl ofF s).testBit i = (s.testBit i || decide (k ≤ i ∧ 0 < w.getD (i - k) 0))
  | [], k, s, i => by simp
  | x :: w, k, s, i => by
    rw [List.zipIdx_cons, List.foldl_cons, ofFold_bit w (k + 1)]
    have e : (ofF s (x, k)).testBit i = (s.testBit i || decide (0 < x ∧ k = i)) := by
      unfold ofF
      split
      · rename_i h
        simp only at h
        rw [Nat.testBit_or, Nat.testBit_two_pow]
        simp [h]
      · rename_i h
        simp only at h
        simp [h]
    rw [e, Bool.or_assoc]
    congr 1
    rw [← Bool.decide_or]
    apply decide_eq_decide.2
    by_cases hk : k = i
    · subst hk
      simp
      omega
    · by_cases hlt : k < i
      · have e2 : i - k = (i - (k + 1)) + 1 := by omega
        rw [e2, List.getD_cons_succ]
        constructor
        · rintro (⟨_, h⟩ | ⟨_, h⟩)
          · exact absurd h hk
          · exact ⟨by omega, h⟩
        · rintro ⟨_, h⟩
          exact .inr ⟨by omega, h⟩
      · constructor
        · rintro (⟨_, h⟩ | ⟨h, _⟩)
          · exact absurd h hk
          · omega
        · rintro ⟨h, _⟩
          omega
theorem ofW_bit (w : List Int) (i : Nat) : (ofW w).testBit i = decide (0 < w.getD i 0) := by
  unfold ofW; rw [ofFold_bit]; simp
theorem ofF_lt {s : Nat} (h : s < 65536) (x : Int × Nat) (hx : x.2 < 16) : ofF s x < 65536 := by
  unfold ofF
  split
  · exact Nat.or_lt_two_pow (n := 16) h (Nat.pow_lt_pow_right (by omega) hx)
  · exact h
theorem ofFold_lt : ∀ (l : List (Int × Nat)) {s : Nat}, s < 65536 → (∀ x ∈ l, x.2 < 16) → l.foldl ofF s < 65536
  | [], _, h, _ => h
  | x :: l, _, h, g => by rw [List.foldl_cons]; exact ofFold_lt l (ofF_lt h x (g x (by simp))) (fun y hy => g y (by simp [hy]))
theorem zip_small {w : List Int} (hw : w.length ≤ 16) : ∀ x ∈ w.zipIdx, x.2 < 16 := fun x hx => by
  have := List.mem_zipIdx' hx
  omega
theorem ofW_lt {w : List Int} (hw : w.length ≤ 16) : ofW w < 65536 := ofFold_lt _ (by omega) (zip_small hw)
theorem and_ne {a b : Nat} : a &&& b ≠ 0 ↔ ∃ i, a.testBit i = true ∧ b.testBit i = true := by
  constructor
  · intro h
    obtain ⟨i, hi⟩ := Nat.exists_testBit_of_ne_zero h
    rw [Nat.testBit_and, Bool.and_eq_true] at hi
    exact ⟨i, hi⟩
  · rintro ⟨i, h1, h2⟩ h
    have : (a &&& b).testBit i = true := by rw [Nat.testBit_and, h1, h2]; rfl
    rw [h, Nat.zero_testBit] at this
    cases this

/-! ### one transition -/
def fanyW (w l : List Int) : Bool := l.any fun p => decide (0 ≤ p) && decide (p < w.length) && decide (w.getD p.toNat 0 ≠ 0)
def badT (s : Nat) (t : PTran) : Bool := decide (ofW t.post &&& s ≠ 0) && decide (ofW t.pre &&& s = 0)
theorem fanyW_iff {w : List Int} (hn : ∀ x ∈ w, 0 ≤ x) (l : List Int) : fanyW w l = true ↔ ∃ i : Nat, (i : Int) ∈ l ∧ 0 < w.getD i 0 := by
  unfold fanyW
  rw [List.any_eq_true]
  constructor
  · rintro ⟨p, hp, h⟩
    simp only [Bool.and_eq_true, decide_eq_true_eq] at h
    obtain ⟨⟨h1, h2⟩, h3⟩ := h
    have e : ((p.toNat : Nat) : Int) = p := by omega
    refine ⟨p.toNat, by rw [e]; exact hp, ?_⟩
    have hlt : p.toNat < w.length := by omega
    have := hn w[p.toNat] (List.getElem_mem hlt)
    rw [List.getD_eq_getElem?_getD, List.getElem?_eq_getElem hlt] at h3 ⊢
    simp only [Option.getD_some] at h3 ⊢
    omega
  · rintro ⟨i, hi, h⟩
    have hlt : i < w.length := by
      apply Classical.byContradiction
      intro hge
      rw [List.getD_eq_getElem?_getD, List.getElem?_eq_none (by omega)] at h
      simp at h
    refine ⟨i, hi, ?_⟩
    simp only [Bool.and_eq_true, decide_eq_true_eq]
    refine ⟨⟨by omega, by omega⟩, ?_⟩
    simp only [Int.toNat_natCast]
    omega
theorem and_fany {w : List Int} (hw : w.length ≤ 16) (hn : ∀ x ∈ w, 0 ≤ x) (l : List Int) : ofW w &&& bitL l ≠ 0 ↔ fanyW w l = true := by
  rw [and_ne, fanyW_iff hn]
  constructor
  · rintro ⟨i, h1, h2⟩
    rw [ofW_bit] at h1
    rw [bitL_bit] at h2
    exact ⟨i, (of_decide_eq_true h2).2, of_decide_eq_true h1⟩
  · rintro ⟨i, h1, h2⟩
    have hlt : i < w.length := by
      apply Classical.byContradiction
      intro hge
      rw [List.getD_eq_getElem?_getD, List.getElem?_eq_none (by omega)] at h2
      simp at h2
    refine ⟨i, by rw [ofW_bit]; exact decide_eq_true h2, by rw [bitL_bit]; exact decide_eq_true ⟨by omega, h1⟩⟩
/-- What is told of a transition of a good net. -/
def TOk (t : PTran) : Prop := t.pre.length ≤ 16 ∧ t.post.length ≤ 16 ∧ (∀ x ∈ t.pre, 0 ≤ x) ∧ ∀ x ∈ t.post, 0 ≤ x
theorem tok_of {N : PNet} (h : netOk N = true) : ∀ t ∈ N.trans, TOk t := fun t ht => by
  obtain ⟨h0, h16, _, hall⟩ := (netOk_iff N).1 h
  obtain ⟨_, _, e1, e2, b1, b2⟩ := (tranOk_iff _ _).1 (hall t ht)
  refine ⟨by omega, by omega, fun x hx => ?_, fun x hx => ?_⟩
  · obtain ⟨k, hk⟩ := List.mem_iff_getElem?.1 hx
    exact (badW_false (any_false_get b1 hk)).1
  · obtain ⟨k, hk⟩ := List.mem_iff_getElem?.1 hx
    exact (badW_false (any_false_get b2 hk)).1
theorem badT_fany {t : PTran} (h : TOk t) (l : List Int) : badT (bitL l) t = (fanyW t.post l && !fanyW t.pre l) := by
  have h1 := and_fany h.2.1 h.2.2.2 l
  have h2 := and_fany h.1 h.2.2.1 l
  unfold badT
  congr 1
  · cases hf : fanyW t.post l
    · rw [hf] at h1; simp at h1; simp [h1]
    · rw [hf] at h1; simp at h1; simp [h1]
  · cases hf : fanyW t.pre l
    · rw [hf] at h2; simp at h2; simp [h2]
    · rw [hf] at h2; simp at h2; simp [h2]

/-! ### the largest siphon within a set -/
def clos (ts : List PTran) (Y : Nat → Prop) : Prop := ∀ t ∈ ts, (∃ i, Y i ∧ 0 < t.post.getD i 0) → ∃ i, Y i ∧ 0 < t.pre.getD i 0
def Top (ts : List PTran) (l : List Int) (S : Nat → Prop) : Prop := ∀ Y : Nat → Prop, (∀ i, Y i → (i : Int) ∈ l) → clos ts Y → ∀ i, Y i → S i
def IsMost (ts : List PTran) (l xs : List Int) : Prop := xs.Pairwise (· < ·) ∧ (∀ x ∈ xs, 0 ≤ x ∧ x ∈ l) ∧ clos ts (fun i => (i : Int) ∈ xs) ∧ Top ts l (fun i => (i : Int) ∈ xs)
theorem asc_same : ∀ {xs ys : List Int}, xs.Pairwise (· < ·) → ys.Pairwise (· < ·) → (∀ x, x ∈ xs ↔ x ∈ ys) → xs = ys
  | [], [], _, _, _ => rfl
  | [], y :: ys, _, _, h => by have := (h y).2 (by simp); simp at this
  | x :: xs, [], _, _, h => by have := (h x).1 (by simp); simp at this
  | x :: xs, y :: ys, hx, hy, h => by
    obtain ⟨hx1, hx2⟩ := List.pairwise_cons.1 hx
    obtain ⟨hy1, hy2⟩ := List.pairwise_cons.1 hy
    have e : x = y := by
      rcases List.mem_cons.1 ((h x).1 (by simp)) with e | e
      · exact e
      · rcases List.mem_cons.1 ((h y).2 (by simp)) with e' | e'
        · exact e'.symm
        · have a := hy1 x e
          have b := hx1 y e'
          omega
    subst e
    rw [asc_same hx2 hy2 (fun z => ?_)]
    constructor
    · intro hz
      rcases List.mem_cons.1 ((h z).1 (by simp [hz])) with e | e
      · have := hx1 z hz; omega
      · exact e
    · intro hz
      rcases List.mem_cons.1 ((h z).2 (by simp [hz])) with e | e
      · have := hy1 z hz; omega
      · exact e
theorem IsMost.uniq {ts : List PTran} {l xs ys : List Int} (h : IsMost ts l xs) (g : IsMost ts l ys) : xs = ys := by
  obtain ⟨h1, h2, h3, h4⟩ := h
  obtain ⟨g1, g2, g3, g4⟩ := g
  refine asc_same h1 g1 (fun x => ⟨fun hx => ?_, fun hx => ?_⟩)
  · have e : ((x.toNat : Nat) : Int) = x := by have := (h2 x hx).1; omega
    have := g4 (fun i => (i : Int) ∈ xs) (fun i hi => (h2 _ hi).2) h3 x.toNat (by show ((x.toNat : Nat) : Int) ∈ xs; rw [e]; exact hx)
    have h' : ((x.toNat : Nat) : Int) ∈ ys := this
    rwa [e] at h'
  · have e : ((x.toNat : Nat) : Int) = x := by have := (g2 x hx).1; omega
    have := h4 (fun i => (i : Int) ∈ ys) (fun i hi => (g2 _ hi).2) g3 x.toNat (by show ((x.toNat : Nat) : Int) ∈ ys; rw [e]; exact hx)
    have h' : ((x.toNat : Nat) : Int) ∈ xs := this
    rwa [e] at h'

/-- The program's set so far. -/
def MostI (ts : List PTran) (l : List Int) (s : Nat) : Prop := s < 65536 ∧ (∀ i, s.testBit i = true → (i : Int) ∈ l) ∧ Top ts l (fun i => s.testBit i = true)
def cutS (s : Nat) (t : PTran) : Nat := s &&& (4294967295 - (ofW t.post &&& s))
theorem MostI.start {ts : List PTran} {l : List Int} (h : ∀ x ∈ l, 0 ≤ x ∧ x < 16) : MostI ts l (bitL l) := by
  refine ⟨bitL_lt l, fun i hi => ?_, fun Y hY _ i hi => ?_⟩
  · rw [bitL_bit] at hi; exact (of_decide_eq_true hi).2
  · show (bitL l).testBit i = true
    rw [bitL_bit]
    have := h _ (hY i hi)
    exact decide_eq_true ⟨by omega, hY i hi⟩
theorem cutS_bit {s : Nat} (hs : s < 65536) (t : PTran) (i : Nat) : (cutS s t).testBit i = (s.testBit i && !(ofW t.post).testBit i) := by
  have hlt : ofW t.post &&& s < 2 ^ 32 := Nat.and_lt_two_pow _ (by omega)
  unfold cutS
  rw [show (4294967295 : Nat) - (ofW t.post &&& s) = 2 ^ 32 - ((ofW t.post &&& s) + 1) by omega, Nat.testBit_and, Nat.testBit_two_pow_sub_succ hlt, Nat.testBit_and]
  by_cases h32 : i < 32
  · simp only [h32, decide_true, Bool.true_and]
    cases s.testBit i <;> cases (ofW t.post).testBit i <;> rfl
  · have : s.testBit i = false := Nat.testBit_lt_two_pow (Nat.lt_of_lt_of_le hs (by
      have : 2 ^ 16 ≤ 2 ^ i := Nat.pow_le_pow_right (by omega) (by omega)
      omega))
    simp [this]
theorem MostI.cut {ts : List PTran} {l : List Int} {s : Nat} {t : PTran} (h : MostI ts l s) (ht : t ∈ ts) (hb : badT s t = true) : MostI ts l (cutS s t) ∧ cutS s t < s := by
  obtain ⟨h1, h2, h3⟩ := h
  unfold badT at hb
  simp only [Bool.and_eq_true, decide_eq_true_eq] at hb
  obtain ⟨b1, b2⟩ := hb
  have hle : cutS s t ≤ s := Nat.and_le_left
  refine ⟨⟨by omega, fun i hi => ?_, fun Y hY hc i hi => ?_⟩, ?_⟩
  · rw [cutS_bit h1, Bool.and_eq_true] at hi
    exact h2 i hi.1
  · have hsi := h3 Y hY hc i hi
    show (cutS s t).testBit i = true
    have hsi' : s.testBit i = true := hsi
    rw [cutS_bit h1, hsi', Bool.true_and]
    cases hp : (ofW t.post).testBit i
    · rfl
    · rw [ofW_bit] at hp
      obtain ⟨j, hj, hjp⟩ := hc t ht ⟨i, hi, of_decide_eq_true hp⟩
      exact absurd b2 (and_ne.2 ⟨j, by rw [ofW_bit]; exact decide_eq_true hjp, h3 Y hY hc j hj⟩)
  · obtain ⟨i, hp, hsi⟩ := and_ne.1 b1
    have hne : cutS s t ≠ s := fun e => by
      have := cutS_bit h1 t i
      rw [e, hsi, hp] at this
      cases this
    omega
theorem listS_mem {s : Nat} (hs : s < 65536) (i : Nat) : (i : Int) ∈ listS s ↔ s.testBit i = true := by
  unfold listS
  rw [List.mem_map]
  constructor
  · rintro ⟨j, hj, e⟩
    obtain rfl : j = i := by omega
    exact (List.mem_filter.1 hj).2
  · intro h
    refine ⟨i, List.mem_filter.2 ⟨List.mem_range.2 ?_, h⟩, rfl⟩
    apply Classical.byContradiction
    intro hge
    have : s.testBit i = false := Nat.testBit_lt_two_pow (Nat.lt_of_lt_of_le hs (by
      have : 2 ^ 16 ≤ 2 ^ i := Nat.pow_le_pow_right (by omega) (by omega)
      omega))
    rw [h] at this
    cases this
theorem MostI.fin {ts : List PTran} {l : List Int} {s : Nat} (h : MostI ts l s) (hb : ts.any (badT s) = false) : IsMost ts l (listS s) := by
  obtain ⟨h1, h2, h3⟩ := h
  refine ⟨?_, fun x hx => ?_, fun t ht => ?_, fun Y hY hc i hi => (listS_mem h1 i).2 (h3 Y hY hc i hi)⟩
  · unfold listS
    rw [List.pairwise_map]
    exact (List.Pairwise.filter _ List.pairwise_lt_range).imp (fun h => by omega)
  · have hx0 : 0 ≤ x := by
      unfold listS at hx
      obtain ⟨j, _, e⟩ := List.mem_map.1 hx
      omega
    have e : ((x.toNat : Nat) : Int) = x := by omega
    rw [← e] at hx ⊢
    exact ⟨by omega, h2 _ ((listS_mem h1 _).1 hx)⟩
  · rintro ⟨i, hi, hp⟩
    have hbt : badT s t = false := by
      rw [List.any_eq_false] at hb
      simpa using hb t ht
    have b1 : ofW t.post &&& s ≠ 0 := and_ne.2 ⟨i, by rw [ofW_bit]; exact decide_eq_true hp, (listS_mem h1 i).1 hi⟩
    unfold badT at hbt
    simp only [Bool.and_eq_false_iff, decide_eq_false_iff_not, Decidable.not_not] at hbt
    rcases hbt with hbt | hbt
    · exact absurd hbt b1
    · obtain ⟨j, hj, hs⟩ := and_ne.1 hbt
      rw [ofW_bit] at hj
      exact ⟨j, (listS_mem h1 j).2 hs, of_decide_eq_true hj⟩

/-- The reference's list so far. -/
def RefS (ts : List PTran) (l xs : List Int) : Prop := xs.Pairwise (· < ·) ∧ (∀ x ∈ xs, 0 ≤ x ∧ x ∈ l) ∧ Top ts l (fun i => (i : Int) ∈ xs)
def outF (ts : List PTran) (xs : List Int) (p : Int) : Bool := ts.any fun t => decide (0 < t.post.getD p.toNat 0) && !fanyW t.pre xs
theorem RefS.step {ts : List PTran} {l xs : List Int} (h : RefS ts l xs) (hok : ∀ t ∈ ts, TOk t) : RefS ts l (xs.filter fun p => !outF ts xs p) := by
  obtain ⟨h1, h2, h3⟩ := h
  refine ⟨h1.filter _, fun x hx => h2 x (List.mem_filter.1 hx).1, fun Y hY hc i hi => ?_⟩
  have hsi := h3 Y hY hc i hi
  refine List.mem_filter.2 ⟨hsi, ?_⟩
  rw [Bool.not_eq_true']
  unfold outF
  rw [List.any_eq_false]
  intro t ht hbad
  simp only [Bool.and_eq_true, decide_eq_true_eq, Bool.not_eq_true', Int.toNat_natCast] at hbad
  obtain ⟨j, hj, hjp⟩ := hc t ht ⟨i, hi, hbad.1⟩
  have := (fanyW_iff (hok t ht).2.2.1 xs).2 ⟨j, h3 Y hY hc j hj, hjp⟩
  rw [hbad.2] at this
  cases this
theorem RefS.fin {ts : List PTran} {l xs : List Int} (h : RefS ts l xs) (hok : ∀ t ∈ ts, TOk t) (hl : (xs.filter fun p => !outF ts xs p).length = xs.length) : IsMost ts l xs := by
  obtain ⟨h1, h2, h3⟩ := h
  refine ⟨h1, h2, fun t ht => ?_, h3⟩
  rintro ⟨i, hi, hp⟩
  have hall := List.length_filter_eq_length_iff.1 hl _ hi
  rw [Bool.not_eq_true'] at hall
  unfold outF at hall
  rw [List.any_eq_false] at hall
  have hb := hall t ht
  simp only [Bool.and_eq_true, decide_eq_true_eq, Bool.not_eq_true', Int.toNat_natCast, not_and, Bool.not_eq_false] at hb
  exact (fanyW_iff (hok t ht).2.2.1 xs).1 (hb hp)

/-! ### a sorted list, each once -/
theorem compact_asc {zs : List Int} (h : zs.Pairwise (· ≤ ·)) : (Lib.compact zs).Pairwise (· < ·) ∧ ∀ x, x ∈ Lib.compact zs ↔ x ∈ zs := by
  have hle : ∀ i j, i ≤ j → j < zs.length → zs.toArray[i]! ≤ zs.toArray[j]! := fun i j hij hj => by
    rcases Nat.eq_or_lt_of_le hij with rfl | hlt
    · exact Int.le_refl _
    · have := List.pairwise_iff_getElem.1 h i j (by omega) hj hlt
      simp only [List.getElem!_toArray]
      rw [getElem!_pos zs i (by omega), getElem!_pos zs j hj]
      exact this
  have hk : ∀ j, j ≠ 0 → Lib.keeps zs.toArray j = true → zs.toArray[j]! ≠ zs.toArray[j - 1]! := fun j h0 hj => by
    unfold Lib.keeps at hj
    have := of_decide_eq_true hj
    omega
  unfold Lib.compact Lib.compactUpTo
  constructor
  · rw [List.pairwise_map]
    have hr : ((List.range zs.length).filter (Lib.keeps zs.toArray)).Pairwise (fun i j => i < j ∧ j < zs.length ∧ Lib.keeps zs.toArray j = true) := by
      have h0 := List.Pairwise.filter (Lib.keeps zs.toArray) (List.pairwise_lt_range (n := zs.length))
      refine List.Pairwise.imp_of_mem (fun {a b} ha hb hab => ?_) h0
      obtain ⟨m1, m2⟩ := List.mem_filter.1 hb
      exact ⟨hab, List.mem_range.1 m1, m2⟩
    refine hr.imp (fun {i j} ⟨hij, hj, hkj⟩ => ?_)
    have a := hle i (j - 1) (by omega) (by omega)
    have b := hle (j - 1) j (by omega) hj
    have c := hk j (by omega) hkj
    omega
  · intro x
    rw [List.mem_map]
    constructor
    · rintro ⟨i, hi, rfl⟩
      have := List.mem_range.1 (List.mem_filter.1 hi).1
      simp only [List.getElem!_toArray]
      rw [getElem!_pos zs i this]
      exact List.getElem_mem _
    · intro hx
      have key : ∀ n i, i < n → i < zs.length → zs.toArray[i]! = x → ∃ j, j ∈ (List.range zs.length).filter (Lib.keeps zs.toArray) ∧ zs.toArray[j]! = x := by
        intro n
        induction n with
        | zero => intro i hi; omega
        | succ n ih =>
          intro i hi hlt e
          by_cases hki : Lib.keeps zs.toArray i = true
          · exact ⟨i, List.mem_filter.2 ⟨List.mem_range.2 hlt, hki⟩, e⟩
          · have : ¬ (i = 0 ∨ zs.toArray[i]! ≠ zs.toArray[i - 1]!) := fun hh => hki (by unfold Lib.keeps; exact decide_eq_true hh)
            have h0 : i ≠ 0 := fun h => this (.inl h)
            have h1 : zs.toArray[i]! = zs.toArray[i - 1]! := Classical.byContradiction (fun h => this (.inr h))
            exact ih (i - 1) (by omega) (by omega) (by rw [← h1]; exact e)
      obtain ⟨i, hi, e⟩ := List.getElem_of_mem hx
      refine key (i + 1) i (by omega) hi ?_
      simp only [List.getElem!_toArray]
      rw [getElem!_pos zs i hi]
      exact e
theorem RefS.start {ts : List PTran} {l : List Int} (h : ∀ x ∈ l, 0 ≤ x) : RefS ts l (Lib.compact (l.mergeSort fun x y => decide (x ≤ y))) := by
  have hs : (l.mergeSort fun x y => decide (x ≤ y)).Pairwise (· ≤ ·) :=
    (List.pairwise_mergeSort (le := fun x y : Int => decide (x ≤ y)) (fun a b c h1 h2 => decide_eq_true (Int.le_trans (of_decide_eq_true h1) (of_decide_eq_true h2))) (fun a b => by simp; omega) l).imp (fun h => of_decide_eq_true h)
  obtain ⟨c1, c2⟩ := compact_asc hs
  have hm : ∀ x, x ∈ (l.mergeSort fun x y => decide (x ≤ y)) ↔ x ∈ l := fun x => (List.mergeSort_perm l _).mem_iff
  exact ⟨c1, fun x hx => by have := (hm x).1 ((c2 x).1 hx); exact ⟨h x this, this⟩, fun Y hY _ i hi => (c2 _).2 ((hm _).2 (hY i hi))⟩
theorem asc_len {P : Nat} {xs : List Int} (h : xs.Pairwise (· < ·)) (hr : ∀ x ∈ xs, 0 ≤ x ∧ x < P) : xs.length ≤ P := by
  have key : ∀ (ys : List Int) (a : Nat), ys.Pairwise (· < ·) → (∀ x ∈ ys, (a : Int) ≤ x ∧ x < P) → a ≤ P → ys.length + a ≤ P := by
    intro ys
    induction ys with
    | nil => intro a _ _ ha; simpa using ha
    | cons y ys ih =>
      intro a hp hb ha
      obtain ⟨p1, p2⟩ := List.pairwise_cons.1 hp
      have hy := hb y (by simp)
      have := ih (y.toNat + 1) p2 (fun x hx => ⟨by have := p1 x hx; omega, (hb x (by simp [hx])).2⟩) (by omega)
      rw [List.length_cons]
      omega
  have := key xs 0 h (fun x hx => by have := hr x hx; omega) (Nat.zero_le _)
  omega
end Go.Proofs.Ytnfppolgaeibeaa
