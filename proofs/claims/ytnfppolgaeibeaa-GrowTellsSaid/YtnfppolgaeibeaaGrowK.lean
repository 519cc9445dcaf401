/- The plain law of growing, further: a link's places lie in range and are told apart; the net in the end. No program in sight. -/
import Derived.Test.YtnfppolgaeibeaaGrowB
namespace Go.Proofs.Ytnfppolgaeibeaa

/-- A list of places: in range, each once. -/
def PlOk (P : Nat) (l : List Int) : Prop := (∀ x ∈ l, 0 ≤ x ∧ x < (P : Int)) ∧ l.Nodup ∧ l.length ≤ P
theorem PlOk.mono {P Q : Nat} {l : List Int} (h : PlOk P l) (hQ : P ≤ Q) : PlOk Q l := ⟨fun x hx => by have := h.1 x hx; omega, h.2.1, Nat.le_trans h.2.2 hQ⟩
theorem PlOk.one {P : Nat} {p : Int} (h0 : 0 ≤ p) (h1 : p < (P : Int)) : PlOk P [p] := ⟨fun x hx => by rw [List.mem_singleton] at hx; subst hx; exact ⟨h0, h1⟩, by simp, by simp only [List.length_cons, List.length_nil]; omega⟩
theorem nodup_map {f : Nat → Int} (hf : ∀ a b, f a = f b → a = b) (n : Nat) : ((List.range n).map f).Nodup := by
  induction n with
  | zero => simp
  | succ n ih =>
    rw [List.range_succ, List.map_append, List.nodup_append]
    refine ⟨ih, by simp, fun a ha b hb e => ?_⟩
    simp only [List.map_cons, List.map_nil, List.mem_singleton] at hb
    obtain ⟨k, hk, rfl⟩ := List.mem_map.1 ha
    have := hf k n (e.trans hb)
    have := List.mem_range.1 hk
    omega
theorem insL_ok (pl n : Nat) : PlOk (pl + 2 * n) (insL pl n) := by
  refine ⟨fun x hx => ?_, nodup_map (fun a b h => by omega) n, by rw [insL_len]; omega⟩
  obtain ⟨k, hk, rfl⟩ := List.mem_map.1 hx
  have := List.mem_range.1 hk
  omega
theorem outsL_ok (pl n : Nat) : PlOk (pl + 2 * n) (outsL pl n) := by
  refine ⟨fun x hx => ?_, nodup_map (fun a b h => by omega) n, by rw [outsL_len]; omega⟩
  obtain ⟨k, hk, rfl⟩ := List.mem_map.1 hx
  have := List.mem_range.1 hk
  omega
def InK (g : KSt) : Prop := ∀ t ∈ g.links, PlOk g.places t.pre ∧ PlOk g.places t.post
theorem InK.more {g : KSt} (h : InK g) (k : Nat) : InK (more g k) := fun t ht => ⟨(h t ht).1.mono (Nat.le_add_right _ _), (h t ht).2.mono (Nat.le_add_right _ _)⟩
theorem InK.lnk {g : KSt} (h : InK g) {l : Int} {a b : List Int} (ha : PlOk g.places a) (hb : PlOk g.places b) : InK (lnk g l a b) := fun t ht => by
  simp only [Go.Proofs.Ytnfppolgaeibeaa.lnk, List.mem_append, List.mem_singleton] at ht
  rcases ht with ht | rfl
  · exact h t ht
  · exact ⟨ha, hb⟩
theorem fold_keeps {σ β : Type} {J : σ → Prop} {F : σ → β → σ} : ∀ (l : List β) (s : σ), (∀ (a : σ) (x : β), x ∈ l → J a → J (F a x)) → J s → J (l.foldl F s)
  | [], _, _, h => h
  | x :: l, s, hF, h => fold_keeps l (F s x) (fun s y hy => hF s y (List.mem_cons_of_mem _ hy)) (hF s x (List.mem_cons_self ..) h)
theorem kbB_in : ∀ (f : Nat) (b : PBlk) (p q : Int) (g : KSt), 0 ≤ p → p < (g.places : Int) → 0 ≤ q → q < (g.places : Int) → InK g → InK (kbB f b p q g) ∧ g.places ≤ (kbB f b p q g).places
  | 0, b, p, q, g, _, _, _, _, h => ⟨h, Nat.le_refl _⟩
  | f + 1, b, p, q, g, p0, p1, q0, q1, h => by
    unfold kbB
    split
    · exact ⟨h.lnk (.one p0 p1) (.one q0 q1), Nat.le_refl _⟩
    · split
      · exact ⟨h.lnk (.one p0 p1) (.one q0 q1), Nat.le_refl _⟩
      · split
        · have := fold_keeps (J := fun s : KSt × Int => InK s.1 ∧ g.places ≤ s.1.places ∧ 0 ≤ s.2 ∧ s.2 < (s.1.places : Int)) (F := seqF (kbB f) b.kids.length q) b.kids.zipIdx (g, p) (fun s x _ hs => by
            obtain ⟨a1, a2, a3, a4⟩ := hs
            unfold seqF
            split
            · obtain ⟨b1, b2⟩ := kbB_in f x.1 s.2 (s.1.places : Int) (more s.1 1) a3 (by simp only [more]; omega) (by omega) (by simp only [more]; omega) (a1.more 1)
              have b3 : s.1.places + 1 ≤ (kbB f x.1 s.2 (s.1.places : Int) (more s.1 1)).places := b2
              exact ⟨b1, by simp only; omega, by simp only; omega, by simp only; omega⟩
            · obtain ⟨b1, b2⟩ := kbB_in f x.1 s.2 q s.1 a3 a4 q0 (by omega) a1
              exact ⟨b1, by simp only; omega, q0, by simp only; omega⟩) ⟨h, Nat.le_refl _, p0, p1⟩
          exact ⟨this.1, this.2.1⟩
        · split
          · exact fold_keeps (J := fun s : KSt => InK s ∧ g.places ≤ s.places) (F := altF (kbB f) p q) b.kids g (fun s x _ hs => by
              obtain ⟨b1, b2⟩ := kbB_in f x p q s p0 (by have := hs.2; omega) q0 (by have := hs.2; omega) hs.1
              exact ⟨b1, Nat.le_trans hs.2 b2⟩) ⟨h, Nat.le_refl _⟩
          · split
            · have := fold_keeps (J := fun s : KSt => InK s ∧ g.places + 2 * b.kids.length ≤ s.places) (F := bothF (kbB f) g.places) b.kids.zipIdx (lnk (more g (2 * b.kids.length)) 0 [p] (insL g.places b.kids.length)) (fun s x hx hs => by
                have hlt : x.2 < b.kids.length := by
                  have := List.mem_zipIdx hx
                  omega
                obtain ⟨b1, b2⟩ := kbB_in f x.1 ((g.places + 2 * x.2 : Nat) : Int) ((g.places + 2 * x.2 + 1 : Nat) : Int) s (by omega) (by have := hs.2; omega) (by omega) (by have := hs.2; omega) hs.1
                exact ⟨b1, Nat.le_trans hs.2 b2⟩) ⟨(h.more _).lnk (.one p0 (by simp only [more]; omega)) (insL_ok _ _), Nat.le_refl _⟩
              exact ⟨this.1.lnk ((outsL_ok _ _).mono this.2) (.one q0 (by have := this.2; omega)), Nat.le_trans (Nat.le_add_right _ _) this.2⟩
            · have i1 : InK (lnk (more g 2) 0 [p] [(g.places : Int)]) := (h.more 2).lnk (.one p0 (by simp only [more]; omega)) (.one (by omega) (by simp only [more]; omega))
              obtain ⟨g1, hg1⟩ : ∃ g1, lnk (more g 2) 0 [p] [(g.places : Int)] = g1 := ⟨_, rfl⟩
              have e1 : g1.places = g.places + 2 := by rw [← hg1]; rfl
              rw [hg1] at i1 ⊢
              obtain ⟨b1, b2⟩ := kbB_in f (b.kids.getD 0 noB) (g.places : Int) ((g.places + 1 : Nat) : Int) g1 (by omega) (by omega) (by omega) (by omega) i1
              obtain ⟨c1, c2⟩ := kbB_in f (b.kids.getD 1 noB) ((g.places + 1 : Nat) : Int) (g.places : Int) _ (by omega) (by omega) (by omega) (by omega) b1
              exact ⟨c1.lnk (.one (by omega) (by omega)) (.one q0 (by omega)), by simp only [lnk]; omega⟩
def grown0 (b : PBlk) : KSt := kbB 41 b 0 1 ⟨2, []⟩
theorem grown0_in (b : PBlk) : InK (grown0 b) := (kbB_in 41 b 0 1 ⟨2, []⟩ (by omega) (by decide) (by omega) (by decide) (fun t ht => by cases ht)).1
theorem grown0_le {b : PBlk} (h : wrongB b = 0) : (grown0 b).places ≤ 162 ∧ (grown0 b).links.length ≤ 80 := by
  have h1 := (kbB_gr 41 b 0 0 1 ⟨2, []⟩ h).1
  have h2 := (chkB_ok 41 b 0 h).2
  have a := h1.few
  have c := h1.short
  simp only [List.length_nil] at a c
  unfold grown0
  omega
def tranK (P : Nat) (t : PTran) : PTran := ⟨t.label, onesL P t.pre, onesL P t.post⟩
def netK (g : KSt) : PNet := ⟨g.places, g.links.map (tranK g.places)⟩
instance (g : KSt) : Decidable (fitsK g) := by unfold fitsK; infer_instance
/-- What Grow answers. -/
def growP (b : PBlk) : PNet × Int := if wrongB b = 0 then (if fitsK (grown0 b) then (netK (grown0 b), 0) else (⟨0, []⟩, 4)) else (⟨0, []⟩, wrongB b)
theorem growP_wrong {b : PBlk} (h : wrongB b ≠ 0) : growP b = (⟨0, []⟩, wrongB b) := if_neg h
theorem growP_full {b : PBlk} (h : wrongB b = 0) (hf : ¬ fitsK (grown0 b)) : growP b = (⟨0, []⟩, 4) := by rw [growP, if_pos h, if_neg hf]
theorem growP_ok {b : PBlk} (h : wrongB b = 0) (hf : fitsK (grown0 b)) : growP b = (netK (grown0 b), 0) := by rw [growP, if_pos h, if_pos hf]
theorem netK_take {P k : Nat} {l : List PTran} {t : PTran} (h : l[k]? = some t) : (l.take (k + 1)).map (tranK P) = (l.take k).map (tranK P) ++ [tranK P t] := by
  rw [List.take_add_one, h, List.map_append]; rfl
end Go.Proofs.Ytnfppolgaeibeaa
