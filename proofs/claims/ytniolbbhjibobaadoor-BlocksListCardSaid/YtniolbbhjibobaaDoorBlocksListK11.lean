/- The plain law of blocks' words: each once; word by word, level by level; all words in order. No program in sight. -/
import Derived.Test.YtniolbbhjibobaaDoorBlocksListK03
import Derived.Test.YtniolbbhjibobaaDoorBlocksListK10
set_option linter.all false
namespace Go.Proofs.YtniolbbhjibobaaDoor
open Classical

/-! ### each once -/
noncomputable def onceB (acc : List PBlk) (x : PBlk) : List PBlk := if x ∈ acc then acc else acc ++ [x]
theorem once_mem {L : List PBlk} : ∀ {acc : List PBlk} {z : PBlk}, z ∈ L.foldl onceB acc ↔ z ∈ acc ∨ z ∈ L := by
  induction L with
  | nil => simp
  | cons x L ih =>
    intro acc z
    rw [List.foldl_cons, ih]
    unfold onceB
    split
    · rename_i h
      simp only [List.mem_cons]
      exact ⟨fun | .inl h => .inl h | .inr h => .inr (.inr h), fun | .inl h => .inl h | .inr (.inl e) => .inl (e ▸ h) | .inr (.inr h) => .inr h⟩
    · simp only [List.mem_append, List.mem_cons, List.not_mem_nil, or_false]
      exact or_assoc
theorem once_nodup {L : List PBlk} : ∀ {acc : List PBlk}, acc.Nodup → (L.foldl onceB acc).Nodup := by
  induction L with
  | nil => exact fun h => h
  | cons x L ih =>
    intro acc h
    rw [List.foldl_cons]
    refine ih ?_
    unfold onceB
    split
    · exact h
    · rename_i hx
      refine List.nodup_append.2 ⟨h, by simp, fun a ha b hb e => hx ?_⟩
      rw [← List.mem_singleton.1 hb, ← e]
      exact ha
/-- What may be left of some blocks behind a letter, each once. -/
noncomputable def nextB (l : List PBlk) (a : Int) : List PBlk := (l.flatMap fun b => afterB b a).foldl onceB []
theorem mem_nextB {l : List PBlk} {a : Int} {z : PBlk} : z ∈ nextB l a ↔ ∃ b ∈ l, z ∈ afterB b a := by
  unfold nextB
  rw [once_mem, List.mem_flatMap]
  simp
theorem nextB_nodup (l : List PBlk) (a : Int) : (nextB l a).Nodup := once_nodup List.nodup_nil
/-- What may be left of a block behind a word. -/
noncomputable def restB (b : PBlk) (w : List Int) : List PBlk := w.foldl nextB [b]
theorem restB_snoc {b : PBlk} {w : List Int} {a : Int} : restB b (w ++ [a]) = nextB (restB b w) a := by unfold restB; rw [List.foldl_append]; rfl
theorem next_right {l : List PBlk} (h : ∀ b ∈ l, wfB b) (a : Int) : (∀ x ∈ nextB l a, wfB x) ∧ ∀ v, (∃ x ∈ nextB l a, lang x v) ↔ ∃ b ∈ l, lang b (a :: v) := by
  refine ⟨fun x hx => ?_, fun v => ?_⟩
  · obtain ⟨b, hb, hx⟩ := mem_nextB.1 hx
    exact (behind_right a b (h b hb)).1 x hx
  · constructor
    · rintro ⟨x, hx, hl⟩
      obtain ⟨b, hb, hx⟩ := mem_nextB.1 hx
      exact ⟨b, hb, ((behind_right a b (h b hb)).2 v).2 ⟨x, hx, hl⟩⟩
    · rintro ⟨b, hb, hl⟩
      obtain ⟨x, hx, hl⟩ := ((behind_right a b (h b hb)).2 v).1 hl
      exact ⟨x, mem_nextB.2 ⟨b, hb, hx⟩, hl⟩
theorem rest_fold : ∀ (w : List Int) (l : List PBlk), (∀ b ∈ l, wfB b) → (∀ x ∈ w.foldl nextB l, wfB x) ∧ ∀ v, (∃ x ∈ w.foldl nextB l, lang x v) ↔ ∃ b ∈ l, lang b (w ++ v)
  | [], l, h => ⟨h, fun v => Iff.rfl⟩
  | a :: w, l, h => by
    obtain ⟨h1, h2⟩ := next_right h a
    obtain ⟨g1, g2⟩ := rest_fold w (nextB l a) h1
    exact ⟨g1, fun v => by rw [List.foldl_cons, g2 v, List.cons_append]; exact h2 (w ++ v)⟩
theorem rest_right {b : PBlk} (h : wfB b) (w : List Int) : (∀ x ∈ restB b w, wfB x) ∧ ∀ v, (∃ x ∈ restB b w, lang x v) ↔ lang b (w ++ v) := by
  obtain ⟨h1, h2⟩ := rest_fold w [b] (fun x hx => by rw [List.mem_singleton.1 hx]; exact h)
  exact ⟨h1, fun v => by rw [restB, h2 v]; simp⟩
/-- The least of what some blocks need. -/
def shortB : List PBlk → Nat
  | [] => 0
  | b :: bs => bs.foldl (fun n x => min n (leastB x)) (leastB b)
theorem fold_min : ∀ (l : List PBlk) (n : Nat), (l.foldl (fun n x => min n (leastB x)) n ≤ n ∧ ∀ x ∈ l, l.foldl (fun n x => min n (leastB x)) n ≤ leastB x) ∧ (l.foldl (fun n x => min n (leastB x)) n = n ∨ ∃ x ∈ l, l.foldl (fun n x => min n (leastB x)) n = leastB x)
  | [], n => by simp
  | b :: l, n => by
    rw [List.foldl_cons]
    obtain ⟨⟨h1, h2⟩, h3⟩ := fold_min l (min n (leastB b))
    refine ⟨⟨by omega, fun x hx => ?_⟩, ?_⟩
    · rcases List.mem_cons.1 hx with rfl | hx
      · omega
      · exact h2 x hx
    · rcases h3 with h3 | ⟨x, hx, h3⟩
      · rcases Nat.le_total n (leastB b) with g | g
        · exact .inl (by omega)
        · exact .inr ⟨b, by simp, by omega⟩
      · exact .inr ⟨x, by simp [hx], h3⟩
theorem short_iff {l : List PBlk} (hl : l ≠ []) : (∀ x ∈ l, shortB l ≤ leastB x) ∧ ∃ x ∈ l, shortB l = leastB x := by
  cases l with
  | nil => exact absurd rfl hl
  | cons b l =>
    unfold shortB
    obtain ⟨⟨h1, h2⟩, h3⟩ := fold_min l (leastB b)
    refine ⟨fun x hx => ?_, ?_⟩
    · rcases List.mem_cons.1 hx with rfl | hx
      · exact h1
      · exact h2 x hx
    · rcases h3 with h3 | ⟨x, hx, h3⟩
      · exact ⟨b, by simp, h3⟩
      · exact ⟨x, by simp [hx], h3⟩
theorem short_right {l : List PBlk} (h : ∀ x ∈ l, wfB x) (hl : l ≠ []) : IsLeast (fun v => ∃ x ∈ l, lang x v) (shortB l) := by
  obtain ⟨h1, x, hx, h2⟩ := short_iff hl
  obtain ⟨⟨w, g1, g2⟩, _⟩ := least_right x (h x hx)
  refine ⟨⟨w, ⟨x, hx, g1⟩, by rw [g2, h2]⟩, ?_⟩
  rintro v ⟨y, hy, hv⟩
  exact Nat.le_trans (h1 y hy) ((least_right y (h y hy)).2 v hv)

/-! ### words, level by level -/
/-- v begins a word of X of at most so many letters. -/
def GoodX (X : List Int → Prop) (most : Nat) (v : List Int) : Prop := ∃ u, v.length + u.length ≤ most ∧ X (v ++ u)
theorem GoodX.left {X : List Int → Prop} {most : Nat} {v : List Int} {a : Int} (h : GoodX X most (v ++ [a])) : GoodX X most v := by
  obtain ⟨u, h1, h2⟩ := h
  exact ⟨a :: u, by simp at h1 ⊢; omega, by simpa using h2⟩
theorem good_rest {b : PBlk} (h : wfB b) {most : Nat} {w : List Int} : GoodX (lang b) most w ↔ restB b w ≠ [] ∧ w.length + shortB (restB b w) ≤ most := by
  obtain ⟨h1, h2⟩ := rest_right h w
  constructor
  · rintro ⟨u, g1, g2⟩
    obtain ⟨x, hx, hl⟩ := (h2 u).2 g2
    have hne : restB b w ≠ [] := fun e => by rw [e] at hx; cases hx
    have := (short_right h1 hne).2 u ⟨x, hx, hl⟩
    exact ⟨hne, by omega⟩
  · rintro ⟨hne, g⟩
    obtain ⟨⟨u, hu, e⟩, _⟩ := short_right h1 hne
    exact ⟨u, by omega, (h2 u).1 hu⟩
theorem word_rest {b : PBlk} (h : wfB b) {w : List Int} (hne : restB b w ≠ []) : shortB (restB b w) = 0 ↔ lang b w := by
  obtain ⟨h1, h2⟩ := rest_right h w
  obtain ⟨⟨u, hu, e⟩, g⟩ := short_right h1 hne
  constructor
  · intro h0
    rw [h0] at e
    rw [List.eq_nil_of_length_eq_zero e] at hu
    simpa using (h2 []).1 hu
  · intro hl
    have := g [] ((h2 []).2 (by simpa using hl))
    simpa using this
section
variable {X : List Int → Prop} {letters : List Int} {most : Nat}
theorem mem_levX (hall : ∀ w, X w → ∀ c ∈ w, c ∈ letters) : ∀ (k : Nat) (v : List Int), v.length = k → GoodX X most v → v ∈ lev letters (GoodX X most) k
  | 0, v, hv, _ => by
    rw [List.eq_nil_of_length_eq_zero hv]
    simp [lev]
  | k + 1, v, hv, hg => by
    have hne : v ≠ [] := fun e => by rw [e] at hv; simp at hv
    obtain ⟨w, a, rfl⟩ : ∃ w a, v = w ++ [a] := ⟨v.dropLast, v.getLast hne, (List.dropLast_concat_getLast hne).symm⟩
    obtain ⟨u, h1, h2⟩ := id hg
    unfold lev
    exact mem_nextW.2 ⟨w, a, rfl, mem_levX hall k w (by simpa using hv) hg.left, hall _ h2 a (by simp), hg⟩
noncomputable def isX (X : List Int → Prop) (w : List Int) : Bool := decide (X w)
/-- All words of fewer than K letters. -/
noncomputable def wordsX (X : List Int → Prop) (letters : List Int) (most K : Nat) : List (List Int) := (List.range K).flatMap fun k => (lev letters (GoodX X most) k).filter (isX X)
theorem wordsX_succ {K : Nat} : wordsX X letters most (K + 1) = wordsX X letters most K ++ (lev letters (GoodX X most) K).filter (isX X) := by
  unfold wordsX
  rw [List.range_succ, List.flatMap_append]
  simp
theorem mem_wordsX (hall : ∀ w, X w → ∀ c ∈ w, c ∈ letters) {K : Nat} (hK : K ≤ most + 1) {w : List Int} : w ∈ wordsX X letters most K ↔ w.length < K ∧ X w := by
  unfold wordsX
  simp only [List.mem_flatMap, List.mem_range, List.mem_filter, isX, decide_eq_true_eq]
  constructor
  · rintro ⟨k, hk, h1, h2⟩
    exact ⟨by rw [(lev_mem k w h1).1]; exact hk, h2⟩
  · rintro ⟨h1, h2⟩
    exact ⟨w.length, h1, mem_levX hall _ w rfl ⟨[], by simp; omega, by simpa using h2⟩, h2⟩
theorem asc_wordsX (hl : letters.Pairwise (· < ·)) : ∀ K, Asc (wordsX X letters most K)
  | 0 => by simp [wordsX, Asc]
  | K + 1 => by
    rw [wordsX_succ]
    refine List.pairwise_append.2 ⟨asc_wordsX hl K, (lev_asc hl K).filter _, fun x hx y hy => ltW_short ?_⟩
    have h2 := (lev_mem K y (List.mem_filter.1 hy).1).1
    unfold wordsX at hx
    obtain ⟨k, hk, h1⟩ := List.mem_flatMap.1 hx
    have := (lev_mem k x (List.mem_filter.1 h1).1).1
    have := List.mem_range.1 hk
    omega
theorem wordsX_uniq (hl : letters.Pairwise (· < ·)) (hall : ∀ w, X w → ∀ c ∈ w, c ∈ letters) {L : List (List Int)} (hL : Asc L) (h : ∀ w, w ∈ L ↔ X w ∧ w.length ≤ most) : L = wordsX X letters most (most + 1) :=
  Asc.uniq hL (asc_wordsX hl _) (fun x => by
    rw [h, mem_wordsX hall (Nat.le_refl _)]
    exact ⟨fun ⟨a, b⟩ => ⟨by omega, a⟩, fun ⟨a, b⟩ => ⟨b, by omega⟩⟩)
/-- Beginnings of one length are no more than the words. -/
theorem begins_leX (hall : ∀ w, X w → ∀ c ∈ w, c ∈ letters) {k : Nat} {ws : List (List Int)} (hn : ws.Nodup) (hk : ∀ w ∈ ws, w.length = k) (hg : ∀ w ∈ ws, GoodX X most w) : ws.length ≤ (wordsX X letters most (most + 1)).length := by
  have hex : ∀ w : List Int, ∃ u : List Int, GoodX X most w → w.length + u.length ≤ most ∧ X (w ++ u) := fun w => by
    by_cases h : GoodX X most w
    · obtain ⟨u, hu⟩ := h
      exact ⟨u, fun _ => hu⟩
    · exact ⟨[], fun h2 => absurd h2 h⟩
  have hf : (ws.map fun w => w ++ Classical.choose (hex w)).Nodup := by
    rw [List.nodup_iff_pairwise_ne, List.pairwise_map]
    refine (List.Pairwise.and_mem.1 hn).imp (fun {a b} hab e => hab.2.2 ?_)
    have h1 := congrArg (List.take k) e
    rw [← hk a hab.1, List.take_left, hk a hab.1, ← hk b hab.2.1, List.take_left] at h1
    exact h1
  have := hf.length_le_of_subset (l₂ := wordsX X letters most (most + 1)) (fun x hx => by
    obtain ⟨w, hw, rfl⟩ := List.mem_map.1 hx
    obtain ⟨h1, h2⟩ := Classical.choose_spec (hex w) (hg w hw)
    exact (mem_wordsX hall (Nat.le_refl _)).2 ⟨by rw [List.length_append]; omega, h2⟩)
  simpa using this
theorem wordsX_le (hl : letters.Pairwise (· < ·)) (hall : ∀ w, X w → ∀ c ∈ w, c ∈ letters) {K : Nat} (hK : K ≤ most) {M : List (List Int)} (hM : M.Sublist ((lev letters (GoodX X most) K).filter (isX X))) :
    (wordsX X letters most K ++ M).length ≤ (wordsX X letters most (most + 1)).length := by
  have h1 : (wordsX X letters most K ++ M).length ≤ (wordsX X letters most (K + 1)).length := by
    rw [wordsX_succ, List.length_append, List.length_append]
    have := hM.length_le
    omega
  refine Nat.le_trans h1 ((asc_wordsX hl (K + 1)).nodup.length_le_of_subset (fun w hw => ?_))
  have := (mem_wordsX hall (by omega)).1 hw
  exact (mem_wordsX hall (Nat.le_refl _)).2 ⟨by omega, this.2⟩
end

/-! ### letters -/
mutual
def labB : PBlk → List Int
  | .mk k l ks => if k = 2 then l :: labK ks else labK ks
def labK : List PBlk → List Int
  | [] => []
  | b :: bs => labB b ++ labK bs
end
theorem labK_iff : ∀ {ks : List PBlk} {c : Int}, c ∈ labK ks ↔ ∃ b ∈ ks, c ∈ labB b
  | [], c => by simp [labK]
  | b :: bs, c => by simp [labK, labK_iff (ks := bs)]
theorem langS_letters {ks : List PBlk} {w : List Int} (ih : ∀ b ∈ ks, ∀ w, lang b w → ∀ c ∈ w, c ∈ labB b) : langS ks w → ∀ c ∈ w, c ∈ labK ks := by
  induction ks generalizing w with
  | nil => intro h; have : w = [] := h; subst this; intro c hc; cases hc
  | cons b bs IH =>
    rintro ⟨u, v, rfl, hu, hv⟩ c hc
    rw [labK]
    rcases List.mem_append.1 hc with hc | hc
    · exact List.mem_append.2 (.inl (ih b (by simp) u hu c hc))
    · exact List.mem_append.2 (.inr (IH (fun d hd => ih d (by simp [hd])) hv c hc))
theorem langM_letters {ks : List PBlk} {w : List Int} (ih : ∀ b ∈ ks, ∀ w, lang b w → ∀ c ∈ w, c ∈ labB b) : langM ks w → ∀ c ∈ w, c ∈ labK ks := by
  induction ks generalizing w with
  | nil => intro h; have : w = [] := h; subst this; intro c hc; cases hc
  | cons b bs IH =>
    rintro ⟨u, v, hm, hu, hv⟩ c hc
    rw [labK]
    rcases (hm.mem c).1 hc with hc | hc
    · exact List.mem_append.2 (.inl (ih b (by simp) u hu c hc))
    · exact List.mem_append.2 (.inr (IH (fun d hd => ih d (by simp [hd])) hv c hc))
theorem lang_letters : ∀ (b : PBlk), wfB b → ∀ w, lang b w → ∀ c ∈ w, c ∈ labB b
  | .mk k l ks, h => by
    have ih : wfK ks → ∀ b ∈ ks, ∀ w, lang b w → ∀ c ∈ w, c ∈ labB b := fun hk b hb => lang_letters b (wfK_iff.1 hk b hb)
    intro w hw c hc
    cases h.shp with
    | sil => rw [lang_1.1 hw] at hc; cases hc
    | step => rw [lang_2.1 hw] at hc; rw [labB, if_pos rfl, List.mem_singleton.1 hc]; simp
    | seq _ _ hne hk => rw [labB, if_neg (by decide)]; exact langS_letters (ih hk) (lang_3.1 hw) c hc
    | choice _ _ hne hk =>
      rw [labB, if_neg (by decide)]
      obtain ⟨b, hb, hl⟩ := langC_iff.1 (lang_4.1 hw)
      exact labK_iff.2 ⟨b, hb, ih hk b hb w hl c hc⟩
    | both _ _ hne hk => rw [labB, if_neg (by decide)]; exact langM_letters (ih hk) (lang_5.1 hw) c hc
    | loop _ x y hx hy =>
      rw [labB, if_neg (by decide)]
      have ih := ih ⟨hx, hy, trivial⟩
      obtain ⟨u, v, rfl, hu, hv⟩ := lang_loop.1 hw
      have key : ∀ {v : List Int}, Rep (lang y) (lang x) v → ∀ c ∈ v, c ∈ labK [x, y] := fun {v} hv => by
        induction hv with
        | nil => intro c hc; cases hc
        | more h1 h2 _ IH =>
          intro c hc
          rcases List.mem_append.1 hc with hc | hc
          · exact labK_iff.2 ⟨y, by simp, ih y (by simp) _ h1 c hc⟩
          · rcases List.mem_append.1 hc with hc | hc
            · exact labK_iff.2 ⟨x, by simp, ih x (by simp) _ h2 c hc⟩
            · exact IH c hc
      rcases List.mem_append.1 hc with hc | hc
      · exact labK_iff.2 ⟨x, by simp, ih x (by simp) u hu c hc⟩
      · exact key hv c hc
termination_by b => SizeOf.sizeOf b
decreasing_by
  have := List.sizeOf_lt_of_mem hb
  simp only [PBlk.mk.sizeOf_spec]
  omega
end Go.Proofs.YtniolbbhjibobaaDoor
