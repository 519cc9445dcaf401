/- The plain law of lists of words: short ones first, then letter by letter; each once. No program in sight. | The plain law of all words of a finite graph with labels, up to so many letters: level by level. No program in sight. | The plain law of words that lead to the end, from each mark: lists that grow until nothing is new. No program in sight. -/
import Derived.Test.YtniolbbhjibobaaDoorBlocksListK01
import Derived.Test.YtniolbbhjibobaaDoorBlocksListK09
set_option linter.all false
namespace Go.Proofs.YtniolbbhjibobaaDoor

/-- As slices.Compare tells it. -/
def cmpT : List Int → List Int → Int
  | [], [] => 0
  | [], _ :: _ => -1
  | _ :: _, [] => 1
  | x :: xs, y :: ys => if x < y then -1 else if y < x then 1 else cmpT xs ys
theorem cmpT_self : ∀ x : List Int, cmpT x x = 0
  | [] => rfl
  | a :: x => by rw [cmpT, if_neg (by omega), if_neg (by omega)]; exact cmpT_self x
theorem cmpT_eq : ∀ x y : List Int, cmpT x y = 0 → x = y
  | [], [], _ => rfl
  | [], _ :: _, h => by rw [cmpT] at h; omega
  | _ :: _, [], h => by rw [cmpT] at h; omega
  | a :: x, b :: y, h => by
    rw [cmpT] at h
    split at h
    · omega
    · split at h
      · omega
      · rw [cmpT_eq x y h, show a = b by omega]
theorem cmpT_anti : ∀ x y : List Int, cmpT y x = - cmpT x y
  | [], [] => rfl
  | [], _ :: _ => rfl
  | _ :: _, [] => rfl
  | a :: x, b :: y => by
    rw [cmpT, cmpT]
    have ih := cmpT_anti x y
    by_cases h1 : a < b
    · rw [if_neg (by omega), if_pos h1, if_pos h1]; rfl
    · by_cases h2 : b < a
      · rw [if_pos h2, if_neg h1, if_pos h2]
      · rw [if_neg h2, if_neg h1, if_neg h1, if_neg h2]; exact ih
theorem cmpT_trans : ∀ x y z : List Int, cmpT x y < 0 → cmpT y z < 0 → cmpT x z < 0
  | [], [], _, h, _ => by rw [cmpT] at h; omega
  | [], _ :: _, [], _, h => by rw [cmpT] at h; omega
  | [], _ :: _, _ :: _, _, _ => by rw [cmpT]; omega
  | _ :: _, [], _, h, _ => by rw [cmpT] at h; omega
  | _ :: _, _ :: _, [], _, h => by rw [cmpT] at h; omega
  | a :: x, b :: y, c :: z, h, g => by
    rw [cmpT] at h g ⊢
    have ih := cmpT_trans x y z
    split at h
    · split at g
      · rw [if_pos (by omega)]; omega
      · split at g
        · omega
        · rw [if_pos (by omega)]; omega
    · split at h
      · omega
      · split at g
        · rw [if_pos (by omega)]; omega
        · split at g
          · omega
          · rw [if_neg (by omega), if_neg (by omega)]; exact ih h g
/-- Short ones first. -/
def cmpW (x y : List Int) : Int := if x.length ≠ y.length then (x.length : Int) - y.length else cmpT x y
abbrev ltW (x y : List Int) : Prop := cmpW x y < 0
theorem cmpW_self (x : List Int) : cmpW x x = 0 := by unfold cmpW; rw [if_neg (by simp)]; exact cmpT_self x
theorem cmpW_eq {x y : List Int} (h : cmpW x y = 0) : x = y := by
  unfold cmpW at h
  split at h
  · omega
  · exact cmpT_eq _ _ h
theorem cmpW_anti (x y : List Int) : cmpW y x = - cmpW x y := by
  unfold cmpW
  by_cases e : x.length = y.length
  · rw [if_neg (by omega), if_neg (by omega)]; exact cmpT_anti x y
  · rw [if_pos (by omega), if_pos (by omega)]; omega
theorem cmpW_trans {x y z : List Int} (h : cmpW x y < 0) (g : cmpW y z < 0) : cmpW x z < 0 := by
  unfold cmpW at h g ⊢
  split at h
  · split at g
    · rw [if_pos (by omega)]; omega
    · rw [if_pos (by omega)]; omega
  · split at g
    · rw [if_pos (by omega)]; omega
    · rw [if_neg (by omega)]; exact cmpT_trans _ _ _ h g
theorem cmpW_ntrans {x y z : List Int} (h : ¬ cmpW x y < 0) (g : ¬ cmpW y z < 0) : ¬ cmpW x z < 0 := by
  have a1 := cmpW_anti x y
  have a2 := cmpW_anti y z
  have a3 := cmpW_anti x z
  by_cases e1 : cmpW x y = 0
  · rw [cmpW_eq e1]; exact g
  · by_cases e2 : cmpW y z = 0
    · rw [← cmpW_eq e2]; exact h
    · have := cmpW_trans (show cmpW z y < 0 by omega) (show cmpW y x < 0 by omega)
      omega
theorem ltW_irrefl (x : List Int) : ¬ ltW x x := by unfold ltW; rw [cmpW_self]; omega
theorem ltW_asymm {x y : List Int} (h : ltW x y) : ¬ ltW y x := by
  have := cmpW_anti x y
  unfold ltW at *
  omega
/-! ### lists in order, each word once -/
abbrev Asc (L : List (List Int)) : Prop := L.Pairwise ltW
theorem Asc.nodup {L : List (List Int)} (h : Asc L) : L.Nodup := h.imp (fun {a b} hab e => by subst e; exact ltW_irrefl _ hab)
theorem Asc.uniq : ∀ {L M : List (List Int)}, Asc L → Asc M → (∀ x, x ∈ L ↔ x ∈ M) → L = M
  | [], [], _, _, _ => rfl
  | [], y :: M, _, _, h => by have := (h y).2 (by simp); simp at this
  | x :: L, [], _, _, h => by have := (h x).1 (by simp); simp at this
  | x :: L, y :: M, hL, hM, h => by
    rw [Asc, List.pairwise_cons] at hL hM
    have e : x = y := by
      rcases List.mem_cons.1 ((h x).1 (by simp)) with e | h1
      · exact e
      · rcases List.mem_cons.1 ((h y).2 (by simp)) with e | h2
        · exact e.symm
        · exact absurd (hM.1 x h1) (ltW_asymm (hL.1 y h2))
    subst e
    rw [Asc.uniq hL.2 hM.2 (fun z => ⟨fun hz => by
      rcases List.mem_cons.1 ((h z).1 (by simp [hz])) with e | h1
      · subst e; exact absurd (hL.1 _ hz) (ltW_irrefl _)
      · exact h1, fun hz => by
      rcases List.mem_cons.1 ((h z).2 (by simp [hz])) with e | h1
      · subst e; exact absurd (hM.1 _ hz) (ltW_irrefl _)
      · exact h1⟩)]
def insW (x : List Int) : List (List Int) → List (List Int)
  | [] => [x]
  | y :: R => if cmpW x y < 0 then x :: y :: R else if cmpW x y = 0 then y :: R else y :: insW x R
theorem insW_mem (x z : List Int) : ∀ R, z ∈ insW x R ↔ z = x ∨ z ∈ R
  | [] => by simp [insW]
  | y :: R => by
    have ih := insW_mem x z R
    unfold insW
    split
    · simp
    · split
      · rename_i e
        rw [cmpW_eq e]; simp
      · simp only [List.mem_cons, ih]
        constructor
        · rintro (h | h | h)
          · exact .inr (.inl h)
          · exact .inl h
          · exact .inr (.inr h)
        · rintro (h | h | h)
          · exact .inr (.inl h)
          · exact .inl h
          · exact .inr (.inr h)
theorem insW_asc (x : List Int) : ∀ R, Asc R → Asc (insW x R)
  | [], _ => by simp [insW, Asc]
  | y :: R, h => by
    have ih := insW_asc x R (List.pairwise_cons.1 h).2
    unfold insW
    split
    · rename_i hlt
      refine List.pairwise_cons.2 ⟨fun z hz => ?_, h⟩
      rcases List.mem_cons.1 hz with rfl | hz
      · exact hlt
      · exact cmpW_trans hlt ((List.pairwise_cons.1 h).1 z hz)
    · split
      · exact h
      · rename_i h1 h2
        refine List.pairwise_cons.2 ⟨fun z hz => ?_, ih⟩
        rcases (insW_mem x z R).1 hz with rfl | hz
        · have := cmpW_anti z y
          show cmpW y z < 0
          omega
        · exact (List.pairwise_cons.1 h).1 z hz
/-- What jset makes of a list. -/
def jsetL (l : List (List Int)) (most : Int) : List (List Int) := (l.filter fun w => decide ((w.length : Int) ≤ most)).foldr insW []
theorem foldr_ins (l : List (List Int)) : Asc (l.foldr insW []) ∧ ∀ w, w ∈ l.foldr insW [] ↔ w ∈ l := by
  induction l with
  | nil => exact ⟨.nil, fun w => Iff.rfl⟩
  | cons a l ih =>
    refine ⟨insW_asc _ _ ih.1, fun w => ?_⟩
    rw [List.foldr_cons, insW_mem, ih.2, List.mem_cons]
theorem jsetL_asc (l : List (List Int)) (most : Int) : Asc (jsetL l most) := (foldr_ins _).1
theorem jsetL_mem {l : List (List Int)} {most : Int} {w : List Int} : w ∈ jsetL l most ↔ w ∈ l ∧ (w.length : Int) ≤ most := by
  unfold jsetL
  rw [(foldr_ins _).2, List.mem_filter]
  simp
/-! ### a letter more -/
theorem cmpT_snoc : ∀ (x y : List Int) (a b : Int), x.length = y.length → (cmpT x y < 0 ∨ (x = y ∧ a < b)) → cmpT (x ++ [a]) (y ++ [b]) < 0
  | [], [], a, b, _, h => by
    rcases h with h | ⟨_, h⟩
    · rw [cmpT] at h; omega
    · show cmpT [a] [b] < 0
      rw [cmpT, if_pos h]; omega
  | [], _ :: _, _, _, hl, _ => by simp at hl
  | _ :: _, [], _, _, hl, _ => by simp at hl
  | c :: x, d :: y, a, b, hl, h => by
    have ih := cmpT_snoc x y a b (by simpa using hl)
    show cmpT (c :: (x ++ [a])) (d :: (y ++ [b])) < 0
    rw [cmpT]
    rcases h with h | ⟨e, h⟩
    · rw [cmpT] at h
      split at h
      · rw [if_pos (by assumption)]; omega
      · split at h
        · omega
        · rw [if_neg (by assumption), if_neg (by assumption)]; exact ih (.inl h)
    · injection e with e1 e2
      subst e1 e2
      rw [if_neg (by omega), if_neg (by omega)]
      exact ih (.inr ⟨rfl, h⟩)
theorem ltW_snoc {x y : List Int} {a b : Int} (hl : x.length = y.length) (h : ltW x y ∨ (x = y ∧ a < b)) : ltW (x ++ [a]) (y ++ [b]) := by
  unfold ltW cmpW at *
  rw [if_neg (by simp [hl])]
  rw [if_neg (by omega)] at h
  exact cmpT_snoc _ _ _ _ hl h
theorem ltW_short {x y : List Int} (h : x.length < y.length) : ltW x y := by
  unfold ltW cmpW
  rw [if_pos (by omega)]
  omega
end Go.Proofs.YtniolbbhjibobaaDoor
namespace Go.Proofs.YtniolbbhjibobaaDoor
open Classical

/-- From m the word leads to the end. -/
inductive Lead (ars : List PArc) (lb : Int → Int) (E : Int → Prop) : Int → List Int → Prop
  | stop {m : Int} (h : E m) : Lead ars lb E m []
  | quiet {a : PArc} {w : List Int} (ha : a ∈ ars) (hl : lb a.tran = 0) (h : Lead ars lb E a.to_ w) : Lead ars lb E a.from_ w
  | heard {a : PArc} {w : List Int} (ha : a ∈ ars) (hl : 0 < lb a.tran) (h : Lead ars lb E a.to_ w) : Lead ars lb E a.from_ (lb a.tran :: w)
section
variable {ars : List PArc} {lb : Int → Int} {E : Int → Prop} {n : Nat}
theorem Told.congr {w w' : List Int} {k : Nat} {m : Int} (h : Told ars lb w k m) : (∀ i, i < k → w[i]? = w'[i]?) → Told ars lb w' k m := by
  induction h with
  | start => exact fun _ => .start
  | quiet _ ha hl ih => exact fun he => .quiet (ih he) ha hl
  | heard _ ha hl hw ih => exact fun he => .heard (ih (fun i hi => he i (by omega))) ha hl (by rw [← he _ (by omega)]; exact hw)
theorem Told.le {w : List Int} {k : Nat} {m : Int} (h : Told ars lb w k m) : k ≤ w.length := by
  induction h with
  | start => omega
  | quiet _ _ _ ih => exact ih
  | heard _ _ _ hw ih => exact (List.getElem?_eq_some_iff.1 hw).1
theorem Lead.split {m : Int} {x : List Int} (h : Lead ars lb E m x) : ∀ (v u : List Int) (k : Nat), Told ars lb (v ++ u) k m → k ≤ v.length → (v ++ u).drop k = x → ∃ m', Told ars lb (v ++ u) v.length m' ∧ Lead ars lb E m' u := by
  have here : ∀ {m : Int} {x : List Int}, Lead ars lb E m x → ∀ (v u : List Int) (k : Nat), Told ars lb (v ++ u) k m → k = v.length → (v ++ u).drop k = x → ∃ m', Told ars lb (v ++ u) v.length m' ∧ Lead ars lb E m' u := fun {m x} h v u k ht hk hx => by
    subst hk
    rw [List.drop_left] at hx
    subst hx
    exact ⟨m, ht, h⟩
  induction h with
  | stop h =>
    intro v u k ht hk hx
    have := congrArg List.length hx
    simp only [List.length_drop, List.length_append, List.length_nil] at this
    exact here (.stop h) v u k ht (by omega) hx
  | quiet ha hl h ih =>
    intro v u k ht hk hx
    by_cases e : k = v.length
    · exact here (.quiet ha hl h) v u k ht e hx
    · exact ih v u k (.quiet ht ha hl) hk hx
  | @heard a w ha hl h ih =>
    intro v u k ht hk hx
    by_cases e : k = v.length
    · exact here (.heard ha hl h) v u k ht e hx
    · have hw : (v ++ u)[k]? = some (lb a.tran) := by
        have := congrArg (fun l => l[0]?) hx
        simpa [List.getElem?_drop] using this
      refine ih v u (k + 1) (.heard ht ha hl hw) (by omega) ?_
      have := congrArg List.tail hx
      simpa [List.tail_drop] using this
theorem Lead.letters {m : Int} {w : List Int} (h : Lead ars lb E m w) : ∀ c ∈ w, ∃ a ∈ ars, c = lb a.tran ∧ 0 < c := by
  induction h with
  | stop _ => intro c hc; simp at hc
  | quiet _ _ _ ih => exact ih
  | heard ha hl _ ih =>
    intro c hc
    rcases List.mem_cons.1 hc with rfl | hc
    · exact ⟨_, ha, rfl, hl⟩
    · exact ih c hc
/-- Some word begins so. -/
def GoodW (ars : List PArc) (lb : Int → Int) (E : Int → Prop) (most : Nat) (v : List Int) : Prop := ∃ u, v.length + u.length ≤ most ∧ Lead ars lb E 0 (v ++ u)
theorem GoodW.left {most : Nat} {v : List Int} {a : Int} (h : GoodW ars lb E most (v ++ [a])) : GoodW ars lb E most v := by
  obtain ⟨u, h1, h2⟩ := h
  exact ⟨a :: u, by simp only [List.length_append, List.length_cons, List.length_nil] at h1 ⊢; omega, by simpa using h2⟩
theorem GoodW.last {most : Nat} {v : List Int} {a : Int} (h : GoodW ars lb E most (v ++ [a])) : ∃ b ∈ ars, a = lb b.tran ∧ 0 < a := by
  obtain ⟨u, _, h2⟩ := h
  exact h2.letters a (by simp)
/-! ### level by level -/
noncomputable def nextW (letters : List Int) (good : List Int → Prop) (ws : List (List Int)) : List (List Int) := ws.flatMap fun w => (letters.filter fun a => decide (good (w ++ [a]))).map fun a => w ++ [a]
noncomputable def lev (letters : List Int) (good : List Int → Prop) : Nat → List (List Int)
  | 0 => [[]]
  | k + 1 => nextW letters good (lev letters good k)
theorem mem_nextW {letters : List Int} {good : List Int → Prop} {ws : List (List Int)} {v : List Int} : v ∈ nextW letters good ws ↔ ∃ w a, v = w ++ [a] ∧ w ∈ ws ∧ a ∈ letters ∧ good v := by
  unfold nextW
  simp only [List.mem_flatMap, List.mem_map, List.mem_filter, decide_eq_true_eq]
  constructor
  · rintro ⟨w, hw, a, ⟨ha, hg⟩, rfl⟩
    exact ⟨w, a, rfl, hw, ha, hg⟩
  · rintro ⟨w, a, rfl, hw, ha, hg⟩
    exact ⟨w, hw, a, ⟨ha, hg⟩, rfl⟩
theorem lev_mem {letters : List Int} {good : List Int → Prop} : ∀ (k : Nat) (v : List Int), v ∈ lev letters good k → v.length = k ∧ (k = 0 ∨ good v)
  | 0, v, h => by
    unfold lev at h
    rw [List.mem_singleton.1 h]
    exact ⟨rfl, .inl rfl⟩
  | k + 1, v, h => by
    unfold lev at h
    obtain ⟨w, a, rfl, hw, _, hg⟩ := mem_nextW.1 h
    have := (lev_mem k w hw).1
    exact ⟨by simp [this], .inr hg⟩
theorem asc_nextW {letters : List Int} {good : List Int → Prop} {ws : List (List Int)} {k : Nat} (hl : letters.Pairwise (· < ·)) (h : Asc ws) (hk : ∀ w ∈ ws, w.length = k) : Asc (nextW letters good ws) := by
  unfold nextW Asc
  rw [List.pairwise_flatMap]
  refine ⟨fun w hw => ?_, ?_⟩
  · rw [List.pairwise_map]
    refine (hl.filter _).imp (fun {a b} hab => ltW_snoc rfl (.inr ⟨rfl, hab⟩))
  · refine (List.Pairwise.and_mem.1 h).imp (fun {x y} hxy u hu v hv => ?_)
    obtain ⟨a, _, rfl⟩ := List.mem_map.1 hu
    obtain ⟨b, _, rfl⟩ := List.mem_map.1 hv
    exact ltW_snoc ((hk x hxy.1).trans (hk y hxy.2.1).symm) (.inl hxy.2.2)
theorem lev_asc {letters : List Int} {good : List Int → Prop} (hl : letters.Pairwise (· < ·)) : ∀ k, Asc (lev letters good k)
  | 0 => by simp [lev, Asc]
  | k + 1 => by
    unfold lev
    exact asc_nextW hl (lev_asc hl k) (fun w hw => (lev_mem k w hw).1)
theorem mem_lev {letters : List Int} {most : Nat} (hall : ∀ a ∈ ars, lb a.tran ∈ letters) : ∀ (k : Nat) (v : List Int), v.length = k → GoodW ars lb E most v → v ∈ lev letters (GoodW ars lb E most) k
  | 0, v, hv, _ => by
    rw [List.eq_nil_of_length_eq_zero hv]
    simp [lev]
  | k + 1, v, hv, hg => by
    have hne : v ≠ [] := fun e => by rw [e] at hv; simp at hv
    obtain ⟨w, a, rfl⟩ : ∃ w a, v = w ++ [a] := ⟨v.dropLast, v.getLast hne, (List.dropLast_concat_getLast hne).symm⟩
    obtain ⟨b, hb, e, _⟩ := hg.last
    unfold lev
    exact mem_nextW.2 ⟨w, a, rfl, mem_lev hall k w (by simpa using hv) hg.left, by rw [e]; exact hall b hb, hg⟩
noncomputable def isW (ars : List PArc) (lb : Int → Int) (E : Int → Prop) (w : List Int) : Bool := decide (Lead ars lb E 0 w)
/-- All words of fewer than K letters. -/
noncomputable def wordsTo (ars : List PArc) (lb : Int → Int) (E : Int → Prop) (letters : List Int) (most K : Nat) : List (List Int) := (List.range K).flatMap fun k => (lev letters (GoodW ars lb E most) k).filter (isW ars lb E)
theorem wordsTo_succ {letters : List Int} {most K : Nat} : wordsTo ars lb E letters most (K + 1) = wordsTo ars lb E letters most K ++ (lev letters (GoodW ars lb E most) K).filter (isW ars lb E) := by
  unfold wordsTo
  rw [List.range_succ, List.flatMap_append]
  simp
theorem mem_wordsTo {letters : List Int} {most K : Nat} (hall : ∀ a ∈ ars, lb a.tran ∈ letters) (hK : K ≤ most + 1) {w : List Int} : w ∈ wordsTo ars lb E letters most K ↔ w.length < K ∧ Lead ars lb E 0 w := by
  unfold wordsTo
  simp only [List.mem_flatMap, List.mem_range, List.mem_filter, isW, decide_eq_true_eq]
  constructor
  · rintro ⟨k, hk, h1, h2⟩
    exact ⟨by rw [(lev_mem k w h1).1]; exact hk, h2⟩
  · rintro ⟨h1, h2⟩
    exact ⟨w.length, h1, mem_lev hall _ w rfl ⟨[], by simp; omega, by simpa using h2⟩, h2⟩
theorem asc_wordsTo {letters : List Int} {most : Nat} (hl : letters.Pairwise (· < ·)) : ∀ K, Asc (wordsTo ars lb E letters most K)
  | 0 => by simp [wordsTo, Asc]
  | K + 1 => by
    rw [wordsTo_succ]
    refine List.pairwise_append.2 ⟨asc_wordsTo hl K, (lev_asc hl K).filter _, fun x hx y hy => ltW_short ?_⟩
    have h2 := (lev_mem K y (List.mem_filter.1 hy).1).1
    unfold wordsTo at hx
    obtain ⟨k, hk, h1⟩ := List.mem_flatMap.1 hx
    have := (lev_mem k x (List.mem_filter.1 h1).1).1
    have := List.mem_range.1 hk
    omega
/-- All words of at most so many letters, in order. -/
noncomputable def allW (ars : List PArc) (lb : Int → Int) (E : Int → Prop) (letters : List Int) (most : Nat) : List (List Int) := wordsTo ars lb E letters most (most + 1)
theorem allW_uniq {letters : List Int} {most : Nat} (hl : letters.Pairwise (· < ·)) (hall : ∀ a ∈ ars, lb a.tran ∈ letters) {L : List (List Int)} (hL : Asc L) (h : ∀ w, w ∈ L ↔ w.length ≤ most ∧ Lead ars lb E 0 w) : L = allW ars lb E letters most :=
  Asc.uniq hL (asc_wordsTo hl _) (fun x => by
    rw [h, allW, mem_wordsTo hall (Nat.le_refl _)]
    exact ⟨fun ⟨a, b⟩ => ⟨by omega, b⟩, fun ⟨a, b⟩ => ⟨by omega, b⟩⟩)
end
end Go.Proofs.YtniolbbhjibobaaDoor
namespace Go.Proofs.YtniolbbhjibobaaDoor
open Classical

/-! ### how many words there are -/
def univW (letters : List Int) : Nat → List (List Int)
  | 0 => [[]]
  | k + 1 => [] :: letters.flatMap fun a => (univW letters k).map fun w => a :: w
theorem mem_univW {letters : List Int} : ∀ (k : Nat) (w : List Int), w.length ≤ k → (∀ c ∈ w, c ∈ letters) → w ∈ univW letters k
  | 0, w, h, _ => by rw [List.eq_nil_of_length_eq_zero (Nat.le_zero.1 h)]; simp [univW]
  | k + 1, [], _, _ => by simp [univW]
  | k + 1, a :: w, h, hc => by
    unfold univW
    refine List.mem_cons.2 (.inr (List.mem_flatMap.2 ⟨a, hc a (by simp), List.mem_map.2 ⟨w, mem_univW k w (by simpa using h) (fun c h => hc c (by simp [h])), rfl⟩⟩))
/-! ### a table of lists -/
abbrev Tab := List (List (List Int))
def atW (T : Tab) (m : Int) : List (List Int) := T.getD m.toNat []
def moreW (lb : Int → Int) (T : Tab) (a : PArc) : List (List Int) := (atW T a.to_).map fun w => if 0 < lb a.tran then lb a.tran :: w else w
def newW (lb : Int → Int) (most : Nat) (T : Tab) (a : PArc) : List (List Int) := jsetL (atW T a.from_ ++ moreW lb T a) most
def onF (lb : Int → Int) (most : Nat) (p : Tab × Bool) (a : PArc) : Tab × Bool := (p.1.set a.from_.toNat (newW lb most p.1 a), p.2 || decide ((atW p.1 a.from_).length < (newW lb most p.1 a).length))
section
variable {ars : List PArc} {lb : Int → Int} {E : Int → Prop} {n most : Nat} {letters : List Int}
structure OnI (ars : List PArc) (lb : Int → Int) (E : Int → Prop) (n most : Nat) (T : Tab) : Prop where
  len : T.length = n
  asc : ∀ k : Nat, k < n → Asc (atW T (k : Int))
  snd : ∀ k : Nat, k < n → ∀ w ∈ atW T (k : Int), Lead ars lb E (k : Int) w ∧ w.length ≤ most
  stop : ∀ k : Nat, k < n → E (k : Int) → [] ∈ atW T (k : Int)
theorem atW_set {T : Tab} {j m : Nat} {L : List (List Int)} (hj : j < T.length) : atW (T.set j L) (m : Int) = if m = j then L else atW T (m : Int) := by
  unfold atW
  simp only [Int.toNat_natCast, List.getD_eq_getElem?_getD, List.getElem?_set]
  by_cases e : j = m
  · subst e
    simp [hj]
  · rw [if_neg e, if_neg (fun h => e h.symm)]
theorem atW_some {T : Tab} {k : Nat} (hk : k < T.length) : T[k]? = some (atW T (k : Int)) := by
  unfold atW
  simp [List.getD_eq_getElem?_getD, List.getElem?_eq_getElem hk]
variable {T : Tab}
theorem OnI.mem_new (h : OnI ars lb E n most T) {a : PArc} (hf : Inn n a.from_) {w : List Int} : w ∈ newW lb most T a ↔ w ∈ atW T a.from_ ∨ (w ∈ moreW lb T a ∧ w.length ≤ most) := by
  obtain ⟨f, ef, hfn⟩ := natOf hf
  unfold newW
  rw [jsetL_mem, List.mem_append]
  constructor
  · rintro ⟨h1 | h1, h2⟩
    · exact .inl h1
    · exact .inr ⟨h1, by omega⟩
  · rintro (h1 | ⟨h1, h2⟩)
    · exact ⟨.inl h1, by have := (h.snd f hfn w (by rw [← ef]; exact h1)).2; omega⟩
    · exact ⟨.inr h1, by omega⟩
theorem OnI.next (h : OnI ars lb E n most T) {a : PArc} (ha : a ∈ ars) (hlb : 0 ≤ lb a.tran) (hf : Inn n a.from_) (ht : Inn n a.to_) : OnI ars lb E n most (T.set a.from_.toNat (newW lb most T a)) := by
  obtain ⟨f, ef, hfn⟩ := natOf hf
  obtain ⟨t, et, htn⟩ := natOf ht
  have hfl : f < T.length := by rw [h.len]; exact hfn
  have e1 : a.from_.toNat = f := by omega
  rw [e1]
  refine ⟨by simp [h.len], fun k hk => ?_, fun k hk w hw => ?_, fun k hk hE => ?_⟩
  · rw [atW_set hfl]
    split
    · exact jsetL_asc _ _
    · exact h.asc k hk
  · rw [atW_set hfl] at hw
    split at hw
    · rename_i e
      subst e
      rcases (h.mem_new hf).1 hw with h1 | ⟨h1, h2⟩
      · rw [ef] at h1; exact h.snd k hk w h1
      · refine ⟨?_, h2⟩
        unfold moreW at h1
        obtain ⟨v, hv, rfl⟩ := List.mem_map.1 h1
        have hL := (h.snd t htn v (by rw [← et]; exact hv)).1
        rw [← et] at hL
        rw [← ef]
        split
        · exact .heard ha (by assumption) hL
        · exact .quiet ha (by omega) hL
    · exact h.snd k hk w hw
  · rw [atW_set hfl]
    split
    · rename_i e
      subst e
      exact (h.mem_new hf).2 (.inl (by rw [ef]; exact h.stop k hk hE))
    · exact h.stop k hk hE
/-- How much may yet come. -/
def muW (B : Nat) (T : Tab) : Nat := (T.map fun L => B - L.length).sum
theorem muW_set (B : Nat) : ∀ (T : Tab) (j : Nat) (L M : List (List Int)), T[j]? = some L → muW B (T.set j M) + (B - L.length) = muW B T + (B - M.length)
  | [], j, L, M, h => by simp at h
  | K :: T, 0, L, M, h => by
    simp only [List.getElem?_cons_zero, Option.some.injEq] at h
    subst h
    simp [muW]; omega
  | K :: T, j + 1, L, M, h => by
    have := muW_set B T j L M (by simpa using h)
    simp only [muW, List.set_cons_succ, List.map_cons, List.sum_cons] at this ⊢
    omega
theorem set_self {T : Tab} {j : Nat} {L : List (List Int)} (h : T[j]? = some L) : T.set j L = T := by
  apply List.ext_getElem?
  intro i
  rw [List.getElem?_set]
  split
  · rename_i e
    subst e
    split
    · exact h.symm
    · rename_i h2
      rw [List.getElem?_eq_none (by omega)]
  · rfl
theorem OnI.few (h : OnI ars lb E n most T) (hall : ∀ a ∈ ars, lb a.tran ∈ letters) {k : Nat} (hk : k < n) : (atW T (k : Int)).length ≤ (univW letters most).length :=
  (h.asc k hk).nodup.length_le_of_subset (fun w hw => mem_univW _ _ (h.snd k hk w hw).2 (fun c hc => by
    obtain ⟨a, ha, e, _⟩ := (h.snd k hk w hw).1.letters c hc
    rw [e]; exact hall a ha))
theorem OnI.mono (hf : ∀ a ∈ ars, Inn n a.from_) (ht : ∀ a ∈ ars, Inn n a.to_) (hlb : ∀ a ∈ ars, 0 ≤ lb a.tran) (hall : ∀ a ∈ ars, lb a.tran ∈ letters) : Mono (onF lb most) ars (OnI ars lb E n most) (muW (univW letters most).length) where
  step := fun p a ha h => by
    obtain ⟨f, ef, hfn⟩ := natOf (hf a ha)
    have hfl : f < p.1.length := by rw [h.len]; exact hfn
    have e1 : a.from_.toNat = f := by omega
    have hN := h.next ha (hlb a ha) (hf a ha) (ht a ha)
    have hat := atW_some hfl
    have hsub : (atW p.1 (f : Int)).length ≤ (newW lb most p.1 a).length := (h.asc f hfn).nodup.length_le_of_subset (fun w hw => (h.mem_new (hf a ha)).2 (.inl (by rw [ef]; exact hw)))
    have hfew := hN.few hall hfn
    rw [e1, atW_set hfl, if_pos rfl] at hfew
    unfold onF
    rw [e1, ef]
    by_cases hlt : (atW p.1 (f : Int)).length < (newW lb most p.1 a).length
    · refine .inr ⟨by simp [hlt], by rw [← e1]; exact hN, ?_⟩
      have := muW_set (univW letters most).length p.1 f _ (newW lb most p.1 a) hat
      simp only
      omega
    · refine .inl ?_
      have heq : newW lb most p.1 a = atW p.1 (f : Int) := by
        refine (Asc.uniq (jsetL_asc _ _) (h.asc f hfn) (fun x => ⟨fun hx => ?_, fun hx => (h.mem_new (hf a ha)).2 (.inl (by rw [ef]; exact hx))⟩))
        by_cases hm : x ∈ atW p.1 (f : Int)
        · exact hm
        · have := (List.nodup_cons.2 ⟨hm, (h.asc f hfn).nodup⟩).length_le_of_subset (l₂ := newW lb most p.1 a) (fun w hw => by
            rcases List.mem_cons.1 hw with rfl | hw
            · exact hx
            · exact (h.mem_new (hf a ha)).2 (.inl (by rw [ef]; exact hw)))
          simp only [List.length_cons] at this
          omega
      rw [heq, set_self hat]
      simp
/-- Nothing is new: then all are there. -/
theorem OnI.all (h : OnI ars lb E n most T) (hf : ∀ a ∈ ars, Inn n a.from_) (ht : ∀ a ∈ ars, Inn n a.to_) (hfix : ∀ a ∈ ars, onF lb most (T, false) a = (T, false)) {m : Int} {w : List Int} (hL : Lead ars lb E m w) : Inn n m → w.length ≤ most → w ∈ atW T m := by
  have key : ∀ a ∈ ars, ∀ v, v ∈ newW lb most T a → v ∈ atW T a.from_ := fun a ha v hv => by
    obtain ⟨f, ef, hfn⟩ := natOf (hf a ha)
    have e1 : a.from_.toNat = f := by omega
    have hfl : f < T.length := by rw [h.len]; exact hfn
    have h1 : T.set f (newW lb most T a) = T := by
      have := congrArg Prod.fst (hfix a ha)
      unfold onF at this
      rw [e1] at this
      exact this
    rw [ef, ← h1, atW_set hfl, if_pos rfl]
    exact hv
  induction hL with
  | @stop m hE =>
    intro hm _
    obtain ⟨k, rfl, hk⟩ := natOf hm
    exact h.stop k hk hE
  | @quiet a w ha hl hL ih =>
    intro hm hw
    refine key a ha w ((h.mem_new (hf a ha)).2 (.inr ⟨?_, hw⟩))
    unfold moreW
    exact List.mem_map.2 ⟨w, ih (ht a ha) hw, by rw [if_neg (by omega)]⟩
  | @heard a w ha hl hL ih =>
    intro hm hw
    refine key a ha _ ((h.mem_new (hf a ha)).2 (.inr ⟨?_, hw⟩))
    unfold moreW
    exact List.mem_map.2 ⟨w, ih (ht a ha) (by simp only [List.length_cons] at hw; omega), by rw [if_pos hl]⟩
/-- What the table of marks holds of the first mark then. -/
theorem OnI.done (h : OnI ars lb E n most T) (hn : 0 < n) (hf : ∀ a ∈ ars, Inn n a.from_) (ht : ∀ a ∈ ars, Inn n a.to_) (hfix : ∀ a ∈ ars, onF lb most (T, false) a = (T, false)) (hl : letters.Pairwise (· < ·)) (hall : ∀ a ∈ ars, lb a.tran ∈ letters) : atW T 0 = allW ars lb E letters most :=
  allW_uniq hl hall (h.asc 0 hn) (fun w => ⟨fun hw => by
    obtain ⟨h1, h2⟩ := h.snd 0 hn w hw
    exact ⟨h2, h1⟩, fun ⟨h1, h2⟩ => h.all hf ht hfix h2 ⟨by omega, by omega⟩ h1⟩)
/-- The table as it is made: the end has the word of no letter. -/
theorem OnI.start {j : Nat} (hj : j < n) (hE : ∀ k : Nat, E (k : Int) ↔ k = j) : OnI ars lb E n most ((List.replicate n []).set j [[]]) := by
  have hl : j < (List.replicate n ([] : List (List Int))).length := by simpa using hj
  have h0 : ∀ k : Nat, atW (List.replicate n ([] : List (List Int))) (k : Int) = [] := fun k => by
    unfold atW
    simp only [Int.toNat_natCast, List.getD_eq_getElem?_getD, List.getElem?_replicate]
    split <;> rfl
  refine ⟨by simp, fun k hk => ?_, fun k hk w hw => ?_, fun k hk h => ?_⟩
  · rw [atW_set hl]
    split
    · simp [Asc]
    · rw [h0]; exact .nil
  · rw [atW_set hl] at hw
    split at hw
    · rename_i e
      rw [List.mem_singleton.1 hw]
      exact ⟨.stop ((hE _).2 e), by simp⟩
    · rw [h0] at hw; simp at hw
  · rw [atW_set hl, if_pos ((hE _).1 h)]
    simp
end
end Go.Proofs.YtniolbbhjibobaaDoor
