/- The plain law of nets' texts: how the program reads a line (fields, cuts, numbers), and that this is the line's reading byte by byte. No program in sight. -/
import Derived.Test.YtcgdjpelcfofgaaDoorTextTellsK07
import Derived.Lib.IndexMore
import Derived.Shelf.Strings.FieldsAny
set_option linter.all false
namespace Go.Proofs.YtcgdjpelcfofgaaDoor
open Go.Lib

/-! ### what is read of a side -/
def atV (l : List UInt8) : Int × Bool := match atoiAll l with
  | .ok v => (v, true)
  | .range => (atoiSat l, false)
  | _ => (0, false)
def manyT (f : List UInt8) : List UInt8 := if (cut f [42]).2.2 = true then (cut f [42]).1 else [49]
def placeT (f : List UInt8) : List UInt8 := if (cut f [42]).2.2 = true then (cut f [42]).2.1 else f
def stepW (P : Nat) (out : List Int) (f : List UInt8) : Option (List Int) :=
  if (atV (manyT f)).2 = false ∨ (atV (placeT f)).2 = false ∨ (atV (placeT f)).1 < 0 ∨ (P : Int) ≤ (atV (placeT f)).1 ∨ (atV (manyT f)).1 < 1 ∨ 9 < (atV (manyT f)).1 then none
  else some (out.set (atV (placeT f)).1.toNat (atV (manyT f)).1)
def foldW (P : Nat) : List (List UInt8) → List Int → Option (List Int)
  | [], out => some out
  | f :: fs, out => match stepW P out f with
    | some o => foldW P fs o
    | none => none
def weightsT (P : Nat) (s : List UInt8) : Option (List Int) := foldW P (fieldsD s) (List.replicate P 0)
theorem stepW_ok {P : Nat} {out o : List Int} {f : List UInt8} (h : stepW P out f = some o) (hl : out.length = P) (ho : ∀ x ∈ out, 0 ≤ x ∧ x ≤ 9) : o.length = P ∧ (∀ x ∈ o, 0 ≤ x ∧ x ≤ 9) := by
  unfold stepW at h
  split at h
  · cases h
  · rename_i hc
    injection h with h
    subst h
    refine ⟨by simpa using hl, fun x hx => ?_⟩
    rcases List.mem_or_eq_of_mem_set hx with hx | rfl
    · exact ho x hx
    · omega
theorem foldW_ok {P : Nat} : ∀ (fs : List (List UInt8)) {out o : List Int}, foldW P fs out = some o → out.length = P → (∀ x ∈ out, 0 ≤ x ∧ x ≤ 9) → o.length = P ∧ (∀ x ∈ o, 0 ≤ x ∧ x ≤ 9)
  | [], out, o, h, hl, ho => by
    injection h with h
    subst h
    exact ⟨hl, ho⟩
  | f :: fs, out, o, h, hl, ho => by
    unfold foldW at h
    split at h
    · rename_i o1 h1
      obtain ⟨a, b⟩ := stepW_ok h1 hl ho
      exact foldW_ok fs h a b
    · cases h
theorem weightsT_ok {P : Nat} {s : List UInt8} {o : List Int} (h : weightsT P s = some o) : o.length = P ∧ (∀ x ∈ o, 0 ≤ x ∧ x ≤ 9) :=
  foldW_ok _ h (by simp) (fun x hx => by rw [List.eq_of_mem_replicate hx]; omega)

/-! ### cuts -/
theorem index_one {d e : List UInt8} {b : UInt8} (h : ∀ c ∈ d, c ≠ b) : index (d ++ b :: e) [b] = (d.length : Int) := by
  induction d with
  | nil => rw [List.nil_append, index, if_pos (by simp)]; rfl
  | cons c d ih =>
    have hc := h c (by simp)
    rw [List.cons_append, index, if_neg (by simp [Ne.symm hc]), ih (fun x hx => h x (by simp [hx])), if_neg (by simp only [beq_iff_eq]; omega), List.length_cons]
    omega
theorem index_not {d : List UInt8} {b : UInt8} (h : ∀ c ∈ d, c ≠ b) : index d [b] = -1 := by
  induction d with
  | nil => rfl
  | cons c d ih =>
    have hc := h c (by simp)
    rw [index, if_neg (by simp [Ne.symm hc]), ih (fun x hx => h x (by simp [hx]))]
    rfl
theorem cut_one {d e : List UInt8} {b : UInt8} (h : ∀ c ∈ d, c ≠ b) : cut (d ++ b :: e) [b] = (d, e, true) := by
  unfold cut
  rw [index_one h, if_pos (by omega), Int.toNat_natCast, List.take_left, List.length_singleton, show d ++ b :: e = (d ++ [b]) ++ e by simp, List.drop_append_of_le_length (by simp), List.drop_of_length_le (by simp), List.nil_append]
theorem cut_not {d : List UInt8} {b : UInt8} (h : ∀ c ∈ d, c ≠ b) : cut d [b] = (d, [], false) := by
  unfold cut
  rw [index_not h, if_neg (by omega)]
theorem index_two {x y : UInt8} {s : List UInt8} {k : Nat} (h0 : ∀ i, i < k → [x, y].isPrefixOf (s.drop i) = false) (h1 : [x, y].isPrefixOf (s.drop k) = true) : index s [x, y] = (k : Int) := by
  induction k generalizing s with
  | zero =>
    cases s with
    | nil => simp at h1
    | cons c s => rw [List.drop_zero] at h1; rw [index, if_pos h1]; rfl
  | succ k ih =>
    cases s with
    | nil => simp at h1
    | cons c s =>
      have hc := h0 0 (by omega)
      rw [List.drop_zero] at hc
      have := ih (s := s) (fun i hi => by have := h0 (i + 1) (by omega); rwa [List.drop_succ_cons] at this) (by rwa [List.drop_succ_cons] at h1)
      rw [index, if_neg (by rw [hc]; decide), this, if_neg (by simp only [beq_iff_eq]; omega)]
      omega
theorem cut_two {x y : UInt8} {d e : List UInt8} (h0 : ∀ i, i < d.length → [x, y].isPrefixOf ((d ++ x :: y :: e).drop i) = false) : cut (d ++ x :: y :: e) [x, y] = (d, e, true) := by
  have hi : index (d ++ x :: y :: e) [x, y] = (d.length : Int) := index_two h0 (by rw [List.drop_left]; simp)
  unfold cut
  rw [hi, if_pos (by omega), Int.toNat_natCast, List.take_left, show [x, y].length = 2 from rfl, show d ++ x :: y :: e = (d ++ [x, y]) ++ e by simp, List.drop_append_of_le_length (by simp), List.drop_of_length_le (by simp), List.nil_append]

/-! ### the words of a side -/
def tokT (p : Nat) (n : Int) : List UInt8 := if 1 < n then decDigits n.toNat ++ 42 :: decDigits p else decDigits p
def toksT : Nat → List Int → List (List UInt8)
  | _, [] => []
  | p, n :: w => if n = 0 then toksT (p + 1) w else tokT p n :: toksT (p + 1) w
def spreadT (ts : List (List UInt8)) : List UInt8 := ts.flatMap fun t => 32 :: t
theorem side_toks : ∀ (w : List Int) (p : Nat), sideT p w = spreadT (toksT p w)
  | [], _ => rfl
  | n :: w, p => by
    rw [sideT, toksT, side_toks w (p + 1)]
    unfold oneT
    by_cases h : n = 0
    · rw [if_pos h, if_pos h, List.nil_append]
    · rw [if_neg h, if_neg h]
      unfold spreadT tokT
      rw [List.flatMap_cons]
      by_cases h1 : 1 < n
      · rw [if_pos h1, if_pos h1]
      · rw [if_neg h1, if_neg h1]
def GoodB (c : UInt8) : Prop := dgt c = true ∨ c = 42
theorem GoodB.facts {c : UInt8} (h : GoodB c) : isSp c = false ∧ c ≠ 32 ∧ c ≠ 62 ∧ c.toNat < 128 := by
  have key : ∀ k : Fin 256, (dgt (UInt8.ofNat k.val) = true ∨ UInt8.ofNat k.val = 42) → isSp (UInt8.ofNat k.val) = false ∧ UInt8.ofNat k.val ≠ 32 ∧ UInt8.ofNat k.val ≠ 62 ∧ (UInt8.ofNat k.val).toNat < 128 := by decide +kernel
  have e : UInt8.ofNat c.toNat = c := UInt8.ofNat_toNat
  have := key ⟨c.toNat, c.toNat_lt⟩
  simp only [e] at this
  exact this h
theorem tokT_good (p : Nat) (n : Int) : tokT p n ≠ [] ∧ ∀ c ∈ tokT p n, GoodB c := by
  unfold tokT
  split
  · refine ⟨by simp, fun c hc => ?_⟩
    rcases List.mem_append.1 hc with hc | hc
    · exact .inl (dec_dgt _ c hc)
    · rcases List.mem_cons.1 hc with rfl | hc
      · exact .inr rfl
      · exact .inl (dec_dgt _ c hc)
  · exact ⟨dec_ne p, fun c hc => .inl (dec_dgt _ c hc)⟩
theorem toksT_good : ∀ (w : List Int) (p : Nat), ∀ t ∈ toksT p w, t ≠ [] ∧ ∀ c ∈ t, GoodB c
  | [], _, t, h => by cases h
  | n :: w, p, t, h => by
    rw [toksT] at h
    split at h
    · exact toksT_good w (p + 1) t h
    · rcases List.mem_cons.1 h with rfl | h
      · exact tokT_good p n
      · exact toksT_good w (p + 1) t h
theorem fieldsGo_word {t : List UInt8} (ht : ∀ c ∈ t, GoodB c) (cur r : List UInt8) : fieldsGo cur (t ++ r) = fieldsGo (cur ++ t) r := by
  induction t generalizing cur with
  | nil => simp
  | cons c t ih =>
    rw [List.cons_append, fieldsGo, if_neg (by rw [(ht c (by simp)).facts.1]; decide), ih (fun x hx => ht x (by simp [hx])), List.append_assoc, List.singleton_append]
theorem isSp_32 : isSp 32 = true := by decide
theorem fields_spread {ts : List (List UInt8)} (h : ∀ t ∈ ts, t ≠ [] ∧ ∀ c ∈ t, GoodB c) : fieldsGo [] (spreadT ts) = ts := by
  induction ts with
  | nil => rfl
  | cons t ts ih =>
    obtain ⟨h1, h2⟩ := h t (by simp)
    have ih := ih (fun x hx => h x (by simp [hx]))
    have e : spreadT (t :: ts) = 32 :: (t ++ spreadT ts) := by unfold spreadT; rw [List.flatMap_cons]; rfl
    rw [e, fieldsGo, if_pos isSp_32, if_pos (show ([] : List UInt8).isEmpty = true from rfl), fieldsGo_word h2, List.nil_append]
    have hne : t.isEmpty = false := by cases t with
      | nil => exact absurd rfl h1
      | cons _ _ => rfl
    cases hs : ts with
    | nil =>
      show fieldsGo t [] = [t]
      rw [fieldsGo, if_neg (by rw [hne]; decide)]
    | cons t2 r2 =>
      have e2 : spreadT (t2 :: r2) = 32 :: (t2 ++ spreadT r2) := by unfold spreadT; rw [List.flatMap_cons]; rfl
      rw [hs, e2, fieldsGo, if_pos isSp_32, if_pos (show ([] : List UInt8).isEmpty = true from rfl)] at ih
      rw [e2, fieldsGo, if_pos isSp_32, if_neg (by rw [hne]; decide), ih]
theorem fields_side (w : List Int) (p : Nat) : fieldsD (sideT p w) = toksT p w := by
  rw [side_toks, fieldsD_ascii]
  · exact fields_spread (toksT_good w p)
  · intro b hb
    unfold spreadT at hb
    obtain ⟨t, ht, hb⟩ := List.mem_flatMap.1 hb
    rcases List.mem_cons.1 hb with rfl | hb
    · decide
    · exact ((toksT_good w p t ht).2 b hb).facts.2.2.2
theorem atV_dec {k : Nat} (h : k < 100) : atV (decDigits k) = ((k : Int), true) := by
  have := num_dec h
  unfold numT at this
  unfold atV
  cases ha : atoiAll (decDigits k) with
  | ok v => rw [ha] at this; simp only [Prod.mk.injEq] at this; rw [this.1]
  | range => rw [ha] at this; simp at this
  | _ => rw [ha] at this; simp at this
theorem dec_42 (n : Nat) : ∀ c ∈ decDigits n, c ≠ 42 := fun c hc e => by
  have := dec_dgt n c hc
  rw [e] at this
  exact absurd this (by decide)
theorem stepW_tok {P p : Nat} {n : Int} (out : List Int) (hp : p < P) (hP : P ≤ 16) (h1 : 1 ≤ n) (h9 : n ≤ 9) : stepW P out (tokT p n) = some (out.set p n) := by
  have hm : atV (manyT (tokT p n)) = (n, true) ∧ atV (placeT (tokT p n)) = ((p : Int), true) := by
    unfold tokT manyT placeT
    by_cases h : 1 < n
    · rw [if_pos h, cut_one (dec_42 _)]
      simp only [if_true]
      rw [atV_dec (by omega), atV_dec (by omega)]
      exact ⟨by rw [show ((n.toNat : Nat) : Int) = n by omega], rfl⟩
    · rw [if_neg h, cut_not (dec_42 _)]
      simp only [Bool.false_eq_true, if_false]
      rw [atV_dec (by omega)]
      have : n = 1 := by omega
      subst this
      exact ⟨by decide +kernel, rfl⟩
  unfold stepW
  rw [hm.1, hm.2, if_neg (by simp only; intro h; rcases h with h | h | h | h | h | h; exact absurd h (by decide); exact absurd h (by decide); omega; omega; omega; omega)]
  rfl
theorem foldW_toks {P : Nat} {w : List Int} (hw : w.length = P) (hok : ∀ x ∈ w, 0 ≤ x ∧ x ≤ 9) (hP : P ≤ 16) : ∀ (n q : Nat), q + n = P → foldW P (toksT q (w.drop q)) (w.take q ++ List.replicate n 0) = some w := by
  intro n
  induction n with
  | zero =>
    intro q hq
    rw [List.drop_of_length_le (by omega), List.take_of_length_le (by omega)]
    simp [toksT, foldW]
  | succ n ih =>
    intro q hq
    have hqw : q < w.length := by omega
    obtain ⟨x, hx⟩ : ∃ x, w[q]? = some x := ⟨_, List.getElem?_eq_getElem hqw⟩
    have hd : w.drop q = x :: w.drop (q + 1) := by
      rw [List.drop_eq_getElem_cons hqw]
      rw [List.getElem?_eq_getElem hqw] at hx
      injection hx with hx
      rw [hx]
    have ht : w.take (q + 1) = w.take q ++ [x] := by rw [List.take_add_one, hx]; rfl
    have hset : ∀ v : Int, (w.take q ++ List.replicate (n + 1) 0).set q v = w.take q ++ v :: List.replicate n 0 := fun v => by
      have hl : (w.take q).length = q := by rw [List.length_take]; omega
      rw [List.set_append_right _ _ (by omega), hl, Nat.sub_self, List.replicate_succ, List.set_cons_zero]
    have hxo := hok x (List.mem_of_getElem? hx)
    have ih := ih (q + 1) (by omega)
    rw [ht, List.append_assoc, List.singleton_append] at ih
    rw [hd, toksT]
    by_cases h0 : x = 0
    · subst h0
      rw [if_pos rfl, List.replicate_succ]
      exact ih
    · rw [if_neg h0, foldW, stepW_tok _ (by omega) hP (by omega) (by omega)]
      simp only
      rw [hset]
      exact ih
theorem weightsT_side {P : Nat} {w : List Int} (hw : w.length = P) (hok : ∀ x ∈ w, 0 ≤ x ∧ x ≤ 9) (hP : P ≤ 16) : weightsT P (sideT 0 w) = some w := by
  unfold weightsT
  rw [fields_side]
  have := foldW_toks hw hok hP P 0 (by omega)
  simpa using this

/-! ### what is read of a line -/
def labP (name : List UInt8) : Int := if name = [45] then 0 else ((name.headD 0).toNat : Int) - 97 + 1
/-- As the program reads a line. -/
def tranP (P : Nat) (s : List UInt8) : Option PTran :=
  if (cut s [32, 58]).2.2 = true ∧ (cut (cut s [32, 58]).2.1 [32, 62]).2.2 = true ∧ (cut s [32, 58]).1.length = 1 then
    match weightsT P (cut (cut s [32, 58]).2.1 [32, 62]).1, weightsT P (cut (cut s [32, 58]).2.1 [32, 62]).2.1 with
    | some a, some b => if 0 ≤ labP (cut s [32, 58]).1 ∧ labP (cut s [32, 58]).1 ≤ 26 ∧ lineT ⟨labP (cut s [32, 58]).1, a, b⟩ = s then some ⟨labP (cut s [32, 58]).1, a, b⟩ else none
    | _, _ => none
  else none
theorem nb_of {w : List Int} (hw : ∀ x ∈ w, 0 ≤ x ∧ x ≤ 9) : w.any badW = false := by
  rw [List.any_eq_false]
  intro x hx
  have := hw x hx
  unfold badW
  simp
  omega
theorem labP_of {c : UInt8} (h : labOk c = true) : labP [c] = labOf c ∧ c ≠ 32 := by
  have key : ∀ k : Fin 256, labOk (UInt8.ofNat k.val) = true → labP [UInt8.ofNat k.val] = labOf (UInt8.ofNat k.val) ∧ UInt8.ofNat k.val ≠ 32 := by decide +kernel
  have e : UInt8.ofNat c.toNat = c := UInt8.ofNat_toNat
  have := key ⟨c.toNat, c.toNat_lt⟩
  simp only [e] at this
  exact this h
theorem spread_no {ts : List (List UInt8)} (h : ∀ t ∈ ts, t ≠ [] ∧ ∀ c ∈ t, GoodB c) (r : List UInt8) : ∀ i, i < (spreadT ts).length → [(32 : UInt8), 62].isPrefixOf ((spreadT ts ++ r).drop i) = false := by
  induction ts with
  | nil => intro i hi; simp [spreadT] at hi
  | cons t ts ih =>
    obtain ⟨h1, h2⟩ := h t (by simp)
    have ih := ih (fun x hx => h x (by simp [hx]))
    have e : spreadT (t :: ts) = 32 :: (t ++ spreadT ts) := by unfold spreadT; rw [List.flatMap_cons]; rfl
    intro i hi
    rw [e, List.length_cons, List.length_append] at hi
    rw [e, List.cons_append, List.append_assoc]
    cases i with
    | zero =>
      cases t with
      | nil => exact absurd rfl h1
      | cons c t =>
        have hc := (h2 c (by simp)).facts.2.2.1
        rw [List.drop_zero, List.cons_append]
        simp [List.isPrefixOf, Ne.symm hc]
    | succ i =>
      rw [List.drop_succ_cons]
      by_cases hit : i < t.length
      · rw [List.drop_append_of_le_length (by omega), List.drop_eq_getElem_cons hit]
        have hc := (h2 t[i] (List.getElem_mem hit)).facts.2.1
        rw [List.cons_append]
        simp [List.isPrefixOf, Ne.symm hc]
      · obtain ⟨j, rfl⟩ : ∃ j, i = t.length + j := ⟨i - t.length, by omega⟩
        rw [← List.drop_drop, List.drop_left]
        exact ih j (by omega)
theorem tranP_is (P : Nat) (hP : P ≤ 16) (s : List UInt8) : tranP P s = tranR P s := by
  have hto : ∀ t, tranP P s = some t → tranR P s = some t := fun t h => by
    unfold tranP at h
    split at h
    · split at h
      · rename_i a b ha hb
        split at h
        · rename_i hl
          injection h with h
          obtain ⟨a1, a2⟩ := weightsT_ok ha
          obtain ⟨b1, b2⟩ := weightsT_ok hb
          rw [← hl.2.2, ← h]
          exact tranR_line hP ((tranOk_iff _ _).2 ⟨hl.1, hl.2.1, by simp only; omega, by simp only; omega, nb_of a2, nb_of b2⟩)
        · cases h
      · cases h
    · cases h
  have hfro : ∀ t, tranR P s = some t → tranP P s = some t := fun t h => by
    obtain ⟨hok, hs⟩ := tranR_is h
    obtain ⟨h1, h2, h3, h4, h5, h6⟩ := sides_ok hok
    obtain ⟨c, c1, c2, c3⟩ := labT_is h5 h6
    obtain ⟨l1, l2⟩ := labP_of c2
    have e : lineT t = [c] ++ 32 :: 58 :: (sideT 0 t.pre ++ 32 :: 62 :: sideT 0 t.post) := by
      unfold lineT
      rw [c1]
      simp
    have k1 : cut s [32, 58] = ([c], sideT 0 t.pre ++ 32 :: 62 :: sideT 0 t.post, true) := by
      rw [hs, e]
      refine cut_two (fun i hi => ?_)
      have : i = 0 := by simp at hi; omega
      subst this
      simp [List.isPrefixOf, Ne.symm l2]
    have k2 : cut (sideT 0 t.pre ++ 32 :: 62 :: sideT 0 t.post) [32, 62] = (sideT 0 t.pre, sideT 0 t.post, true) := by
      refine cut_two ?_
      rw [side_toks t.pre 0]
      exact spread_no (toksT_good t.pre 0) _
    have w1 := weightsT_side h1 h3 hP
    have w2 := weightsT_side h2 h4 hP
    unfold tranP
    rw [k1]
    simp only
    rw [k2]
    simp only
    rw [if_pos ⟨trivial, trivial, rfl⟩, w1, w2]
    simp only
    rw [l1, c3, if_pos ⟨h5, h6, hs.symm⟩]
  cases hr : tranR P s with
  | some t => exact hfro t hr
  | none =>
    cases hp : tranP P s with
    | none => rfl
    | some t =>
      have := hto t hp
      rw [hr] at this
      cases this
end Go.Proofs.YtcgdjpelcfofgaaDoor
