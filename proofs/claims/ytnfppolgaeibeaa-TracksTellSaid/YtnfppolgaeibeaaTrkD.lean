/- Sets of integers and of pairs as maps: made, added to. Conditions: the labels are 1 to 26. -/
import Derived.Test.YtnfppolgaeibeaaFacts
import Derived.Test.YtnfppolgaeibeaaTrkA
import Derived.Test.YtnfppolgaeibeaaOwnB
import Derived.Test.YtnfppolgaeibeaaBox
import Derived.Maps.OwnSet
import Derived.Maps.OwnOps
import Derived.Maps.RangeWalk
import Derived.WideKeyEntry
import Derived.DeepKeys4
import Derived.Sort.OwnSorted
namespace Go.Proofs.Ytnfppolgaeibeaa
open Go.RowKit Go.Maps

/-- What the keys of a set are. -/
structure KeyD {α : Type} (k : TypeId) (ok : α → Prop) (kv : α → Value) (kk : α → Lit) : Prop where
  law : Keyed Try.prog k
  key : ∀ x, ok x → keyOf Try.prog k (kv x) = some (kk x)
  back : ∀ x y, ok x → ok y → kk x = kk y → x = y
/-- Block b is a map whose keys are just these. -/
def SetD {α : Type} (k : TypeId) (ok : α → Prop) (kk : α → Lit) (w : World) (b : Nat) (S : List α) : Prop :=
  (∀ x ∈ S, ok x) ∧ ∃ (D : DataW Unit) (m : Nat), w.ownsMap Try.prog k unitElem b m D ∧ m ≤ S.length ∧ Maps.size D ≤ S.length ∧ ∀ key kl, keyOf Try.prog k key = some kl → (Maps.has D kl = true ↔ ∃ x ∈ S, kl = kk x)
section
variable {α : Type} {k : TypeId} {ok : α → Prop} {kv : α → Value} {kk : α → Lit} {w w' : World} {b : Nat} {S : List α}
theorem mapOf_block {H : Type} {P : Program} {R : Value → Option (DataW H × List MemPlace)} {n : Nat} {D : DataW H} (h : w.ownsMap P k R b n D) (hb : w'.heap[b]? = w.heap[b]?) : w'.ownsMap P k R b n D := by
  obtain ⟨es, clock, h1, h2⟩ := h
  exact ⟨es, clock, hb.trans h1, h2⟩
theorem SetD.made (k : TypeId) (ok : α → Prop) (kk : α → Lit) (w : World) : SetD k ok kk (w.alloc (.map #[] 0)) w.heap.size [] :=
  ⟨fun x h => (by cases h), .map [], 0, World.ownsMap_made _ _ _ _, Nat.le_refl _, Nat.zero_le _, fun key kl _ => ⟨fun h => by simp [Maps.has] at h, fun ⟨x, hx, _⟩ => (by cases hx)⟩⟩
theorem SetD.of_block (h : SetD k ok kk w b S) (hb : w'.heap[b]? = w.heap[b]?) : SetD k ok kk w' b S := by
  obtain ⟨h0, D, m, h1, h2⟩ := h
  exact ⟨h0, D, m, mapOf_block h1 hb, h2⟩
theorem SetD.lt (h : SetD k ok kk w b S) : b < w.heap.size := by
  obtain ⟨_, D, m, h1, _⟩ := h
  exact h1.lt
theorem SetD.keep (h : SetD k ok kk w b S) (hb : Below w.heap.size w w') : SetD k ok kk w' b S := h.of_block (hb.block b h.lt)
theorem SetD.alloc (h : SetD k ok kk w b S) (o : Obj) : SetD k ok kk (w.alloc o) b S := h.of_block (heap_alloc_old w o h.lt)
theorem SetD.beside {row : Option Nat} (h : SetD k ok kk w b S) (hg : w.grownBy w' row) (hne : some b ≠ row) : SetD k ok kk w' b S := h.of_block (hg.block b h.lt hne)
theorem SetD.put (K : KeyD k ok kv kk) {D : DataW Unit} {m : Nat} (h0 : ∀ x ∈ S, ok x) (h1 : w.ownsMap Try.prog k unitElem b m D) (hm : m ≤ S.length) (hs : Maps.size D ≤ S.length) (h2 : ∀ key kl, keyOf Try.prog k key = some kl → (Maps.has D kl = true ↔ ∃ x ∈ S, kl = kk x))
    {x : α} (hx : ok x) (h3 : w'.ownsMap Try.prog k unitElem b (m + 1) (D.put (kk x) (.agg []))) : SetD k ok kk w' b (x :: S) := by
  refine ⟨fun y hy => ?_, _, m + 1, h3, by simpa using hm, ?_, fun key kl hk => ?_⟩
  · rcases List.mem_cons.1 hy with rfl | hy
    · exact hx
    · exact h0 y hy
  · rw [Maps.size_put (h1.tidy K.law), List.length_cons]
    split <;> omega
  · by_cases e : kl = kk x
    · subst e
      rw [Maps.has_put_same (h1.tidy K.law).isMap (K.law.key hk)]
      exact ⟨fun _ => ⟨x, by simp, rfl⟩, fun _ => rfl⟩
    · rw [Maps.has_put_other e, h2 key kl hk]
      constructor
      · rintro ⟨y, hy, e2⟩
        exact ⟨y, by simp [hy], e2⟩
      · rintro ⟨y, hy, e2⟩
        rcases List.mem_cons.1 hy with rfl | hy
        · exact absurd e2 e
        · exact ⟨y, hy, e2⟩
/-- What has come so far, while a set is ranged over. -/
def ColD (k : TypeId) (kk : α → Lit) (D : DataW Unit) (left : Lit → Bool) (S ss : List α) : Prop :=
  ss.Nodup ∧ (∀ x ∈ ss, x ∈ S) ∧ ∀ key kl, keyOf Try.prog k key = some kl → (left kl = true ↔ Maps.has D kl = true ∧ ∀ x ∈ ss, kl ≠ kk x)
theorem ColD.start (D : DataW Unit) (S : List α) : ColD k kk D (Maps.has D) S [] := ⟨List.nodup_nil, fun x h => (by cases h), fun key kl _ => ⟨fun h => ⟨h, fun x hx => (by cases hx)⟩, fun h => h.1⟩⟩
theorem ColD.step (K : KeyD k ok kv kk) {D : DataW Unit} {left : Lit → Bool} {ss : List α} (h : ColD k kk D left S ss) {x : α} (hx : x ∈ S) (hk : ok x) (hlk : left (kk x) = true) : ColD k kk D (fun z => left z && !z.sameKey (kk x)) S (ss ++ [x]) := by
  obtain ⟨h1, h2, h3⟩ := h
  have hkx := K.key x hk
  have hl := (h3 _ _ hkx).1 hlk
  refine ⟨List.nodup_append.2 ⟨h1, by simp, fun a ha c hc e => ?_⟩, fun y hy => ?_, fun key kl hkl => ?_⟩
  · rw [List.mem_singleton] at hc
    subst hc
    exact hl.2 a ha (by rw [e])
  · rcases List.mem_append.1 hy with hy | hy
    · exact h2 y hy
    · rw [List.mem_singleton.1 hy]; exact hx
  · simp only [Bool.and_eq_true, Bool.not_eq_true']
    rw [h3 key kl hkl]
    have hiff := WideAt.sameKey_iff (a := kl) (K.law.key hkx)
    constructor
    · rintro ⟨⟨g1, g2⟩, g3⟩
      refine ⟨g1, fun y hy => ?_⟩
      rcases List.mem_append.1 hy with hy | hy
      · exact g2 y hy
      · rw [List.mem_singleton.1 hy]
        intro e
        rw [hiff.2 e] at g3
        cases g3
    · rintro ⟨g1, g2⟩
      refine ⟨⟨g1, fun y hy => g2 y (by simp [hy])⟩, ?_⟩
      cases hs : kl.sameKey (kk x)
      · rfl
      · exact absurd (hiff.1 hs) (g2 x (by simp))
theorem ColD.fin (K : KeyD k ok kv kk) {D : DataW Unit} {left : Lit → Bool} {ss : List α} (h : ColD k kk D left S ss) (h0 : ∀ x ∈ S, ok x) (hD : ∀ key kl, keyOf Try.prog k key = some kl → (Maps.has D kl = true ↔ ∃ x ∈ S, kl = kk x)) (hl : ∀ kl, left kl = false) : ss.Nodup ∧ ∀ x, x ∈ ss ↔ x ∈ S := by
  obtain ⟨h1, h2, h3⟩ := h
  refine ⟨h1, fun x => ⟨h2 x, fun hx => ?_⟩⟩
  have hkx := K.key x (h0 x hx)
  apply Classical.byContradiction
  intro hn
  have := (h3 _ _ hkx).2 ⟨(hD _ _ hkx).2 ⟨x, hx, rfl⟩, fun y hy e => hn (by rw [K.back x y (h0 x hx) (h0 y (h2 y hy)) e]; exact hy)⟩
  rw [hl] at this
  cases this
end

/-! ### integers -/
def okI (x : Int) : Prop := 1 ≤ x ∧ x ≤ 26
def kkI (x : Int) : Lit := .int .i64 x
theorem keyI : KeyD 3 okI (Value.int .i64) kkI where
  law := int_keyed Try.underlying3
  key := fun x hx => keyOf_int_mk Try.underlying3 (WalkArith.wf_i64 (by unfold okI at hx; omega))
  back := fun x y _ _ h => by unfold kkI at h; injection h
abbrev SetI (w : World) (b : Nat) (S : List Int) : Prop := SetD 3 okI kkI w b S
/-! ### pairs -/
def okP (p : Int × Int) : Prop := okI p.1 ∧ okI p.2
def kvP (p : Int × Int) : Value := .agg #[.int .i64 p.1, .int .i64 p.2]
def kkP (p : Int × Int) : Lit := .string (keyBytes [.int .i64 p.1, .int .i64 p.2])
theorem pairLaw : Keyed Try.prog 137 := Keyed.of_law (deep_law_laid Facts.laidOut (m := 2) (by decide) (of_decide_eq_true (by kernel_rfl)) (by kernel_rfl) (by kernel_rfl))
theorem pairKeyType : Try.prog.keyType 137 = true := by kernel_rfl
theorem pairCells : Try.prog.cellsOf 137 = 2 := by kernel_rfl
theorem intCellsT : Try.prog.cellsOf 3 = 1 := by kernel_rfl
theorem pairKey (p : Int × Int) (h : okP p) : keyOf Try.prog 137 (kvP p) = some (kkP p) := by
  have hw1 : (Lit.int .i64 p.1).wf = true := WalkArith.wf_i64 (by unfold okP okI at h; omega)
  have hw2 : (Lit.int .i64 p.2).wf = true := WalkArith.wf_i64 (by unfold okP okI at h; omega)
  have hsz : ∃ m, Try.prog.types.size + 1 = m + 2 := ⟨Try.prog.types.size - 1, by have : 0 < Try.prog.types.size := of_decide_eq_true (by kernel_rfl); omega⟩
  obtain ⟨m, hm⟩ := hsz
  unfold keyOf
  rw [Try.underlying137]
  simp only [pairKeyType, kvP, Value.formed, Try.underlying137, pairCells, hm]
  simp [Program.keyLits, Try.underlying137, pairCells, intCellsT, Try.underlying3, hw1, hw2, Value.cells, kkP, show List.range 2 = [0, 1] from rfl]
theorem keyP : KeyD 137 okP kvP kkP where
  law := pairLaw
  key := pairKey
  back := fun x y hx hy h => by
    have := pairLaw.inj (pairKey x hx) (by rw [h]; exact pairKey y hy)
    simp only [kvP, Value.agg.injEq, Array.mk.injEq, List.cons.injEq, Value.int.injEq, true_and, and_true] at this
    exact Prod.ext this.1 this.2
abbrev SetP (w : World) (b : Nat) (S : List (Int × Int)) : Prop := SetD 137 okP kkP w b S

set_option maxRecDepth 100000 in
theorem addI_calls {w : World} {b : Nat} {S : List Int} (h : SetI w b S) (hl : S.length ≤ 10000) {x : Int} (hx : okI x) :
    Calls Try.prog 78 #[.map (some b), .int .i64 x] w fun e w' => (∃ v, e = .returned v) ∧ SetI w' b (x :: S) ∧ w.grownBy w' (some b) := by
  obtain ⟨h0, D, m, h1, hm, hs, h2⟩ := h
  go_enter Try.func78, Try.ntmps78
  go_wp2_with (at_mapUpdate; refine wpList_mapUpdate_own _ rfl _ _ _ 132 rfl 3 _ keyI.law Try.underlying132 _ b m _ rfl h1 (by simp only [maxLen]; omega) _ _ _ rfl rfl (keyI.key x hx) _ [] unitElem_mk ?_; intro w1 h3 hg)
  go_end0
  exact ⟨⟨_, rfl⟩, SetD.put keyI h0 h1 hm hs h2 hx h3, hg⟩
set_option maxRecDepth 100000 in
theorem addP_calls {w : World} {b : Nat} {S : List (Int × Int)} (h : SetP w b S) (hl : S.length ≤ 10000) {p : Int × Int} (hx : okP p) :
    Calls Try.prog 79 #[.map (some b), .agg #[.int .i64 p.1, .int .i64 p.2]] w fun e w' => (∃ v, e = .returned v) ∧ SetP w' b (p :: S) ∧ w.grownBy w' (some b) := by
  have G0 := hide2 (World.grownBy_alloc w (.cells #[.int .i64 p.1, .int .i64 p.2] 137) (some b))
  obtain ⟨h0, D, m, h1, hm, hs, h2⟩ := h
  have X0 := Box.new w #[.int .i64 p.1, .int .i64 p.2] 137
  have h1' := mapOf_block h1 (heap_alloc_old w (.cells #[.int .i64 p.1, .int .i64 p.2] 137) h1.lt)
  obtain ⟨c0, c1⟩ := X0.two
  go_enter Try.func79, Try.ntmps79
  go_wp2_with (at_mapUpdate; refine wpList_mapUpdate_own _ rfl _ _ _ 134 rfl 137 _ keyP.law Try.underlying134 _ b m _ rfl h1' (by simp only [maxLen]; omega) _ _ _ rfl rfl (keyP.key p hx) _ [] unitElem_mk ?_; intro w1 h3 hg)
  go_end0
  exact ⟨⟨_, rfl⟩, SetD.put keyP h0 h1' hm hs h2 hx h3, G0.out.trans hg⟩
end Go.Proofs.Ytnfppolgaeibeaa
