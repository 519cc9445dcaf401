/- Texts melted into one: The plain law of tracks: what is wrong with a log, what it shows. No program in sight. | Sets of integers and of pairs as maps: made, added to. Conditions: the labels are 1 to 26. | Maps to integers, read by what each key has (0 where it has none): made, asked, written. Conditions: the keys are good. -/
import Derived.Test.YtniolbbhjibobaaDoorBlocksListK27
import Derived.Test.YtniolbbhjibobaaDoorBlocksListK01
import Derived.Test.YtniolbbhjibobaaDoorBlocksListK04
import Derived.Test.YtniolbbhjibobaaDoorBlocksListK06
import Derived.Maps.OwnSet
import Derived.Maps.OwnOps
import Derived.Maps.RangeWalk
import Derived.WideKeyEntry
import Derived.DeepKeys4
import Derived.Sort.OwnSorted
set_option linter.all false
namespace Go.Proofs.YtniolbbhjibobaaDoor

def badL (a : Int) : Bool := decide (a < 1) || decide (26 < a)
def badTr (t : List Int) : Bool := decide (60 < t.length) || t.any badL
def wrongV (log : List (List Int)) : Int := if 60 < log.length then 4 else if log.any badTr = true then 2 else 0
/-! ### what it shows -/
/-- Rising strictly, told by what is on it. -/
theorem strict_same {α : Type} {R : α → α → Prop} (asy : ∀ a b, R a b → R b a → False) : ∀ {xs ys : List α}, xs.Pairwise R → ys.Pairwise R → (∀ x, x ∈ xs ↔ x ∈ ys) → xs = ys
  | [], [], _, _, _ => rfl
  | [], y :: ys, _, _, h => by have := (h y).2 (by simp); simp at this
  | x :: xs, [], _, _, h => by have := (h x).1 (by simp); simp at this
  | x :: xs, y :: ys, hx, hy, h => by
    obtain ⟨hx1, hx2⟩ := List.pairwise_cons.1 hx
    obtain ⟨hy1, hy2⟩ := List.pairwise_cons.1 hy
    have e : x = y := by
      rcases List.mem_cons.1 ((h x).1 (by simp)) with e | e
      · exact e
      · rcases List.mem_cons.1 ((h y).2 (by simp)) with e' | e'
        · exact e'.symm
        · exact (asy _ _ (hy1 x e) (hx1 y e')).elim
    subst e
    rw [strict_same asy hx2 hy2 (fun z => ?_)]
    constructor
    · intro hz
      rcases List.mem_cons.1 ((h z).1 (by simp [hz])) with e | e
      · subst e
        exact (asy _ _ (hx1 z hz) (hx1 z hz)).elim
      · exact e
    · intro hz
      rcases List.mem_cons.1 ((h z).2 (by simp [hz])) with e | e
      · subst e
        exact (asy _ _ (hy1 z hz) (hy1 z hz)).elim
      · exact e
def pairLt (p q : Int × Int) : Prop := p.1 < q.1 ∨ (p.1 = q.1 ∧ p.2 < q.2)
theorem pairLt_asymm (p q : Int × Int) (h : pairLt p q) (g : pairLt q p) : False := by unfold pairLt at h g; omega
def allP (log : List (List Int)) (x : Int) : Prop := ∃ t ∈ log, x ∈ t
def firstP (log : List (List Int)) (x : Int) : Prop := ∃ t ∈ log, t.head? = some x
def lastP (log : List (List Int)) (x : Int) : Prop := ∃ t ∈ log, t.getLast? = some x
def behP (log : List (List Int)) (p : Int × Int) : Prop := ∃ t ∈ log, ∃ k : Nat, t[k]? = some p.1 ∧ t[k + 1]? = some p.2
structure PPrints where
  labels : List Int
  first : List Int
  last : List Int
  behind : List (Int × Int)
def emptyP : PPrints := ⟨[], [], [], []⟩
def ShowsP (log : List (List Int)) (p : PPrints) : Prop :=
  (p.labels.Pairwise (· < ·) ∧ ∀ x, x ∈ p.labels ↔ allP log x) ∧ (p.first.Pairwise (· < ·) ∧ ∀ x, x ∈ p.first ↔ firstP log x) ∧ (p.last.Pairwise (· < ·) ∧ ∀ x, x ∈ p.last ↔ lastP log x) ∧ (p.behind.Pairwise pairLt ∧ ∀ x, x ∈ p.behind ↔ behP log x)
theorem ShowsP.uniq {log : List (List Int)} {p q : PPrints} (h : ShowsP log p) (g : ShowsP log q) : p = q := by
  obtain ⟨⟨h1, h2⟩, ⟨h3, h4⟩, ⟨h5, h6⟩, ⟨h7, h8⟩⟩ := h
  obtain ⟨⟨g1, g2⟩, ⟨g3, g4⟩, ⟨g5, g6⟩, ⟨g7, g8⟩⟩ := g
  have e1 : p.labels = q.labels := asc_same h1 g1 (fun x => (h2 x).trans (g2 x).symm)
  have e2 : p.first = q.first := asc_same h3 g3 (fun x => (h4 x).trans (g4 x).symm)
  have e3 : p.last = q.last := asc_same h5 g5 (fun x => (h6 x).trans (g6 x).symm)
  have e4 : p.behind = q.behind := strict_same pairLt_asymm h7 g7 (fun x => (h8 x).trans (g8 x).symm)
  cases p; cases q
  simp only at e1 e2 e3 e4
  subst e1 e2 e3 e4
  rfl
/-- What Of answers. -/
def OfP (log : List (List Int)) (p : PPrints) (e : Int) : Prop := e = wrongV log ∧ if wrongV log = 0 then ShowsP log p else p = emptyP
theorem OfP.uniq {log : List (List Int)} {p q : PPrints} {e f : Int} (h : OfP log p e) (g : OfP log q f) : p = q ∧ e = f := by
  obtain ⟨h1, h2⟩ := h
  obtain ⟨g1, g2⟩ := g
  refine ⟨?_, h1.trans g1.symm⟩
  split at h2
  · rename_i h0
    rw [if_pos h0] at g2
    exact h2.uniq g2
  · rename_i h0
    rw [if_neg h0] at g2
    rw [h2, g2]
end Go.Proofs.YtniolbbhjibobaaDoor
namespace Go.Proofs.YtniolbbhjibobaaDoor
open Go.RowKit Go.Maps

/-- What the keys of a set are. -/
structure KeyD {α : Type} (k : TypeId) (ok : α → Prop) (kv : α → Value) (kk : α → Lit) : Prop where
  law : Keyed Tryd.prog k
  key : ∀ x, ok x → keyOf Tryd.prog k (kv x) = some (kk x)
  back : ∀ x y, ok x → ok y → kk x = kk y → x = y
/-- Block b is a map whose keys are just these. -/
def SetD {α : Type} (k : TypeId) (ok : α → Prop) (kk : α → Lit) (w : World) (b : Nat) (S : List α) : Prop :=
  (∀ x ∈ S, ok x) ∧ ∃ (D : DataW Unit) (m : Nat), w.ownsMap Tryd.prog k unitElem b m D ∧ m ≤ S.length ∧ Maps.size D ≤ S.length ∧ ∀ key kl, keyOf Tryd.prog k key = some kl → (Maps.has D kl = true ↔ ∃ x ∈ S, kl = kk x)
section
variable {α : Type} {k : TypeId} {ok : α → Prop} {kv : α → Value} {kk : α → Lit} {w w' : World} {b : Nat} {S : List α}
theorem mapOf_block {H : Type} {P : Program} {R : Value → Option (DataW H × List MemPlace)} {n : Nat} {D : DataW H} (h : w.ownsMap P k R b n D) (hb : w'.heap[b]? = w.heap[b]?) : w'.ownsMap P k R b n D := by
  obtain ⟨es, clock, h1, h2⟩ := h
  exact ⟨es, clock, hb.trans h1, h2⟩
theorem SetD.made (k : TypeId) (ok : α → Prop) (kk : α → Lit) (w : World) : SetD k ok kk (w.alloc (.map #[] 0)) w.heap.size [] :=
  ⟨fun x h => (by cases h), .map [], 0, World.ownsMap_made _ _ _ _, Nat.le_refl _, Nat.zero_le _, fun key kl _ => ⟨fun h => by simp [Maps.has] at h, fun ⟨x, hx, _⟩ => (by cases hx)⟩⟩
theorem SetD.of_block (h : SetD k ok kk w b S) (hb : w'.heap[b]? = w.heap[b]?) : SetD k ok kk w' b S := by
  obtain ⟨h0, D, m, h1, h2⟩ := h
  exact ⟨h0, D, m, mapOf_block h1 hb, h2⟩
theorem SetD.lt (h : SetD k ok kk w b S) : b < w.heap.size := by
  obtain ⟨_, D, m, h1, _⟩ := h
  exact h1.lt
theorem SetD.keep (h : SetD k ok kk w b S) (hb : Below w.heap.size w w') : SetD k ok kk w' b S := h.of_block (hb.block b h.lt)
theorem SetD.alloc (h : SetD k ok kk w b S) (o : Obj) : SetD k ok kk (w.alloc o) b S := h.of_block (heap_alloc_old w o h.lt)
theorem SetD.beside {row : Option Nat} (h : SetD k ok kk w b S) (hg : w.grownBy w' row) (hne : some b ≠ row) : SetD k ok kk w' b S := h.of_block (hg.block b h.lt hne)
theorem SetD.put (K : KeyD k ok kv kk) {D : DataW Unit} {m : Nat} (h0 : ∀ x ∈ S, ok x) (h1 : w.ownsMap Tryd.prog k unitElem b m D) (hm : m ≤ S.length) (hs : Maps.size D ≤ S.length) (h2 : ∀ key kl, keyOf Tryd.prog k key = some kl → (Maps.has D kl = true ↔ ∃ x ∈ S, kl = kk x))
    {x : α} (hx : ok x) (h3 : w'.ownsMap Tryd.prog k unitElem b (m + 1) (D.put (kk x) (.agg []))) : SetD k ok kk w' b (x :: S) := by
  refine ⟨fun y hy => ?_, _, m + 1, h3, by simpa using hm, ?_, fun key kl hk => ?_⟩
  · rcases List.mem_cons.1 hy with rfl | hy
    · exact hx
    · exact h0 y hy
  · rw [Maps.size_put (h1.tidy K.law), List.length_cons]
    split <;> omega
  · by_cases e : kl = kk x
    · subst e
      rw [Maps.has_put_same (h1.tidy K.law).isMap (K.law.key hk)]
      exact ⟨fun _ => ⟨x, by simp, rfl⟩, fun _ => rfl⟩
    · rw [Maps.has_put_other e, h2 key kl hk]
      constructor
      · rintro ⟨y, hy, e2⟩
        exact ⟨y, by simp [hy], e2⟩
      · rintro ⟨y, hy, e2⟩
        rcases List.mem_cons.1 hy with rfl | hy
        · exact absurd e2 e
        · exact ⟨y, hy, e2⟩
/-- What has come so far, while a set is ranged over. -/
def ColD (k : TypeId) (kk : α → Lit) (D : DataW Unit) (left : Lit → Bool) (S ss : List α) : Prop :=
  ss.Nodup ∧ (∀ x ∈ ss, x ∈ S) ∧ ∀ key kl, keyOf Tryd.prog k key = some kl → (left kl = true ↔ Maps.has D kl = true ∧ ∀ x ∈ ss, kl ≠ kk x)
theorem ColD.start (D : DataW Unit) (S : List α) : ColD k kk D (Maps.has D) S [] := ⟨List.nodup_nil, fun x h => (by cases h), fun key kl _ => ⟨fun h => ⟨h, fun x hx => (by cases hx)⟩, fun h => h.1⟩⟩
theorem ColD.step (K : KeyD k ok kv kk) {D : DataW Unit} {left : Lit → Bool} {ss : List α} (h : ColD k kk D left S ss) {x : α} (hx : x ∈ S) (hk : ok x) (hlk : left (kk x) = true) : ColD k kk D (fun z => left z && !z.sameKey (kk x)) S (ss ++ [x]) := by
  obtain ⟨h1, h2, h3⟩ := h
  have hkx := K.key x hk
  have hl := (h3 _ _ hkx).1 hlk
  refine ⟨List.nodup_append.2 ⟨h1, by simp, fun a ha c hc e => ?_⟩, fun y hy => ?_, fun key kl hkl => ?_⟩
  · rw [List.mem_singleton] at hc
    subst hc
    exact hl.2 a ha (by rw [e])
  · rcases List.mem_append.1 hy with hy | hy
    · exact h2 y hy
    · rw [List.mem_singleton.1 hy]; exact hx
  · simp only [Bool.and_eq_true, Bool.not_eq_true']
    rw [h3 key kl hkl]
    have hiff := WideAt.sameKey_iff (a := kl) (K.law.key hkx)
    constructor
    · rintro ⟨⟨g1, g2⟩, g3⟩
      refine ⟨g1, fun y hy => ?_⟩
      rcases List.mem_append.1 hy with hy | hy
      · exact g2 y hy
      · rw [List.mem_singleton.1 hy]
        intro e
        rw [hiff.2 e] at g3
        cases g3
    · rintro ⟨g1, g2⟩
      refine ⟨⟨g1, fun y hy => g2 y (by simp [hy])⟩, ?_⟩
      cases hs : kl.sameKey (kk x)
      · rfl
      · exact absurd (hiff.1 hs) (g2 x (by simp))
theorem ColD.fin (K : KeyD k ok kv kk) {D : DataW Unit} {left : Lit → Bool} {ss : List α} (h : ColD k kk D left S ss) (h0 : ∀ x ∈ S, ok x) (hD : ∀ key kl, keyOf Tryd.prog k key = some kl → (Maps.has D kl = true ↔ ∃ x ∈ S, kl = kk x)) (hl : ∀ kl, left kl = false) : ss.Nodup ∧ ∀ x, x ∈ ss ↔ x ∈ S := by
  obtain ⟨h1, h2, h3⟩ := h
  refine ⟨h1, fun x => ⟨h2 x, fun hx => ?_⟩⟩
  have hkx := K.key x (h0 x hx)
  apply Classical.byContradiction
  intro hn
  have := (h3 _ _ hkx).2 ⟨(hD _ _ hkx).2 ⟨x, hx, rfl⟩, fun y hy e => hn (by rw [K.back x y (h0 x hx) (h0 y (h2 y hy)) e]; exact hy)⟩
  rw [hl] at this
  cases this
end

end Go.Proofs.YtniolbbhjibobaaDoor
namespace Go.Proofs.YtniolbbhjibobaaDoor
open Go.RowKit Go.Maps

/-- Block b is a map that has f x at each good key x; q: how often it was written. -/
def MapZ {α : Type} (k : TypeId) (ok : α → Prop) (kk : α → Lit) (w : World) (b : Nat) (f : α → Int) (q : Nat) : Prop :=
  ∃ (D : DataW Unit) (n : Nat), w.ownsMap Tryd.prog k (plainElem Tryd.prog 3) b n D ∧ n ≤ q ∧ ∀ x, ok x → D.atKey (kk x) (.lit (.int .i64 0)) = .lit (.int .i64 (f x))
theorem zeroIntZ (w : World) : (zeroValue 3).run Tryd.prog w = .ok (.int .i64 0) w := by kernel_rfl
section
variable {α : Type} {k : TypeId} {ok : α → Prop} {kv : α → Value} {kk : α → Lit} {w w' : World} {b q : Nat} {f : α → Int}
theorem MapZ.made (k : TypeId) (ok : α → Prop) (kk : α → Lit) (w : World) : MapZ k ok kk (w.alloc (.map #[] 0)) w.heap.size (fun _ => 0) 0 := ⟨.map [], 0, World.ownsMap_made _ _ _ _, Nat.le_refl _, fun _ _ => rfl⟩
theorem MapZ.of_block (h : MapZ k ok kk w b f q) (hb : w'.heap[b]? = w.heap[b]?) : MapZ k ok kk w' b f q := by
  obtain ⟨D, n, h1, h2⟩ := h
  exact ⟨D, n, mapOf_block h1 hb, h2⟩
theorem MapZ.lt (h : MapZ k ok kk w b f q) : b < w.heap.size := by
  obtain ⟨D, n, h1, _⟩ := h
  exact h1.lt
theorem MapZ.keep (h : MapZ k ok kk w b f q) (hb : Below w.heap.size w w') : MapZ k ok kk w' b f q := h.of_block (hb.block b h.lt)
theorem MapZ.beside {row : Option Nat} (h : MapZ k ok kk w b f q) (hg : w.grownBy w' row) (hne : some b ≠ row) : MapZ k ok kk w' b f q := h.of_block (hg.block b h.lt hne)
theorem MapZ.mono {q' : Nat} (h : MapZ k ok kk w b f q) (hq : q ≤ q') : MapZ k ok kk w b f q' := by
  obtain ⟨D, n, h1, h2, h3⟩ := h
  exact ⟨D, n, h1, Nat.le_trans h2 hq, h3⟩
theorem MapZ.same {f' : α → Int} (h : MapZ k ok kk w b f q) (e : ∀ x, ok x → f' x = f x) : MapZ k ok kk w b f' q := by
  obtain ⟨D, n, h1, h2, h3⟩ := h
  exact ⟨D, n, h1, h2, fun x hx => by rw [e x hx]; exact h3 x hx⟩
theorem MapZ.look (K : KeyD k ok kv kk) {t : TypeId} (ht : Tryd.prog.underlying t = some (.map k 3)) (h : MapZ k ok kk w b f q) {x : α} (hx : ok x) : (Instr.lookup t (.map (some b)) (kv x) false).run Tryd.prog w = .ok (.int .i64 (f x)) w := by
  obtain ⟨D, n, h1, h2, h3⟩ := h
  obtain ⟨c, hrun, hat, _⟩ := h1.lookup_int K.law ht Tryd.underlying3 (zeroIntZ w) (K.key x hx)
  rw [h3 x hx] at hat
  simp only [DataW.lit.injEq, Lit.int.injEq, true_and] at hat
  rw [hrun, ← hat]
theorem MapZ.update [DecidableEq α] (K : KeyD k ok kv kk) {t : TypeId} (ht : Tryd.prog.underlying t = some (.map k 3)) (h : MapZ k ok kk w b f q) {x : α} (hx : ok x) (y : Int) (hy : (Lit.int .i64 y).wf = true) (hq : q < maxLen) :
    ∃ w', (Instr.mapUpdate t (.map (some b)) (kv x) (.int .i64 y)).run Tryd.prog w = .ok () w' ∧ MapZ k ok kk w' b (fun z => if z = x then y else f z) (q + 1) ∧ w.grownBy w' (some b) := by
  obtain ⟨D, n, h1, h2, h3⟩ := h
  obtain ⟨w', r1, r2, r3⟩ := h1.update K.law ht (by omega) (K.key x hx) (plainElem_int Tryd.underlying3 hy)
  refine ⟨w', r1, ⟨_, n + 1, r2, by omega, fun z hz => ?_⟩, r3⟩
  by_cases e : z = x
  · subst e
    rw [Maps.atKey_put_same (h1.tidy K.law).isMap (K.law.key (K.key z hz))]
    simp
  · rw [Maps.atKey_put_other (fun e' => e (K.back z x hz hx e')), h3 z hz]
    simp [e]
end
end Go.Proofs.YtniolbbhjibobaaDoor
