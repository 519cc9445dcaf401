/- What a space reads ars: lists of lists of integers, and arcs; live.Right and GRight. Conditions: the slices read ars lists. | The contracts of GRight, live.Dead and GDead. Conditions: the slices read as lists. | The contracts of GDead, GStuck, slices.Max, live.Bound and GBound. Conditions: the slices read as lists. | The contracts of slices.Max on integers, live.Bound and GBound. Conditions: the slices read as lists. | Lists that a call owns, side by side in a row that it owns; the contract of live.links. Conditions: the slices read as lists; the ends that links takes for places lie among the marks. | The contract of live.links, both ways. Conditions: the slices read as lists; the ends that links takes for places lie among the marks. | What live.spread finds: the plain law of its rounds. Conditions: the arcs are between marks. | The contracts of live.spread and of slices.Contains on bools. Conditions: the arcs are between marks; what to start from are marks. | The contracts of slices.Contains on bools and of live.Home. Conditions: the slices read as lists. | The contract of live.Live. Conditions: the slices read as lists. | What GReach finds: the plain law of its rounds; Home and Live told by it. Conditions: the arcs are between marks. | Rows of bools that a call owns, side by side in a row that it owns, and how many are false. Conditions: none. | The contract of GReach. Conditions: the arcs are between marks. | The contract of GHome. Conditions: the slices read as lists. | The contract of GLive. Conditions: the slices read as lists. -/
import Derived.Test.YtmabnigdocokmaaGreatPlainH
import Derived.Test.YtmabnigdocokmaaGreatListW
import Derived.Test.YtmabnigdocokmaaGreatArcW
import Derived.Test.YtmabnigdocokmaaGreatCaseA
import Derived.Test.YtmabnigdocokmaaGreatOwnB
import Derived.Test.YtmabnigdocokmaaGreatCaseC
import Derived.Test.YtmabnigdocokmaaGreatCaseL
import Derived.Test.YtmabnigdocokmaaGreatNetJ
import Derived.Test.YtmabnigdocokmaaGreatHeld
namespace Go.Proofs.YtmabnigdocokmaaGreat
open Go.RowKit

/-! ### between marks? -/
def arcBad (n : Nat) (a : PArc) : Bool := decide (a.from_ < 0) || decide (a.to_ < 0) || decide ((n : Int) ≤ a.from_) || decide ((n : Int) ≤ a.to_)
def rightG (n : Nat) (ars : List PArc) : Bool := !ars.any (arcBad n)

/-- Function F, with what it captured, is a test of arcs. -/
structure IsPredA (F : FuncId) (cap : Array Value) (w : World) (p : PArc → Bool) : Prop where
  enters : ∀ args w, (callFunc F args).run Tryz.prog w = .ok (.enter F args) w
  calls : ∀ (wr : World) (a : PArc), Below w.heap.size w wr →
    Calls Tryz.prog F (#[.agg #[.int .i64 a.from_, .int .i64 a.tran, .int .i64 a.to_]] ++ cap) wr fun e w' => e = .returned (.bool (p a)) ∧ Below wr.heap.size wr w'

end Go.Proofs.YtmabnigdocokmaaGreat
namespace Go.Proofs.YtmabnigdocokmaaGreat
open Go.RowKit Go.Maps

theorem rightG_not {n : Nat} {ars : List PArc} {a : PArc} (ha : a ∈ ars) (h : arcBad n a = true) : rightG n ars = false := by
  unfold rightG
  rw [List.any_eq_true.2 ⟨a, ha, h⟩]; rfl
theorem rightG_of {n : Nat} {ars : List PArc} (h : ∀ (j : Nat) (a : PArc), ars[j]? = some a → arcBad n a = false) : rightG n ars = true := by
  unfold rightG
  rw [Bool.not_eq_true', List.any_eq_false]
  intro a ha
  obtain ⟨j, hj, rfl⟩ := List.getElem_of_mem ha
  rw [h j _ (List.getElem?_eq_getElem hj)]
  simp

/-! ### transitions that never fire -/
def cntA (ars : List PArc) (t : Int) : Nat := (ars.filter fun a => a.tran == t).length
theorem cntA_snoc (l : List PArc) (a : PArc) (t : Int) : cntA (l ++ [a]) t = cntA l t + if a.tran = t then 1 else 0 := by
  unfold cntA
  rw [List.filter_append, List.length_append]
  by_cases h : a.tran = t <;> simp [h]
def deadL (ars : List PArc) (N : Nat) : List Int := ((List.range N).filter fun (t : Nat) => cntA ars (t : Int) == 0).map fun (t : Nat) => (t : Int)
theorem deadL_succ (ars : List PArc) (k : Nat) : deadL ars (k + 1) = deadL ars k ++ if cntA ars (k : Int) = 0 then [(k : Int)] else [] := by
  unfold deadL
  rw [List.range_succ, List.filter_append, List.map_append]
  congr 1
  by_cases h : cntA ars (k : Int) = 0 <;> simp [h]
theorem deadL_len (ars : List PArc) (k : Nat) : (deadL ars k).length ≤ k := by
  unfold deadL
  rw [List.length_map]
  exact Nat.le_trans (List.length_filter_le _ _) (by simp)
/-- Block b is a map that counts, by transitions, these arcs. -/
def CountM (w : World) (b : Nat) (l : List PArc) : Prop :=
  ∃ D : DataW Unit, w.ownsMap Tryz.prog 3 (plainElem Tryz.prog 3) b l.length D ∧ ∀ t : Int, (Lit.int .i64 t).wf = true → D.atKey (.int .i64 t) (.lit (.int .i64 0)) = .lit (.int .i64 (cntA l t))
theorem intLaw : Keyed Tryz.prog 3 := int_keyed Tryz.underlying3
theorem zeroInt' (w : World) : (zeroValue 3).run Tryz.prog w = .ok (.int .i64 0) w := by kernel_rfl
theorem CountM.made (w : World) : CountM (w.alloc (.map #[] 0)) w.heap.size [] := ⟨.map [], World.ownsMap_made _ _ _ _, fun _ _ => rfl⟩
theorem CountM.of_block {w w' : World} {b : Nat} {l : List PArc} (h : CountM w b l) (hb : w'.heap[b]? = w.heap[b]?) : CountM w' b l := by
  obtain ⟨D, h1, h2⟩ := h
  exact ⟨D, ownsMap_of_block h1 hb, h2⟩
theorem CountM.lt {w : World} {b : Nat} {l : List PArc} (h : CountM w b l) : b < w.heap.size := by
  obtain ⟨D, h1, _⟩ := h
  exact h1.lt
theorem CountM.keep {w w' : World} {b : Nat} {l : List PArc} (h : CountM w b l) (hb : Below w.heap.size w w') : CountM w' b l := h.of_block (hb.block b h.lt)
end Go.Proofs.YtmabnigdocokmaaGreat
namespace Go.Proofs.YtmabnigdocokmaaGreat
open Go.RowKit Go.Maps

/-! ### indices that no arc has -/
def noneL (f : PArc → Int) (ars : List PArc) (N : Nat) : List Int := ((List.range N).filter fun (t : Nat) => ars.all fun a => f a != (t : Int)).map fun (t : Nat) => (t : Int)
theorem noneL_succ (f : PArc → Int) (ars : List PArc) (k : Nat) : noneL f ars (k + 1) = noneL f ars k ++ if (ars.all fun a => f a != (k : Int)) = true then [(k : Int)] else [] := by
  unfold noneL
  rw [List.range_succ, List.filter_append, List.map_append]
  congr 1
  by_cases h : (ars.all fun a => f a != (k : Int)) = true
  · rw [if_pos h]; simp only [List.filter, h, List.map]
  · rw [if_neg h]; have h' : (ars.all fun a => f a != (k : Int)) = false := by simpa using h
    simp only [List.filter, h', List.map]
theorem noneL_len (f : PArc → Int) (ars : List PArc) (k : Nat) : (noneL f ars k).length ≤ k := by
  unfold noneL
  rw [List.length_map]
  exact Nat.le_trans (List.length_filter_le _ _) (by simp)
theorem cntA_zero (ars : List PArc) (t : Int) : (cntA ars t == 0) = ars.all fun a => a.tran != t := by
  unfold cntA
  rw [Bool.eq_iff_iff]
  simp only [beq_iff_eq, List.length_eq_zero_iff, List.filter_eq_nil_iff, List.all_eq_true, bne_iff_ne, ne_eq]
theorem deadL_none (ars : List PArc) (N : Nat) : deadL ars N = noneL PArc.tran ars N := by
  unfold deadL noneL
  congr 1
  congr 1
  funext t
  exact cntA_zero ars _
theorem all_snoc {f : PArc → Bool} {l : List PArc} {a : PArc} : (l ++ [a]).all f = (l.all f && f a) := by simp

end Go.Proofs.YtmabnigdocokmaaGreat
namespace Go.Proofs.YtmabnigdocokmaaGreat
open Go.RowKit

def maxF (xs : List Int) (x : Int) : Int := xs.foldl max x
theorem maxF_snoc (l : List Int) (x y : Int) : maxF (l ++ [y]) x = max (maxF l x) y := by simp [maxF]
theorem maxF_pull : ∀ (l : List Int) (x y : Int), maxF l (max x y) = max x (maxF l y)
  | [], _, _ => rfl
  | z :: l, x, y => by
    show maxF l (max (max x y) z) = max x (maxF l (max y z))
    rw [← maxF_pull l x (max y z)]
    congr 1
    omega
def boundL (ms : List (List Int)) : Int := ms.foldl (fun n m => if rightB m = true then maxF m n else n) 0
def boundAt (ms : List (List Int)) (k : Nat) : Int := boundL (ms.take k)
theorem boundAt_succ {ms : List (List Int)} {k : Nat} {m : List Int} (h : ms[k]? = some m) : boundAt ms (k + 1) = if rightB m = true then maxF m (boundAt ms k) else boundAt ms k := by
  unfold boundAt boundL
  rw [take_snoc h, List.foldl_append]
  rfl
theorem maxF_ge : ∀ (l : List Int) (x : Int), x ≤ maxF l x
  | [], _ => Int.le_refl _
  | z :: l, x => by
    have := maxF_ge l (max x z)
    show x ≤ maxF l (max x z)
    omega
theorem boundAt_nonneg (ms : List (List Int)) : ∀ k, 0 ≤ boundAt ms k
  | 0 => Int.le_refl _
  | k + 1 => by
    have ih := boundAt_nonneg ms k
    by_cases hk : k < ms.length
    · rw [boundAt_succ (List.getElem?_eq_getElem hk)]
      split
      · exact Int.le_trans ih (maxF_ge _ _)
      · exact ih
    · unfold boundAt at ih ⊢
      rw [List.take_of_length_le (show ms.length ≤ k by omega)] at ih
      rwa [List.take_of_length_le (show ms.length ≤ k + 1 by omega)]
/-- The most of a list and 0. -/
theorem max_zero {m l : List Int} {x n : Int} (h : m ++ [0] = x :: l) (hn : 0 ≤ n) : max n (maxF l x) = maxF m n := by
  have h1 : maxF (m ++ [0]) n = maxF m n := by
    rw [maxF_snoc]
    have := maxF_ge m n
    omega
  rw [← h1, h, ← maxF_pull]
  rfl

end Go.Proofs.YtmabnigdocokmaaGreat
namespace Go.Proofs.YtmabnigdocokmaaGreat
open Go.RowKit

def LinkW (w : World) (B g n : Nat) (ls : List (List Int)) : Prop :=
  ∃ cells : List Value, w.ownsRow B 34 1 (.slice (some ⟨g, 0, none⟩) n n) n cells ∧ ls.length = n ∧ (∀ (k : Nat) (x : List Int), ls[k]? = some x → ∃ v, cells[k]? = some v ∧ OwnInts w B v x.length x) ∧
    (∀ (k l : Nat) (u v : Value), k ≠ l → cells[k]? = some u → cells[l]? = some v → u.ownBlock = none ∨ u.ownBlock ≠ v.ownBlock)
section
variable {w w' : World} {B g n : Nat} {ls : List (List Int)}
theorem LinkW.made (h : w.ownsRow B 34 1 (.slice (some ⟨g, 0, none⟩) n n) n (List.replicate n (.slice none 0 0))) : LinkW w B g n (List.replicate n []) := by
  refine ⟨_, h, List.length_replicate, fun k x hx => ?_, fun k l u v _ hu _ => ?_⟩
  · obtain ⟨hk, rfl⟩ := List.getElem?_eq_some_iff.1 hx
    rw [List.length_replicate] at hk
    refine ⟨_, List.getElem?_replicate_of_lt hk, ?_⟩
    rw [List.getElem_replicate]
    exact OwnSl.nil
  · obtain ⟨hk, rfl⟩ := List.getElem?_eq_some_iff.1 hu
    rw [List.getElem_replicate]
    exact .inl rfl
theorem LinkW.keep (h : LinkW w B g n ls) (hb : Below w.heap.size w w') : LinkW w' B g n ls := by
  obtain ⟨cells, h1, h2, h3, h4⟩ := h
  refine ⟨cells, h1.kept (row := none) ⟨hb.os, hb.tape, hb.output, hb.size, fun k hk _ => hb.block k hk⟩ (.inr (by simp [Value.ownBlock])), h2, fun k x hx => ?_, h4⟩
  obtain ⟨v, a, b⟩ := h3 k x hx
  exact ⟨v, a, b.keep IntR.kept hb⟩
theorem LinkW.base {B' : Nat} (h : LinkW w B g n ls) (hB : B' ≤ B) : LinkW w B' g n ls := by
  obtain ⟨cells, h1, h2, h3, h4⟩ := h
  refine ⟨cells, ⟨h1.1, ?_⟩, h2, fun k x hx => ?_, h4⟩
  · rcases h1.2 with e | ⟨g1, cap, cur, e1, e2, e3⟩
    · exact .inl e
    · exact .inr ⟨g1, cap, cur, e1, Nat.le_trans hB e2, e3⟩
  obtain ⟨v, a, b⟩ := h3 k x hx
  exact ⟨v, a, b.base hB⟩
theorem LinkW.lt (h : LinkW w B g n ls) : B ≤ g ∧ g < w.heap.size := by
  obtain ⟨cells, h1, _⟩ := h
  exact h1.lt g rfl
theorem LinkW.get (h : LinkW w B g n ls) {k : Nat} (hk : k < n) : ∃ v x, ls[k]? = some x ∧ w.cell? ⟨g, k, none⟩ = some v ∧ OwnInts w B v x.length x := by
  obtain ⟨cells, h1, h2, h3, _⟩ := h
  have hx : ls[k]? = some (ls[k]'(by omega)) := List.getElem?_eq_getElem _
  obtain ⟨v, a, b⟩ := h3 k _ hx
  exact ⟨v, _, hx, by rw [h1.cellAt k (by omega)]; exact a, b⟩
/-- One list, appended to, and laid in its place again. -/
theorem LinkW.put {w1 : World} (h : LinkW w B g n ls) {i g' cap : Nat} {x : List Int} {y : Int} {v : Value} (hx : ls[i]? = some x) (hv : w.cell? ⟨g, i, none⟩ = some v) (hg : w.grownBy w1 v.ownBlock)
    (own : OwnInts w1 B (.slice (some ⟨g', 0, none⟩) (x.length + 1) cap) (x.length + 1) (x ++ [y])) (lies : v.ownBlock = some g' ∨ w.heap.size ≤ g') :
    w1.cell? ⟨g, i, none⟩ = some v ∧ w1.frozen? ⟨g, i, none⟩ = false ∧ LinkW (w1.setCell ⟨g, i, none⟩ (.slice (some ⟨g', 0, none⟩) (x.length + 1) cap)) B g n (ls.set i (x ++ [y])) := by
  obtain ⟨cells, h1, h2, h3, h4⟩ := h
  have hi : i < n := by rw [← h2]; exact (List.getElem?_eq_some_iff.1 hx).1
  obtain ⟨v', a, b⟩ := h3 i x hx
  have hvv : v' = v := by
    rw [h1.cellAt i (by omega), a] at hv
    injection hv
  subst hvv
  have r1 := h1.kept hg (by
    obtain ⟨cs, b1, _⟩ := b
    rcases own_ne b1 h1 (by decide) with e | e
    · exact .inr (by rw [e]; simp [Value.ownBlock])
    · exact .inr (fun e2 => e e2.symm))
  have hgne : g ≠ g' := by
    intro e
    subst e
    obtain ⟨cs, b1, _⟩ := own
    rcases own_ne b1 r1 (by decide) with e | e
    · cases e
    · exact e rfl
  have hlt := (h1.lt g rfl).2
  refine ⟨by rw [r1.cellAt i (by omega)]; exact a, r1.frozenAt i, ⟨_, (r1.stored i _).1, by rw [List.length_set]; exact h2, fun k z hz => ?_, fun k l u t hkl hu ht => ?_⟩⟩
  · by_cases hki : k = i
    · subst hki
      rw [List.getElem?_set_self (by omega)] at hz
      injection hz with hz
      subst hz
      refine ⟨_, List.getElem?_set_self (by have := h1.1; omega), ?_⟩
      rw [List.length_append]
      refine OwnInts.of_row (ownsRow_setCell_other own.row (fun e => ?_) _)
      simp only [Value.ownBlock, Option.some.injEq] at e
      exact hgne e.symm
    · rw [List.getElem?_set_ne (fun e => hki e.symm)] at hz
      obtain ⟨t, c, d⟩ := h3 k z hz
      refine ⟨t, by rw [List.getElem?_set_ne (fun e => hki e.symm)]; exact c, ?_⟩
      refine OwnInts.of_row (ownsRow_setCell_other ((d.row).kept hg (h4 k i t v' hki c a)) ?_ _)
      obtain ⟨cs, d1, _⟩ := d
      rcases own_ne d1 h1 (by decide) with e | e
      · rw [e]; simp
      · exact e
  · by_cases hki : k = i
    · subst hki
      rw [List.getElem?_set_self (by have := h1.1; omega)] at hu
      rw [List.getElem?_set_ne hkl] at ht
      injection hu with hu
      subst hu
      refine .inr (fun e => ?_)
      rcases lies with e2 | e2
      · rcases h4 k l v' t hkl a ht with e3 | e3
        · rw [e3] at e2; cases e2
        · exact e3 (by rw [e2]; exact e)
      · have hl : l < ls.length := by have := (List.getElem?_eq_some_iff.1 ht).1; have := h1.1; omega
        obtain ⟨t', c, d⟩ := h3 l _ (List.getElem?_eq_getElem hl)
        rw [ht] at c
        injection c with c
        subst c
        have := (d.lt g' e.symm).2
        omega
    · rw [List.getElem?_set_ne (fun e => hki e.symm)] at hu
      by_cases hli : l = i
      · subst hli
        rw [List.getElem?_set_self (by have := h1.1; omega)] at ht
        injection ht with ht
        subst ht
        have hl : k < ls.length := by have := (List.getElem?_eq_some_iff.1 hu).1; have := h1.1; omega
        obtain ⟨t', c, d⟩ := h3 k _ (List.getElem?_eq_getElem hl)
        rw [hu] at c
        injection c with c
        subst c
        rcases lies with e2 | e2
        · rcases h4 k l u v' hki hu a with e3 | e3
          · exact .inl e3
          · exact .inr (fun e => e3 (e.trans e2.symm))
        · refine .inr (fun e => ?_)
          have := (d.lt g' e).2
          omega
      · rw [List.getElem?_set_ne (fun e => hli e.symm)] at ht
        exact h4 k l u t hkl hu ht
theorem LinkW.lists (h : LinkW w B g n ls) (hn : n ≤ 281474976710656) (hl : ∀ x ∈ ls, x.length ≤ 17592186043904) : Lists w (some ⟨g, 0, none⟩) n n ls := by
  obtain ⟨cells, h1, h2, h3, h4⟩ := h
  have hr : Reads ListR 1 w cells ls := by
    refine ⟨by rw [h1.1, h2], fun i x hx => ?_⟩
    obtain ⟨v, a, b⟩ := h3 i x hx
    have hlen := hl x (List.mem_of_getElem? hx)
    obtain ⟨A, c, e, s⟩ := b.sl (by omega)
    exact ⟨fun _ => v, fun j hj => (by
      obtain rfl : j = 0 := by omega
      simpa using a), A, x.length, c, e, s, hlen⟩
  obtain ⟨A, c, e, s⟩ := OwnSl.sl (⟨cells, h1, hr, h2⟩ : OwnSl ListR 1 w B 34 (.slice (some ⟨g, 0, none⟩) n n) n ls) hn
  injection e with e1 e2 e3
  subst e1 e3
  exact s
end

/-! ### what leads where -/
def linkAt (key val : PArc → Int) (ars : List PArc) (k : Int) : List Int := (ars.filter fun a => key a == k).map val
def linkL (key val : PArc → Int) (ars : List PArc) (n : Nat) : List (List Int) := (List.range n).map fun (k : Nat) => linkAt key val ars (k : Int)
theorem linkL_nil (key val : PArc → Int) (n : Nat) : linkL key val [] n = List.replicate n [] := by
  apply List.ext_getElem (by simp [linkL])
  intro i h1 h2
  simp [linkL, linkAt]
theorem linkL_get {key val : PArc → Int} {ars : List PArc} {n k : Nat} (hk : k < n) : (linkL key val ars n)[k]? = some (linkAt key val ars (k : Int)) := by simp [linkL, hk]
theorem linkAt_snoc (key val : PArc → Int) (l : List PArc) (a : PArc) (k : Int) : linkAt key val (l ++ [a]) k = linkAt key val l k ++ if key a = k then [val a] else [] := by
  unfold linkAt
  rw [List.filter_append, List.map_append]
  congr 1
  by_cases h : key a = k <;> simp [h]
theorem linkL_snoc {key val : PArc → Int} {l : List PArc} {a : PArc} {n i : Nat} (hi : key a = (i : Int)) : linkL key val (l ++ [a]) n = (linkL key val l n).set i (linkAt key val l (i : Int) ++ [val a]) := by
  apply List.ext_getElem (by simp [linkL])
  intro j h1 h2
  by_cases hj : i = j
  · subst hj
    rw [List.getElem_set_self]
    simp only [linkL, List.getElem_map, List.getElem_range]
    rw [linkAt_snoc, if_pos hi]
  · rw [List.getElem_set_ne hj]
    simp only [linkL, List.getElem_map, List.getElem_range]
    rw [linkAt_snoc, if_neg (by rw [hi]; omega), List.append_nil]
theorem linkAt_len (key val : PArc → Int) (l : List PArc) (k : Int) : (linkAt key val l k).length ≤ l.length := by
  unfold linkAt
  rw [List.length_map]
  exact List.length_filter_le _ _
theorem linkL_length (key val : PArc → Int) (l : List PArc) (n : Nat) : (linkL key val l n).length = n := by simp [linkL]
theorem linkL_small {key val : PArc → Int} {l : List PArc} {n : Nat} {x : List Int} (hx : x ∈ linkL key val l n) : x.length ≤ l.length := by
  obtain ⟨k, _, rfl⟩ := List.mem_map.1 hx
  exact linkAt_len _ _ _ _
theorem infoListInt : (Tryz.prog.info? 34).map (fun i => (i.zero, i.size, i.bytes)) = some (some (.slice none 0 0), 1, 24) := by kernel_rfl

/-- What links answers: lists of its own. -/
def AnsLink (ls : List (List Int)) (n : Nat) (w : World) (e : Ending) (w' : World) : Prop :=
  ∃ g, e = .returned (.slice (some ⟨g, 0, none⟩) n n) ∧ LinkW w' w.heap.size g n ls ∧ Below w.heap.size w w'
end Go.Proofs.YtmabnigdocokmaaGreat
namespace Go.Proofs.YtmabnigdocokmaaGreat
open Go.RowKit

end Go.Proofs.YtmabnigdocokmaaGreat
namespace Go.Proofs.YtmabnigdocokmaaGreat
open Go.RowKit

def nxt (ars : List PArc) (k : Int) : List Int := linkAt PArc.to_ PArc.from_ ars k
def Inn (n : Nat) (x : Int) : Prop := 0 ≤ x ∧ x < (n : Int)
theorem nxt_in {ars : List PArc} {n : Nat} (h : ∀ a ∈ ars, Inn n a.from_) {k z : Int} (hz : z ∈ nxt ars k) : Inn n z := by
  obtain ⟨a, ha, rfl⟩ := List.mem_map.1 hz
  exact h a (List.mem_filter.1 ha).1

structure SpI (ars : List PArc) (n : Nat) (src : List Int) (bs : List Bool) (todo : List Int) : Prop where
  len : bs.length = n
  had : ∀ k : Nat, bs[k]? = some true → ∃ s ∈ src, Reach (nxt ars) s (k : Int)
  due : ∀ x ∈ todo, Inn n x ∧ ∃ s ∈ src, Reach (nxt ars) s x
  from_ : ∀ s ∈ src, s ∈ todo ∨ bs[s.toNat]? = some true
  next : ∀ k : Nat, bs[k]? = some true → ∀ z ∈ nxt ars (k : Int), z ∈ todo ∨ bs[z.toNat]? = some true
section
variable {ars : List PArc} {n : Nat} {src todo : List Int} {bs : List Bool} {x : Int}
theorem SpI.start (h : ∀ s ∈ src, Inn n s) : SpI ars n src (List.replicate n false) src where
  len := by simp
  had := fun k hk => by
    obtain ⟨hl, e⟩ := List.getElem?_eq_some_iff.1 hk
    rw [List.getElem_replicate] at e
    cases e
  due := fun x hx => ⟨h x hx, x, hx, .refl _⟩
  from_ := fun s hs => .inl hs
  next := fun k hk => by
    obtain ⟨hl, e⟩ := List.getElem?_eq_some_iff.1 hk
    rw [List.getElem_replicate] at e
    cases e
theorem SpI.skip (h : SpI ars n src bs (todo ++ [x])) (hx : bs[x.toNat]? = some true) : SpI ars n src bs todo where
  len := h.len
  had := h.had
  due := fun y hy => h.due y (List.mem_append_left _ hy)
  from_ := fun s hs => by
    rcases h.from_ s hs with a | a
    · rcases List.mem_append.1 a with b | b
      · exact .inl b
      · rw [List.mem_singleton.1 b]; exact .inr hx
    · exact .inr a
  next := fun k hk z hz => by
    rcases h.next k hk z hz with a | a
    · rcases List.mem_append.1 a with b | b
      · exact .inl b
      · rw [List.mem_singleton.1 b]; exact .inr hx
    · exact .inr a
theorem SpI.take (h : SpI ars n src bs (todo ++ [x])) (ha : ∀ a ∈ ars, Inn n a.from_) : SpI ars n src (bs.set x.toNat true) (todo ++ nxt ars x) := by
  obtain ⟨hxn, s0, hs0, hr0⟩ := h.due x (List.mem_append_right _ (List.mem_singleton.2 rfl))
  have hxl : x.toNat < bs.length := by have := h.len; have := hxn.1; have := hxn.2; omega
  have hset : (bs.set x.toNat true)[x.toNat]? = some true := List.getElem?_set_self hxl
  have hmore : ∀ j : Nat, bs[j]? = some true → (bs.set x.toNat true)[j]? = some true := fun j hj => by
    by_cases e : x.toNat = j
    · subst e; exact hset
    · rw [List.getElem?_set_ne e]; exact hj
  have hback : ∀ j : Nat, (bs.set x.toNat true)[j]? = some true → (j : Int) = x ∨ bs[j]? = some true := fun j hj => by
    by_cases e : x.toNat = j
    · left; have := hxn.1; omega
    · rw [List.getElem?_set_ne e] at hj; exact .inr hj
  have hmove : ∀ z : Int, z ∈ todo ++ [x] ∨ bs[z.toNat]? = some true → z ∈ todo ++ nxt ars x ∨ (bs.set x.toNat true)[z.toNat]? = some true := fun z hz => by
    rcases hz with a | a
    · rcases List.mem_append.1 a with b | b
      · exact .inl (List.mem_append_left _ b)
      · rw [List.mem_singleton.1 b]; exact .inr hset
    · exact .inr (hmore _ a)
  refine ⟨by rw [List.length_set]; exact h.len, fun k hk => ?_, fun y hy => ?_, fun s hs => hmove s (h.from_ s hs), fun k hk z hz => ?_⟩
  · rcases hback k hk with e | e
    · rw [e]; exact ⟨s0, hs0, hr0⟩
    · exact h.had k e
  · rcases List.mem_append.1 hy with b | b
    · exact h.due y (List.mem_append_left _ b)
    · exact ⟨nxt_in ha b, s0, hs0, hr0.last b⟩
  · rcases hback k hk with e | e
    · rw [e] at hz; exact .inl (List.mem_append_right _ hz)
    · exact hmove z (h.next k e z hz)
theorem SpI.done (h : SpI ars n src bs []) (hs : ∀ s ∈ src, Inn n s) (ha : ∀ a ∈ ars, Inn n a.from_) (k : Nat) (_ : k < n) : bs[k]? = some true ↔ ∃ s ∈ src, Reach (nxt ars) s (k : Int) := by
  refine ⟨h.had k, fun ⟨s, h1, h2⟩ => ?_⟩
  have hc : ∀ y : Int, (Inn n y ∧ bs[y.toNat]? = some true) → ∀ z ∈ nxt ars y, (Inn n z ∧ bs[z.toNat]? = some true) := fun y hy z hz => by
    refine ⟨nxt_in ha hz, ?_⟩
    rcases h.next y.toNat hy.2 z (by rw [Int.toNat_of_nonneg hy.1.1]; exact hz) with a | a
    · simp at a
    · exact a
  have := (h2.closedP hc ⟨hs s h1, by
    rcases h.from_ s h1 with a | a
    · simp at a
    · exact a⟩).2
  simpa using this
end

/-! ### how much is to do -/
def restL : List Bool → List (List Int) → Nat
  | b :: bs, l :: ls => (if b = true then 0 else l.length) + restL bs ls
  | _, _ => 0
theorem restL_set : ∀ (bs : List Bool) (ls : List (List Int)) (k : Nat) (l : List Int), bs[k]? = some false → ls[k]? = some l → restL (bs.set k true) ls + l.length = restL bs ls
  | b :: bs, m :: ls, 0, l, hb, hl => by
    simp only [List.getElem?_cons_zero, Option.some.injEq] at hb hl
    subst hb hl
    simp [restL]; omega
  | b :: bs, m :: ls, k + 1, l, hb, hl => by
    simp only [List.getElem?_cons_succ] at hb hl
    have := restL_set bs ls k l hb hl
    simp only [List.set_cons_succ, restL]
    omega
  | [], _, _, _, hb, _ => by simp at hb
  | _ :: _, [], _, _, _, hl => by simp at hl
def totL : List (List Int) → Nat
  | [] => 0
  | l :: ls => l.length + totL ls
theorem restL_tot : ∀ (bs : List Bool) (ls : List (List Int)), restL bs ls ≤ totL ls
  | [], ls => by simp [restL]
  | b :: bs, [] => by simp [restL]
  | b :: bs, l :: ls => by
    have := restL_tot bs ls
    simp only [restL, totL]
    split <;> omega
theorem totL_set : ∀ (ls : List (List Int)) (k : Nat) (l : List Int) (y : Int), ls[k]? = some l → totL (ls.set k (l ++ [y])) = totL ls + 1
  | m :: ls, 0, l, y, hl => by
    simp only [List.getElem?_cons_zero, Option.some.injEq] at hl
    subst hl
    simp [totL]; omega
  | m :: ls, k + 1, l, y, hl => by
    simp only [List.getElem?_cons_succ] at hl
    have := totL_set ls k l y hl
    simp only [List.set_cons_succ, totL]
    omega
  | [], _, _, _, hl => by simp at hl
theorem totL_nil : ∀ n, totL (List.replicate n ([] : List Int)) = 0
  | 0 => rfl
  | n + 1 => by rw [List.replicate_succ]; simp [totL, totL_nil n]
theorem totL_link {key val : PArc → Int} {n : Nat} (ars : List PArc) (h : ∀ a ∈ ars, Inn n (key a)) : ∀ k, k ≤ ars.length → totL (linkL key val (ars.take k) n) = k
  | 0, _ => by rw [List.take_zero, linkL_nil, totL_nil]
  | k + 1, hk => by
    have hg : ars[k]? = some (ars[k]'(by omega)) := List.getElem?_eq_getElem _
    have hin := h _ (List.mem_of_getElem? hg)
    obtain ⟨i, hi⟩ : ∃ i : Nat, key (ars[k]'(by omega)) = (i : Int) := ⟨_, (Int.toNat_of_nonneg hin.1).symm⟩
    have hii : i < n := by have := hin.2; omega
    rw [take_snoc hg, linkL_snoc hi, totL_set _ _ _ _ (linkL_get hii), totL_link ars h k (by omega)]
/-- What is to do still, as the world shows it. -/
def phiW (w : World) (g : Nat) : Nat → List (List Int) → Nat
  | _, [] => 0
  | j, l :: ls => (match w.cell? ⟨g, j, none⟩ with
    | some (.bool true) => 0
    | _ => l.length) + phiW w g (j + 1) ls
theorem phiW_rest (w : World) (g : Nat) : ∀ (j : Nat) (bs : List Bool) (ls : List (List Int)), bs.length = ls.length → (∀ (i : Nat) (b : Bool), bs[i]? = some b → w.cell? ⟨g, j + i, none⟩ = some (.bool b)) → phiW w g j ls = restL bs ls
  | _, [], [], _, _ => rfl
  | _, [], _ :: _, hl, _ => by simp at hl
  | _, _ :: _, [], hl, _ => by simp at hl
  | j, b :: bs, l :: ls, hl, h => by
    have h0 := h 0 b rfl
    rw [Nat.add_zero] at h0
    have ih := phiW_rest w g (j + 1) bs ls (by simpa using hl) (fun i c hc => by rw [Nat.add_assoc, Nat.add_comm 1 i]; exact h (i + 1) c hc)
    unfold phiW restL
    rw [h0, ih]
    cases b <;> rfl
open Classical in
noncomputable def spreadL (ars : List PArc) (n : Nat) (src : List Int) : List Bool := (List.range n).map fun (k : Nat) => decide (∃ s ∈ src, Reach (nxt ars) s (k : Int))
theorem SpI.list {ars : List PArc} {n : Nat} {src : List Int} {bs : List Bool} (h : SpI ars n src bs []) (hs : ∀ s ∈ src, Inn n s) (ha : ∀ a ∈ ars, Inn n a.from_) : bs = spreadL ars n src := by
  apply List.ext_getElem (by rw [h.len]; simp [spreadL])
  intro k h1 h2
  have hk : k < n := by have := h.len; omega
  have hd := h.done hs ha k hk
  rw [List.getElem?_eq_getElem h1, Option.some.injEq] at hd
  rw [Bool.eq_iff_iff, hd]
  simp [spreadL]
end Go.Proofs.YtmabnigdocokmaaGreat
namespace Go.Proofs.YtmabnigdocokmaaGreat
open Go.RowKit

theorem nil_or_snoc {α : Type} (l : List α) : l = [] ∨ ∃ L b, l = L ++ [b] := by
  rcases List.eq_nil_or_concat l with h | ⟨L, b, h⟩
  · exact .inl h
  · exact .inr ⟨L, b, by rw [h, List.concat_eq_append]⟩
def lenOf : Value → Nat
  | .slice _ n _ => n
  | _ => 0
theorem OwnInts.init {w : World} {B g n cap : Nat} {xs : List Int} {y : Int} (h : OwnInts w B (.slice (some ⟨g, 0, none⟩) (n + 1) cap) (n + 1) (xs ++ [y])) : OwnInts w B (.slice (some ⟨g, 0, none⟩) n cap) n xs := by
  have hl : xs.length = n := by have := h.len; simpa using this
  have hr := h.row
  refine OwnInts.of_row ⟨by simp [hl], ?_⟩
  rcases hr.2 with ⟨e, _⟩ | ⟨g', cap', cur, e, h1, h2, h3, h4, h5, h6⟩
  · cases e
  · injection e with e1 e2 e3
    subst e3
    injection e1 with e1
    injection e1 with e1
    subst e1
    refine .inr ⟨_, _, cur, rfl, h1, h2, by omega, h4, h5, ?_⟩
    have : cur.toList.take (n * 1) = (cur.toList.take ((n + 1) * 1)).take (n * 1) := by
      rw [List.take_take]
      congr 1
      omega
    rw [this, h6, List.map_append]
    rw [List.take_append_of_le_length (by simp [hl])]
    exact List.take_of_length_le (by simp [hl])
def OwnBools (w : World) (B g n : Nat) (bs : List Bool) : Prop := w.ownsRow B 4 1 (.slice (some ⟨g, 0, none⟩) n n) n (bs.map Value.bool)
section
variable {w w' : World} {B g n : Nat} {bs : List Bool}
theorem OwnBools.len (h : OwnBools w B g n bs) : bs.length = n := by have := h.1; simpa using this
theorem OwnBools.lt (h : OwnBools w B g n bs) : B ≤ g ∧ g < w.heap.size := World.ownsRow.lt h g rfl
theorem OwnBools.at (h : OwnBools w B g n bs) {k : Nat} {b : Bool} (hk : bs[k]? = some b) : w.cell? ⟨g, k, none⟩ = some (.bool b) := by
  have hl := (List.getElem?_eq_some_iff.1 hk).1
  have := h.len
  rw [World.ownsRow.cellAt h k (by omega), List.getElem?_map, hk]; rfl
theorem OwnBools.frozen (h : OwnBools w B g n bs) (k : Nat) : w.frozen? ⟨g, k, none⟩ = false := World.ownsRow.frozenAt h k
theorem OwnBools.keep (h : OwnBools w B g n bs) (hb : Below w.heap.size w w') : OwnBools w' B g n bs :=
  World.ownsRow.kept h (row := none) ⟨hb.os, hb.tape, hb.output, hb.size, fun k hk _ => hb.block k hk⟩ (.inr (by simp [Value.ownBlock]))
theorem OwnBools.put (h : OwnBools w B g n bs) (k : Nat) (b : Bool) : OwnBools (w.setCell ⟨g, k, none⟩ (.bool b)) B g n (bs.set k b) := by
  have := (World.ownsRow.stored h k (.bool b)).1
  rw [← List.map_set] at this
  exact this
theorem OwnBools.grown (h : OwnBools w B g n bs) {B2 m : Nat} {v : Value} {xs : List Int} (own : OwnInts w B2 v m xs) (hg : w.grownBy w' v.ownBlock) : OwnBools w' B g n bs := by
  refine World.ownsRow.kept h hg ?_
  obtain ⟨cs, b1, _⟩ := own
  rcases own_ne b1 h (by decide) with e | e
  · exact .inr (by rw [e]; simp [Value.ownBlock])
  · exact .inr (fun e2 => e e2.symm)
theorem OwnBools.phi (h : OwnBools w B g n bs) {ls : List (List Int)} (hl : ls.length = n) : phiW w g 0 ls = restL bs ls :=
  phiW_rest w g 0 bs ls (by rw [h.len, hl]) (fun i b hb => by rw [Nat.zero_add]; exact h.at hb)
theorem OwnBools.besideInts (h : OwnBools w B g n bs) {B2 m : Nat} {v : Value} {xs : List Int} (own : OwnInts w B2 v m xs) (k : Nat) (u : Value) : OwnInts (w.setCell ⟨g, k, none⟩ u) B2 v m xs := by
  refine OwnInts.of_row (ownsRow_setCell_other own.row ?_ _)
  obtain ⟨cs, b1, _⟩ := own
  rcases own_ne b1 h (by decide) with e | e
  · rw [e]; simp
  · exact e
end
def AnsBs (bs : List Bool) (n : Nat) (w : World) (e : Ending) (w' : World) : Prop := ∃ g, e = .returned (.slice (some ⟨g, 0, none⟩) n n) ∧ OwnBools w' w.heap.size g n bs ∧ Below w.heap.size w w'

end Go.Proofs.YtmabnigdocokmaaGreat
namespace Go.Proofs.YtmabnigdocokmaaGreat
open Go.RowKit

abbrev BoolS (w : World) (g n : Nat) (bs : List Bool) : Prop := bs.length = n ∧ ∀ (k : Nat) (b : Bool), bs[k]? = some b → w.cell? ⟨g, k, none⟩ = some (.bool b)
theorem OwnBools.s {w : World} {B g n : Nat} {bs : List Bool} (h : OwnBools w B g n bs) : BoolS w g n bs := ⟨h.len, fun _ _ hb => h.at hb⟩

/-! ### what is picked -/
def pickL (p : Nat → Bool) (N : Nat) : List Int := ((List.range N).filter p).map fun (t : Nat) => (t : Int)
theorem pickL_succ (p : Nat → Bool) (k : Nat) : pickL p (k + 1) = pickL p k ++ if p k = true then [(k : Int)] else [] := by
  unfold pickL
  rw [List.range_succ, List.filter_append, List.map_append]
  congr 1
  by_cases h : p k = true
  · rw [if_pos h]; simp only [List.filter, h, List.map]
  · rw [if_neg h]
    have h' : p k = false := by simpa using h
    simp only [List.filter, h', List.map]
theorem pickL_len (p : Nat → Bool) (k : Nat) : (pickL p k).length ≤ k := by
  unfold pickL
  rw [List.length_map]
  exact Nat.le_trans (List.length_filter_le _ _) (by simp)
theorem intsOne (w : World) (x : Int) : Ints (w.alloc (.cells #[.int .i64 x] 3)) (some ⟨w.heap.size, 0, none⟩) 1 1 [x] :=
  ⟨rfl, Nat.le_refl _, by simp [maxLen], by omega, fun h => (by cases h), fun _ => ⟨w.heap.size, 0, rfl, by simp, fun i y hy => by
    obtain rfl : i = 0 := by have := (List.getElem?_eq_some_iff.1 hy).1; simp at this; exact this
    simp only [List.getElem?_cons_zero, Option.some.injEq] at hy
    subst hy
    exact ⟨fun _ => .int .i64 x, fun j hj => (by obtain rfl : j = 0 := (by omega); exact (Box.new w #[.int .i64 x] 3).cell 0), rfl⟩⟩⟩
noncomputable def homeAt (ars : List PArc) (n k : Nat) : Bool := !(spreadL ars n [(k : Int)]).any fun y => false == y
noncomputable def homeL (ars : List PArc) (n : Nat) : List Int := if rightG n ars = true then pickL (homeAt ars n) n else []
theorem rightG_in {n : Nat} {ars : List PArc} (h : rightG n ars = true) : (∀ a ∈ ars, Inn n a.from_) ∧ (∀ a ∈ ars, Inn n a.to_) := by
  unfold rightG at h
  rw [Bool.not_eq_true', List.any_eq_false] at h
  have key : ∀ a ∈ ars, Inn n a.from_ ∧ Inn n a.to_ := fun a ha => by
    have := h a ha
    unfold arcBad at this
    simp only [Bool.or_eq_true, decide_eq_true_eq] at this
    unfold Inn
    omega
  exact ⟨fun a ha => (key a ha).1, fun a ha => (key a ha).2⟩

end Go.Proofs.YtmabnigdocokmaaGreat
namespace Go.Proofs.YtmabnigdocokmaaGreat
open Go.RowKit

noncomputable def liveAt (ars : List PArc) (n t : Nat) : Bool := !(spreadL ars n (linkAt PArc.tran PArc.from_ ars (t : Int))).any fun y => false == y
noncomputable def liveL (ars : List PArc) (n N : Nat) : List Int := if rightG n ars = true then pickL (liveAt ars n) N else []

end Go.Proofs.YtmabnigdocokmaaGreat
namespace Go.Proofs.YtmabnigdocokmaaGreat
open Go.RowKit

def at2 (M : List (List Bool)) (i j : Nat) : Option Bool := (M[i]?).bind fun r => r[j]?
/-- What holds of the rows of GReach all along. -/
structure MatI (ars : List PArc) (n : Nat) (M : List (List Bool)) : Prop where
  len : M.length = n
  row : ∀ (i : Nat) (r : List Bool), M[i]? = some r → r.length = n
  diag : ∀ i : Nat, i < n → at2 M i i = some true
  sound : ∀ i j : Nat, at2 M i j = some true → Reach (nxt ars) (j : Int) (i : Int)
def MatC (ars : List PArc) (M : List (List Bool)) : Prop := ∀ a ∈ ars, ∀ k : Nat, at2 M k a.from_.toNat = some true → at2 M k a.to_.toNat = some true
open Classical in
noncomputable def matRow (ars : List PArc) (n i : Nat) : List Bool := (List.range n).map fun (j : Nat) => decide (Reach (nxt ars) (j : Int) (i : Int))
noncomputable def matL (ars : List PArc) (n : Nat) : List (List Bool) := (List.range n).map fun (i : Nat) => matRow ars n i
theorem matL_row {ars : List PArc} {n i : Nat} (hi : i < n) : (matL ars n)[i]? = some (matRow ars n i) := by simp [matL, hi]
theorem matRow_len (ars : List PArc) (n i : Nat) : (matRow ars n i).length = n := by simp [matRow]
open Classical in
theorem matRow_get {ars : List PArc} {n i j : Nat} (hj : j < n) : (matRow ars n i)[j]? = some (decide (Reach (nxt ars) (j : Int) (i : Int))) := by simp [matRow, hj]
theorem mem_nxt {ars : List PArc} {a : PArc} (h : a ∈ ars) : a.from_ ∈ nxt ars a.to_ := List.mem_map.2 ⟨a, List.mem_filter.2 ⟨h, by simp⟩, rfl⟩
section
variable {ars : List PArc} {n : Nat} {M : List (List Bool)}
theorem MatI.full (h : MatI ars n M) (ha : ∀ a ∈ ars, Inn n a.from_) (hc : MatC ars M) {x z : Int} (hr : Reach (nxt ars) x z) : Inn n x → at2 M z.toNat x.toNat = some true := by
  induction hr with
  | refl x => exact fun hx => h.diag x.toNat (by have := hx.1; have := hx.2; omega)
  | @step x y z hy _ ih =>
    intro _
    obtain ⟨a, hm, rfl⟩ := List.mem_map.1 hy
    obtain ⟨hm, he⟩ := List.mem_filter.1 hm
    have he' : a.to_ = x := by simpa using he
    rw [← he']
    exact hc a hm _ (ih (ha a hm))
open Classical in
theorem MatI.done (h : MatI ars n M) (ha : ∀ a ∈ ars, Inn n a.from_) (hc : MatC ars M) : M = matL ars n := by
  apply List.ext_getElem (by rw [h.len]; simp [matL])
  intro i h1 h2
  have hi : i < n := by have := h.len; omega
  have hrow : M[i]? = some (M[i]'h1) := List.getElem?_eq_getElem _
  have hlr := h.row i _ hrow
  simp only [matL, List.getElem_map, List.getElem_range]
  apply List.ext_getElem (by rw [hlr]; simp [matRow])
  intro j h3 h4
  have hj : j < n := by omega
  have e2 : at2 M i j = some ((M[i]'h1)[j]'h3) := by unfold at2; rw [hrow]; exact List.getElem?_eq_getElem _
  have e3 : (matRow ars n i)[j]'h4 = decide (Reach (nxt ars) (j : Int) (i : Int)) := by
    have := matRow_get (ars := ars) (n := n) (i := i) hj
    rw [List.getElem?_eq_getElem h4] at this
    injection this
  rw [e3, Bool.eq_iff_iff, decide_eq_true_eq]
  constructor
  · intro e
    exact h.sound i j (by rw [e2, e])
  · intro e
    have := h.full ha hc e ⟨by omega, by omega⟩
    simp only [Int.toNat_natCast] at this
    rw [e2] at this
    injection this
/-- One more is found: to a.to where a.from was. -/
theorem at2_set {k j : Nat} {r : List Bool} (hr : M[k]? = some r) (hj : j < r.length) {i l : Nat} : at2 (M.set k (r.set j true)) i l = if i = k ∧ l = j then some true else at2 M i l := by
  have hk : k < M.length := (List.getElem?_eq_some_iff.1 hr).1
  unfold at2
  by_cases hi : i = k
  · subst hi
    rw [List.getElem?_set_self hk, hr]
    simp only [Option.bind_some]
    by_cases hl : l = j
    · subst hl
      rw [List.getElem?_set_self hj, if_pos ⟨trivial, rfl⟩]
    · rw [List.getElem?_set_ne (fun e => hl e.symm), if_neg (fun e => hl e.2)]
  · rw [List.getElem?_set_ne (fun e => hi e.symm), if_neg (fun e => hi e.1)]
theorem MatI.put (h : MatI ars n M) {a : PArc} (hm : a ∈ ars) (h0 : Inn n a.from_) (h1 : Inn n a.to_) {k : Nat} {r : List Bool} (hr : M[k]? = some r) (hf : r[a.from_.toNat]? = some true) : MatI ars n (M.set k (r.set a.to_.toNat true)) := by
  have hl := h.row k r hr
  have hj : a.to_.toNat < r.length := by have := h1.1; have := h1.2; omega
  refine ⟨by rw [List.length_set]; exact h.len, fun i r' hr' => ?_, fun i hi => ?_, fun i j hij => ?_⟩
  · by_cases hik : i = k
    · subst hik
      rw [List.getElem?_set_self (List.getElem?_eq_some_iff.1 hr).1] at hr'
      injection hr' with e
      rw [← e, List.length_set]
      exact hl
    · rw [List.getElem?_set_ne (fun e => hik e.symm)] at hr'
      exact h.row i r' hr'
  · rw [at2_set hr hj]
    split
    · rfl
    · exact h.diag i hi
  · rw [at2_set hr hj] at hij
    split at hij
    · rename_i e
      obtain ⟨rfl, rfl⟩ := e
      rw [Int.toNat_of_nonneg h1.1]
      have := h.sound i a.from_.toNat (by unfold at2; rw [hr]; exact hf)
      rw [Int.toNat_of_nonneg h0.1] at this
      exact .step (mem_nxt hm) this
    · exact h.sound i j hij
end

/-! ### Home and Live by these rows -/
open Classical in
theorem homeAt_iff (ars : List PArc) (n k : Nat) : homeAt ars n k = true ↔ ∀ i : Nat, i < n → Reach (nxt ars) (k : Int) (i : Int) := by
  unfold homeAt spreadL
  simp only [Bool.not_eq_true', List.any_eq_false, List.mem_map, List.mem_range, List.mem_singleton, exists_eq_left]
  constructor
  · intro h i hi
    have := h _ ⟨i, hi, rfl⟩
    simpa using this
  · rintro h _ ⟨i, hi, rfl⟩
    simpa using h i hi
open Classical in
theorem liveAt_iff (ars : List PArc) (n t : Nat) : liveAt ars n t = true ↔ ∀ i : Nat, i < n → ∃ a ∈ ars, a.tran = (t : Int) ∧ Reach (nxt ars) a.from_ (i : Int) := by
  have key : ∀ i : Nat, (∃ s ∈ linkAt PArc.tran PArc.from_ ars (t : Int), Reach (nxt ars) s (i : Int)) ↔ ∃ a ∈ ars, a.tran = (t : Int) ∧ Reach (nxt ars) a.from_ (i : Int) := by
    intro i
    constructor
    · rintro ⟨s, hs, hr⟩
      obtain ⟨a, ha, rfl⟩ := List.mem_map.1 hs
      obtain ⟨ha, he⟩ := List.mem_filter.1 ha
      exact ⟨a, ha, by simpa using he, hr⟩
    · rintro ⟨a, ha, he, hr⟩
      exact ⟨a.from_, List.mem_map.2 ⟨a, List.mem_filter.2 ⟨ha, by simpa using he⟩, rfl⟩, hr⟩
  unfold liveAt spreadL
  simp only [Bool.not_eq_true', List.any_eq_false, List.mem_map, List.mem_range]
  constructor
  · intro h i hi
    have := h _ ⟨i, hi, rfl⟩
    exact (key i).1 (by simpa using this)
  · rintro h _ ⟨i, hi, rfl⟩
    simpa using (key i).2 (h i hi)
end Go.Proofs.YtmabnigdocokmaaGreat
namespace Go.Proofs.YtmabnigdocokmaaGreat
open Go.RowKit

def MatW (w : World) (B g n : Nat) (M : List (List Bool)) : Prop :=
  ∃ (cells : List Value) (bl : Nat → Nat), w.ownsRow B 43 1 (.slice (some ⟨g, 0, none⟩) n n) n cells ∧ M.length ≤ n ∧ (∀ (k : Nat) (x : List Bool), M[k]? = some x → cells[k]? = some (.slice (some ⟨bl k, 0, none⟩) n n) ∧ OwnBools w B (bl k) n x) ∧
    (∀ k l : Nat, k < M.length → l < M.length → k ≠ l → bl k ≠ bl l)
theorem OwnBools.base {w : World} {B B' g n : Nat} {bs : List Bool} (h : OwnBools w B g n bs) (hB : B' ≤ B) : OwnBools w B' g n bs := by
  refine ⟨h.1, ?_⟩
  rcases h.2 with e | ⟨g1, cap, cur, e1, e2, e3⟩
  · exact .inl e
  · exact .inr ⟨g1, cap, cur, e1, Nat.le_trans hB e2, e3⟩
theorem OwnBools.neRow {w : World} {B g b n m : Nat} {bs : List Bool} {cells : List Value} (h : OwnBools w B b n bs) (hr : w.ownsRow B 43 1 (.slice (some ⟨g, 0, none⟩) m m) m cells) : b ≠ g := by
  intro e
  subst e
  rcases own_ne h hr (by decide) with e | e
  · cases e
  · exact e rfl
section
variable {w w1 : World} {B g n : Nat} {M : List (List Bool)}
theorem MatW.made {cells : List Value} (h : w.ownsRow B 43 1 (.slice (some ⟨g, 0, none⟩) n n) n cells) : MatW w B g n [] :=
  ⟨cells, fun _ => 0, h, Nat.zero_le _, fun k x hx => by simp at hx, fun k l hk => by simp at hk⟩
theorem MatW.keep (h : MatW w B g n M) (hb : Below w.heap.size w w1) : MatW w1 B g n M := by
  obtain ⟨cells, bl, h1, h2, h3, h4⟩ := h
  refine ⟨cells, bl, h1.kept (row := none) ⟨hb.os, hb.tape, hb.output, hb.size, fun k hk _ => hb.block k hk⟩ (.inr (by simp [Value.ownBlock])), h2, fun k x hx => ?_, h4⟩
  obtain ⟨a, b⟩ := h3 k x hx
  exact ⟨a, b.keep hb⟩
theorem MatW.base {B' : Nat} (h : MatW w B g n M) (hB : B' ≤ B) : MatW w B' g n M := by
  obtain ⟨cells, bl, h1, h2, h3, h4⟩ := h
  refine ⟨cells, bl, ⟨h1.1, ?_⟩, h2, fun k x hx => ?_, h4⟩
  · rcases h1.2 with e | ⟨g1, cap, cur, e1, e2, e3⟩
    · exact .inl e
    · exact .inr ⟨g1, cap, cur, e1, Nat.le_trans hB e2, e3⟩
  · obtain ⟨a, b⟩ := h3 k x hx
    exact ⟨a, b.base hB⟩
theorem MatW.lt (h : MatW w B g n M) : B ≤ g ∧ g < w.heap.size := by
  obtain ⟨cells, bl, h1, _⟩ := h
  exact h1.lt g rfl
theorem MatW.frozen (h : MatW w B g n M) (k : Nat) : w.frozen? ⟨g, k, none⟩ = false := by
  obtain ⟨cells, bl, h1, _⟩ := h
  exact h1.frozenAt k
theorem MatW.cellAny (h : MatW w B g n M) {k : Nat} (hk : k < n) : ∃ v, w.cell? ⟨g, k, none⟩ = some v := by
  obtain ⟨cells, bl, h1, _⟩ := h
  refine ⟨_, (h1.cellAt k (by omega)).trans (List.getElem?_eq_getElem (by have := h1.1; omega))⟩
theorem MatW.get (h : MatW w B g n M) {k : Nat} (hk : k < M.length) : ∃ b x, M[k]? = some x ∧ w.cell? ⟨g, k, none⟩ = some (.slice (some ⟨b, 0, none⟩) n n) ∧ OwnBools w B b n x := by
  obtain ⟨cells, bl, h1, h2, h3, _⟩ := h
  have hx : M[k]? = some (M[k]'hk) := List.getElem?_eq_getElem _
  obtain ⟨a, b⟩ := h3 k _ hx
  exact ⟨_, _, hx, by rw [h1.cellAt k (by omega)]; exact a, b⟩
/-- One row more. -/
theorem MatW.push (h : MatW w B g n M) (hb : Below w.heap.size w w1) {b : Nat} {r : List Bool} (own : OwnBools w1 B b n r) (hnew : w.heap.size ≤ b) (hn : M.length < n) :
    MatW (w1.setCell ⟨g, M.length, none⟩ (.slice (some ⟨b, 0, none⟩) n n)) B g n (M ++ [r]) := by
  obtain ⟨cells, bl, h1, h2, h3, h4⟩ := h
  have r1 := h1.kept (row := none) (w' := w1) ⟨hb.os, hb.tape, hb.output, hb.size, fun k hk _ => hb.block k hk⟩ (.inr (by simp [Value.ownBlock]))
  have hcl := h1.1
  refine ⟨cells.set M.length (.slice (some ⟨b, 0, none⟩) n n), fun k => if k = M.length then b else bl k, (r1.stored M.length _).1, by rw [List.length_append]; exact hn, fun k x hx => ?_, fun k l hk hl hkl => ?_⟩
  · by_cases hk : k = M.length
    · subst hk
      rw [List.getElem?_append_right (Nat.le_refl _), Nat.sub_self] at hx
      simp only [List.getElem?_cons_zero, Option.some.injEq] at hx
      subst hx
      simp only [if_true]
      refine ⟨List.getElem?_set_self (by omega), ?_⟩
      exact ownsRow_setCell_other own (fun e => by simp only [Value.ownBlock, Option.some.injEq] at e; exact own.neRow r1 e) _
    · have hlt : k < M.length := by
        have := (List.getElem?_eq_some_iff.1 hx).1
        simp at this
        omega
      rw [List.getElem?_append_left hlt] at hx
      obtain ⟨a, c⟩ := h3 k x hx
      dsimp only
      rw [if_neg hk]
      refine ⟨by rw [List.getElem?_set_ne (fun e => hk e.symm)]; exact a, ?_⟩
      have c1 := c.keep hb
      exact ownsRow_setCell_other c1 (fun e => by simp only [Value.ownBlock, Option.some.injEq] at e; exact c1.neRow r1 e) _
  · have old : ∀ q, q < M.length → bl q ≠ b := fun q hq e => by
      have := (h3 q _ (List.getElem?_eq_getElem hq)).2.lt.2
      omega
    simp only [List.length_append, List.length_cons, List.length_nil] at hk hl
    dsimp only
    by_cases e1 : k = M.length
    · rw [if_pos e1, if_neg (by omega)]
      exact fun e => old l (by omega) e.symm
    · rw [if_neg e1]
      by_cases e2 : l = M.length
      · rw [if_pos e2]
        exact old k (by omega)
      · rw [if_neg e2]
        exact h4 k l (by omega) (by omega) hkl
/-- One bool of one row turned. -/
theorem MatW.put (h : MatW w B g n M) {k j b : Nat} {r : List Bool} (hr : M[k]? = some r) (hc : w.cell? ⟨g, k, none⟩ = some (.slice (some ⟨b, 0, none⟩) n n)) : MatW (w.setCell ⟨b, j, none⟩ (.bool true)) B g n (M.set k (r.set j true)) := by
  obtain ⟨cells, bl, h1, h2, h3, h4⟩ := h
  have hk : k < M.length := (List.getElem?_eq_some_iff.1 hr).1
  obtain ⟨a, c⟩ := h3 k r hr
  have hb : bl k = b := by
    rw [h1.cellAt k (by omega), a] at hc
    simpa using hc
  subst hb
  refine ⟨cells, bl, ownsRow_setCell_other h1 (fun e => by simp only [Value.ownBlock, Option.some.injEq] at e; exact c.neRow h1 e.symm) _, by rw [List.length_set]; exact h2, fun q x hx => ?_, fun q l hq hl => h4 q l (by simpa using hq) (by simpa using hl)⟩
  by_cases e : q = k
  · subst e
    rw [List.getElem?_set_self hk] at hx
    injection hx with hx
    subst hx
    exact ⟨a, c.put j true⟩
  · rw [List.getElem?_set_ne (fun e2 => e e2.symm)] at hx
    obtain ⟨a2, c2⟩ := h3 q x hx
    refine ⟨a2, ownsRow_setCell_other c2 (fun e2 => ?_) _⟩
    simp only [Value.ownBlock, Option.some.injEq] at e2
    exact h4 q k (List.getElem?_eq_some_iff.1 hx).1 hk e e2
theorem MatW.uniq {M' : List (List Bool)} (h : MatW w B g n M) (h' : MatW w B g n M') (l : M.length = n) (l' : M'.length = n) : M = M' := by
  apply List.ext_getElem (by omega)
  intro k h1 h2
  obtain ⟨b, x, hx, hc, ho⟩ := h.get h1
  obtain ⟨b', x', hx', hc', ho'⟩ := h'.get h2
  rw [hc] at hc'
  simp only [Option.some.injEq, Value.slice.injEq, Addr.mk.injEq, and_true] at hc'
  subst hc'
  have e1 : M[k] = x := by rw [List.getElem?_eq_getElem h1] at hx; injection hx
  have e2 : M'[k] = x' := by rw [List.getElem?_eq_getElem h2] at hx'; injection hx'
  rw [e1, e2]
  apply List.ext_getElem (by rw [ho.len, ho'.len])
  intro j h3 h4
  have a1 := ho.at (List.getElem?_eq_getElem h3)
  have a2 := ho'.at (List.getElem?_eq_getElem h4)
  rw [a1] at a2
  simpa using a2
end

/-! ### how many are false -/
def cntR : List Bool → Nat
  | [] => 0
  | b :: bs => (if b = true then 0 else 1) + cntR bs
def cntF : List (List Bool) → Nat
  | [] => 0
  | r :: M => cntR r + cntF M
theorem cntR_set : ∀ (r : List Bool) (j : Nat), r[j]? = some false → cntR (r.set j true) + 1 = cntR r
  | b :: bs, 0, h => by
    simp only [List.getElem?_cons_zero, Option.some.injEq] at h
    subst h
    simp [cntR]; omega
  | b :: bs, j + 1, h => by
    simp only [List.getElem?_cons_succ] at h
    have := cntR_set bs j h
    simp only [List.set_cons_succ, cntR]
    omega
  | [], _, h => by simp at h
theorem cntF_set : ∀ (M : List (List Bool)) (k : Nat) (r r' : List Bool), M[k]? = some r → cntF (M.set k r') + cntR r = cntF M + cntR r'
  | m :: M, 0, r, r', h => by
    simp only [List.getElem?_cons_zero, Option.some.injEq] at h
    subst h
    simp [cntF]; omega
  | m :: M, k + 1, r, r', h => by
    simp only [List.getElem?_cons_succ] at h
    have := cntF_set M k r r' h
    simp only [List.set_cons_succ, cntF]
    omega
  | [], _, _, _, h => by simp at h
theorem cntF_put {M : List (List Bool)} {k j : Nat} {r : List Bool} (hr : M[k]? = some r) (hj : r[j]? = some false) : cntF (M.set k (r.set j true)) + 1 = cntF M := by
  have h1 := cntF_set M k r (r.set j true) hr
  have h2 := cntR_set r j hj
  omega
open Classical in
noncomputable def matF (w : World) (B g n : Nat) : Nat := if h : ∃ M, MatW w B g n M ∧ M.length = n then cntF (Classical.choose h) else 0
theorem matF_eq {w : World} {B g n : Nat} {M : List (List Bool)} (h : MatW w B g n M) (l : M.length = n) : matF w B g n = cntF M := by
  have hex : ∃ M, MatW w B g n M ∧ M.length = n := ⟨M, h, l⟩
  unfold matF
  rw [dif_pos hex]
  obtain ⟨a, b⟩ := Classical.choose_spec hex
  rw [a.uniq h b l]
end Go.Proofs.YtmabnigdocokmaaGreat
namespace Go.Proofs.YtmabnigdocokmaaGreat
open Go.RowKit

theorem infoListBool : (Tryz.prog.info? 43).map (fun i => (i.zero, i.size, i.bytes)) = some (some (.slice none 0 0), 1, 24) := by kernel_rfl
def idRow (n i : Nat) : List Bool := (List.replicate n false).set i true
def idM (n k : Nat) : List (List Bool) := (List.range k).map (idRow n)
theorem idM_succ (n k : Nat) : idM n (k + 1) = idM n k ++ [idRow n k] := by simp [idM, List.range_succ]
theorem idM_len (n k : Nat) : (idM n k).length = k := by simp [idM]
theorem idRow_get {n i j : Nat} (hi : i < n) : (idRow n i)[j]? = some true ↔ i = j := by
  unfold idRow
  by_cases e : i = j
  · subst e; simp [hi]
  · rw [List.getElem?_set_ne e]
    refine ⟨fun h => ?_, fun h => absurd h e⟩
    obtain ⟨_, h2⟩ := List.getElem?_eq_some_iff.1 h
    rw [List.getElem_replicate] at h2
    cases h2
theorem idM_ok (ars : List PArc) (n : Nat) : MatI ars n (idM n n) where
  len := idM_len n n
  row := fun i r hr => by
    obtain ⟨k, _, rfl⟩ := List.mem_map.1 (List.mem_of_getElem? hr)
    simp [idRow]
  diag := fun i hi => by
    unfold at2 idM
    simp only [List.getElem?_map, List.getElem?_range hi, Option.map_some, Option.bind_some]
    exact (idRow_get hi).2 rfl
  sound := fun i j hij => by
    unfold at2 idM at hij
    by_cases hi : i < n
    · simp only [List.getElem?_map, List.getElem?_range hi, Option.map_some, Option.bind_some] at hij
      obtain rfl := (idRow_get hi).1 hij
      exact .refl _
    · rw [List.getElem?_eq_none (by simp; omega)] at hij
      cases hij

def CL (M : List (List Bool)) (a : PArc) (K : Nat) : Prop := ∀ k : Nat, k < K → at2 M k a.from_.toNat = some true → at2 M k a.to_.toNat = some true
def RoundI (M0 M : List (List Bool)) (b : Bool) (P : Prop) : Prop := (b = true → cntF M < cntF M0) ∧ (b = false → M = M0 ∧ P)
theorem RoundI.imp {M0 M : List (List Bool)} {b : Bool} {P P' : Prop} (h : RoundI M0 M b P) (hp : P → P') : RoundI M0 M b P' := ⟨h.1, fun e => ⟨(h.2 e).1, hp (h.2 e).2⟩⟩
/-- Where a round of GReach stands. -/
def St (ars : List PArc) (n : Nat) (w0 wr : World) (M0 : List (List Bool)) (b : Bool) (P : Prop) : Prop := ∃ M, MatW wr w0.heap.size w0.heap.size n M ∧ MatI ars n M ∧ RoundI M0 M b P ∧ Below w0.heap.size w0 wr
theorem St.keep {ars : List PArc} {n : Nat} {w0 wr w' : World} {M0 : List (List Bool)} {b : Bool} {P P' : Prop} (h : St ars n w0 wr M0 b P) (hb : Below wr.heap.size wr w') (hp : P → P') : St ars n w0 w' M0 b P' := by
  obtain ⟨M, a, c, d, e⟩ := h
  exact ⟨M, a.keep hb, c, d.imp hp, e.trans (hb.mono e.size)⟩
def boolOf : Value → Nat
  | .bool true => 1
  | _ => 0
theorem OwnBools.neBox {w : World} {B b n bx : Nat} {bs : List Bool} {cs : Array Value} (h : OwnBools w B b n bs) (hx : Box w bx 60 cs) : bx ≠ b := by
  intro e
  subst e
  rcases h.2 with ⟨e, _⟩ | ⟨g, cap, cur, e, _, hh, _⟩
  · cases e
  · injection e with e1
    injection e1 with e1
    injection e1 with e1
    subst e1
    unfold Box at hx
    rw [hx] at hh
    injection hh with hh
    injection hh with _ hh
    exact absurd hh (by decide)
/-- What GReach answers: rows of its own. -/
def AnsMat (M : List (List Bool)) (n : Nat) (w : World) (e : Ending) (w' : World) : Prop := ∃ g, e = .returned (.slice (some ⟨g, 0, none⟩) n n) ∧ MatW w' w.heap.size g n M ∧ Below w.heap.size w w'

end Go.Proofs.YtmabnigdocokmaaGreat
namespace Go.Proofs.YtmabnigdocokmaaGreat
open Go.RowKit

open Classical
def HomeTo (ars : List PArc) (k i : Nat) : Prop := ∀ i' : Nat, i' < i → Reach (nxt ars) (k : Int) (i' : Int)
end Go.Proofs.YtmabnigdocokmaaGreat
namespace Go.Proofs.YtmabnigdocokmaaGreat
open Go.RowKit

open Classical
def OneOf (ars : List PArc) (t i q : Nat) : Prop := ∃ (j : Nat) (a : PArc), j < q ∧ ars[j]? = some a ∧ a.tran = (t : Int) ∧ Reach (nxt ars) a.from_ (i : Int)
def AllTo (ars : List PArc) (t i : Nat) : Prop := ∀ i' : Nat, i' < i → OneOf ars t i' ars.length
theorem liveAt_all (ars : List PArc) (n t : Nat) : liveAt ars n t = true ↔ AllTo ars t n := by
  rw [liveAt_iff]
  constructor
  · intro h i hi
    obtain ⟨a, ha, h1, h2⟩ := h i hi
    obtain ⟨j, hj, rfl⟩ := List.getElem_of_mem ha
    exact ⟨j, _, hj, List.getElem?_eq_getElem hj, h1, h2⟩
  · intro h i hi
    obtain ⟨j, a, _, ha, h1, h2⟩ := h i hi
    exact ⟨a, List.mem_of_getElem? ha, h1, h2⟩
theorem OneOf.succ {ars : List PArc} {t i q : Nat} {a : PArc} (ha : ars[q]? = some a) : OneOf ars t i (q + 1) ↔ OneOf ars t i q ∨ (a.tran = (t : Int) ∧ Reach (nxt ars) a.from_ (i : Int)) := by
  constructor
  · rintro ⟨j, b, hj, hb, h1, h2⟩
    by_cases e : j = q
    · subst e
      rw [ha] at hb
      injection hb with hb
      subst hb
      exact .inr ⟨h1, h2⟩
    · exact .inl ⟨j, b, by omega, hb, h1, h2⟩
  · rintro (⟨j, b, hj, hb, h1, h2⟩ | ⟨h1, h2⟩)
    · exact ⟨j, b, by omega, hb, h1, h2⟩
    · exact ⟨q, a, by omega, ha, h1, h2⟩
end Go.Proofs.YtmabnigdocokmaaGreat
