/- Texts melted into one: The beginnings of words in memory; slices.Sorted, Clip; append to a clipped slice. Conditions: the rows are the call's own. | slices.IndexFunc and slices.DeleteFunc on integers, with a test that may lay blocks. Conditions: the slice is the call's own. | The plain law of the journal: bytes of what is done at a desk, and back. No program in sight. | What bytes and things done at a desk read as; contracts of the sum of bytes. Conditions: the slices read as lists. | The contracts of journal.Write and RWrite. Conditions: none. | The contract of RWrite. Conditions: none. | The contract of journal.Read. Conditions: the bytes read as a list, of bounded length. | The contract of RRead. Conditions: the bytes read as a list, of bounded length. | What Enabled, AMix and BFire answer is new. Conditions: the net and the mark read as lists. (Printed by gen/enabF.py.) -/
import Derived.Test.YtniolbbhjibobaaDoorBlocksListK31
import Derived.Test.YtniolbbhjibobaaDoorBlocksListK27
import Derived.Test.YtniolbbhjibobaaDoorBlocksListK32
import Derived.Test.YtniolbbhjibobaaDoorBlocksListK10
import Derived.Lib.AppendZeros
import Derived.Test.YtniolbbhjibobaaDoorBlocksListK07
import Derived.Lib.SliceRun
import Derived.Lib.LazyBuf
import Derived.Test.YtniolbbhjibobaaDoorBlocksListK04
import Derived.Test.YtniolbbhjibobaaDoorBlocksListK06
import Derived.Laws.BitsAllLaws
import Derived.Laws.Shifts
import Derived.Laws.BytesArg
import Derived.Deep.DeepCutAuto
import Derived.Test.YtniolbbhjibobaaDoorBlocksListK05
import Derived.Maps.AppendAt
import Derived.Deep.QuietTactic
set_option linter.all false
namespace Go.Proofs.YtniolbbhjibobaaDoor
open Go.RowKit

theorem run_append_clipW {P : Program} {w : World} (t ty e : TypeId) (i : TypeInfo) (z : Value) (size bytes : Nat) (ht : P.underlying t = some (.slice e)) (hi : P.info? e = some i) (hz : i.zero = some z)
    (hsize : i.size = size) (hby : i.bytes = bytes) (hzs : z.cells.size = size) (hsz : 0 < size)
    (A : Option Addr) (n : Nat) (xs : List Value) (hx : xs.length = n * size) (hnone : A = none → n = 0) (hcell : ∀ ad, A = some ad → ∀ j u, xs[j]? = some u → w.cell? (ad.add j) = some u)
    (a : Addr) (m c : Nat) (news : List Value) (hl : news.length = m * size) (hm : 0 < m) (hnews : ∀ j u, news[j]? = some u → w.cell? (a.add j) = some u) (h1 : ∀ u ∈ news, u.oneCell' = true)
    (h63 : n + m ≤ maxLen) (hbytes : (n + m) * bytes ≤ 140737488355328) :
    ∃ v' w', (Builtin.append_ #[t, t] ty #[.slice A n n, .slice (some a) m c]).run P w = .ok v' w' ∧ w'.ownsRow w.heap.size e size v' (n + m) (xs ++ news) ∧ w.grownBy w' none := by
  cases hA : A with
  | none =>
    have hn := hnone hA
    subst hn
    have hx0 : xs = [] := List.eq_nil_of_length_eq_zero (by simpa using hx)
    subst hx0
    obtain ⟨v', w', r1, r2, r3, _⟩ := run_append_own_at (P := P) w w.heap.size t ty e i z size bytes ht hi hz hsize hby hzs hsz (.slice none 0 0) 0 [] (World.ownsRow_nil _ _ _ _) a m c news hl hnews h1 h63 hbytes (Nat.le_refl _)
    exact ⟨v', w', r1, r2, r3⟩
  | some ad =>
    subst hsize hby
    have hsmall : n + m ≤ 9223372036854775807 := by simp only [maxLen] at h63; omega
    have hlen : (xs ++ news).length = (n + m) * i.size := by rw [List.length_append, hx, hl, Nat.add_mul]
    have hr := run_append_grow (P := P) w t ty e i z ht hi hz ad n n xs hx (hcell ad hA) a m c news hl hnews (by omega) (by omega) (growslice_fits (by omega) hbytes)
    have hge := grownCap_ge w (n + m) n e
    have hcm : grownCap w (n + m) n e ≤ maxLen := grownCap_le_maxLen w (n + m) n e h63
    refine ⟨_, _, hr, ⟨hlen, .inr ⟨w.heap.size, _, _, rfl, Nat.le_refl _, heap_alloc_new w.drew _, hge, hcm, ?_, ?_⟩⟩, ⟨rfl, rfl, rfl, by simp, fun k hk _ => heap_alloc_old w.drew _ hk⟩⟩
    · simp only [Array.size_append, List.size_toArray, size_zeroCells, hzs, hx, hl, ← Nat.add_mul]
      congr 1
      omega
    · simp only [Array.toList_append, List.append_assoc]
      rw [← List.append_assoc, ← hlen]
      exact List.take_left

theorem wpList_appClip {ops : Array Oper} {rest : List Oper} {o : Oper} {a : Act} {Q : Exit → Act → World → Prop} (hgd : o.guard = none) (s x : Operand)
    (ho : o.op = .call { callee := .builtin .append, args := #[s, x], argTypes := #[32, 32] })
    {w : World} {A : Option Addr} {n H : Nat} {xs : List Int} {y : Int} (hs : a.eval s = .slice A n n) (hx : a.eval x = .slice (some ⟨H, 0, none⟩) 1 1) (hH : H = w.heap.size)
    (src : Ints w A n n xs) (hn : n ≤ 1000000)
    (K : ∀ g cap w', OwnInts w' w.heap.size (.slice (some ⟨g, 0, none⟩) (n + 1) cap) (n + 1) (xs ++ [y]) → Below w.heap.size w w' → wpList Tryd.prog ops Q rest (a.put o.dst (.slice (some ⟨g, 0, none⟩) (n + 1) cap)) w') :
    wpList Tryd.prog ops Q (o :: rest) a (w.alloc (.cells #[.int .i64 y] 3)) := by
  subst hH
  obtain ⟨i, z, h1, h2, h3, h4, h5⟩ := tyInts.info
  have na : Below w.heap.size w (w.alloc (.cells #[.int .i64 y] 3)) := boxBelow w _
  have src' := Ints.keep src na
  obtain ⟨ds, d1, d2, d3, d4, d5⟩ := Sl.flat IntR.good src'
  obtain ⟨v', w', hr, r1, r2⟩ := run_append_clipW (P := Tryd.prog) (w := w.alloc (.cells #[.int .i64 y] 3)) 32 o.type 3 i z 1 8 tyInts.und h1 h2 h3 h4 h5 tyInts.pos A n ds d1 (fun e => (d2 e).1) d3 ⟨w.heap.size, 0, none⟩ 1 1 [.int .i64 y] rfl (by omega) (fun j u hj => by
    have hz : ((⟨w.heap.size, 0, none⟩ : Addr).add j) = ⟨w.heap.size, j, none⟩ := by unfold Addr.add; split <;> simp_all
    rw [hz]
    have : (w.alloc (.cells #[.int .i64 y] 3)).cell? ⟨w.heap.size, j, none⟩ = (#[Value.int .i64 y] : Array Value)[j]? := cell_of_row _ _ _ _ _ (0, 0) (heap_alloc_new w _)
    rw [this]
    simpa using hj) (by simp [Value.oneCell']) (by simp only [maxLen]; omega) (by omega)
  obtain ⟨g, cap, hv, hBg, hgl⟩ : ∃ g cap, v' = .slice (some ⟨g, 0, none⟩) (n + 1) cap ∧ (w.alloc (.cells #[.int .i64 y] 3)).heap.size ≤ g ∧ g < w'.heap.size := r1.form (by omega)
  subst hv
  have hb2 : Below (w.alloc (.cells #[.int .i64 y] 3)).heap.size (w.alloc (.cells #[.int .i64 y] 3)) w' := (Below.refl _ _).grown r2 (Nat.le_refl _) (fun k hk => by cases hk)
  have hb3 : Below w.heap.size w w' := na.trans (hb2.mono na.size)
  have hy : Reads IntR 1 (w.alloc (.cells #[.int .i64 y] 3)) [.int .i64 y] [y] := Reads.one (vs := fun _ => .int .i64 y) rfl rfl (fun j hj => by cases j with | zero => rfl | succ j => omega)
  have ap := d5.append hy
  have own2 : OwnInts w' (w.alloc (.cells #[.int .i64 y] 3)).heap.size (.slice (some ⟨g, 0, none⟩) (n + 1) cap) (n + 1) (xs ++ [y]) :=
    ⟨_, r1, ap.keep IntR.kept hb2, by rw [List.length_append, src.len]; rfl⟩
  exact Lib.wpList_append_run _ hgd s x _ _ ho _ _ hs hx _ _ hr (K g cap w' (own2.base na.size) hb3)
theorem wpList_appNewAtW {α : Type} {R : World → (Nat → Value) → α → Prop} {t e size bytes : Nat} (T : SlTy t e size bytes) {ops : Array Oper} {rest : List Oper} {o : Oper} {a : Act} {Q : Exit → Act → World → Prop} (hgd : o.guard = none) (s x : Operand)
    (ho : o.op = .call { callee := .builtin .append, args := #[s, x], argTypes := #[t, t] })
    {w : World} {B : Nat} {v : Value} {n m : Nat} {xs : List α} (ys : List α) (us : Array Value) {H : Nat} (hs : a.eval s = v) (hx : a.eval x = .slice (some ⟨H, 0, none⟩) m m) (hH : H = w.heap.size) (hus : us.size = m * size) (one : ∀ u ∈ us.toList, u.oneCell' = true)
    (own : OwnSl R size w B e v n xs) (hread : Reads R size w us.toList ys) (hy : ys.length = m) (hB : B ≤ w.heap.size) (h63 : n + m ≤ 281474976710656) (hn : (n + m) * bytes ≤ 140737488355328)
    (hkeep : ∀ w', w.grownBy w' v.ownBlock → ∀ vs y, R w vs y → R w' vs y)
    (K : ∀ v' w', OwnSl R size w' B e v' (n + m) (xs ++ ys) → w.grownBy w' v.ownBlock → (v'.ownBlock = v.ownBlock ∨ v'.ownBlock = some (w.heap.size + 1)) → wpList Tryd.prog ops Q rest (a.put o.dst v') w') :
    wpList Tryd.prog ops Q (o :: rest) a (w.alloc (.cells us e)) := by
  subst hH
  obtain ⟨i, z, h1, h2, h3, h4, h5⟩ := T.info
  obtain ⟨cells, o1, o2, o3⟩ := own
  refine wpList_append_own_at (P := Tryd.prog) _ hgd s x t ho B e i z size bytes T.und h1 h2 h3 h4 h5 T.pos v n cells hs (o1.alloc _) ⟨w.heap.size, 0, none⟩ m m us.toList hx (by simpa using hus) (fun j u hj => ?_) one ?_ hn (by simp; omega) (fun v' w' h6 h7 _ h8 => ?_)
  · have hz : ((⟨w.heap.size, 0, none⟩ : Addr).add j) = ⟨w.heap.size, j, none⟩ := by unfold Addr.add; split <;> simp_all
    rw [hz]
    have : (w.alloc (.cells us e)).cell? ⟨w.heap.size, j, none⟩ = us[j]? := cell_of_row _ _ _ _ _ (0, 0) (heap_alloc_new w _)
    rw [this]
    simpa using hj
  · simp only [maxLen]; omega
  · have hg : w.grownBy w' v.ownBlock := ⟨h7.os, h7.tape, h7.output, Nat.le_trans (by simp) h7.size, fun k hk hne => (h7.block k (by simp; omega) hne).trans (heap_alloc_old w _ hk)⟩
    refine K v' w' ⟨_, h6, ?_, by rw [List.length_append, o3, hy]⟩ hg (by rw [World.size_alloc] at h8; exact h8)
    have := o2.append hread
    exact ⟨this.1, fun i x hx => by obtain ⟨vs, a, b⟩ := this.2 i x hx; exact ⟨vs, a, hkeep _ hg _ _ b⟩⟩
set_option maxRecDepth 100000 in
theorem clipInts_calls {w : World} {A : Option Addr} {n c : Nat} (h : n ≤ c) :
    Calls Tryd.prog 11 #[.slice A n c] w fun e w' => e = .returned (.slice A n n) ∧ w = w' := by
  go_enter Tryd.func11, Tryd.ntmps11
  have hi : (n : Int) ≤ (c : Int) := by omega
  go_wp2
  go_ret
  exact ⟨by first | rfl | simp, rfl⟩

/-! ### beginnings in memory -/
/-- A beginning: a word of the call's own, and where one can be behind it. -/
def StR (ars : List PArc) (lb : Int → Int) (n B : Nat) : World → (Nat → Value) → List Int → Prop := fun w vs v =>
  ∃ A c gs, vs 0 = .slice A v.length c ∧ OwnInts w B (.slice A v.length c) v.length v ∧ v.length ≤ 1000 ∧ vs 1 = .slice (some ⟨gs, 0, none⟩) n n ∧ OwnBools w B gs n (toldL ars lb v n v.length)
section
variable {ars : List PArc} {lb : Int → Int} {n B : Nat}
theorem StR.kept : Kept (StR ars lb n B) := fun _ _ _ _ hb ⟨A, c, gs, e0, o0, hl, e1, o1⟩ => ⟨A, c, gs, e0, OwnSl.keep IntR.kept o0 hb, hl, e1, o1.keep hb⟩
theorem StR.grown {B2 sz m e : Nat} {w w' : World} {v : Value} {cells : List Value} (hown : w.ownsRow B2 e sz v m cells) (h1 : 3 ≠ e) (h2 : 4 ≠ e) (hg : w.grownBy w' v.ownBlock) {vs : Nat → Value} {x : List Int} (h : StR ars lb n B w vs x) : StR ars lb n B w' vs x := by
  obtain ⟨A, c, gs, e0, ⟨c1, a1, a2, a3⟩, hl, e1, o1⟩ := h
  exact ⟨A, c, gs, e0, ⟨c1, a1.kept hg (own_ne a1 hown h1), ⟨a2.1, a2.2⟩, a3⟩, hl, e1, World.ownsRow.kept o1 hg (own_ne o1 hown h2)⟩
end
end Go.Proofs.YtniolbbhjibobaaDoor
namespace Go.Proofs.YtniolbbhjibobaaDoor
open Go.RowKit

/-- Function F, with what it captured, is a test of the integers of this list, in each later world. -/
structure IsPredB (F : FuncId) (cap : Array Value) (w : World) (xs : List Int) (p : Int → Bool) : Prop where
  enters : ∀ args w, (callFunc F args).run Tryd.prog w = .ok (.enter F args) w
  calls : ∀ (wr : World) (x : Int), Below w.heap.size w wr → x ∈ xs → Calls Tryd.prog F (#[.int .i64 x] ++ cap) wr fun e w' => e = .returned (.bool (p x)) ∧ Below wr.heap.size wr w'
theorem IsPredB.later {F : FuncId} {cap : Array Value} {w w' : World} {xs : List Int} {p : Int → Bool} (h : IsPredB F cap w xs p) (hb : Below w.heap.size w w') : IsPredB F cap w' xs p where
  enters := h.enters
  calls := fun wr a hb2 => h.calls wr a (hb.trans (hb2.mono hb.size))

/-- The state of DeleteFunc: so many kept, so many seen. -/
structure DelJ {α : Type} (p : α → Bool) (ars L : List α) (i j : Nat) : Prop where
  len : L.length = ars.length
  le : i ≤ j
  kept : L.take i = (ars.take j).filter fun a => !p a
  rest : ∀ q, j ≤ q → L[q]? = ars[q]?
section
variable {α : Type} {p : α → Bool} {ars L : List α} {i j : Nat} {a : α}
theorem DelJ.skip (h : DelJ p ars L i j) (ha : ars[j]? = some a) (hp : p a = true) : DelJ p ars L i (j + 1) where
  len := h.len
  le := by have := h.le; omega
  kept := by rw [take_snoc ha, List.filter_append, h.kept]; simp [hp]
  rest := fun q hq => h.rest q (by omega)
theorem DelJ.take (h : DelJ p ars L i j) (ha : ars[j]? = some a) (hp : p a = false) : DelJ p ars (L.set i a) (i + 1) (j + 1) where
  len := by rw [List.length_set]; exact h.len
  le := by have := h.le; omega
  kept := by
    have hj := (List.getElem?_eq_some_iff.1 ha).1
    have hl := h.len
    have hle := h.le
    rw [take_snoc ha, List.filter_append, ← h.kept, take_snoc (x := a) (List.getElem?_set_self (by omega)), List.take_set_of_le (Nat.le_refl _)]
    simp [hp]
  rest := fun q hq => by
    have := h.le
    rw [List.getElem?_set_ne (by omega)]
    exact h.rest q (by omega)
theorem first_orJ (p : α → Bool) : ∀ ars : List α, (∀ (j : Nat) (y : α), ars[j]? = some y → p y = false) ∨ ∃ (k : Nat) (x : α), ars[k]? = some x ∧ p x = true ∧ ∀ (j : Nat), j < k → ∀ y, ars[j]? = some y → p y = false
  | [] => .inl fun j y h => by simp at h
  | a :: l => by
    cases h : p a
    · rcases first_orJ p l with h1 | ⟨k, x, h1, h2, h3⟩
      · refine .inl fun j y hy => ?_
        match j, hy with
        | 0, hy => simp only [List.getElem?_cons_zero, Option.some.injEq] at hy; rw [← hy]; exact h
        | j + 1, hy => exact h1 j y (by simpa using hy)
      · refine .inr ⟨k + 1, x, by simpa using h1, h2, fun j hj y hy => ?_⟩
        match j, hj, hy with
        | 0, _, hy => simp only [List.getElem?_cons_zero, Option.some.injEq] at hy; rw [← hy]; exact h
        | j + 1, hj, hy => exact h3 j (by omega) y (by simpa using hy)
    · exact .inr ⟨0, a, rfl, h, fun j hj => absurd hj (by omega)⟩
theorem filter_noneJ {l : List α} (h : ∀ (j : Nat) (y : α), l[j]? = some y → p y = false) : l.filter (fun a => !p a) = l := by
  rw [List.filter_eq_self]
  intro a ha
  obtain ⟨j, hj, rfl⟩ := List.getElem_of_mem ha
  rw [h j _ (List.getElem?_eq_getElem hj)]
  rfl
theorem DelJ.start {k : Nat} {x : α} (hx : ars[k]? = some x) (hp : p x = true) (lo : ∀ (j : Nat), j < k → ∀ y, ars[j]? = some y → p y = false) : DelJ p ars ars k (k + 1) where
  len := rfl
  le := by omega
  kept := by
    rw [take_snoc hx, List.filter_append, filter_noneJ (fun j y hy => ?_)]
    · simp [hp]
    · rw [List.getElem?_take] at hy
      split at hy
      · exact lo j (by assumption) y hy
      · cases hy
  rest := fun q _ => rfl
end
theorem Ints.cut {w w' : World} {g n cap k : Nat} {L : List Int} (h : Ints w (some ⟨g, 0, none⟩) n cap L) (hk : k ≤ n) (hs : w.heap.size ≤ w'.heap.size) (hc : ∀ j, j < k → w'.cell? ⟨g, j, none⟩ = w.cell? ⟨g, j, none⟩) : Ints w' (some ⟨g, 0, none⟩) k cap (L.take k) := by
  refine ⟨by rw [List.length_take, h.len]; omega, by have := h.le; omega, h.cap, by have := h.small; omega, fun e => (by cases e), fun hk0 => ?_⟩
  obtain ⟨b, off, e, hb, hcells⟩ := h.cells (by omega)
  injection e with e
  injection e with e1 e2
  subst e1 e2
  refine ⟨g, 0, rfl, Nat.lt_of_lt_of_le hb hs, fun i x hx => ?_⟩
  rw [List.getElem?_take] at hx
  split at hx
  · obtain ⟨vs, a1, a2⟩ := hcells i x hx
    refine ⟨vs, fun j hj => ?_, a2⟩
    rw [Nat.zero_add, hc _ (by omega), ← a1 j hj, Nat.zero_add]
  · cases hx
theorem own_setCells {B e g n cap : Nat} : ∀ (vs : List Value) (o : Nat) (w : World) (cells : List Value), w.ownsRow B e 1 (.slice (some ⟨g, 0, none⟩) n cap) n cells →
    ∃ cells', (w.setCells g o vs).ownsRow B e 1 (.slice (some ⟨g, 0, none⟩) n cap) n cells' ∧ cells'.take o = cells.take o
  | [], o, w, cells, h => ⟨cells, h, rfl⟩
  | v :: r, o, w, cells, h => by
    obtain ⟨c2, h1, h2⟩ := own_setCells r (o + 1) (w.setCell ⟨g, o, none⟩ v) _ (h.stored o v).1
    refine ⟨c2, h1, ?_⟩
    have e1 : c2.take o = (c2.take (o + 1)).take o := by rw [List.take_take]; congr 1; omega
    rw [e1, h2, List.take_take, Nat.min_eq_left (by omega), List.take_set_of_le (Nat.le_refl _)]
theorem own_pre {w : World} {B e n k g cap : Nat} {cells : List Value} (h : w.ownsRow B e 1 (.slice (some ⟨g, 0, none⟩) n cap) n cells) (hk : k ≤ n) : w.ownsRow B e 1 (.slice (some ⟨g, 0, none⟩) k cap) k (cells.take k) := by
  obtain ⟨h0, h1⟩ := h
  refine ⟨by rw [List.length_take]; omega, ?_⟩
  rcases h1 with ⟨hv, _⟩ | ⟨g', cap', cur, hv, hg, hb, a1, a2, a3, a4⟩
  · cases hv
  · injection hv with e1 e2 e3
    subst e3
    injection e1 with e1
    injection e1 with e1
    subst e1
    refine .inr ⟨g, cap, cur, rfl, hg, hb, by omega, a2, a3, ?_⟩
    rw [← a4, List.take_take]
    congr 1
    omega
theorem OwnInts.anyCell {w : World} {B g n cap : Nat} {xs : List Int} (h : OwnInts w B (.slice (some ⟨g, 0, none⟩) n cap) n xs) {j : Nat} (hj : j < n) : (w.cell? ⟨g, j, none⟩).isSome = true := by
  rw [h.at (List.getElem?_eq_getElem (by rw [h.len]; exact hj))]; rfl

end Go.Proofs.YtniolbbhjibobaaDoor
namespace Go.Proofs.YtniolbbhjibobaaDoor

def rotS (b : Nat) : Nat := b * 2 % 256 + b / 128
def rotI (b : Nat) : Nat → Nat
  | 0 => b
  | k + 1 => rotS (rotI b k)
def sumF (bs : List Nat) : Nat := bs.zipIdx.foldl (fun x p => x ^^^ rotI p.1 p.2) 90
structure POp where
  kind : Int
  user : Int
  tran : Int
  item : Int
  to_ : Int
def opOf (bs : List Nat) : POp := ⟨bs.getD 0 0, bs.getD 1 0, bs.getD 2 0, ((bs.getD 4 0 * 256 + bs.getD 5 0 : Nat) : Int), bs.getD 3 0⟩
def readL (bs : List Nat) : List POp × Int × Int :=
  if h : bs.length < 7 then ([], 0, 0)
  else if sumF (bs.take 6) = bs.getD 6 0 then (opOf bs :: (readL (bs.drop 7)).1, (readL (bs.drop 7)).2.1 + 7, (readL (bs.drop 7)).2.2)
  else ([], 0, 8)
termination_by bs.length
decreasing_by all_goals (rw [List.length_drop]; omega)
theorem readL_short {bs : List Nat} (h : bs.length < 7) : readL bs = ([], 0, 0) := by rw [readL, dif_pos h]
theorem readL_good {bs : List Nat} (h : ¬ bs.length < 7) (hs : sumF (bs.take 6) = bs.getD 6 0) : readL bs = (opOf bs :: (readL (bs.drop 7)).1, (readL (bs.drop 7)).2.1 + 7, (readL (bs.drop 7)).2.2) := by rw [readL, dif_neg h, if_pos hs]
/-- So far, as one goes on from 7 to 7. -/
structure ReadI (bs : List Nat) (j : Nat) (out : List POp) : Prop where
  eq : readL bs = (out ++ (readL (bs.drop (7 * j))).1, ((7 * j : Nat) : Int) + (readL (bs.drop (7 * j))).2.1, (readL (bs.drop (7 * j))).2.2)
  len : out.length = j
theorem ReadI.start (bs : List Nat) : ReadI bs 0 [] := ⟨by simp, rfl⟩
theorem ReadI.next {bs : List Nat} {j : Nat} {out : List POp} (h : ReadI bs j out) (hl : 7 * j + 7 ≤ bs.length) (hs : sumF ((bs.drop (7 * j)).take 6) = (bs.drop (7 * j)).getD 6 0) : ReadI bs (j + 1) (out ++ [opOf (bs.drop (7 * j))]) := by
  refine ⟨?_, by simp [h.len]⟩
  rw [h.eq, readL_good (by rw [List.length_drop]; omega) hs, List.drop_drop, show 7 * j + 7 = 7 * (j + 1) from by omega]
  simp only [List.append_assoc, List.singleton_append, Prod.mk.injEq, true_and, and_true]
  omega
theorem ReadI.fin {bs : List Nat} {j : Nat} {out : List POp} (h : ReadI bs j out) (hl : bs.length < 7 * j + 7) : readL bs = (out, ((7 * j : Nat) : Int), 0) := by
  rw [h.eq, readL_short (by rw [List.length_drop]; omega)]; simp
end Go.Proofs.YtniolbbhjibobaaDoor
namespace Go.Proofs.YtniolbbhjibobaaDoor
open Go.RowKit

def ByteR : World → (Nat → Value) → Nat → Prop := fun _ vs b => vs 0 = .int .u8 (b : Int) ∧ b < 256
theorem ByteR.kept : Kept ByteR := fun _ _ _ _ _ h => h
theorem ByteR.good : Good ByteR 1 where
  kept := ByteR.kept
  one := fun w vs x h j hj => by
    obtain rfl : j = 0 := by omega
    rw [h.1]; rfl
  pos := by omega
abbrev Bts (w : World) (A : Option Addr) (n c : Nat) (bs : List Nat) : Prop := Sl ByteR 1 w A n c bs
theorem Bts.get {w : World} {A : Option Addr} {n c k : Nat} {bs : List Nat} (h : Bts w A n c bs) (hk : k < n) :
    ∃ b off x, A = some ⟨b, off, none⟩ ∧ b < w.heap.size ∧ Hid (bs[k]? = some x) ∧ w.cell? ⟨b, off + k, none⟩ = some (.int .u8 (x : Int)) ∧ x < 256 := by
  obtain ⟨b, off, x, vs, h1, h2, h3, h4, h5, h6⟩ := Sl.get h hk
  refine ⟨b, off, x, h1, h2, h3, ?_, h6⟩
  have := h4 0 (by omega)
  rw [h5] at this
  simpa using this
theorem Bts.lt {w : World} {A : Option Addr} {n c : Nat} {bs : List Nat} (h : Bts w A n c bs) : ∀ b ∈ bs, b < 256 := by
  intro b hb
  obtain ⟨i, hi, rfl⟩ := List.getElem_of_mem hb
  obtain ⟨_, _, x, _, _, hx, _, hlt⟩ := Bts.get h (k := i) (by rw [← h.len]; exact hi)
  have := hx.out
  rw [List.getElem?_eq_getElem hi] at this
  injection this with this
  omega
end Go.Proofs.YtniolbbhjibobaaDoor
namespace Go.Proofs.YtniolbbhjibobaaDoor
open Go.RowKit

/-- A new row, all of it used. -/
theorem OwnSl.row {α : Type} {R : World → (Nat → Value) → α → Prop} {sz : Nat} {w : World} {B e n : Nat} {us : Array Value} {xs : List α} (hB : B ≤ w.heap.size) (hus : us.size = n * sz) (hn : n ≤ maxLen) (hr : Reads R sz (w.alloc (.cells us e)) us.toList xs) (hl : xs.length = n) :
    OwnSl R sz (w.alloc (.cells us e)) B e (.slice (some ⟨w.heap.size, 0, none⟩) n n) n xs :=
  ⟨us.toList, ⟨by simpa using hus, .inr ⟨w.heap.size, n, us, rfl, hB, heap_alloc_new w _, Nat.le_refl _, hn, hus, by rw [List.take_of_length_le (by simp [hus])]⟩⟩, hr, hl⟩
theorem Reads.bytes {w : World} {us : List Value} {bs : List Nat} (h : us = bs.map fun b : Nat => Value.int .u8 (b : Int)) (hb : ∀ b ∈ bs, b < 256) : Reads ByteR 1 w us bs := by
  subst h
  refine ⟨by simp, fun i x hx => ⟨fun _ => .int .u8 (x : Int), fun j hj => ?_, rfl, hb x (List.mem_of_getElem? hx)⟩⟩
  obtain rfl : j = 0 := by omega
  simp [hx]
end Go.Proofs.YtniolbbhjibobaaDoor
namespace Go.Proofs.YtniolbbhjibobaaDoor
open Go.RowKit

theorem Ints.box {w : World} {g n : Nat} {us : Array Value} {xs : List Int} (h : Box w g 3 us) (hu : us.toList = xs.map (Value.int .i64)) (hl : xs.length = n) (hn : n ≤ 1000) : Ints w (some ⟨g, 0, none⟩) n n xs :=
  ⟨hl, Nat.le_refl _, by simp only [maxLen]; omega, by omega, fun e => (by cases e), fun _ => ⟨g, 0, rfl, h.lt, fun i x hx => ⟨fun _ => .int .i64 x, fun j hj => by
    obtain rfl : j = 0 := by omega
    rw [h.cell, ← Array.getElem?_toList, hu, List.getElem?_map]
    simp [hx], rfl⟩⟩⟩
end Go.Proofs.YtniolbbhjibobaaDoor
namespace Go.Proofs.YtniolbbhjibobaaDoor
open Go.RowKit

def DOpR : World → (Nat → Value) → POp → Prop := fun _ vs o => vs 0 = .int .i64 o.kind ∧ vs 1 = .int .i64 o.user ∧ vs 2 = .int .i64 o.tran ∧ vs 3 = .int .i64 o.item ∧ vs 4 = .int .i64 o.to_
theorem DOpR.kept : Kept DOpR := fun _ _ _ _ _ h => h
theorem DOpR.good : Good DOpR 5 where
  kept := DOpR.kept
  one := fun w vs x h j hj => by
    obtain ⟨h0, h1, h2, h3, h4⟩ := h
    match j, hj with
    | 0, _ => rw [h0]; rfl
    | 1, _ => rw [h1]; rfl
    | 2, _ => rw [h2]; rfl
    | 3, _ => rw [h3]; rfl
    | 4, _ => rw [h4]; rfl
  pos := by omega
end Go.Proofs.YtniolbbhjibobaaDoor
namespace Go.Proofs.YtniolbbhjibobaaDoor
open Go.RowKit

def strB (bs : List Nat) : ByteArray := strOfNums (bs.map fun b : Nat => (b : Int))
end Go.Proofs.YtniolbbhjibobaaDoor
namespace Go.Proofs.YtniolbbhjibobaaDoor
open Go.RowKit

end Go.Proofs.YtniolbbhjibobaaDoor
