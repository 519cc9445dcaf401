/- Texts melted into one: Slices that a call makes for itself: appended to, or made whole; what they read as when they are handed back. Conditions: the lengths stay below what memory bears. | What lists of lists of integers read as. Conditions: none. | From a reading of an argument, as the rows tell it, to the words of this seat. Conditions: none. | From a reading of an argument to lists of lists. Conditions: none. | Blocks, plain: what is wrong with one. No program in sight. | The plain law of blocks' words: the language of a block, its shortest word, what may be left of it behind a letter. No program in sight. | The plain law of blocks' words: the shortest word is the shortest; what may be left behind a letter is right. No program in sight. -/
import Derived.Test.YtniolbbhjibobaaDoorBlocksListK01
import Derived.ProofKit
import Derived.OpenShut
import Derived.SizedLaws
import Derived.Deep.Slices
import Derived.Deep.Fields
import Derived.Lib.SmallJoins
set_option linter.all false
namespace Go.Proofs.YtniolbbhjibobaaDoor
open Go.RowKit

/-- Slice type t has elements of type e, of so many cells and bytes. -/
structure SlTy (t e size bytes : Nat) : Prop where
  und : Tryd.prog.underlying t = some (.slice e)
  info : ∃ i z, Tryd.prog.info? e = some i ∧ i.zero = some z ∧ i.size = size ∧ i.bytes = bytes ∧ z.cells.size = size
  pos : 0 < size
theorem SlTy.mk' {t e size bytes : Nat} {z : Value} (h1 : Tryd.prog.underlying t = some (.slice e)) (h2 : (Tryd.prog.info? e).map (fun i => (i.zero, i.size, i.bytes)) = some (some z, size, bytes)) (h3 : z.cells.size = size) (h4 : 0 < size) : SlTy t e size bytes := by
  obtain ⟨i, hi, hz0, hz1, hz2⟩ := info_parts h2
  exact ⟨h1, ⟨i, z, hi, hz0, hz1, hz2, h3⟩, h4⟩
theorem tyInts : SlTy 32 3 1 8 := SlTy.mk' (z := .int .i64 0) Tryd.underlying32 (by kernel_rfl) rfl (by decide)

theorem infoInt : (Tryd.prog.info? 3).map (fun i => (i.zero, i.size, i.bytes)) = some (some (.int .i64 0), 1, 8) := by kernel_rfl
/-! ### a slice of the call's own, and what it reads as -/
def OwnSl {α : Type} (R : World → (Nat → Value) → α → Prop) (sz : Nat) (w : World) (B e : Nat) (v : Value) (n : Nat) (xs : List α) : Prop :=
  ∃ cells, w.ownsRow B e sz v n cells ∧ Reads R sz w cells xs ∧ xs.length = n
abbrev OwnInts (w : World) (B : Nat) (v : Value) (n : Nat) (xs : List Int) : Prop := OwnSl IntR 1 w B 3 v n xs
section
variable {α : Type} {R : World → (Nat → Value) → α → Prop} {sz : Nat} {w w' : World} {B e : Nat} {v : Value} {n : Nat} {xs : List α}
theorem OwnSl.nil : OwnSl R sz w B e (.slice none 0 0) 0 [] := ⟨[], World.ownsRow_nil _ _ _ _, Reads.nil, rfl⟩
theorem OwnSl.lt (h : OwnSl R sz w B e v n xs) : ∀ k, v.ownBlock = some k → B ≤ k ∧ k < w.heap.size := by
  obtain ⟨cells, h1, h2⟩ := h
  exact h1.lt
theorem OwnSl.kept (h : OwnSl R sz w B e v n xs) {row : Option Nat} (hg : w.grownBy w' row) (hne : v.ownBlock = none ∨ v.ownBlock ≠ row) (hb : ∀ vs x, R w vs x → R w' vs x) : OwnSl R sz w' B e v n xs := by
  obtain ⟨cells, h1, h2, h3⟩ := h
  exact ⟨cells, h1.kept hg hne, ⟨h2.1, fun i x hx => by obtain ⟨vs, a, b⟩ := h2.2 i x hx; exact ⟨vs, a, hb _ _ b⟩⟩, h3⟩
/-- Nothing that was there has turned: what is owned is owned still. -/
theorem OwnSl.keep (hR : Kept R) (h : OwnSl R sz w B e v n xs) (hb : Below w.heap.size w w') : OwnSl R sz w' B e v n xs := by
  refine h.kept (row := none) ⟨hb.os, hb.tape, hb.output, hb.size, fun k hk _ => hb.block k hk⟩ ?_ (fun vs x hx => hR _ _ _ _ hb hx)
  cases v.ownBlock <;> simp
theorem OwnSl.sl (h : OwnSl R sz w B e v n xs) (hn : n ≤ 281474976710656) : ∃ A c, v = .slice A n c ∧ Sl R sz w A n c xs := by
  obtain ⟨cells, h1, h2, h3⟩ := h
  rcases h1.2 with ⟨rfl, rfl⟩ | ⟨g, cap, cur, rfl, hg, hh, hnc, hcap, hcs, htake⟩
  · exact ⟨none, 0, rfl, h3, Nat.le_refl _, by simp [maxLen], by omega, fun _ => rfl, fun h => absurd h (by omega)⟩
  · refine ⟨_, cap, rfl, h3, hnc, hcap, hn, fun h => (by cases h), fun _ => ⟨g, 0, rfl, (Array.getElem?_eq_some_iff.1 hh).1, fun i x hx => ?_⟩⟩
    obtain ⟨vs, h4, h5⟩ := h2.2 i x hx
    refine ⟨vs, fun j hj => ?_, h5⟩
    have hi : i < n := by have := (List.getElem?_eq_some_iff.1 hx).1; omega
    have hlt : i * sz + j < n * sz := by
      have : (i + 1) * sz ≤ n * sz := Nat.mul_le_mul_right _ hi
      rw [Nat.add_mul] at this
      omega
    rw [Nat.zero_add, h1.cellAt _ hlt]
    exact h4 j hj
theorem OwnSl.len (h : OwnSl R sz w B e v n xs) : xs.length = n := h.choose_spec.2.2
end
theorem OwnInts.of_row {w : World} {B : Nat} {v : Value} {n : Nat} {xs : List Int} (h : w.ownsRow B 3 1 v n (xs.map (Value.int .i64))) : OwnInts w B v n xs := by
  have hl : xs.length = n := by have := h.1; simpa using this
  refine ⟨_, h, ⟨by simp, fun i x hx => ⟨fun _ => .int .i64 x, fun j hj => ?_, rfl⟩⟩, hl⟩
  have : j = 0 := by omega
  subst this
  simp [List.getElem?_map, hx]
end Go.Proofs.YtniolbbhjibobaaDoor
namespace Go.Proofs.YtniolbbhjibobaaDoor
open Go.RowKit

def ListR : World → (Nat → Value) → List Int → Prop := fun w vs xs => ∃ A n c, vs 0 = .slice A n c ∧ Ints w A n c xs ∧ n ≤ 17592186043904
theorem ListR.kept : Kept ListR := fun _ _ _ _ hb ⟨A, n, c, e, i, l⟩ => ⟨A, n, c, e, i.keep hb, l⟩
theorem ListR.good : Good ListR 1 where
  kept := ListR.kept
  one := fun w vs x h j hj => by
    obtain rfl : j = 0 := by omega
    obtain ⟨A, n, c, e, _⟩ := h
    rw [e]; rfl
  pos := by omega
abbrev Lists (w : World) (A : Option Addr) (n c : Nat) (xs : List (List Int)) : Prop := Sl ListR 1 w A n c xs
theorem Lists.get {w : World} {A : Option Addr} {n c k : Nat} {xs : List (List Int)} (h : Lists w A n c xs) (hk : k < n) :
    ∃ b off x B m d, A = some ⟨b, off, none⟩ ∧ b < w.heap.size ∧ Hid (xs[k]? = some x) ∧ w.cell? ⟨b, off + k, none⟩ = some (.slice B m d) ∧ Ints w B m d x ∧ m ≤ 17592186043904 := by
  obtain ⟨b, off, x, vs, h1, h2, h3, h4, B, m, d, e, i, l⟩ := Sl.get h hk
  refine ⟨b, off, x, B, m, d, h1, h2, h3, ?_, i, l⟩
  have := h4 0 (by omega)
  rw [e] at this
  simpa using this
end Go.Proofs.YtniolbbhjibobaaDoor
namespace Go.Proofs.YtniolbbhjibobaaDoor
open Go.ChangeShapes Go.WideShapes Go.ChangeAt Go.RowKit Go.Deep

section
variable {H : Type} {enc : TypeId × Value → H} {W : World}

theorem weightsAll_mem {e : TypeId} : ∀ {l : List (DataW H)} {d : DataW H}, d ∈ l → ∀ x ∈ d.weights Tryd.prog e, x ∈ DataW.weightsAll Tryd.prog e l
  | d0 :: l, d, hd, x, hx => by
    unfold DataW.weightsAll
    rw [List.mem_append]
    rcases List.mem_cons.1 hd with rfl | h
    · exact .inl hx
    · exact .inr (weightsAll_mem h x hx)

theorem add_none {b off : Nat} {s : Option Nat} {q : Nat} {w : World} {v : Value} (h : w.cell? ((⟨b, off, s⟩ : Addr).add q) = some v) (h0 : s = none) : w.cell? ⟨b, off + q, none⟩ = some v := by
  subst h0
  unfold Addr.add at h
  by_cases hq : q = 0
  · subst hq; simpa using h
  · rw [if_neg hq] at h; exact h

end
end Go.Proofs.YtniolbbhjibobaaDoor
namespace Go.Proofs.YtniolbbhjibobaaDoor
open Go.ChangeShapes Go.WideShapes Go.ChangeAt Go.RowKit Go.Deep
section
variable {H : Type} {enc : TypeId × Value → H} {W : World}

end
end Go.Proofs.YtniolbbhjibobaaDoor
namespace Go.Proofs.YtniolbbhjibobaaDoor

inductive PBlk where
  | mk (kind label : Int) (kids : List PBlk)
def PBlk.kind : PBlk → Int | .mk k _ _ => k
def PBlk.label : PBlk → Int | .mk _ l _ => l
def PBlk.kids : PBlk → List PBlk | .mk _ _ ks => ks
/-- What is wrong with a block itself. -/
def headB (k l : Int) (n : Nat) : Int :=
  if k < 1 ∨ 6 < k then 5 else if k = 2 ∧ (l < 1 ∨ 26 < l) then 2 else if (k < 3 ∧ 0 < n) ∨ (3 ≤ k ∧ n = 0) ∨ (k = 6 ∧ n ≠ 2) then 1 else 0
def stepC (g : PBlk → Nat → Nat × Int) (s : Nat × Int) (k : PBlk) : Nat × Int := if s.2 = 0 then g k s.1 else s
/-- How many there are, and what is wrong. -/
def chkB : Nat → PBlk → Nat → Nat × Int
  | 0, _, had => (had + 1, 4)
  | f + 1, b, had => if 40 < had + 1 then (had + 1, 4) else if headB b.kind b.label b.kids.length ≠ 0 then (had + 1, headB b.kind b.label b.kids.length) else b.kids.foldl (stepC (chkB f)) (had + 1, 0)
def wrongB (b : PBlk) : Int := (chkB 41 b 0).2
theorem stepC_stay {g : PBlk → Nat → Nat × Int} {s : Nat × Int} (h : s.2 ≠ 0) : ∀ l : List PBlk, l.foldl (stepC g) s = s := fun l => by
  induction l with
  | nil => rfl
  | cons a l ih => rw [List.foldl_cons, stepC, if_neg h]; exact ih
theorem foldC_take {g : PBlk → Nat → Nat × Int} {s : Nat × Int} {l : List PBlk} {i : Nat} {x : PBlk} (h : l[i]? = some x) : (l.take (i + 1)).foldl (stepC g) s = stepC g ((l.take i).foldl (stepC g) s) x := by
  rw [List.take_add_one, h, List.foldl_append]; rfl
theorem foldC_bad {g : PBlk → Nat → Nat × Int} {s : Nat × Int} {l : List PBlk} {i : Nat} (h : ((l.take i).foldl (stepC g) s).2 ≠ 0) : l.foldl (stepC g) s = (l.take i).foldl (stepC g) s := by
  have e := List.take_append_drop i l
  rw [← e, List.foldl_append, e]
  exact stepC_stay h _

theorem chkB_ok : ∀ (f : Nat) (b : PBlk) (had : Nat), (chkB f b had).2 = 0 → had + 1 ≤ (chkB f b had).1 ∧ (chkB f b had).1 ≤ 40
  | 0, b, had, h => by rw [chkB] at h; cases h
  | f + 1, b, had, h => by
    have key : ∀ (l : List PBlk) (s : Nat × Int), (l.foldl (stepC (chkB f)) s).2 = 0 → s.2 = 0 ∧ s.1 ≤ (l.foldl (stepC (chkB f)) s).1 ∧ (s.1 ≤ 40 → (l.foldl (stepC (chkB f)) s).1 ≤ 40) := fun l => by
      induction l with
      | nil => exact fun s h => ⟨h, Nat.le_refl _, id⟩
      | cons a l ih =>
        intro s h
        rw [List.foldl_cons] at h ⊢
        obtain ⟨i1, i2, i3⟩ := ih _ h
        by_cases hs : s.2 = 0
        · rw [stepC, if_pos hs] at i1 i2 i3 ⊢
          obtain ⟨j1, j2⟩ := chkB_ok f a s.1 i1
          exact ⟨hs, by omega, fun _ => i3 j2⟩
        · rw [stepC, if_neg hs] at i1
          exact absurd i1 hs
    rw [chkB] at h ⊢
    split at h
    · cases h
    · rename_i h1
      rw [if_neg h1]
      split at h
      · rename_i h2; exact absurd h h2
      · rename_i h2
        rw [if_neg h2]
        obtain ⟨_, k2, k3⟩ := key _ _ h
        exact ⟨k2, k3 (by simp only; omega)⟩
end Go.Proofs.YtniolbbhjibobaaDoor
namespace Go.Proofs.YtniolbbhjibobaaDoor

/-- w is a mixture of u and v. -/
inductive Mix : List Int → List Int → List Int → Prop
  | nil : Mix [] [] []
  | left {x : Int} {u v w : List Int} : Mix u v w → Mix (x :: u) v (x :: w)
  | right {x : Int} {u v w : List Int} : Mix u v w → Mix u (x :: v) (x :: w)
/-- As often as one likes: one of X, then one of Y. -/
inductive Rep (X Y : List Int → Prop) : List Int → Prop
  | nil : Rep X Y []
  | more {x y v : List Int} : X x → Y y → Rep X Y v → Rep X Y (x ++ (y ++ v))
def loopP (A B : List Int → Prop) (w : List Int) : Prop := ∃ u v, w = u ++ v ∧ A u ∧ Rep B A v
mutual
def lang : PBlk → List Int → Prop
  | .mk k l ks => fun w => (k = 1 ∧ w = []) ∨ (k = 2 ∧ w = [l]) ∨ (k = 3 ∧ langS ks w) ∨ (k = 4 ∧ langC ks w) ∨ (k = 5 ∧ langM ks w) ∨ (k = 6 ∧ langL ks w)
def langS : List PBlk → List Int → Prop
  | [] => fun w => w = []
  | b :: bs => fun w => ∃ u v, w = u ++ v ∧ lang b u ∧ langS bs v
def langC : List PBlk → List Int → Prop
  | [] => fun _ => False
  | b :: bs => fun w => lang b w ∨ langC bs w
def langM : List PBlk → List Int → Prop
  | [] => fun w => w = []
  | b :: bs => fun w => ∃ u v, Mix u v w ∧ lang b u ∧ langM bs v
def langL : List PBlk → List Int → Prop
  | [] => fun _ => False
  | b :: bs => fun w => loopP (lang b) (langC bs) w
end
/-! ### the shortest word -/
mutual
def leastB : PBlk → Nat
  | .mk k _ ks => if k = 2 then 1 else leastK k true 0 ks
/-- first: this is the first one; n: what is told so far. -/
def leastK (k : Int) : Bool → Nat → List PBlk → Nat
  | _, n, [] => n
  | first, n, b :: bs => leastK k false (if first then leastB b else if k = 4 then min n (leastB b) else if k ≠ 6 then n + leastB b else n) bs
end
/-! ### behind a letter -/
def silB : PBlk := .mk 1 0 []
def thnB (a b : PBlk) : PBlk := if a.kind = 1 then b else if b.kind = 1 then a else .mk 3 0 [a, b]
mutual
def afterB : PBlk → Int → List PBlk
  | .mk k l ks, a => if k = 2 then (if l = a then [silB] else []) else if k = 3 then afterS ks a else if k = 4 then afterC ks a else if k = 5 then afterM [] ks a else if k = 6 then afterL l ks a else []
def afterS : List PBlk → Int → List PBlk
  | [], _ => []
  | b :: bs, a => (afterB b a).map (fun x => thnB x (if bs.isEmpty then silB else .mk 3 0 bs)) ++ (if leastB b = 0 then afterS bs a else [])
def afterC : List PBlk → Int → List PBlk
  | [], _ => []
  | b :: bs, a => afterB b a ++ afterC bs a
def afterM : List PBlk → List PBlk → Int → List PBlk
  | _, [], _ => []
  | pre, b :: bs, a => (afterB b a).map (fun x => .mk 5 0 (pre ++ x :: bs)) ++ afterM (pre ++ [b]) bs a
def afterL (l : Int) : List PBlk → Int → List PBlk
  | [], _ => []
  | b :: bs, a => (afterB b a).map (fun x => thnB x (.mk 4 0 [silB, thnB (bs.getD 0 silB) (.mk 6 l (b :: bs))])) ++ (if leastB b = 0 then (afterC bs a).map (fun x => thnB x (.mk 6 l (b :: bs))) else [])
end
end Go.Proofs.YtniolbbhjibobaaDoor
namespace Go.Proofs.YtniolbbhjibobaaDoor

/-! ### mixtures -/
theorem Mix.nil_left : ∀ {v w : List Int}, Mix [] v w → v = w
  | _, _, .nil => rfl
  | _, _, .right h => by rw [h.nil_left]
theorem Mix.nil_right : ∀ {u w : List Int}, Mix u [] w → u = w
  | _, _, .nil => rfl
  | _, _, .left h => by rw [h.nil_right]
theorem Mix.self_left : ∀ u : List Int, Mix u [] u
  | [] => .nil
  | _ :: u => .left (Mix.self_left u)
theorem Mix.self_right : ∀ u : List Int, Mix [] u u
  | [] => .nil
  | _ :: u => .right (Mix.self_right u)
theorem Mix.len {u v w : List Int} (h : Mix u v w) : w.length = u.length + v.length := by
  induction h with
  | nil => rfl
  | left _ ih => simp only [List.length_cons, ih]; omega
  | right _ ih => simp only [List.length_cons, ih]; omega
theorem Mix.mem {u v w : List Int} (h : Mix u v w) (c : Int) : c ∈ w ↔ c ∈ u ∨ c ∈ v := by
  induction h with
  | nil => simp
  | left _ ih => simp only [List.mem_cons, ih]; exact ⟨fun | .inl h => .inl (.inl h) | .inr (.inl h) => .inl (.inr h) | .inr (.inr h) => .inr h, fun | .inl (.inl h) => .inl h | .inl (.inr h) => .inr (.inl h) | .inr h => .inr (.inr h)⟩
  | right _ ih => simp only [List.mem_cons, ih]; exact ⟨fun | .inl h => .inr (.inl h) | .inr (.inl h) => .inl h | .inr (.inr h) => .inr (.inr h), fun | .inl h => .inr (.inl h) | .inr (.inl h) => .inl h | .inr (.inr h) => .inr (.inr h)⟩
theorem Mix.cat : ∀ u v : List Int, Mix u v (u ++ v)
  | [], v => Mix.self_right v
  | _ :: u, v => .left (Mix.cat u v)
theorem Mix.assoc {u v w : List Int} (h : Mix u v w) : ∀ {s t : List Int}, Mix s t u → ∃ z, Mix t v z ∧ Mix s z w := by
  induction h with
  | nil => intro s t h; cases h; exact ⟨[], .nil, .nil⟩
  | left _ ih =>
    intro s t h
    cases h with
    | left h => obtain ⟨z, h1, h2⟩ := ih h; exact ⟨z, h1, .left h2⟩
    | right h => obtain ⟨z, h1, h2⟩ := ih h; exact ⟨_, .left h1, .right h2⟩
  | right _ ih =>
    intro s t h
    obtain ⟨z, h1, h2⟩ := ih h
    exact ⟨_, .right h1, .right h2⟩
theorem Mix.assoc' {s z w : List Int} (h : Mix s z w) : ∀ {t v : List Int}, Mix t v z → ∃ u, Mix s t u ∧ Mix u v w := by
  induction h with
  | nil => intro t v h; cases h; exact ⟨[], .nil, .nil⟩
  | left _ ih =>
    intro t v h
    obtain ⟨u, h1, h2⟩ := ih h
    exact ⟨_, .left h1, .left h2⟩
  | right _ ih =>
    intro t v h
    cases h with
    | left h => obtain ⟨u, h1, h2⟩ := ih h; exact ⟨_, .right h1, .left h2⟩
    | right h => obtain ⟨u, h1, h2⟩ := ih h; exact ⟨u, h1, .right h2⟩

/-! ### the language, kind by kind -/
theorem lang_1 {l : Int} {ks : List PBlk} {w : List Int} : lang (.mk 1 l ks) w ↔ w = [] := by simp [lang]
theorem lang_2 {l : Int} {ks : List PBlk} {w : List Int} : lang (.mk 2 l ks) w ↔ w = [l] := by simp [lang]
theorem lang_3 {l : Int} {ks : List PBlk} {w : List Int} : lang (.mk 3 l ks) w ↔ langS ks w := by simp [lang]
theorem lang_4 {l : Int} {ks : List PBlk} {w : List Int} : lang (.mk 4 l ks) w ↔ langC ks w := by simp [lang]
theorem lang_5 {l : Int} {ks : List PBlk} {w : List Int} : lang (.mk 5 l ks) w ↔ langM ks w := by simp [lang]
theorem lang_6 {l : Int} {ks : List PBlk} {w : List Int} : lang (.mk 6 l ks) w ↔ langL ks w := by simp [lang]
theorem lang_k1 {b : PBlk} (h : b.kind = 1) {w : List Int} : lang b w ↔ w = [] := by
  obtain ⟨k, l, ks⟩ := b
  simp only [PBlk.kind] at h
  subst h
  exact lang_1
theorem lang_then {x y : PBlk} {w : List Int} : lang (thnB x y) w ↔ ∃ u v, w = u ++ v ∧ lang x u ∧ lang y v := by
  unfold thnB
  split
  · rename_i h
    constructor
    · exact fun hw => ⟨[], w, rfl, (lang_k1 h).2 rfl, hw⟩
    · rintro ⟨u, v, rfl, hu, hv⟩
      rw [(lang_k1 h).1 hu]
      exact hv
  · split
    · rename_i h
      constructor
      · exact fun hw => ⟨w, [], by simp, hw, (lang_k1 h).2 rfl⟩
      · rintro ⟨u, v, rfl, hu, hv⟩
        rw [(lang_k1 h).1 hv, List.append_nil]
        exact hu
    · rw [lang_3]
      constructor
      · rintro ⟨u, v, rfl, hu, u2, v2, rfl, hu2, rfl⟩
        exact ⟨u, u2, by simp, hu, hu2⟩
      · rintro ⟨u, v, rfl, hu, hv⟩
        exact ⟨u, v, rfl, hu, v, [], by simp, hv, rfl⟩
theorem langC_iff : ∀ {ks : List PBlk} {w : List Int}, langC ks w ↔ ∃ b ∈ ks, lang b w
  | [], w => by simp [langC]
  | b :: bs, w => by simp [langC, langC_iff (ks := bs)]
theorem langM_app : ∀ {ps ks : List PBlk} {w : List Int}, langM (ps ++ ks) w ↔ ∃ u v, Mix u v w ∧ langM ps u ∧ langM ks v
  | [], ks, w => by
    constructor
    · exact fun h => ⟨[], w, Mix.self_right w, rfl, h⟩
    · rintro ⟨u, v, h, rfl, hv⟩
      rw [← h.nil_left]
      exact hv
  | p :: ps, ks, w => by
    constructor
    · rintro ⟨u, v, h, hu, hv⟩
      obtain ⟨s, t, h2, hs, ht⟩ := langM_app.1 hv
      obtain ⟨z, g1, g2⟩ := h.assoc' h2
      exact ⟨z, t, g2, ⟨u, s, g1, hu, hs⟩, ht⟩
    · rintro ⟨u, v, h, ⟨s, t, h2, hs, ht⟩, hv⟩
      obtain ⟨z, g1, g2⟩ := h.assoc h2
      exact ⟨s, z, g2, hs, langM_app.2 ⟨t, v, g1, ht, hv⟩⟩
theorem langM_one {b : PBlk} {w : List Int} : langM [b] w ↔ lang b w := by
  constructor
  · rintro ⟨u, v, h, hu, rfl⟩
    rw [← h.nil_right]
    exact hu
  · exact fun h => ⟨w, [], Mix.self_left w, h, rfl⟩

/-! ### right blocks -/
mutual
def wfB : PBlk → Prop
  | .mk k _ ks => ((k = 1 ∨ k = 2) ∧ ks = []) ∨ ((k = 3 ∨ k = 4 ∨ k = 5) ∧ ks ≠ [] ∧ wfK ks) ∨ (k = 6 ∧ ks.length = 2 ∧ wfK ks)
def wfK : List PBlk → Prop
  | [] => True
  | b :: bs => wfB b ∧ wfK bs
end
theorem wfK_iff : ∀ {ks : List PBlk}, wfK ks ↔ ∀ b ∈ ks, wfB b
  | [] => by simp [wfK]
  | b :: bs => by simp [wfK, wfK_iff (ks := bs)]
/-- What one can do with a right block. -/
inductive Shp : PBlk → Prop
  | sil (l : Int) : Shp (.mk 1 l [])
  | step (l : Int) : Shp (.mk 2 l [])
  | seq (l : Int) (ks : List PBlk) (h : ks ≠ []) (hk : wfK ks) : Shp (.mk 3 l ks)
  | choice (l : Int) (ks : List PBlk) (h : ks ≠ []) (hk : wfK ks) : Shp (.mk 4 l ks)
  | both (l : Int) (ks : List PBlk) (h : ks ≠ []) (hk : wfK ks) : Shp (.mk 5 l ks)
  | loop (l : Int) (x y : PBlk) (hx : wfB x) (hy : wfB y) : Shp (.mk 6 l [x, y])
theorem wfB.shp : ∀ {b : PBlk}, wfB b → Shp b
  | .mk k l ks, h => by
    unfold wfB at h
    rcases h with ⟨h | h, rfl⟩ | ⟨h | h | h, h1, h2⟩ | ⟨h, h1, h2⟩
    · subst h; exact .sil l
    · subst h; exact .step l
    · subst h; exact .seq l ks h1 h2
    · subst h; exact .choice l ks h1 h2
    · subst h; exact .both l ks h1 h2
    · subst h
      match ks, h1, h2 with
      | [x, y], _, h2 => exact .loop l x y h2.1 h2.2.1
theorem Shp.wf : ∀ {b : PBlk}, Shp b → wfB b
  | _, .sil l => by simp [wfB]
  | _, .step l => by simp [wfB]
  | _, .seq l ks h hk => by simp [wfB, h, hk]
  | _, .choice l ks h hk => by simp [wfB, h, hk]
  | _, .both l ks h hk => by simp [wfB, h, hk]
  | _, .loop l x y hx hy => by simp [wfB, wfK, hx, hy]

/-! ### the shortest word -/
def sumK (ks : List PBlk) : Nat := (ks.map leastB).sum
theorem leastK_sum {k : Int} (h4 : k ≠ 4) (h6 : k ≠ 6) : ∀ (ks : List PBlk) (n : Nat), leastK k false n ks = n + sumK ks
  | [], n => by simp [leastK, sumK]
  | b :: bs, n => by
    rw [leastK, leastK_sum h4 h6]
    simp only [Bool.false_eq_true, if_false, if_neg h4, ne_eq, h6, not_false_eq_true, if_true, sumK, List.map_cons, List.sum_cons]
    omega
theorem leastK_six : ∀ (ks : List PBlk) (n : Nat), leastK 6 false n ks = n
  | [], n => rfl
  | b :: bs, n => by rw [leastK, leastK_six]; simp
theorem least_sum {k l : Int} {ks : List PBlk} (h2 : k ≠ 2) (h4 : k ≠ 4) (h6 : k ≠ 6) : leastB (.mk k l ks) = sumK ks := by
  rw [leastB, if_neg h2]
  cases ks with
  | nil => rfl
  | cons b bs => rw [leastK, leastK_sum h4 h6]; simp [sumK]
theorem least_loop {l : Int} {x : PBlk} {ks : List PBlk} : leastB (.mk 6 l (x :: ks)) = leastB x := by
  rw [leastB, if_neg (by decide), leastK, leastK_six]; simp
theorem least_step {l : Int} {ks : List PBlk} : leastB (.mk 2 l ks) = 1 := by rw [leastB, if_pos rfl]
theorem leastK_min : ∀ (ks : List PBlk) (n : Nat), (leastK 4 false n ks ≤ n ∧ ∀ b ∈ ks, leastK 4 false n ks ≤ leastB b) ∧ (leastK 4 false n ks = n ∨ ∃ b ∈ ks, leastK 4 false n ks = leastB b)
  | [], n => by simp [leastK]
  | b :: bs, n => by
    rw [leastK]
    simp only [Bool.false_eq_true, if_false, if_true]
    obtain ⟨⟨h1, h2⟩, h3⟩ := leastK_min bs (min n (leastB b))
    refine ⟨⟨by omega, fun c hc => ?_⟩, ?_⟩
    · rcases List.mem_cons.1 hc with rfl | hc
      · omega
      · exact h2 c hc
    · rcases h3 with h3 | ⟨c, hc, h3⟩
      · rcases Nat.le_total n (leastB b) with g | g
        · exact .inl (by omega)
        · exact .inr ⟨b, by simp, by omega⟩
      · exact .inr ⟨c, by simp [hc], h3⟩
theorem least_choice {l : Int} {ks : List PBlk} (h : ks ≠ []) : (∀ b ∈ ks, leastB (.mk 4 l ks) ≤ leastB b) ∧ ∃ b ∈ ks, leastB (.mk 4 l ks) = leastB b := by
  rw [leastB, if_neg (by decide)]
  cases ks with
  | nil => exact absurd rfl h
  | cons b bs =>
    rw [leastK]
    simp only [if_true]
    obtain ⟨⟨h1, h2⟩, h3⟩ := leastK_min bs (leastB b)
    refine ⟨fun c hc => ?_, ?_⟩
    · rcases List.mem_cons.1 hc with rfl | hc
      · exact h1
      · exact h2 c hc
    · rcases h3 with h3 | ⟨c, hc, h3⟩
      · exact ⟨b, by simp, h3⟩
      · exact ⟨c, by simp [hc], h3⟩
/-- There is a word of that length, and no shorter one. -/
def IsLeast (X : List Int → Prop) (n : Nat) : Prop := (∃ w, X w ∧ w.length = n) ∧ ∀ w, X w → n ≤ w.length
theorem least_S : ∀ {ks : List PBlk}, (∀ b ∈ ks, IsLeast (lang b) (leastB b)) → IsLeast (langS ks) (sumK ks)
  | [], _ => ⟨⟨[], rfl, rfl⟩, fun w _ => Nat.zero_le _⟩
  | b :: bs, h => by
    obtain ⟨⟨u, hu, lu⟩, g⟩ := h b (by simp)
    obtain ⟨⟨v, hv, lv⟩, k⟩ := least_S (ks := bs) (fun c hc => h c (by simp [hc]))
    have e : sumK (b :: bs) = leastB b + sumK bs := by simp [sumK]
    refine ⟨⟨u ++ v, ⟨u, v, rfl, hu, hv⟩, by rw [List.length_append, e]; omega⟩, ?_⟩
    rintro w ⟨p, q, rfl, hp, hq⟩
    have := g p hp
    have := k q hq
    rw [List.length_append, e]
    omega
theorem least_M : ∀ {ks : List PBlk}, (∀ b ∈ ks, IsLeast (lang b) (leastB b)) → IsLeast (langM ks) (sumK ks)
  | [], _ => ⟨⟨[], rfl, rfl⟩, fun w _ => Nat.zero_le _⟩
  | b :: bs, h => by
    obtain ⟨⟨u, hu, lu⟩, g⟩ := h b (by simp)
    obtain ⟨⟨v, hv, lv⟩, k⟩ := least_M (ks := bs) (fun c hc => h c (by simp [hc]))
    have e : sumK (b :: bs) = leastB b + sumK bs := by simp [sumK]
    refine ⟨⟨u ++ v, ⟨u, v, Mix.cat u v, hu, hv⟩, by rw [List.length_append, e]; omega⟩, ?_⟩
    rintro w ⟨p, q, hm, hp, hq⟩
    have := g p hp
    have := k q hq
    rw [hm.len, e]
    omega
theorem least_right : ∀ (b : PBlk), wfB b → IsLeast (lang b) (leastB b)
  | .mk k l ks, h => by
    have ih : wfK ks → ∀ b ∈ ks, IsLeast (lang b) (leastB b) := fun hk b hb => least_right b (wfK_iff.1 hk b hb)
    cases h.shp with
    | sil => exact ⟨⟨[], lang_1.2 rfl, rfl⟩, fun w _ => Nat.zero_le _⟩
    | step => exact ⟨⟨[l], lang_2.2 rfl, by rw [least_step]; rfl⟩, fun w hw => by rw [lang_2.1 hw, least_step]; exact Nat.le_refl _⟩
    | seq _ _ hne hk =>
      rw [least_sum (by decide) (by decide) (by decide)]
      obtain ⟨⟨w, h1, h2⟩, h3⟩ := least_S (ih hk)
      exact ⟨⟨w, lang_3.2 h1, h2⟩, fun v hv => h3 v (lang_3.1 hv)⟩
    | choice _ _ hne hk =>
      obtain ⟨h1, b, hb, h2⟩ := least_choice (l := l) hne
      obtain ⟨⟨w, g1, g2⟩, _⟩ := ih hk b hb
      refine ⟨⟨w, lang_4.2 (langC_iff.2 ⟨b, hb, g1⟩), by rw [h2]; exact g2⟩, fun v hv => ?_⟩
      obtain ⟨c, hc, hv⟩ := langC_iff.1 (lang_4.1 hv)
      exact Nat.le_trans (h1 c hc) ((ih hk c hc).2 v hv)
    | both _ _ hne hk =>
      rw [least_sum (by decide) (by decide) (by decide)]
      obtain ⟨⟨w, h1, h2⟩, h3⟩ := least_M (ih hk)
      exact ⟨⟨w, lang_5.2 h1, h2⟩, fun v hv => h3 v (lang_5.1 hv)⟩
    | loop _ x y hx hy =>
      rw [least_loop]
      obtain ⟨⟨w, h1, h2⟩, h3⟩ := ih ⟨hx, hy, trivial⟩ x (by simp)
      refine ⟨⟨w, lang_6.2 ⟨w, [], by simp, h1, .nil⟩, h2⟩, fun v hv => ?_⟩
      obtain ⟨p, q, rfl, hp, _⟩ := lang_6.1 hv
      have := h3 p hp
      rw [List.length_append]
      omega
termination_by b => SizeOf.sizeOf b
decreasing_by
  have := List.sizeOf_lt_of_mem hb
  simp only [PBlk.mk.sizeOf_spec]
  omega
theorem least_zero {b : PBlk} (h : wfB b) : leastB b = 0 ↔ lang b [] := by
  obtain ⟨⟨w, h1, h2⟩, h3⟩ := least_right b h
  constructor
  · intro e
    rw [e] at h2
    rw [List.eq_nil_of_length_eq_zero h2] at h1
    exact h1
  · intro e
    have := h3 [] e
    simpa using this
end Go.Proofs.YtniolbbhjibobaaDoor
