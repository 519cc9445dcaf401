/- Texts melted into one: Rows of lists that are the call's own. Conditions: none; plain lemmas on memory. (Cut out of MrefA.) | The plain law of the journal: bytes of what is done at a desk, and back. No program in sight. | What bytes and things done at a desk read as; contracts of the sum of bytes. Conditions: the slices read as lists. | The contracts of journal.Write and RWrite. Conditions: none. | The contract of RWrite. Conditions: none. | The contract of journal.Read. Conditions: the bytes read as a list, of bounded length. | The contract of RRead. Conditions: the bytes read as a list, of bounded length. | The plain law of exploration: all marks that a net comes to, in the order in which they are found, and arcs between them; a shortest run. No program in sight. | More of the plain law of exploration: who can fire, and the first arcs kept beside. No program in sight. | More plain laws: turning a list around in place; the arc by which a mark was found first. No program in sight. -/
import Derived.Test.YtcopnfdknclhnaaGreatMineTellsK02
import Derived.Test.YtcopnfdknclhnaaGreatMineTellsK04
import Derived.Laws.BitsAllLaws
import Derived.Laws.Shifts
import Derived.Laws.BytesArg
import Derived.Deep.DeepCutAuto
import Derived.Test.YtcopnfdknclhnaaGreatMineTellsK03
import Derived.Maps.AppendAt
import Derived.Deep.QuietTactic
namespace Go.Proofs.YtcopnfdknclhnaaGreat
open Go.RowKit

/-- A list whose cells are the call's own. -/
def OwnListR (B : Nat) : World → (Nat → Value) → List Int → Prop := fun w vs xs => ∃ n, OwnInts w B (vs 0) n xs ∧ n ≤ 17592186043904
theorem OwnListR.kept (B : Nat) : Kept (OwnListR B) := fun _ _ _ _ hb ⟨n, h, l⟩ => ⟨n, h.keep IntR.kept hb, l⟩
theorem OwnListR.list {B : Nat} {w : World} {vs : Nat → Value} {xs : List Int} (h : OwnListR B w vs xs) : ListR w vs xs := by
  obtain ⟨n, o, l⟩ := h
  obtain ⟨A, c, e, i⟩ := o.sl (by omega)
  exact ⟨A, n, c, e, i, l⟩
theorem OwnListR.good (B : Nat) : Good (OwnListR B) 1 where
  kept := OwnListR.kept B
  one := fun w vs x h j hj => ListR.good.one w vs x h.list j hj
  pos := by omega
theorem OwnListR.base {B B' : Nat} (hB : B' ≤ B) {w : World} {vs : Nat → Value} {xs : List Int} (h : OwnListR B w vs xs) : OwnListR B' w vs xs := by
  obtain ⟨n, o, l⟩ := h
  exact ⟨n, o.base hB, l⟩
theorem OwnListR.grown {B B2 size n e : Nat} {w w' : World} {v : Value} {cells : List Value} (hown : w.ownsRow B2 e size v n cells) (hne : 3 ≠ e) (hg : w.grownBy w' v.ownBlock) {vs : Nat → Value} {xs : List Int} (h : OwnListR B w vs xs) : OwnListR B w' vs xs := by
  obtain ⟨m, ⟨c1, a1, a2, a3⟩, l⟩ := h
  exact ⟨m, ⟨c1, a1.kept hg (own_ne a1 hown hne), ⟨a2.1, a2.2⟩, a3⟩, l⟩
theorem tyLists : SlTy 22 35 1 24 := SlTy.mk' (z := .slice none 0 0) Tryz.underlying22 (by kernel_rfl) rfl (by decide)
theorem keepLists {B B2 n : Nat} {w : World} {v : Value} {xs : List (List Int)} (h : OwnSl (OwnListR B) 1 w B2 35 v n xs) : ∀ w', w.grownBy w' v.ownBlock → ∀ vs y, OwnListR B w vs y → OwnListR B w' vs y := by
  obtain ⟨cells, h1, _⟩ := h
  exact fun w' hg vs y hy => hy.grown h1 (by decide) hg
theorem Reads.list1 {R : World → (Nat → Value) → List Int → Prop} {w : World} {v : Value} {xs : List Int} (h : R w (fun _ => v) xs) : Reads R 1 w [v] [xs] :=
  Reads.one h rfl (fun j hj => by cases j with | zero => rfl | succ j => omega)
end Go.Proofs.YtcopnfdknclhnaaGreat
namespace Go.Proofs.YtcopnfdknclhnaaGreat

def rotS (b : Nat) : Nat := b * 2 % 256 + b / 128
def rotI (b : Nat) : Nat → Nat
  | 0 => b
  | k + 1 => rotS (rotI b k)
def sumF (bs : List Nat) : Nat := bs.zipIdx.foldl (fun x p => x ^^^ rotI p.1 p.2) 90
structure POp where
  kind : Int
  user : Int
  tran : Int
  item : Int
  to_ : Int
def opOf (bs : List Nat) : POp := ⟨bs.getD 0 0, bs.getD 1 0, bs.getD 2 0, ((bs.getD 4 0 * 256 + bs.getD 5 0 : Nat) : Int), bs.getD 3 0⟩
def readL (bs : List Nat) : List POp × Int × Int :=
  if h : bs.length < 7 then ([], 0, 0)
  else if sumF (bs.take 6) = bs.getD 6 0 then (opOf bs :: (readL (bs.drop 7)).1, (readL (bs.drop 7)).2.1 + 7, (readL (bs.drop 7)).2.2)
  else ([], 0, 8)
termination_by bs.length
decreasing_by all_goals (rw [List.length_drop]; omega)
theorem readL_short {bs : List Nat} (h : bs.length < 7) : readL bs = ([], 0, 0) := by rw [readL, dif_pos h]
theorem readL_good {bs : List Nat} (h : ¬ bs.length < 7) (hs : sumF (bs.take 6) = bs.getD 6 0) : readL bs = (opOf bs :: (readL (bs.drop 7)).1, (readL (bs.drop 7)).2.1 + 7, (readL (bs.drop 7)).2.2) := by rw [readL, dif_neg h, if_pos hs]
/-- So far, as one goes on from 7 to 7. -/
structure ReadI (bs : List Nat) (j : Nat) (out : List POp) : Prop where
  eq : readL bs = (out ++ (readL (bs.drop (7 * j))).1, ((7 * j : Nat) : Int) + (readL (bs.drop (7 * j))).2.1, (readL (bs.drop (7 * j))).2.2)
  len : out.length = j
theorem ReadI.start (bs : List Nat) : ReadI bs 0 [] := ⟨by simp, rfl⟩
theorem ReadI.next {bs : List Nat} {j : Nat} {out : List POp} (h : ReadI bs j out) (hl : 7 * j + 7 ≤ bs.length) (hs : sumF ((bs.drop (7 * j)).take 6) = (bs.drop (7 * j)).getD 6 0) : ReadI bs (j + 1) (out ++ [opOf (bs.drop (7 * j))]) := by
  refine ⟨?_, by simp [h.len]⟩
  rw [h.eq, readL_good (by rw [List.length_drop]; omega) hs, List.drop_drop, show 7 * j + 7 = 7 * (j + 1) from by omega]
  simp only [List.append_assoc, List.singleton_append, Prod.mk.injEq, true_and, and_true]
  omega
theorem ReadI.fin {bs : List Nat} {j : Nat} {out : List POp} (h : ReadI bs j out) (hl : bs.length < 7 * j + 7) : readL bs = (out, ((7 * j : Nat) : Int), 0) := by
  rw [h.eq, readL_short (by rw [List.length_drop]; omega)]; simp
end Go.Proofs.YtcopnfdknclhnaaGreat
namespace Go.Proofs.YtcopnfdknclhnaaGreat
open Go.RowKit

def ByteR : World → (Nat → Value) → Nat → Prop := fun _ vs b => vs 0 = .int .u8 (b : Int) ∧ b < 256
theorem ByteR.kept : Kept ByteR := fun _ _ _ _ _ h => h
theorem ByteR.good : Good ByteR 1 where
  kept := ByteR.kept
  one := fun w vs x h j hj => by
    obtain rfl : j = 0 := by omega
    rw [h.1]; rfl
  pos := by omega
abbrev Bts (w : World) (A : Option Addr) (n c : Nat) (bs : List Nat) : Prop := Sl ByteR 1 w A n c bs
theorem Bts.get {w : World} {A : Option Addr} {n c k : Nat} {bs : List Nat} (h : Bts w A n c bs) (hk : k < n) :
    ∃ b off x, A = some ⟨b, off, none⟩ ∧ b < w.heap.size ∧ Hid (bs[k]? = some x) ∧ w.cell? ⟨b, off + k, none⟩ = some (.int .u8 (x : Int)) ∧ x < 256 := by
  obtain ⟨b, off, x, vs, h1, h2, h3, h4, h5, h6⟩ := Sl.get h hk
  refine ⟨b, off, x, h1, h2, h3, ?_, h6⟩
  have := h4 0 (by omega)
  rw [h5] at this
  simpa using this
theorem Bts.lt {w : World} {A : Option Addr} {n c : Nat} {bs : List Nat} (h : Bts w A n c bs) : ∀ b ∈ bs, b < 256 := by
  intro b hb
  obtain ⟨i, hi, rfl⟩ := List.getElem_of_mem hb
  obtain ⟨_, _, x, _, _, hx, _, hlt⟩ := Bts.get h (k := i) (by rw [← h.len]; exact hi)
  have := hx.out
  rw [List.getElem?_eq_getElem hi] at this
  injection this with this
  omega
end Go.Proofs.YtcopnfdknclhnaaGreat
namespace Go.Proofs.YtcopnfdknclhnaaGreat
open Go.RowKit

def AnsBE (p : List Nat × Int) (w : World) (e : Ending) (w' : World) : Prop :=
  ∃ A n c, e = .returned (.tuple #[.slice A n c, .int .i64 p.2]) ∧ Bts w' A n c p.1 ∧ Below w.heap.size w w'
theorem AnsBE.no {e : Int} {w w' : World} (hb : Below w.heap.size w w') : AnsBE ([], e) w (.returned (.tuple #[.slice none 0 0, .int .i64 e])) w' := ⟨none, 0, 0, rfl, Sl.nil0, hb⟩
/-- A new row, all of it used. -/
theorem OwnSl.row {α : Type} {R : World → (Nat → Value) → α → Prop} {sz : Nat} {w : World} {B e n : Nat} {us : Array Value} {xs : List α} (hB : B ≤ w.heap.size) (hus : us.size = n * sz) (hn : n ≤ maxLen) (hr : Reads R sz (w.alloc (.cells us e)) us.toList xs) (hl : xs.length = n) :
    OwnSl R sz (w.alloc (.cells us e)) B e (.slice (some ⟨w.heap.size, 0, none⟩) n n) n xs :=
  ⟨us.toList, ⟨by simpa using hus, .inr ⟨w.heap.size, n, us, rfl, hB, heap_alloc_new w _, Nat.le_refl _, hn, hus, by rw [List.take_of_length_le (by simp [hus])]⟩⟩, hr, hl⟩
theorem Reads.bytes {w : World} {us : List Value} {bs : List Nat} (h : us = bs.map fun b : Nat => Value.int .u8 (b : Int)) (hb : ∀ b ∈ bs, b < 256) : Reads ByteR 1 w us bs := by
  subst h
  refine ⟨by simp, fun i x hx => ⟨fun _ => .int .u8 (x : Int), fun j hj => ?_, rfl, hb x (List.mem_of_getElem? hx)⟩⟩
  obtain rfl : j = 0 := by omega
  simp [hx]
end Go.Proofs.YtcopnfdknclhnaaGreat
namespace Go.Proofs.YtcopnfdknclhnaaGreat
open Go.RowKit

theorem Ints.box {w : World} {g n : Nat} {us : Array Value} {xs : List Int} (h : Box w g 3 us) (hu : us.toList = xs.map (Value.int .i64)) (hl : xs.length = n) (hn : n ≤ 1000) : Ints w (some ⟨g, 0, none⟩) n n xs :=
  ⟨hl, Nat.le_refl _, by simp only [maxLen]; omega, by omega, fun e => (by cases e), fun _ => ⟨g, 0, rfl, h.lt, fun i x hx => ⟨fun _ => .int .i64 x, fun j hj => by
    obtain rfl : j = 0 := by omega
    rw [h.cell, ← Array.getElem?_toList, hu, List.getElem?_map]
    simp [hx], rfl⟩⟩⟩
theorem OwnSl.notBox {α : Type} {R : World → (Nat → Value) → α → Prop} {sz : Nat} {w : World} {B e : Nat} {v : Value} {n : Nat} {xs : List α} {b ty : Nat} {cs : Array Value} (own : OwnSl R sz w B e v n xs) (x : Box w b ty cs) (hne : e ≠ ty) : v.ownBlock ≠ some b := by
  intro hv
  obtain ⟨cells, o1, _⟩ := own
  rcases o1.2 with ⟨rfl, _⟩ | ⟨g, cap, cur, rfl, _, hh, _⟩
  · cases hv
  · simp only [Value.ownBlock, Option.some.injEq] at hv
    subst hv
    have h2 : w.heap[g]? = some (.cells cs ty (0, 0)) := x
    rw [hh] at h2
    injection h2 with h2
    injection h2 with _ ht
    exact hne ht

end Go.Proofs.YtcopnfdknclhnaaGreat
namespace Go.Proofs.YtcopnfdknclhnaaGreat
open Go.RowKit

def DOpR : World → (Nat → Value) → POp → Prop := fun _ vs o => vs 0 = .int .i64 o.kind ∧ vs 1 = .int .i64 o.user ∧ vs 2 = .int .i64 o.tran ∧ vs 3 = .int .i64 o.item ∧ vs 4 = .int .i64 o.to_
theorem DOpR.kept : Kept DOpR := fun _ _ _ _ _ h => h
theorem DOpR.good : Good DOpR 5 where
  kept := DOpR.kept
  one := fun w vs x h j hj => by
    obtain ⟨h0, h1, h2, h3, h4⟩ := h
    match j, hj with
    | 0, _ => rw [h0]; rfl
    | 1, _ => rw [h1]; rfl
    | 2, _ => rw [h2]; rfl
    | 3, _ => rw [h3]; rfl
    | 4, _ => rw [h4]; rfl
  pos := by omega
end Go.Proofs.YtcopnfdknclhnaaGreat
namespace Go.Proofs.YtcopnfdknclhnaaGreat
open Go.RowKit

def strB (bs : List Nat) : ByteArray := strOfNums (bs.map fun b : Nat => (b : Int))
end Go.Proofs.YtcopnfdknclhnaaGreat
namespace Go.Proofs.YtcopnfdknclhnaaGreat

structure PArc where
  from_ : Int
  tran : Int
  to_ : Int
structure PSp where
  marks : List (List Int)
  arcs : List PArc
def PSp.nil : PSp := ⟨[], []⟩
def findL (ms : List (List Int)) (x : List Int) : Option Nat := ms.findIdx? fun y => x == y
/-- A mark that is reached from number f by t. -/
def meetL (most : Nat) (s : PSp) (f t : Int) (x : List Int) : Option PSp :=
  match findL s.marks x with
  | some k => some ⟨s.marks, s.arcs ++ [⟨f, t, (k : Int)⟩]⟩
  | none => if s.marks.length = most then none else some ⟨s.marks ++ [x], s.arcs ++ [⟨f, t, (s.marks.length : Int)⟩]⟩
def arcStep (N : PNet) (most : Nat) (m : List Int) (f : Int) (s : PSp) (t : Int) : Option PSp :=
  if (fireL N m t).2 = 3 then some s else if (fireL N m t).2 = 0 then meetL most s f t (fireL N m t).1 else none
def foldS (N : PNet) (most : Nat) (m : List Int) (f : Int) (l : List Int) (o : Option PSp) : Option PSp := l.foldl (fun o t => o.bind fun s => arcStep N most m f s t) o
theorem foldS_none (N : PNet) (most : Nat) (m : List Int) (f : Int) (l : List Int) : foldS N most m f l none = none := by
  induction l with
  | nil => rfl
  | cons t l ih => exact ih
def allT (n : Nat) : List Int := (List.range n).map fun (t : Nat) => (t : Int)
def fromL (N : PNet) (most f : Nat) (s : PSp) : Option PSp := foldS N most (s.marks.getD f []) (f : Int) (allT N.trans.length) (some s)
/-- On from mark to mark. -/
def goM (N : PNet) (most : Nat) : Nat → Nat → PSp → Option PSp
  | 0, _, s => some s
  | g + 1, f, s => if f < s.marks.length then (fromL N most f s).bind (goM N most g (f + 1)) else some s
/-- The first arc to a mark. -/
def firstL (s : PSp) (k : Nat) : Option Nat := s.arcs.findIdx? fun a => a.to_ == (k : Int)
structure SpOk (N : PNet) (most : Nat) (s : PSp) : Prop where
  few : s.marks.length ≤ most
  some_ : 0 < s.marks.length
  fits : ∀ x ∈ s.marks, fitsB N x = true
  nodup : s.marks.Nodup
  ends : ∀ a ∈ s.arcs, (0 ≤ a.from_ ∧ a.from_ < (s.marks.length : Int)) ∧ (0 ≤ a.tran ∧ a.tran < (N.trans.length : Int)) ∧ (0 ≤ a.to_ ∧ a.to_ < (s.marks.length : Int))
  found : ∀ k, 0 < k → k < s.marks.length → ∃ (j : Nat) (a : PArc), s.arcs[j]? = some a ∧ a.to_ = (k : Int) ∧ a.from_ < (k : Int) ∧ ∀ i, i < j → ∀ b : PArc, s.arcs[i]? = some b → b.to_ ≠ (k : Int)
theorem findL_some {ms : List (List Int)} {x : List Int} {k : Nat} (h : findL ms x = some k) : ms[k]? = some x := by
  unfold findL at h
  rw [List.findIdx?_eq_some_iff_getElem] at h
  obtain ⟨hk, hx, _⟩ := h
  have : x = ms[k] := by simpa using hx
  rw [List.getElem?_eq_getElem hk, this]
theorem findL_none {ms : List (List Int)} {x : List Int} (h : findL ms x = none) : x ∉ ms := by
  unfold findL at h
  rw [List.findIdx?_eq_none_iff] at h
  intro hx
  have := h x hx
  simp at this
theorem fire_fits {N : PNet} {m : List Int} {t : Int} (hm : fitsB N m = true) (h : (fireL N m t).2 = 0) : fitsB N (fireL N m t).1 = true ∧ 0 ≤ t ∧ t < (N.trans.length : Int) := by
  have hm' := (fitsB_iff N m).1 hm
  unfold fireL at h ⊢
  rw [if_pos hm] at h ⊢
  by_cases ht : 0 ≤ t ∧ t < (N.trans.length : Int)
  · rw [if_pos ht] at h ⊢
    have hx : N.trans[t.toNat]? = some (N.trans.getD t.toNat default) := by
      have hlt : t.toNat < N.trans.length := by omega
      simp [List.getElem?_eq_getElem hlt]
    have hT := netOk_tran hm'.1 hx
    generalize N.trans.getD t.toNat default = T at *
    unfold fireT at h ⊢
    split at h
    · rename_i h1
      rw [if_pos h1]
      split at h
      · rename_i h2
        rw [if_pos h2]
        refine ⟨(fitsB_iff _ _).2 ⟨hm'.1, ?_, h2⟩, ht⟩
        simp only [mixL_length]
        omega
      · simp at h
    · simp at h
  · rw [if_neg ht] at h
    simp at h
theorem found_snoc {s : PSp} {a0 : PArc} {k : Nat} (h : ∃ (j : Nat) (a : PArc), s.arcs[j]? = some a ∧ a.to_ = (k : Int) ∧ a.from_ < (k : Int) ∧ ∀ i, i < j → ∀ b : PArc, s.arcs[i]? = some b → b.to_ ≠ (k : Int)) :
    ∃ (j : Nat) (a : PArc), (s.arcs ++ [a0])[j]? = some a ∧ a.to_ = (k : Int) ∧ a.from_ < (k : Int) ∧ ∀ i, i < j → ∀ b : PArc, (s.arcs ++ [a0])[i]? = some b → b.to_ ≠ (k : Int) := by
  obtain ⟨j, a, h1, h2, h3, h4⟩ := h
  have hj := (List.getElem?_eq_some_iff.1 h1).1
  refine ⟨j, a, by rw [List.getElem?_append_left hj]; exact h1, h2, h3, fun i hi b hb => ?_⟩
  rw [List.getElem?_append_left (by omega)] at hb
  exact h4 i hi b hb
theorem SpOk.meet {N : PNet} {most : Nat} {s s' : PSp} {f t : Nat} {x : List Int} (h : SpOk N most s) (hf : f < s.marks.length) (ht : t < N.trans.length) (hx : fitsB N x = true) (hm : meetL most s (f : Int) (t : Int) x = some s') : SpOk N most s' ∧ s.marks <+: s'.marks := by
  unfold meetL at hm
  cases hk : findL s.marks x with
  | some k =>
    rw [hk] at hm
    simp only [Option.some.injEq] at hm
    subst hm
    have hkl := (List.getElem?_eq_some_iff.1 (findL_some hk)).1
    refine ⟨⟨h.few, h.some_, h.fits, h.nodup, fun a ha => ?_, fun k' h1 h2 => found_snoc (h.found k' h1 h2)⟩, List.prefix_rfl⟩
    rcases List.mem_append.1 ha with h1 | h1
    · exact h.ends a h1
    · rw [List.mem_singleton.1 h1]
      simp only
      omega
  | none =>
    rw [hk] at hm
    have hn := findL_none hk
    simp only at hm
    split at hm
    · cases hm
    · rename_i hlm
      simp only [Option.some.injEq] at hm
      subst hm
      have hfew := h.few
      refine ⟨⟨by simp; omega, by simp, fun y hy => ?_, ?_, fun a ha => ?_, fun k' h1 h2 => ?_⟩, List.prefix_append _ _⟩
      · rcases List.mem_append.1 hy with h1 | h1
        · exact h.fits y h1
        · rw [List.mem_singleton.1 h1]; exact hx
      · rw [List.nodup_append]
        exact ⟨h.nodup, by simp, fun a ha b hb e => hn (by rw [List.mem_singleton.1 hb] at e; rw [← e]; exact ha)⟩
      · simp only [List.length_append, List.length_cons, List.length_nil]
        rcases List.mem_append.1 ha with h1 | h1
        · have := h.ends a h1; omega
        · rw [List.mem_singleton.1 h1]
          simp only
          omega
      · simp only [List.length_append, List.length_cons, List.length_nil] at h2
        by_cases hk' : k' < s.marks.length
        · exact found_snoc (h.found k' h1 hk')
        · have hke : k' = s.marks.length := by omega
          subst hke
          refine ⟨s.arcs.length, ⟨(f : Int), (t : Int), (s.marks.length : Int)⟩, by simp, rfl, by simp only; omega, fun i hi b hb => ?_⟩
          rw [List.getElem?_append_left hi] at hb
          have := (h.ends b (List.mem_of_getElem? hb)).2.2
          omega
theorem SpOk.step {N : PNet} {most : Nat} {s s' : PSp} {f t : Nat} {m : List Int} (h : SpOk N most s) (hf : f < s.marks.length) (hm : fitsB N m = true) (hs : arcStep N most m (f : Int) s (t : Int) = some s') : SpOk N most s' ∧ s.marks <+: s'.marks := by
  unfold arcStep at hs
  split at hs
  · simp only [Option.some.injEq] at hs
    subst hs
    exact ⟨h, List.prefix_rfl⟩
  · split at hs
    · rename_i h0
      obtain ⟨hx, _, ht⟩ := fire_fits hm h0
      exact h.meet hf (by omega) hx hs
    · cases hs
theorem SpOk.fold {N : PNet} {most : Nat} {f : Nat} {m : List Int} (hm : fitsB N m = true) : ∀ (l : List Nat) {s s' : PSp} (_ : SpOk N most s) (_ : f < s.marks.length) (_ : foldS N most m (f : Int) (l.map fun (t : Nat) => (t : Int)) (some s) = some s'), SpOk N most s' ∧ s.marks <+: s'.marks := by
  intro l
  induction l with
  | nil =>
    intro s s' h hf hs
    have : s = s' := by simpa [foldS] using hs
    subst this
    exact ⟨h, List.prefix_rfl⟩
  | cons t l ih =>
    intro s s' h hf hs
    have hs' : foldS N most m (f : Int) (l.map fun (t : Nat) => (t : Int)) (arcStep N most m (f : Int) s (t : Int)) = some s' := hs
    cases h1 : arcStep N most m (f : Int) s (t : Int) with
    | none => rw [h1, foldS_none] at hs'; cases hs'
    | some s1 =>
      rw [h1] at hs'
      obtain ⟨k1, k2⟩ := h.step hf hm h1
      obtain ⟨k3, k4⟩ := ih k1 (Nat.lt_of_lt_of_le hf k2.length_le) hs'
      exact ⟨k3, k2.trans k4⟩
theorem SpOk.from_ {N : PNet} {most f : Nat} {s s' : PSp} (h : SpOk N most s) (hf : f < s.marks.length) (hs : fromL N most f s = some s') : SpOk N most s' ∧ s.marks <+: s'.marks := by
  refine SpOk.fold (h.fits _ ?_) (List.range N.trans.length) h hf hs
  have : s.marks.getD f [] = s.marks[f] := by simp [List.getD_eq_getElem?_getD, List.getElem?_eq_getElem hf]
  rw [this]
  exact List.getElem_mem hf
theorem SpOk.start {N : PNet} {m : List Int} {most : Nat} (hm : fitsB N m = true) (h : 1 ≤ most) : SpOk N most ⟨[m], []⟩ :=
  ⟨h, by simp, fun x hx => by rw [List.mem_singleton.1 hx]; exact hm, by simp, fun a ha => by simp at ha, fun k h1 h2 => by simp at h2; omega⟩
theorem SpOk.go {N : PNet} {most : Nat} : ∀ (g f : Nat) {s s' : PSp} (_ : SpOk N most s) (_ : goM N most g f s = some s'), SpOk N most s' ∧ s.marks <+: s'.marks := by
  intro g
  induction g with
  | zero =>
    intro f s s' h hs
    have : s = s' := by simpa [goM] using hs
    subst this
    exact ⟨h, List.prefix_rfl⟩
  | succ g ih =>
    intro f s s' h hs
    unfold goM at hs
    split at hs
    · rename_i hf
      cases h1 : fromL N most f s with
      | none => rw [h1] at hs; cases hs
      | some s1 =>
        rw [h1] at hs
        obtain ⟨k1, k2⟩ := h.from_ hf h1
        obtain ⟨k3, k4⟩ := ih (f + 1) k1 hs
        exact ⟨k3, k2.trans k4⟩
    · simp only [Option.some.injEq] at hs
      subst hs
      exact ⟨h, List.prefix_rfl⟩
theorem SpOk.find {N : PNet} {most : Nat} {s : PSp} (h : SpOk N most s) {k : Nat} (h0 : 0 < k) (hk : k < s.marks.length) : ∃ (j : Nat) (a : PArc), s.arcs[j]? = some a ∧ a.to_ = (k : Int) ∧ 0 ≤ a.from_ ∧ a.from_ < (k : Int) ∧ (∀ i, i < j → ∀ b : PArc, s.arcs[i]? = some b → b.to_ ≠ (k : Int)) ∧ s.arcs.find? (fun a => a.to_ == (k : Int)) = some a := by
  obtain ⟨j, a, h1, h2, h3, h4⟩ := h.found k h0 hk
  refine ⟨j, a, h1, h2, (h.ends a (List.mem_of_getElem? h1)).1.1, h3, h4, ?_⟩
  obtain ⟨hj, hja⟩ := List.getElem?_eq_some_iff.1 h1
  rw [List.find?_eq_some_iff_getElem]
  refine ⟨by simpa using h2, j, hj, hja, fun i hi => ?_⟩
  have := h4 i hi _ (List.getElem?_eq_getElem (by omega))
  simpa using this
end Go.Proofs.YtcopnfdknclhnaaGreat
namespace Go.Proofs.YtcopnfdknclhnaaGreat

def findP (M : Nat) (ms : List (List Int)) (fs : List Int) (x : List Int) (a : Int) : List (List Int) × List Int × Int × Bool :=
  match findL ms x with
  | some k => (ms, fs, (k : Int), true)
  | none => if ms.length = M then (ms, fs, 0, false) else (ms ++ [x], fs ++ [a], (ms.length : Int), true)
structure FstOk (s : PSp) (fs : List Int) : Prop where
  len : fs.length = s.marks.length
  at_ : ∀ k, 0 < k → k < s.marks.length → ∃ j : Nat, fs[k]? = some (j : Int) ∧ firstL s k = some j
theorem FstOk.start (m : List Int) : FstOk ⟨[m], []⟩ [-1] := ⟨rfl, fun k h1 h2 => by simp at h2; omega⟩
theorem firstL_snoc {s : PSp} {a : PArc} {k j : Nat} (h : firstL s k = some j) (ms : List (List Int)) : firstL ⟨ms, s.arcs ++ [a]⟩ k = some j := by
  unfold firstL at h ⊢
  rw [List.findIdx?_append, h]
  rfl
theorem FstOk.meet {M : Nat} {s : PSp} {fs : List Int} {x : List Int} {f t : Int} (h : FstOk s fs) (he : ∀ a ∈ s.arcs, a.to_ < (s.marks.length : Int)) :
    ((findP M s.marks fs x (s.arcs.length : Int)).2.2.2 = false ∧ meetL M s f t x = none) ∨ ((findP M s.marks fs x (s.arcs.length : Int)).2.2.2 = true ∧ meetL M s f t x = some ⟨(findP M s.marks fs x (s.arcs.length : Int)).1, s.arcs ++ [⟨f, t, (findP M s.marks fs x (s.arcs.length : Int)).2.2.1⟩]⟩ ∧
      FstOk ⟨(findP M s.marks fs x (s.arcs.length : Int)).1, s.arcs ++ [⟨f, t, (findP M s.marks fs x (s.arcs.length : Int)).2.2.1⟩]⟩ (findP M s.marks fs x (s.arcs.length : Int)).2.1) := by
  unfold findP meetL
  cases hf : findL s.marks x with
  | some k =>
    refine .inr ⟨rfl, rfl, ⟨h.len, fun k' h1 h2 => ?_⟩⟩
    obtain ⟨j, e1, e2⟩ := h.at_ k' h1 h2
    exact ⟨j, e1, firstL_snoc e2 _⟩
  | none =>
    by_cases hl : s.marks.length = M
    · refine .inl ?_
      simp only [hl, if_true]
      exact ⟨trivial, trivial⟩
    · refine .inr ?_
      simp only [hl, if_false]
      refine ⟨trivial, trivial, ⟨by simp [h.len], fun k' h1 h2 => ?_⟩⟩
      simp only [List.length_append, List.length_cons, List.length_nil] at h2
      by_cases hk : k' < s.marks.length
      · obtain ⟨j, e1, e2⟩ := h.at_ k' h1 hk
        exact ⟨j, by rw [List.getElem?_append_left (by rw [h.len]; exact hk)]; exact e1, firstL_snoc e2 _⟩
      · obtain rfl : k' = s.marks.length := by omega
        refine ⟨s.arcs.length, by rw [← h.len]; simp, ?_⟩
        unfold firstL
        rw [List.findIdx?_append]
        have : s.arcs.findIdx? (fun a => a.to_ == (s.marks.length : Int)) = none := by
          rw [List.findIdx?_eq_none_iff]
          intro a ha
          have := he a ha
          simp
          omega
        rw [this]
        simp
end Go.Proofs.YtcopnfdknclhnaaGreat
namespace Go.Proofs.YtcopnfdknclhnaaGreat

/-- ys is xs, turned around up to i from both ends. -/
def TurnedTo (xs ys : List Int) (i : Nat) : Prop := ys.length = xs.length ∧ ∀ p, p < xs.length → ys[p]? = if p < i ∨ xs.length ≤ p + i then xs[xs.length - 1 - p]? else xs[p]?
theorem TurnedTo.start (xs : List Int) : TurnedTo xs xs 0 := ⟨rfl, fun p hp => by rw [if_neg (by omega)]⟩
theorem TurnedTo.step {xs ys : List Int} {i j : Nat} {u v : Int} (h : TurnedTo xs ys i) (hj : j + i + 1 = xs.length) (hi : i < j) (hu : ys[i]? = some u) (hv : ys[j]? = some v) : TurnedTo xs ((ys.set i v).set j u) (i + 1) := by
  refine ⟨by simp [h.1], fun p hp => ?_⟩
  have hl := h.1
  have h1 := h.2 i (by omega)
  have h2 := h.2 j (by omega)
  rw [if_neg (by omega)] at h1 h2
  by_cases e1 : p = j
  · subst e1
    rw [List.getElem?_set_self (by simp; omega), if_pos (by omega), show xs.length - 1 - p = i by omega, ← h1, hu]
  · rw [List.getElem?_set_ne (by omega)]
    by_cases e2 : p = i
    · subst e2
      rw [List.getElem?_set_self (by omega), if_pos (by omega), show xs.length - 1 - p = j by omega, ← h2, hv]
    · rw [List.getElem?_set_ne (by omega), h.2 p hp]
      by_cases e3 : p < i ∨ xs.length ≤ p + i
      · rw [if_pos e3, if_pos (by omega)]
      · rw [if_neg e3, if_neg (by omega)]
theorem TurnedTo.done {xs ys : List Int} {i : Nat} (h : TurnedTo xs ys i) (hi : xs.length ≤ 2 * i + 1) : ys = xs.reverse := by
  refine List.ext_getElem? fun p => ?_
  by_cases hp : p < xs.length
  · rw [h.2 p hp, List.getElem?_reverse hp]
    by_cases e : p < i ∨ xs.length ≤ p + i
    · rw [if_pos e]
    · rw [if_neg e, show xs.length - 1 - p = p by omega]
  · rw [List.getElem?_eq_none (by rw [h.1]; omega), List.getElem?_eq_none (by simp; omega)]
end Go.Proofs.YtcopnfdknclhnaaGreat
