/- The speaker as it lies in memory, and the contract of spread. Conditions: the speaker's arcs are between marks. | The contracts of first, hear, ends and hope. Conditions: the speaker's arcs are between marks. | The contract of far. Conditions: the speaker's arcs are between marks. -/
import Derived.Test.YtnidicfanbkgjaaTongA
import Derived.Deep.RegionHeld3
namespace Go.Proofs.Ytnidicfanbkgjaa
open Go.RowKit

theorem Box.four {w : World} {b ty : Nat} {u0 u1 u2 u3 : Value} (h : Box w b ty #[u0, u1, u2, u3]) : w.cell? ⟨b, 0, none⟩ = some u0 ∧ w.cell? ⟨b, 1, none⟩ = some u1 ∧ w.cell? ⟨b, 2, none⟩ = some u2 ∧ w.cell? ⟨b, 3, none⟩ = some u3 := ⟨h.cell 0, h.cell 1, h.cell 2, h.cell 3⟩
/-! ### bools -/
def BoolR : World → (Nat → Value) → Bool → Prop := fun _ vs x => vs 0 = .bool x
theorem BoolR.kept : Kept BoolR := fun _ _ _ _ _ h => h
theorem BoolR.good : Good BoolR 1 where
  kept := BoolR.kept
  one := fun w vs x h j hj => by
    obtain rfl : j = 0 := by omega
    rw [h]; rfl
  pos := by omega
abbrev Bools (w : World) (A : Option Addr) (n c : Nat) (xs : List Bool) : Prop := Sl BoolR 1 w A n c xs
theorem Bools.get {w : World} {A : Option Addr} {n c k : Nat} {xs : List Bool} (h : Bools w A n c xs) (hk : k < n) :
    ∃ b off x, A = some ⟨b, off, none⟩ ∧ b < w.heap.size ∧ Hid (xs[k]? = some x) ∧ w.cell? ⟨b, off + k, none⟩ = some (.bool x) := by
  obtain ⟨b, off, x, vs, h1, h2, h3, h4, h5⟩ := Sl.get h hk
  refine ⟨b, off, x, h1, h2, h3, ?_⟩
  have := h4 0 (by omega)
  rw [h5] at this
  simpa using this
theorem tyBools : SlTy 92 4 1 1 := SlTy.mk' (z := .bool false) Try.underlying92 (by kernel_rfl) rfl (by decide)

/-! ### a row's measure -/
theorem BoolS.uniq {w : World} {g n : Nat} {bs bs' : List Bool} (h : BoolS w g n bs) (h' : BoolS w g n bs') : bs = bs' := by
  apply List.ext_getElem (by rw [h.1, h'.1])
  intro j h1 h2
  have a1 := h.2 j _ (List.getElem?_eq_getElem h1)
  have a2 := h'.2 j _ (List.getElem?_eq_getElem h2)
  rw [a1] at a2
  simpa using a2
open Classical in
noncomputable def rowF (w : World) (g n : Nat) : Nat := if h : ∃ bs, BoolS w g n bs then cntR (Classical.choose h) else 0
theorem rowF_eq {w : World} {g n : Nat} {bs : List Bool} (h : BoolS w g n bs) : rowF w g n = cntR bs := by
  have hex : ∃ bs, BoolS w g n bs := ⟨bs, h⟩
  unfold rowF
  rw [dif_pos hex, (Classical.choose_spec hex).uniq h]

/-! ### the speaker -/
theorem foldl_take_succ {α β : Type} {f : β → α → β} {l : List α} {b : β} {q : Nat} {a : α} (h : l[q]? = some a) : (l.take (q + 1)).foldl f b = f ((l.take q).foldl f b) a := by
  rw [List.take_add_one, h, List.foldl_append]; rfl
theorem on_at {bs : List Bool} {k : Nat} {v : Bool} (h : bs[k]? = some v) : on bs (k : Int) ↔ v = true := by
  unfold on
  rw [Int.toNat_natCast, List.getD_eq_getElem?_getD, h]; rfl
/-- Where a round of spread stands. -/
def StQ (ars : List PArc) (lb : Int → Int) (B n g : Nat) (w0 wr : World) (b1 : List Bool) (q : Nat) (b : Bool) : Prop := ∃ b2, (ars.take q).foldl (setQ lb) (b1, false) = (b2, b) ∧ OwnBools wr B g n b2 ∧ Below B w0 wr
theorem StQ.keep {ars : List PArc} {lb : Int → Int} {n g B : Nat} {w0 wr w' : World} {b1 : List Bool} {q : Nat} {b : Bool} (h : StQ ars lb B n g w0 wr b1 q b) (hB : B ≤ wr.heap.size) (hb : Below wr.heap.size wr w') : StQ ars lb B n g w0 w' b1 q b := by
  obtain ⟨b2, h1, h2, h3⟩ := h
  exact ⟨b2, h1, h2.keep hb, h3.trans (hb.mono hB)⟩

end Go.Proofs.Ytnidicfanbkgjaa
namespace Go.Proofs.Ytnidicfanbkgjaa
open Go.RowKit

def AnsSet (bs : List Bool) (n : Nat) (w : World) (e : Ending) (w' : World) : Prop := ∃ g, e = .returned (.slice (some ⟨g, 0, none⟩) n n) ∧ OwnBools w' w.heap.size g n bs ∧ Below w.heap.size w w'
def AnsHear (p : List Bool × Bool) (n : Nat) (w : World) (e : Ending) (w' : World) : Prop := ∃ g, e = .returned (.tuple #[.slice (some ⟨g, 0, none⟩) n n, .bool p.2]) ∧ OwnBools w' w.heap.size g n p.1 ∧ Below w.heap.size w w'
section
variable {w : World} {bp : Nat} {A D Al Ae : Option Addr} {n c m d nl cl ce : Nat} {ars : List PArc} {ls : List Int} {es : List Bool}

/-- Has one of the first so many both? -/
def meetB (bs es : List Bool) (k : Nat) : Bool := (List.range k).any fun j => bs.getD j false && es.getD j false
theorem meetB_succ {bs es : List Bool} {k : Nat} {x y : Bool} (hx : bs[k]? = some x) (hy : es[k]? = some y) : meetB bs es (k + 1) = (meetB bs es k || (x && y)) := by
  unfold meetB
  rw [List.range_succ, List.any_append]
  simp [List.getD_eq_getElem?_getD, hx, hy]
theorem meetB_upto {bs es : List Bool} {k n : Nat} (hk : k ≤ n) (h : meetB bs es k = true) : meetB bs es n = true := by
  unfold meetB at h ⊢
  rw [List.any_eq_true] at h ⊢
  obtain ⟨j, hj, h⟩ := h
  exact ⟨j, List.mem_range.2 (by have := List.mem_range.1 hj; omega), h⟩

end

end Go.Proofs.Ytnidicfanbkgjaa
namespace Go.Proofs.Ytnidicfanbkgjaa
open Go.RowKit

/-! ### a row of ints and its measure -/
abbrev IntS (w : World) (g n : Nat) (xs : List Int) : Prop := xs.length = n ∧ ∀ (k : Nat) (x : Int), xs[k]? = some x → w.cell? ⟨g, k, none⟩ = some (.int .i64 x)
theorem IntS.uniq {w : World} {g n : Nat} {xs ys : List Int} (h : IntS w g n xs) (h' : IntS w g n ys) : xs = ys := by
  apply List.ext_getElem (by rw [h.1, h'.1])
  intro j h1 h2
  have a1 := h.2 j _ (List.getElem?_eq_getElem h1)
  have a2 := h'.2 j _ (List.getElem?_eq_getElem h2)
  rw [a1] at a2
  simpa using a2
theorem OwnInts.s {w : World} {B g n cap : Nat} {xs : List Int} (h : OwnInts w B (.slice (some ⟨g, 0, none⟩) n cap) n xs) : IntS w g n xs := ⟨OwnSl.len h, fun _ _ hx => OwnInts.at h hx⟩
open Classical in
noncomputable def rowI (w : World) (g n : Nat) : Nat := if h : ∃ xs, IntS w g n xs then muS n (Classical.choose h) else 0
theorem rowI_eq {w : World} {g n : Nat} {xs : List Int} (h : IntS w g n xs) : rowI w g n = muS n xs := by
  have hex : ∃ xs, IntS w g n xs := ⟨xs, h⟩
  unfold rowI
  rw [dif_pos hex, (Classical.choose_spec hex).uniq h]

/-! ### the start -/
def startX (es : List Bool) (n k : Nat) : List Int := (List.range n).map fun j => if j < k ∧ es.getD j false = false then -1 else 0
theorem startX_len (es : List Bool) (n k : Nat) : (startX es n k).length = n := by simp [startX]
theorem startX_zero (es : List Bool) (n : Nat) : startX es n 0 = List.replicate n 0 := by
  apply List.ext_getElem (by simp [startX])
  intro j h1 h2
  simp [startX]
theorem startX_hit {es : List Bool} {n k : Nat} (hx : es[k]? = some false) : startX es n (k + 1) = (startX es n k).set k (-1) := by
  apply List.ext_getElem (by simp [startX])
  intro j h1 h2
  rw [List.getElem_set]
  simp only [startX, List.getElem_map, List.getElem_range]
  by_cases e : k = j
  · subst e
    rw [if_pos rfl, if_pos ⟨by omega, by rw [List.getD_eq_getElem?_getD, hx]; rfl⟩]
  · rw [if_neg e]
    have : (j < k + 1 ∧ es.getD j false = false) ↔ (j < k ∧ es.getD j false = false) := ⟨fun h => ⟨by omega, h.2⟩, fun h => ⟨by omega, h.2⟩⟩
    exact ite_congr (propext this) (fun _ => rfl) (fun _ => rfl)
theorem startX_miss {es : List Bool} {n k : Nat} (hx : es[k]? = some true) : startX es n (k + 1) = startX es n k := by
  apply List.ext_getElem (by simp [startX])
  intro j h1 h2
  simp only [startX, List.getElem_map, List.getElem_range]
  by_cases e : j = k
  · subst e
    rw [if_neg, if_neg]
    · rintro ⟨h3, _⟩; omega
    · rintro ⟨_, h3⟩
      rw [List.getD_eq_getElem?_getD, hx] at h3
      cases h3
  · have : (j < k + 1 ∧ es.getD j false = false) ↔ (j < k ∧ es.getD j false = false) := ⟨fun h => ⟨by omega, h.2⟩, fun h => ⟨by omega, h.2⟩⟩
    exact ite_congr (propext this) (fun _ => rfl) (fun _ => rfl)
theorem startX_end (es : List Bool) (n : Nat) : startX es n n = startA (fun m => on es m) n := by
  apply List.ext_getElem (by simp [startX, startA])
  intro j h1 h2
  have hj : j < n := by simpa [startX] using h1
  simp only [startX, startA, List.getElem_map, List.getElem_range]
  by_cases e : es.getD j false = true
  · rw [if_neg (by rintro ⟨_, h3⟩; rw [e] at h3; cases h3), if_pos (by unfold on; simpa using e)]
  · rw [if_pos ⟨hj, by simpa using e⟩, if_neg (by unfold on; simpa using e)]
/-- How far it is, from each. -/
noncomputable def farL (ars : List PArc) (lb : Int → Int) (es : List Bool) (n : Nat) : List Int := (List.range n).map fun (k : Nat) => distI ars lb (fun m => on es m) (k : Int)
theorem farL_at {ars : List PArc} {lb : Int → Int} {es : List Bool} {n k : Nat} (hk : k < n) : atI (farL ars lb es n) (k : Int) = distI ars lb (fun m => on es m) (k : Int) := by
  unfold atI farL
  simp [List.getD_eq_getElem?_getD, hk]
theorem FarI.list {ars : List PArc} {lb : Int → Int} {es : List Bool} {n : Nat} {xs : List Int} (h : FarI ars lb (fun m => on es m) n xs) (ht : ∀ a ∈ ars, Inn n a.to_) (hc : ∀ a ∈ ars, farF lb (xs, false) a = (xs, false)) : xs = farL ars lb es n := by
  apply List.ext_getElem (by rw [h.len]; simp [farL])
  intro j h1 h2
  have hj : j < n := by rw [← h.len]; exact h1
  have h3 := (h.done ht hc hj).eq
  have e1 : xs[j] = atI xs (j : Int) := by
    have := atI_some h1
    rw [List.getElem?_eq_getElem h1] at this
    injection this
  have e2 : (farL ars lb es n)[j] = atI (farL ars lb es n) (j : Int) := by
    have := atI_some h2
    rw [List.getElem?_eq_getElem h2] at this
    injection this
  rw [e1, e2, farL_at hj, h3]
/-- Where a round of far stands. -/
def StF (ars : List PArc) (lb : Int → Int) (es : List Bool) (n g cap B : Nat) (w0 wr : World) (b1 : List Int) (q : Nat) (b : Bool) : Prop := ∃ b2, (ars.take q).foldl (farF lb) (b1, false) = (b2, b) ∧ FarI ars lb (fun m => on es m) n b2 ∧ OwnInts wr B (.slice (some ⟨g, 0, none⟩) n cap) n b2 ∧ Below B w0 wr
def AnsFar (xs : List Int) (n : Nat) (w : World) (e : Ending) (w' : World) : Prop := ∃ g c, e = .returned (.slice (some ⟨g, 0, none⟩) n c) ∧ Ints w' (some ⟨g, 0, none⟩) n c xs ∧ Below w.heap.size w w'

end Go.Proofs.Ytnidicfanbkgjaa
