/- Texts melted into one: What arcs read as. Conditions: none. | Lists of things to do, as they read; what Play answers. Conditions: none. | Contracts of net.Fire and BFire. Conditions: the net and the mark read as lists. | The contract of BFire. Conditions: the net and the mark read as lists. | What Enabled, AMix and BFire answer is new. Conditions: the net and the mark read as lists. (Printed by gen/enabF.py.) | A mark as a text: the contract of reach.name. Conditions: the mark reads as a list of at most 16 numbers of tokens. | The map from marks' texts to numbers. Conditions: the marks are of at most 16 places. | The memory of the finder: its box, its map and its three rows. Conditions: none. | The contract of the finder's find. Conditions: the mark reads as a list of at most 16 numbers of tokens, apart from the finder's blocks; the map has the row's marks. | The contract of the finder's explore. Conditions: the net reads as a list and fits; the finder's memory is a start of the exploration. | The contracts of search and Graph. Conditions: the net and the mark read as lists. | The contract of Graph. Conditions: the net and the mark read as lists. | The contracts of the library's Index and Contains on integers. Conditions: the slices read as lists. | IndexFunc on lists of lists, and the test of Path. Conditions: the slice reads as a list of lists. | The contract of Reverse on an own row of numbers. Conditions: the row is its own. | The contract of Path. Conditions: the net, the mark and the goal read as lists. | Rows of lists of the call's own: read, laid anew, cut. Conditions: the row is the call's own, as its lists are. -/
import Derived.Test.YtcopnfdknclhnaaGreatMineTellsK01
import Derived.Test.YtcopnfdknclhnaaGreatMineTellsK06
import Derived.Test.YtcopnfdknclhnaaGreatMineTellsK04
import Derived.Test.YtcopnfdknclhnaaGreatMineTellsK02
import Derived.Deep.AppendLies
import Derived.Deep.RegionHeld3
import Derived.OwnWalk
import Derived.Maps.OwnSet
import Derived.Maps.OwnOps
import Derived.Maps.Views
import Derived.Maps.Keyed
import Derived.StringKeys
import Derived.Test.YtcopnfdknclhnaaGreatMineTellsK03
import Derived.Test.YtcopnfdknclhnaaGreatMineTellsK05
namespace Go.Proofs.YtcopnfdknclhnaaGreat
open Go.RowKit

def ArcR : World → (Nat → Value) → PArc → Prop := fun _ vs a => vs 0 = .int .i64 a.from_ ∧ vs 1 = .int .i64 a.tran ∧ vs 2 = .int .i64 a.to_ ∧ (Lit.int .i64 a.tran).wf = true
theorem ArcR.kept : Kept ArcR := fun _ _ _ _ _ h => h
theorem ArcR.good : Good ArcR 3 where
  kept := ArcR.kept
  one := fun w vs x h j hj => by
    obtain ⟨h0, h1, h2, _⟩ := h
    match j, hj with
    | 0, _ => rw [h0]; rfl
    | 1, _ => rw [h1]; rfl
    | 2, _ => rw [h2]; rfl
  pos := by omega
abbrev Arcs (w : World) (A : Option Addr) (n c : Nat) (ars : List PArc) : Prop := Sl ArcR 3 w A n c ars
theorem Arcs.get {w : World} {A : Option Addr} {n c k : Nat} {ars : List PArc} (h : Arcs w A n c ars) (hk : k < n) :
    ∃ b off a, A = some ⟨b, off, none⟩ ∧ b < w.heap.size ∧ Hid (ars[k]? = some a) ∧ w.cell? ⟨b, off + k * 3, none⟩ = some (.int .i64 a.from_) ∧ w.cell? ⟨b, off + k * 3 + 1, none⟩ = some (.int .i64 a.tran) ∧ w.cell? ⟨b, off + k * 3 + 2, none⟩ = some (.int .i64 a.to_) ∧ Hid ((Lit.int .i64 a.tran).wf = true) := by
  obtain ⟨b, off, a, vs, h1, h2, h3, h4, e0, e1, e2, e3⟩ := Sl.get h hk
  refine ⟨b, off, a, h1, h2, h3, ?_, ?_, ?_, e3⟩
  · rw [← e0]; exact h4 0 (by omega)
  · rw [← e1]; exact h4 1 (by omega)
  · rw [← e2]; exact h4 2 (by omega)
end Go.Proofs.YtcopnfdknclhnaaGreat
namespace Go.Proofs.YtcopnfdknclhnaaGreat
open Go.RowKit

def COpR : World → (Nat → Value) → (Int × Int) → Prop := fun _ vs o => vs 0 = .int .i64 o.1 ∧ vs 1 = .int .i64 o.2
theorem COpR.kept : Kept COpR := fun _ _ _ _ _ h => h
theorem COpR.good : Good COpR 2 where
  kept := COpR.kept
  one := fun w vs x h j hj => by
    match j, hj with
    | 0, _ => rw [h.1]; rfl
    | 1, _ => rw [h.2]; rfl
  pos := by omega
abbrev COps (w : World) (A : Option Addr) (n c : Nat) (os : List (Int × Int)) : Prop := Sl COpR 2 w A n c os
theorem COps.get {w : World} {A : Option Addr} {n c k : Nat} {os : List (Int × Int)} (h : COps w A n c os) (hk : k < n) :
    ∃ b off x y, A = some ⟨b, off, none⟩ ∧ b < w.heap.size ∧ Hid (os[k]? = some (x, y)) ∧ w.cell? ⟨b, off + k * 2, none⟩ = some (.int .i64 x) ∧ w.cell? ⟨b, off + k * 2 + 1, none⟩ = some (.int .i64 y) := by
  obtain ⟨b, off, o, vs, h1, h2, h3, h4, h5, h6⟩ := Sl.get h hk
  refine ⟨b, off, o.1, o.2, h1, h2, h3, ?_, ?_⟩
  · rw [← h5]; exact h4 0 (by omega)
  · rw [← h6]; exact h4 1 (by omega)

/-- Where a slice lies, the row of the slice v does not. -/
def NeRow (A : Option Addr) (n : Nat) (v : Value) : Prop := ∀ b off, A = some ⟨b, off, none⟩ → 0 < n → v.ownBlock ≠ some b
theorem NeRow.after {w : World} {A : Option Addr} {n c : Nat} {xs : List Int} {v : Value} {g k cap : Nat} (h : Ints w A n c xs) (ne : NeRow A n v) (hat : v.ownBlock = some g ∨ w.heap.size ≤ g) : NeRow A n (.slice (some ⟨g, 0, none⟩) k cap) := fun b off hA hn hv => by
  have hgb : g = b := by injection hv
  subst hgb
  rcases hat with h1 | h1
  · exact ne _ _ hA hn h1
  · obtain ⟨b', off', e, hlt, _⟩ := h.cells hn
    rw [hA] at e; injection e with e; injection e with e1; omega
end Go.Proofs.YtcopnfdknclhnaaGreat
namespace Go.Proofs.YtcopnfdknclhnaaGreat
open Go.RowKit

end Go.Proofs.YtcopnfdknclhnaaGreat
namespace Go.Proofs.YtcopnfdknclhnaaGreat
open Go.RowKit

end Go.Proofs.YtcopnfdknclhnaaGreat
namespace Go.Proofs.YtcopnfdknclhnaaGreat
open Go.RowKit

end Go.Proofs.YtcopnfdknclhnaaGreat
namespace Go.Proofs.YtcopnfdknclhnaaGreat
open Go.RowKit

def nameL (xs : List Int) : List Nat := xs.flatMap fun x => [x.toNat % 256, x.toNat / 256 % 256, x.toNat / 65536 % 256]
def nameS (xs : List Int) : ByteArray := strB (nameL xs)
end Go.Proofs.YtcopnfdknclhnaaGreat
namespace Go.Proofs.YtcopnfdknclhnaaGreat
open Go.RowKit Go.Maps

def keyN (x : List Int) : Lit := .string (nameS x).data.toList
/-- Block b is a map that has the number of each of these marks. -/
def AtM (w : World) (b : Nat) (ms : List (List Int)) : Prop :=
  ∃ D : DataW Unit, w.ownsMap Tryz.prog 9 (plainElem Tryz.prog 3) b ms.length D ∧ ∀ x, rightB x = true → x.length ≤ 16 → match findL ms x with
    | some k => D.atKey (keyN x) (.lit (.int .i64 0)) = .lit (.int .i64 (k : Int)) ∧ Maps.has D (keyN x) = true
    | none => Maps.has D (keyN x) = false
theorem AtM.made (w : World) : AtM (w.alloc (.map #[] 0)) w.heap.size [] := ⟨.map [], World.ownsMap_made _ _ _ _, fun _ _ _ => rfl⟩
theorem AtM.of_block {w w' : World} {b : Nat} {ms : List (List Int)} (h : AtM w b ms) (hb : w'.heap[b]? = w.heap[b]?) : AtM w' b ms := by
  obtain ⟨D, ⟨es, clock, h1, h2, h3, h4⟩, h5⟩ := h
  exact ⟨D, ⟨es, clock, hb.trans h1, h2, h3, h4⟩, h5⟩
theorem AtM.lt {w : World} {b : Nat} {ms : List (List Int)} (h : AtM w b ms) : b < w.heap.size := by
  obtain ⟨D, h1, _⟩ := h
  exact h1.lt
theorem AtM.keep {w w' : World} {b : Nat} {ms : List (List Int)} (h : AtM w b ms) (hb : Below w.heap.size w w') : AtM w' b ms := h.of_block (hb.block b h.lt)
end Go.Proofs.YtcopnfdknclhnaaGreat
namespace Go.Proofs.YtcopnfdknclhnaaGreat
open Go.RowKit

/-- A list that lies in none of the finder's blocks. -/
def Apart4 (bf : Nat) (u v z : Value) (A : Option Addr) (n : Nat) : Prop := ∀ b off, A = some ⟨b, off, none⟩ → 0 < n → b ≠ bf ∧ u.ownBlock ≠ some b ∧ v.ownBlock ≠ some b ∧ z.ownBlock ≠ some b
theorem Ints.same {w w' : World} {A : Option Addr} {n c : Nat} {xs : List Int} (h : Ints w A n c xs) (hs : w.heap.size ≤ w'.heap.size) (hb : ∀ b off, A = some ⟨b, off, none⟩ → 0 < n → b < w.heap.size → w'.heap[b]? = w.heap[b]?) : Ints w' A n c xs :=
  ⟨h.len, h.le, h.cap, h.small, h.nul, fun hn => by
    obtain ⟨b, off, e, hlt, hc⟩ := h.cells hn
    refine ⟨b, off, e, Nat.lt_of_lt_of_le hlt hs, fun i x hx => ?_⟩
    obtain ⟨vs, h1, h2⟩ := hc i x hx
    exact ⟨vs, fun j hj => (World.cell?_of_block (hb b off e hn hlt)).trans (h1 j hj), h2⟩⟩
def Keep4 (bf : Nat) (w : World) (u v z : Value) (w' : World) (u' v' z' : Value) : Prop := ∀ (A : Option Addr) (n c : Nat) (xs : List Int), Ints w A n c xs → Apart4 bf u v z A n → Ints w' A n c xs ∧ Apart4 bf u' v' z' A n
theorem Keep4.trans {bf : Nat} {w w1 w2 : World} {u v z u1 v1 z1 u2 v2 z2 : Value} (h : Keep4 bf w u v z w1 u1 v1 z1) (g : Keep4 bf w1 u1 v1 z1 w2 u2 v2 z2) : Keep4 bf w u v z w2 u2 v2 z2 := fun A n c xs a b => by
  obtain ⟨a1, b1⟩ := h A n c xs a b
  exact g A n c xs a1 b1
theorem Keep4.of_below {bf : Nat} {w w' : World} {u v z : Value} (hb : Below w.heap.size w w') : Keep4 bf w u v z w' u v z := fun _ _ _ _ a b => ⟨a.keep hb, b⟩
def MarkR (bf : Nat) (u v z : Value) : World → (Nat → Value) → List Int → Prop := fun w vs xs => ∃ A n c, vs 0 = .slice A n c ∧ Ints w A n c xs ∧ n ≤ 16 ∧ Apart4 bf u v z A n
theorem Keep4.mark {bf : Nat} {w w' : World} {u v z u' v' z' : Value} (h : Keep4 bf w u v z w' u' v' z') {vs : Nat → Value} {xs : List Int} (m : MarkR bf u v z w vs xs) : MarkR bf u' v' z' w' vs xs := by
  obtain ⟨A, n, c, e, i, l, p⟩ := m
  obtain ⟨i', p'⟩ := h A n c xs i p
  exact ⟨A, n, c, e, i', l, p'⟩
theorem MarkR.kept (bf : Nat) (u v z : Value) : Kept (MarkR bf u v z) := fun _ _ _ _ hb h => (Keep4.of_below hb).mark h
theorem Reads.turn {α : Type} {R R' : World → (Nat → Value) → α → Prop} {sz : Nat} {w w' : World} {cs : List Value} {xs : List α} (h : Reads R sz w cs xs) (hR : ∀ vs x, R w vs x → R' w' vs x) : Reads R' sz w' cs xs :=
  ⟨h.1, fun i x hx => by obtain ⟨vs, a, b⟩ := h.2 i x hx; exact ⟨vs, a, hR _ _ b⟩⟩
theorem OwnSl.turn {α : Type} {R R' : World → (Nat → Value) → α → Prop} {sz : Nat} {w w' : World} {B e : Nat} {v : Value} {n : Nat} {xs : List α} (h : OwnSl R sz w B e v n xs) {row : Option Nat} (hg : w.grownBy w' row) (hne : v.ownBlock = none ∨ v.ownBlock ≠ row) (hR : ∀ vs x, R w vs x → R' w' vs x) : OwnSl R' sz w' B e v n xs := by
  obtain ⟨cells, h1, h2, h3⟩ := h
  exact ⟨cells, h1.kept hg hne, h2.turn hR, h3⟩
section
variable {w w' : World} {B bf bm : Nat} {P : Int} {A : Option Addr} {n c : Nat} {most : Int} {u v z : Value} {mm ms : List (List Int)} {ars : List PArc} {fs : List Int}
end
end Go.Proofs.YtcopnfdknclhnaaGreat
namespace Go.Proofs.YtcopnfdknclhnaaGreat
open Go.RowKit

end Go.Proofs.YtcopnfdknclhnaaGreat
namespace Go.Proofs.YtcopnfdknclhnaaGreat
open Go.RowKit

end Go.Proofs.YtcopnfdknclhnaaGreat
namespace Go.Proofs.YtcopnfdknclhnaaGreat
open Go.RowKit

end Go.Proofs.YtcopnfdknclhnaaGreat
namespace Go.Proofs.YtcopnfdknclhnaaGreat
open Go.RowKit

end Go.Proofs.YtcopnfdknclhnaaGreat
namespace Go.Proofs.YtcopnfdknclhnaaGreat
open Go.RowKit

set_option maxRecDepth 100000 in
theorem indexInt_calls {w : World} {A : Option Addr} {n c : Nat} {xs : List Int} (x : Int) (h : Ints w A n c xs) :
    Calls Tryz.prog 69 #[.slice A n c, .int .i64 x] w fun e w' => e = .returned (.int .i64 (idxFirst (fun y => x == y) xs)) ∧ w = w' := by
  have hn := h.small
  have H := hide2 h
  clear h
  go_enter Tryz.func69, Tryz.ntmps69
  go_wp2
  go_loop [8] (fun v => ∃ k : Nat, k ≤ n ∧ v = .int .i64 k ∧ Hid (∀ j, j < k → ∀ y, xs[j]? = some y → (x == y) = false)) (fun v => n - (intOf v).toNat)
  case atStart => exact ⟨0, Nat.zero_le _, rfl, fun j hj => absurd hj (by omega)⟩
  case round =>
    obtain ⟨k, hk, rfl, lo⟩ := hrel
    by_cases hlt : k < n
    · have hki : (k : Int) < (n : Int) := by omega
      obtain ⟨b, off, y, rfl, hb, hy, qy⟩ := Ints.get H.out hlt
      by_cases he : x = y
      · subst he
        go_wp2
        go_ret
        exact ⟨ret_int (idxFirst_some lo.out hy.out (by simp)).symm, rfl⟩
      · have hne : (x == y) = false := by simpa using he
        have HN := hide2 hne
        clear he
        go_wp2
        go_round
        case rel =>
          refine ⟨k + 1, by omega, by go_num, fun j hj z hz => ?_⟩
          by_cases hjk : j = k
          · subst hjk
            have := hy.out
            rw [hz] at this
            injection this with this
            rw [this]
            exact HN.out
          · exact lo.out j (by omega) z hz
        case measure => simp [intOf]; omega
    · go_wp2
      go_ret
      exact ⟨ret_int (idxFirst_none (fun j hj z hz => lo.out j (by have := H.out.len; omega) z hz)).symm, rfl⟩
set_option maxRecDepth 100000 in
theorem containsInt_calls {w : World} {A : Option Addr} {n c : Nat} {xs : List Int} (x : Int) (h : Ints w A n c xs) :
    Calls Tryz.prog 36 #[.slice A n c, .int .i64 x] w fun e w' => e = .returned (.bool (xs.any fun y => x == y)) ∧ w = w' := by
  have H := hide2 h
  clear h
  go_enter Tryz.func36, Tryz.ntmps36
  go_wp2_with (refine (indexInt_calls x H.out).mono ?_; rintro e w' ⟨rfl, rfl⟩)
  go_ret
  exact ⟨ret_bool (idxFirst_any _ _), rfl⟩
end Go.Proofs.YtcopnfdknclhnaaGreat
namespace Go.Proofs.YtcopnfdknclhnaaGreat
open Go.RowKit

end Go.Proofs.YtcopnfdknclhnaaGreat
namespace Go.Proofs.YtcopnfdknclhnaaGreat
open Go.RowKit

end Go.Proofs.YtcopnfdknclhnaaGreat
namespace Go.Proofs.YtcopnfdknclhnaaGreat
open Go.RowKit

end Go.Proofs.YtcopnfdknclhnaaGreat
namespace Go.Proofs.YtcopnfdknclhnaaGreat
open Go.RowKit

/-! ### rows of lists -/
section
variable {w w' : World} {B B2 g n cap : Nat} {L : List (List Int)}
abbrev RowL (w : World) (B B2 : Nat) (v : Value) (n : Nat) (L : List (List Int)) : Prop := OwnSl (OwnListR B) 1 w B2 35 v n L
theorem RowL.keep {v : Value} (h : RowL w B B2 v n L) (hb : Below w.heap.size w w') : RowL w' B B2 v n L := OwnSl.keep (OwnListR.kept B) h hb
theorem RowL.lists {v : Value} (h : RowL w B B2 v n L) (hn : n ≤ 5864062014805) : ∃ A c, v = .slice A n c ∧ Lists w A n c L := by
  obtain ⟨A, c, rfl, s⟩ := h.sl (by omega)
  exact ⟨A, c, rfl, s.len, s.le, s.cap, s.small, s.nul, fun hn => by
    obtain ⟨b, off, e, hb, hx⟩ := s.cells hn
    exact ⟨b, off, e, hb, fun i x hi => by obtain ⟨vs, a, r⟩ := hx i x hi; exact ⟨vs, a, r.list⟩⟩⟩
theorem RowL.at (h : RowL w B B2 (.slice (some ⟨g, 0, none⟩) n cap) n L) {j : Nat} {a : List Int} (ha : L[j]? = some a) : ∃ A m c, w.cell? ⟨g, j, none⟩ = some (.slice A m c) ∧ OwnInts w B (.slice A m c) m a ∧ m ≤ 17592186043904 := by
  obtain ⟨cells, h1, h2, h3⟩ := h
  obtain ⟨vs, e, m, hm, hl⟩ := h2.2 j a ha
  obtain ⟨A, c, ev, _⟩ := hm.sl (by omega)
  have e0 := e 0 (by omega)
  rw [ev] at e0 hm
  have hj : j < n := by rw [← h3]; exact (List.getElem?_eq_some_iff.1 ha).1
  exact ⟨A, m, c, by rw [h1.cellAt j (by omega)]; simpa using e0, hm, hl⟩
theorem RowL.frozen (h : RowL w B B2 (.slice (some ⟨g, 0, none⟩) n cap) n L) (j : Nat) : w.frozen? ⟨g, j, none⟩ = false := by
  obtain ⟨cells, h1, _⟩ := h
  exact h1.frozenAt j
theorem RowL.put (h : RowL w B B2 (.slice (some ⟨g, 0, none⟩) n cap) n L) (i : Nat) {v : Value} {m : Nat} {a : List Int} (hv : OwnInts w B v m a) (hm : m ≤ 17592186043904) : RowL (w.setCell ⟨g, i, none⟩ v) B B2 (.slice (some ⟨g, 0, none⟩) n cap) n (L.set i a) := by
  obtain ⟨cells, h1, h2, h3⟩ := h
  have hg : w.grownBy (w.setCell ⟨g, i, none⟩ v) (Value.slice (some ⟨g, 0, none⟩) n cap).ownBlock := ⟨rfl, rfl, rfl, by simp [World.setCell], fun k _ hne => heap_setCell_other _ _ _ _ (fun e => hne (by rw [e]; rfl))⟩
  refine ⟨_, (h1.stored i v).1, ⟨by simpa using h2.1, fun k x hx => ?_⟩, by simpa using h3⟩
  rw [List.getElem?_set] at hx
  split at hx
  · rename_i e
    subst e
    split at hx
    · rename_i hlt
      injection hx with hx
      subst hx
      refine ⟨fun _ => v, fun j hj => ?_, m, ?_, hm⟩
      · obtain rfl : j = 0 := by omega
        rw [List.getElem?_set, if_pos (by omega), if_pos (by have := h2.1; omega)]
      · obtain ⟨zs, z1, z2, z3⟩ := hv
        exact ⟨zs, z1.kept hg (own_ne z1 h1 (by decide)), z2, z3⟩
    · cases hx
  · rename_i hne
    obtain ⟨vs, e, hR⟩ := h2.2 k x hx
    refine ⟨vs, fun j hj => ?_, OwnListR.grown h1 (by decide) hg hR⟩
    rw [List.getElem?_set, if_neg (by omega)]
    exact e j hj
end
theorem grown_setCells (g : Nat) : ∀ (vs : List Value) (o : Nat) (w : World), w.grownBy (w.setCells g o vs) (some g)
  | [], o, w => World.grownBy.refl _ _
  | v :: r, o, w => (show w.grownBy (w.setCell ⟨g, o, none⟩ v) (some g) from ⟨rfl, rfl, rfl, by simp [World.setCell], fun k _ hne => heap_setCell_other _ _ _ _ (fun e => hne (by rw [e]))⟩).trans (grown_setCells g r (o + 1) _)
/-- The rest is cleared, the head is kept. -/
theorem RowL.cutAt {w : World} {B B2 g n cap i : Nat} {L : List (List Int)} (h : RowL w B B2 (.slice (some ⟨g, 0, none⟩) n cap) n L) (hi : i ≤ n) (vs : List Value) : RowL (w.setCells g i vs) B B2 (.slice (some ⟨g, 0, none⟩) i cap) i (L.take i) := by
  obtain ⟨cells, h1, h2, h3⟩ := h
  obtain ⟨c2, r1, r2⟩ := own_setCells vs i w _ h1
  have r3 := own_pre r1 hi
  rw [r2] at r3
  have hg := grown_setCells g vs i w
  refine ⟨_, r3, ⟨by have := h2.1; simp only [List.length_take]; omega, fun k x hx => ?_⟩, by rw [List.length_take]; omega⟩
  rw [List.getElem?_take] at hx
  split at hx
  · rename_i hk
    obtain ⟨us, e, hR⟩ := h2.2 k x hx
    refine ⟨us, fun j hj => ?_, OwnListR.grown h1 (by decide) hg hR⟩
    rw [List.getElem?_take, if_pos (by omega)]
    exact e j hj
  · cases hx
theorem gnone2 {w w' : World} (hb : Below w.heap.size w w') (row : Option Nat) : w.grownBy w' row := ⟨hb.os, hb.tape, hb.output, hb.size, fun k hk _ => hb.block k hk⟩
theorem grownG (w : World) (b j : Nat) (v : Value) : w.grownBy (w.setCell ⟨b, j, none⟩ v) (some b) :=
  ⟨rfl, rfl, rfl, by simp [World.setCell], fun k _ hne => heap_setCell_other _ _ _ _ (fun e => hne (by rw [e]))⟩
theorem RowL.anyCell {w : World} {B B2 g n cap : Nat} {L : List (List Int)} (h : RowL w B B2 (.slice (some ⟨g, 0, none⟩) n cap) n L) {j : Nat} (hj : j < n) : (w.cell? ⟨g, j, none⟩).isSome = true := by
  obtain ⟨A, m, c, e, _⟩ := h.at (j := j) (List.getElem?_eq_getElem (by rw [h.len]; exact hj))
  rw [e]; rfl
theorem RowL.ints {w : World} {B m c : Nat} {A : Option Addr} {a : List Int} (h : OwnInts w B (.slice A m c) m a) (hm : m ≤ 17592186043904) : Ints w A m c a := by
  obtain ⟨A', c', e, i⟩ := h.sl (by omega)
  injection e with e1 _ e2
  rw [e1, e2]; exact i
end Go.Proofs.YtcopnfdknclhnaaGreat
