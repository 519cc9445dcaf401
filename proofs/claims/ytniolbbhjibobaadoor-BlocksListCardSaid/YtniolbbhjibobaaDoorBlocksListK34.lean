/- Texts melted into one: A mark as a text: the contract of reach.name. Conditions: the mark reads as a list of at most 16 numbers of tokens. | The map from marks' texts to numbers. Conditions: the marks are of at most 16 places. | The memory of the finder: its box, its map and its three rows. Conditions: none. | The contract of the finder's find. Conditions: the mark reads as a list of at most 16 numbers of tokens, apart from the finder's blocks; the map has the row's marks. | The contract of the finder's explore. Conditions: the net reads as a list and fits; the finder's memory is a start of the exploration. | The contracts of search and Graph. Conditions: the net and the mark read as lists. | The contract of Graph. Conditions: the net and the mark read as lists. | The contracts of the library's Index and Contains on integers. Conditions: the slices read as lists. | IndexFunc on lists of lists, and the test of Path. Conditions: the slice reads as a list of lists. | The contract of Reverse on an own row of numbers. Conditions: the row is its own. | The contract of Path. Conditions: the net, the mark and the goal read as lists. | Rows of lists of the call's own: read, laid anew, cut. Conditions: the row is the call's own, as its lists are. -/
import Derived.Test.YtniolbbhjibobaaDoorBlocksListK33
import Derived.Test.YtniolbbhjibobaaDoorBlocksListK04
import Derived.OwnWalk
import Derived.Maps.OwnSet
import Derived.Maps.OwnOps
import Derived.Maps.Views
import Derived.Maps.Keyed
import Derived.StringKeys
import Derived.Test.YtniolbbhjibobaaDoorBlocksListK07
import Derived.Test.YtniolbbhjibobaaDoorBlocksListK06
import Derived.Deep.RegionHeld3
import Derived.Test.YtniolbbhjibobaaDoorBlocksListK02
import Derived.Test.YtniolbbhjibobaaDoorBlocksListK05
import Derived.Test.YtniolbbhjibobaaDoorBlocksListK32
set_option linter.all false
namespace Go.Proofs.YtniolbbhjibobaaDoor
open Go.RowKit

def nameL (xs : List Int) : List Nat := xs.flatMap fun x => [x.toNat % 256, x.toNat / 256 % 256, x.toNat / 65536 % 256]
theorem nameL_len (xs : List Int) : (nameL xs).length = 3 * xs.length := by
  induction xs with
  | nil => rfl
  | cons x l ih =>
    have : nameL (x :: l) = [x.toNat % 256, x.toNat / 256 % 256, x.toNat / 65536 % 256] ++ nameL l := rfl
    rw [this, List.length_append, ih]
    simp only [List.length_cons, List.length_nil]
    omega
theorem nameL_lt (xs : List Int) : ∀ b ∈ nameL xs, b < 256 := by
  intro b hb
  unfold nameL at hb
  obtain ⟨x, _, hx⟩ := List.mem_flatMap.1 hb
  simp at hx
  omega
theorem nameL_inj : ∀ {xs ys : List Int} (_ : rightB xs = true) (_ : rightB ys = true) (_ : nameL xs = nameL ys), xs = ys
  | [], [], _, _, _ => rfl
  | [], y :: l, _, _, h => by have := congrArg List.length h; rw [nameL_len, nameL_len] at this; simp at this
  | x :: l, [], _, _, h => by have := congrArg List.length h; rw [nameL_len, nameL_len] at this; simp at this
  | x :: l, y :: r, hx, hy, h => by
    have e1 : nameL (x :: l) = x.toNat % 256 :: (x.toNat / 256 % 256) :: (x.toNat / 65536 % 256) :: nameL l := rfl
    have e2 : nameL (y :: r) = y.toNat % 256 :: (y.toNat / 256 % 256) :: (y.toNat / 65536 % 256) :: nameL r := rfl
    rw [e1, e2] at h
    injection h with h1 h
    injection h with h2 h
    injection h with h3 h
    rw [rightB_iff] at hx hy
    have hx0 := hx x (by simp)
    have hy0 := hy y (by simp)
    rw [nameL_inj ((rightB_iff l).2 fun z hz => hx z (by simp [hz])) ((rightB_iff r).2 fun z hz => hy z (by simp [hz])) h, show x = y from by omega]
theorem strB_inj {a b : List Nat} (ha : ∀ x ∈ a, x < 256) (hb : ∀ x ∈ b, x < 256) (h : strB a = strB b) : a = b := by
  have h1 : (strB a).data.toList = (strB b).data.toList := by rw [h]
  unfold strB at h1
  rw [strOfNums_data, strOfNums_data, List.map_map, List.map_map] at h1
  have h2 := congrArg (List.map UInt8.toNat) h1
  rw [List.map_map, List.map_map] at h2
  have key : ∀ l : List Nat, (∀ x ∈ l, x < 256) → l.map (UInt8.toNat ∘ ((fun n : Int => UInt8.ofNat n.toNat) ∘ fun b : Nat => (b : Int))) = l := fun l hl => by
    rw [List.map_congr_left (g := id) (fun x hx => by
      simp only [Function.comp, Int.toNat_natCast, UInt8.toNat_ofNat', id]
      have := hl x hx
      omega)]
    simp
  rwa [key a ha, key b hb] at h2
def nameS (xs : List Int) : ByteArray := strB (nameL xs)
theorem nameS_inj {xs ys : List Int} (hx : rightB xs = true) (hy : rightB ys = true) (h : nameS xs = nameS ys) : xs = ys := nameL_inj hx hy (strB_inj (nameL_lt _) (nameL_lt _) h)
end Go.Proofs.YtniolbbhjibobaaDoor
namespace Go.Proofs.YtniolbbhjibobaaDoor
open Go.RowKit Go.Maps

theorem findL_snoc {ms : List (List Int)} {x y : List Int} : findL (ms ++ [x]) y = match findL ms y with
    | some k => some k
    | none => if y = x then some ms.length else none := by
  unfold findL
  rw [List.findIdx?_append]
  cases h : ms.findIdx? fun z => y == z with
  | some k => simp
  | none =>
    by_cases e : y = x
    · subst e; simp
    · simp [e]
def keyN (x : List Int) : Lit := .string (nameS x).data.toList
theorem keyN_inj {x y : List Int} (hx : rightB x = true) (hy : rightB y = true) (h : keyN x = keyN y) : x = y := by
  unfold keyN at h
  injection h with h
  exact nameS_inj hx hy (Go.WideShapes.bytes_inj h)
/-- Block b is a map that has the number of each of these marks. -/
def AtM (w : World) (b : Nat) (ms : List (List Int)) : Prop :=
  ∃ D : DataW Unit, w.ownsMap Tryd.prog 9 (plainElem Tryd.prog 3) b ms.length D ∧ ∀ x, rightB x = true → x.length ≤ 16 → match findL ms x with
    | some k => D.atKey (keyN x) (.lit (.int .i64 0)) = .lit (.int .i64 (k : Int)) ∧ Maps.has D (keyN x) = true
    | none => Maps.has D (keyN x) = false
theorem strLaw : Keyed Tryd.prog 9 := string_keyed Tryd.underlying9
theorem zeroIntR (w : World) : (zeroValue 3).run Tryd.prog w = .ok (.int .i64 0) w := by kernel_rfl
theorem AtM.made (w : World) : AtM (w.alloc (.map #[] 0)) w.heap.size [] := ⟨.map [], World.ownsMap_made _ _ _ _, fun _ _ _ => rfl⟩
theorem AtM.of_block {w w' : World} {b : Nat} {ms : List (List Int)} (h : AtM w b ms) (hb : w'.heap[b]? = w.heap[b]?) : AtM w' b ms := by
  obtain ⟨D, ⟨es, clock, h1, h2, h3, h4⟩, h5⟩ := h
  exact ⟨D, ⟨es, clock, hb.trans h1, h2, h3, h4⟩, h5⟩
theorem AtM.lt {w : World} {b : Nat} {ms : List (List Int)} (h : AtM w b ms) : b < w.heap.size := by
  obtain ⟨D, h1, _⟩ := h
  exact h1.lt
theorem AtM.keep {w w' : World} {b : Nat} {ms : List (List Int)} (h : AtM w b ms) (hb : Below w.heap.size w w') : AtM w' b ms := h.of_block (hb.block b h.lt)
theorem nameS_size (x : List Int) : (nameS x).size = 3 * x.length := by
  unfold nameS strB
  rw [strOfNums_size, List.length_map, nameL_len]
theorem keyOfN {x : List Int} (hx : x.length ≤ 16) : keyOf Tryd.prog 9 (.string (nameS x)) = some (keyN x) :=
  Go.WideMaps.keyOf_string_mk Tryd.underlying9 (by rw [nameS_size]; simp only [maxLen]; omega)
set_option maxRecDepth 100000 in
theorem AtM.look {w : World} {b : Nat} {ms : List (List Int)} (h : AtM w b ms) {x : List Int} (hx : rightB x = true) (hl : x.length ≤ 16) :
    ∃ v : Int, (Instr.lookup 45 (.map (some b)) (.string (nameS x)) true).run Tryd.prog w = .ok (.tuple #[.int .i64 v, .bool (findL ms x).isSome]) w ∧ ∀ k, findL ms x = some k → v = (k : Int) := by
  obtain ⟨D, h1, h2⟩ := h
  obtain ⟨u, ps, hrun, hv⟩ := h1.look_ok strLaw Tryd.underlying45 (zeroIntR w) (plainElem_int Tryd.underlying3 (a := 0) (by decide)) (keyOfN hl)
  obtain ⟨c, rfl, hc, _⟩ := plainElem_int_inv Tryd.underlying3 hv
  have h3 := h2 x hx hl
  cases hf : findL ms x with
  | none =>
    rw [hf] at h3
    rw [h3] at hrun
    exact ⟨c, hrun, fun k hk => by cases hk⟩
  | some k =>
    rw [hf] at h3
    rw [h3.2] at hrun
    refine ⟨c, hrun, fun k' hk' => ?_⟩
    injection hk' with hk'
    subst hk'
    have h4 := congrArg Prod.fst hc
    simp only at h4
    rw [h3.1] at h4
    injection h4 with h4
    injection h4 with _ h4
    exact h4.symm
set_option maxRecDepth 100000 in
theorem AtM.put {w : World} {b : Nat} {ms : List (List Int)} (h : AtM w b ms) {x : List Int} (hx : rightB x = true) (hl : x.length ≤ 16) (hn : findL ms x = none) (hm : ms.length ≤ 1000) :
    ∃ w', (Instr.mapUpdate 45 (.map (some b)) (.string (nameS x)) (.int .i64 (ms.length : Int))).run Tryd.prog w = .ok () w' ∧ AtM w' b (ms ++ [x]) ∧ w.grownBy w' (some b) := by
  obtain ⟨D, h1, h2⟩ := h
  obtain ⟨w', r1, r2, r3⟩ := h1.update strLaw Tryd.underlying45 (by rw [maxLen]; omega) (keyOfN hl) (plainElem_int Tryd.underlying3 (a := (ms.length : Int)) (WalkArith.wf_i64 (by omega)))
  refine ⟨w', r1, ⟨_, by rw [List.length_append]; exact r2, fun y hy hly => ?_⟩, r3⟩
  rw [findL_snoc]
  have h3 := h2 y hy hly
  have hD := (h1.tidy strLaw).isMap
  by_cases e : y = x
  · subst e
    rw [hn]
    rw [if_pos rfl]
    exact ⟨Maps.atKey_put_same hD (strLaw.key (keyOfN hl)) _ _, Maps.has_put_same hD (strLaw.key (keyOfN hl)) _⟩
  · have hne : keyN y ≠ keyN x := fun e2 => e (keyN_inj hy hx e2)
    cases hf : findL ms y with
    | some k =>
      rw [hf] at h3
      exact ⟨by rw [Maps.atKey_put_other hne]; exact h3.1, by rw [Maps.has_put_other hne]; exact h3.2⟩
    | none =>
      rw [hf] at h3
      rw [if_neg e]
      show Maps.has _ _ = false
      rw [Maps.has_put_other hne]
      exact h3
end Go.Proofs.YtniolbbhjibobaaDoor
namespace Go.Proofs.YtniolbbhjibobaaDoor
open Go.RowKit

/-- A list that lies in none of the finder's blocks. -/
def Apart4 (bf : Nat) (u v z : Value) (A : Option Addr) (n : Nat) : Prop := ∀ b off, A = some ⟨b, off, none⟩ → 0 < n → b ≠ bf ∧ u.ownBlock ≠ some b ∧ v.ownBlock ≠ some b ∧ z.ownBlock ≠ some b
theorem Ints.same {w w' : World} {A : Option Addr} {n c : Nat} {xs : List Int} (h : Ints w A n c xs) (hs : w.heap.size ≤ w'.heap.size) (hb : ∀ b off, A = some ⟨b, off, none⟩ → 0 < n → b < w.heap.size → w'.heap[b]? = w.heap[b]?) : Ints w' A n c xs :=
  ⟨h.len, h.le, h.cap, h.small, h.nul, fun hn => by
    obtain ⟨b, off, e, hlt, hc⟩ := h.cells hn
    refine ⟨b, off, e, Nat.lt_of_lt_of_le hlt hs, fun i x hx => ?_⟩
    obtain ⟨vs, h1, h2⟩ := hc i x hx
    exact ⟨vs, fun j hj => (World.cell?_of_block (hb b off e hn hlt)).trans (h1 j hj), h2⟩⟩
def Keep4 (bf : Nat) (w : World) (u v z : Value) (w' : World) (u' v' z' : Value) : Prop := ∀ (A : Option Addr) (n c : Nat) (xs : List Int), Ints w A n c xs → Apart4 bf u v z A n → Ints w' A n c xs ∧ Apart4 bf u' v' z' A n
theorem Keep4.trans {bf : Nat} {w w1 w2 : World} {u v z u1 v1 z1 u2 v2 z2 : Value} (h : Keep4 bf w u v z w1 u1 v1 z1) (g : Keep4 bf w1 u1 v1 z1 w2 u2 v2 z2) : Keep4 bf w u v z w2 u2 v2 z2 := fun A n c xs a b => by
  obtain ⟨a1, b1⟩ := h A n c xs a b
  exact g A n c xs a1 b1
theorem Keep4.of_below {bf : Nat} {w w' : World} {u v z : Value} (hb : Below w.heap.size w w') : Keep4 bf w u v z w' u v z := fun _ _ _ _ a b => ⟨a.keep hb, b⟩
def MarkR (bf : Nat) (u v z : Value) : World → (Nat → Value) → List Int → Prop := fun w vs xs => ∃ A n c, vs 0 = .slice A n c ∧ Ints w A n c xs ∧ n ≤ 16 ∧ Apart4 bf u v z A n
theorem Keep4.mark {bf : Nat} {w w' : World} {u v z u' v' z' : Value} (h : Keep4 bf w u v z w' u' v' z') {vs : Nat → Value} {xs : List Int} (m : MarkR bf u v z w vs xs) : MarkR bf u' v' z' w' vs xs := by
  obtain ⟨A, n, c, e, i, l, p⟩ := m
  obtain ⟨i', p'⟩ := h A n c xs i p
  exact ⟨A, n, c, e, i', l, p'⟩
theorem MarkR.kept (bf : Nat) (u v z : Value) : Kept (MarkR bf u v z) := fun _ _ _ _ hb h => (Keep4.of_below hb).mark h
section
variable {w w' : World} {B bf bm : Nat} {P : Int} {A : Option Addr} {n c : Nat} {most : Int} {u v z : Value} {mm ms : List (List Int)} {ars : List PArc} {fs : List Int}
end
end Go.Proofs.YtniolbbhjibobaaDoor
namespace Go.Proofs.YtniolbbhjibobaaDoor
open Go.RowKit

end Go.Proofs.YtniolbbhjibobaaDoor
namespace Go.Proofs.YtniolbbhjibobaaDoor
open Go.RowKit

end Go.Proofs.YtniolbbhjibobaaDoor
namespace Go.Proofs.YtniolbbhjibobaaDoor
open Go.RowKit

end Go.Proofs.YtniolbbhjibobaaDoor
namespace Go.Proofs.YtniolbbhjibobaaDoor
open Go.RowKit

end Go.Proofs.YtniolbbhjibobaaDoor
namespace Go.Proofs.YtniolbbhjibobaaDoor
open Go.RowKit

end Go.Proofs.YtniolbbhjibobaaDoor
namespace Go.Proofs.YtniolbbhjibobaaDoor
open Go.RowKit

/-- Function F, with what it captured, is a test of lists. -/
structure IsPredL (F : FuncId) (cap : Array Value) (w : World) (p : List Int → Bool) : Prop where
  enters : ∀ args w, (callFunc F args).run Tryd.prog w = .ok (.enter F args) w
  calls : ∀ (wr : World) (A : Option Addr) (n c : Nat) (y : List Int), Below w.heap.size w wr → Ints wr A n c y →
    Calls Tryd.prog F (#[.slice A n c] ++ cap) wr fun e w' => e = .returned (.bool (p y)) ∧ Below wr.heap.size wr w'

set_option maxRecDepth 100000 in
theorem indexLists_calls {w : World} {A : Option Addr} {n c : Nat} {ms : List (List Int)} {F : FuncId} {cap : Array Value} {p : List Int → Bool} (h : Lists w A n c ms) (hp : IsPredL F cap w p) :
    Calls Tryd.prog 57 #[.slice A n c, .func (.func F) #[] cap] w fun e w' => e = .returned (.int .i64 (idxFirst p ms)) ∧ Below w.heap.size w w' := by
  have hn := h.small
  have henter := hp.enters
  have H := hide2 h
  have HP := hide2 hp
  clear h hp
  go_enter Tryd.func57, Tryd.ntmps57
  go_wp2
  go_loopw [8] (fun i wr => ∃ k : Nat, k ≤ n ∧ i = .int .i64 k ∧ Hid (∀ j, j < k → ∀ y, ms[j]? = some y → p y = false) ∧ Hid (Below w.heap.size w wr)) (fun i _ => n - (intOf i).toNat)
  case atStart => exact ⟨0, Nat.zero_le _, rfl, fun j hj => absurd hj (by omega), Below.refl _ _⟩
  case round =>
    obtain ⟨k, hk, rfl, hlow, D⟩ := hrel
    by_cases hlt : k < n
    · have hki : (k : Int) < (n : Int) := by omega
      obtain ⟨b, off, t, vs, rfl, hb, ht, hc, A1, n1, c1, e1, i1, hn1⟩ := Sl.get (Sl.keep ListR.kept H.out D.out) hlt
      have q0 : wr.cell? ⟨b, off + k, none⟩ = some (.slice A1 n1 c1) := by have := hc 0 (by omega); rw [e1] at this; simpa using this
      have CL := hide2 (HP.out.calls wr A1 n1 c1 t D.out i1)
      have HT := hide2 ht
      obtain ⟨v, hv⟩ : ∃ v, p t = v := ⟨_, rfl⟩
      have HV := hide2 hv
      rw [hv] at CL
      clear hv hc e1 i1 ht
      cases v
      · go_wp2_with (refine CL.out.mono ?_; rintro e w' ⟨rfl, hb'⟩; have HB := hide2 hb'; clear hb')
        go_roundw
        case rel =>
          refine ⟨k + 1, by omega, by go_num, fun j hj y hy => ?_, D.out.trans (HB.out.mono D.out.size)⟩
          by_cases hjk : j = k
          · subst hjk
            have := HT.out
            rw [hy] at this
            injection this with this
            rw [this]
            exact HV.out
          · exact hlow.out j (by omega) y hy
        case measure => simp [intOf]; omega
      · go_wp2_with (refine CL.out.mono ?_; rintro e w' ⟨rfl, hb'⟩; have HB := hide2 hb'; clear hb')
        go_ret
        exact ⟨ret_int (idxFirst_some hlow.out HT.out HV.out).symm, D.out.trans (HB.out.mono D.out.size)⟩
    · go_wp2
      go_ret
      exact ⟨ret_int (idxFirst_none (fun j hj y hy => hlow.out j (by have := H.out.len; omega) y hy)).symm, D.out⟩
end Go.Proofs.YtniolbbhjibobaaDoor
namespace Go.Proofs.YtniolbbhjibobaaDoor
open Go.RowKit

end Go.Proofs.YtniolbbhjibobaaDoor
namespace Go.Proofs.YtniolbbhjibobaaDoor
open Go.RowKit

end Go.Proofs.YtniolbbhjibobaaDoor
namespace Go.Proofs.YtniolbbhjibobaaDoor
open Go.RowKit

/-! ### rows of lists -/
section
variable {w w' : World} {B B2 g n cap : Nat} {L : List (List Int)}
abbrev RowL (w : World) (B B2 : Nat) (v : Value) (n : Nat) (L : List (List Int)) : Prop := OwnSl (OwnListR B) 1 w B2 32 v n L
theorem RowL.keep {v : Value} (h : RowL w B B2 v n L) (hb : Below w.heap.size w w') : RowL w' B B2 v n L := OwnSl.keep (OwnListR.kept B) h hb
theorem RowL.lists {v : Value} (h : RowL w B B2 v n L) (hn : n ≤ 5864062014805) : ∃ A c, v = .slice A n c ∧ Lists w A n c L := by
  obtain ⟨A, c, rfl, s⟩ := h.sl (by omega)
  exact ⟨A, c, rfl, s.len, s.le, s.cap, s.small, s.nul, fun hn => by
    obtain ⟨b, off, e, hb, hx⟩ := s.cells hn
    exact ⟨b, off, e, hb, fun i x hi => by obtain ⟨vs, a, r⟩ := hx i x hi; exact ⟨vs, a, r.list⟩⟩⟩
theorem RowL.at (h : RowL w B B2 (.slice (some ⟨g, 0, none⟩) n cap) n L) {j : Nat} {a : List Int} (ha : L[j]? = some a) : ∃ A m c, w.cell? ⟨g, j, none⟩ = some (.slice A m c) ∧ OwnInts w B (.slice A m c) m a ∧ m ≤ 17592186043904 := by
  obtain ⟨cells, h1, h2, h3⟩ := h
  obtain ⟨vs, e, m, hm, hl⟩ := h2.2 j a ha
  obtain ⟨A, c, ev, _⟩ := hm.sl (by omega)
  have e0 := e 0 (by omega)
  rw [ev] at e0 hm
  have hj : j < n := by rw [← h3]; exact (List.getElem?_eq_some_iff.1 ha).1
  exact ⟨A, m, c, by rw [h1.cellAt j (by omega)]; simpa using e0, hm, hl⟩
theorem RowL.frozen (h : RowL w B B2 (.slice (some ⟨g, 0, none⟩) n cap) n L) (j : Nat) : w.frozen? ⟨g, j, none⟩ = false := by
  obtain ⟨cells, h1, _⟩ := h
  exact h1.frozenAt j
theorem RowL.put (h : RowL w B B2 (.slice (some ⟨g, 0, none⟩) n cap) n L) (i : Nat) {v : Value} {m : Nat} {a : List Int} (hv : OwnInts w B v m a) (hm : m ≤ 17592186043904) : RowL (w.setCell ⟨g, i, none⟩ v) B B2 (.slice (some ⟨g, 0, none⟩) n cap) n (L.set i a) := by
  obtain ⟨cells, h1, h2, h3⟩ := h
  have hg : w.grownBy (w.setCell ⟨g, i, none⟩ v) (Value.slice (some ⟨g, 0, none⟩) n cap).ownBlock := ⟨rfl, rfl, rfl, by simp [World.setCell], fun k _ hne => heap_setCell_other _ _ _ _ (fun e => hne (by rw [e]; rfl))⟩
  refine ⟨_, (h1.stored i v).1, ⟨by simpa using h2.1, fun k x hx => ?_⟩, by simpa using h3⟩
  rw [List.getElem?_set] at hx
  split at hx
  · rename_i e
    subst e
    split at hx
    · rename_i hlt
      injection hx with hx
      subst hx
      refine ⟨fun _ => v, fun j hj => ?_, m, ?_, hm⟩
      · obtain rfl : j = 0 := by omega
        rw [List.getElem?_set, if_pos (by omega), if_pos (by have := h2.1; omega)]
      · obtain ⟨zs, z1, z2, z3⟩ := hv
        exact ⟨zs, z1.kept hg (own_ne z1 h1 (by decide)), z2, z3⟩
    · cases hx
  · rename_i hne
    obtain ⟨vs, e, hR⟩ := h2.2 k x hx
    refine ⟨vs, fun j hj => ?_, OwnListR.grown h1 (by decide) hg hR⟩
    rw [List.getElem?_set, if_neg (by omega)]
    exact e j hj
end
theorem grown_setCells (g : Nat) : ∀ (vs : List Value) (o : Nat) (w : World), w.grownBy (w.setCells g o vs) (some g)
  | [], o, w => World.grownBy.refl _ _
  | v :: r, o, w => (show w.grownBy (w.setCell ⟨g, o, none⟩ v) (some g) from ⟨rfl, rfl, rfl, by simp [World.setCell], fun k _ hne => heap_setCell_other _ _ _ _ (fun e => hne (by rw [e]))⟩).trans (grown_setCells g r (o + 1) _)
/-- The rest is cleared, the head is kept. -/
theorem RowL.cutAt {w : World} {B B2 g n cap i : Nat} {L : List (List Int)} (h : RowL w B B2 (.slice (some ⟨g, 0, none⟩) n cap) n L) (hi : i ≤ n) (vs : List Value) : RowL (w.setCells g i vs) B B2 (.slice (some ⟨g, 0, none⟩) i cap) i (L.take i) := by
  obtain ⟨cells, h1, h2, h3⟩ := h
  obtain ⟨c2, r1, r2⟩ := own_setCells vs i w _ h1
  have r3 := own_pre r1 hi
  rw [r2] at r3
  have hg := grown_setCells g vs i w
  refine ⟨_, r3, ⟨by have := h2.1; simp only [List.length_take]; omega, fun k x hx => ?_⟩, by rw [List.length_take]; omega⟩
  rw [List.getElem?_take] at hx
  split at hx
  · rename_i hk
    obtain ⟨us, e, hR⟩ := h2.2 k x hx
    refine ⟨us, fun j hj => ?_, OwnListR.grown h1 (by decide) hg hR⟩
    rw [List.getElem?_take, if_pos (by omega)]
    exact e j hj
  · cases hx
theorem gnone2 {w w' : World} (hb : Below w.heap.size w w') (row : Option Nat) : w.grownBy w' row := ⟨hb.os, hb.tape, hb.output, hb.size, fun k hk _ => hb.block k hk⟩
theorem grownG (w : World) (b j : Nat) (v : Value) : w.grownBy (w.setCell ⟨b, j, none⟩ v) (some b) :=
  ⟨rfl, rfl, rfl, by simp [World.setCell], fun k _ hne => heap_setCell_other _ _ _ _ (fun e => hne (by rw [e]))⟩
/-- Function F, with what it captured, is a test of lists, in each later world where block g may have turned. -/
structure IsPredG (F : FuncId) (cap : Array Value) (w : World) (g : Nat) (p : List Int → Bool) : Prop where
  enters : ∀ args w, (callFunc F args).run Tryd.prog w = .ok (.enter F args) w
  calls : ∀ (wr : World) (A : Option Addr) (n c : Nat) (y : List Int), w.grownBy wr (some g) → Ints wr A n c y →
    Calls Tryd.prog F (#[.slice A n c] ++ cap) wr fun e w' => e = .returned (.bool (p y)) ∧ Below wr.heap.size wr w'
theorem IsPredG.toL {F : FuncId} {cap : Array Value} {w : World} {g : Nat} {p : List Int → Bool} (h : IsPredG F cap w g p) : IsPredL F cap w p :=
  ⟨h.enters, fun wr A n c y hb hi => h.calls wr A n c y (gnone2 hb _) hi⟩
theorem RowL.anyCell {w : World} {B B2 g n cap : Nat} {L : List (List Int)} (h : RowL w B B2 (.slice (some ⟨g, 0, none⟩) n cap) n L) {j : Nat} (hj : j < n) : (w.cell? ⟨g, j, none⟩).isSome = true := by
  obtain ⟨A, m, c, e, _⟩ := h.at (j := j) (List.getElem?_eq_getElem (by rw [h.len]; exact hj))
  rw [e]; rfl
theorem RowL.ints {w : World} {B m c : Nat} {A : Option Addr} {a : List Int} (h : OwnInts w B (.slice A m c) m a) (hm : m ≤ 17592186043904) : Ints w A m c a := by
  obtain ⟨A', c', e, i⟩ := h.sl (by omega)
  injection e with e1 _ e2
  rw [e1, e2]; exact i
end Go.Proofs.YtniolbbhjibobaaDoor
