/- A mark as a text: the contract of reach.name. Conditions: the mark reads as a list of at most 16 numbers of tokens. | The map from marks' texts to numbers. Conditions: the marks are of at most 16 places. | The memory of the finder: its box, its map and its three rows. Conditions: none. | The contract of the finder's find. Conditions: the mark reads as a list of at most 16 numbers of tokens, apart from the finder's blocks; the map has the row's marks. | The contract of the finder's explore. Conditions: the net reads as a list and fits; the finder's memory is a start of the exploration. | The contracts of search and Graph. Conditions: the net and the mark read as lists. | The contract of Graph. Conditions: the net and the mark read as lists. -/
import Derived.Test.YtnfppolgaeibeaaJourD
import Derived.Test.YtnfppolgaeibeaaPlainM
import Derived.OwnWalk
import Derived.Maps.OwnSet
import Derived.Maps.OwnOps
import Derived.Maps.Views
import Derived.Maps.Keyed
import Derived.StringKeys
import Derived.Test.YtnfppolgaeibeaaArcW
import Derived.Test.YtnfppolgaeibeaaCaseL
import Derived.Test.YtnfppolgaeibeaaOwnB
import Derived.Test.YtnfppolgaeibeaaBox
import Derived.Deep.RegionHeld3
import Derived.Test.YtnfppolgaeibeaaEnabF
import Derived.Test.YtnfppolgaeibeaaListW
namespace Go.Proofs.Ytnfppolgaeibeaa
open Go.RowKit

def nameL (xs : List Int) : List Nat := xs.flatMap fun x => [x.toNat % 256, x.toNat / 256 % 256, x.toNat / 65536 % 256]
theorem nameL_snoc (xs : List Int) (x : Int) : nameL (xs ++ [x]) = nameL xs ++ [x.toNat % 256, x.toNat / 256 % 256, x.toNat / 65536 % 256] := by simp [nameL]
theorem nameL_len (xs : List Int) : (nameL xs).length = 3 * xs.length := by
  induction xs with
  | nil => rfl
  | cons x l ih =>
    have : nameL (x :: l) = [x.toNat % 256, x.toNat / 256 % 256, x.toNat / 65536 % 256] ++ nameL l := rfl
    rw [this, List.length_append, ih]
    simp only [List.length_cons, List.length_nil]
    omega
theorem nameL_lt (xs : List Int) : ∀ b ∈ nameL xs, b < 256 := by
  intro b hb
  unfold nameL at hb
  obtain ⟨x, _, hx⟩ := List.mem_flatMap.1 hb
  simp at hx
  omega
theorem nameL_inj : ∀ {xs ys : List Int} (_ : rightB xs = true) (_ : rightB ys = true) (_ : nameL xs = nameL ys), xs = ys
  | [], [], _, _, _ => rfl
  | [], y :: l, _, _, h => by have := congrArg List.length h; rw [nameL_len, nameL_len] at this; simp at this
  | x :: l, [], _, _, h => by have := congrArg List.length h; rw [nameL_len, nameL_len] at this; simp at this
  | x :: l, y :: r, hx, hy, h => by
    have e1 : nameL (x :: l) = x.toNat % 256 :: (x.toNat / 256 % 256) :: (x.toNat / 65536 % 256) :: nameL l := rfl
    have e2 : nameL (y :: r) = y.toNat % 256 :: (y.toNat / 256 % 256) :: (y.toNat / 65536 % 256) :: nameL r := rfl
    rw [e1, e2] at h
    injection h with h1 h
    injection h with h2 h
    injection h with h3 h
    rw [rightB_iff] at hx hy
    have hx0 := hx x (by simp)
    have hy0 := hy y (by simp)
    rw [nameL_inj ((rightB_iff l).2 fun z hz => hx z (by simp [hz])) ((rightB_iff r).2 fun z hz => hy z (by simp [hz])) h, show x = y from by omega]
theorem strB_inj {a b : List Nat} (ha : ∀ x ∈ a, x < 256) (hb : ∀ x ∈ b, x < 256) (h : strB a = strB b) : a = b := by
  have h1 : (strB a).data.toList = (strB b).data.toList := by rw [h]
  unfold strB at h1
  rw [strOfNums_data, strOfNums_data, List.map_map, List.map_map] at h1
  have h2 := congrArg (List.map UInt8.toNat) h1
  rw [List.map_map, List.map_map] at h2
  have key : ∀ l : List Nat, (∀ x ∈ l, x < 256) → l.map (UInt8.toNat ∘ ((fun n : Int => UInt8.ofNat n.toNat) ∘ fun b : Nat => (b : Int))) = l := fun l hl => by
    rw [List.map_congr_left (g := id) (fun x hx => by
      simp only [Function.comp, Int.toNat_natCast, UInt8.toNat_ofNat', id]
      have := hl x hx
      omega)]
    simp
  rwa [key a ha, key b hb] at h2
def nameS (xs : List Int) : ByteArray := strB (nameL xs)
theorem nameS_inj {xs ys : List Int} (hx : rightB xs = true) (hy : rightB ys = true) (h : nameS xs = nameS ys) : xs = ys := nameL_inj hx hy (strB_inj (nameL_lt _) (nameL_lt _) h)
theorem infoByte : (Try.prog.info? 5).map (fun i => (i.zero, i.size, i.bytes)) = some (some (.int .u8 0), 1, 1) := by kernel_rfl

set_option maxRecDepth 100000 in
set_option maxHeartbeats 1000000 in
theorem name_calls {w : World} {A : Option Addr} {n c : Nat} {xs : List Int} (h : Ints w A n c xs) (hn : n ≤ 16) (hr : rightB xs = true) :
    Calls Try.prog 133 #[.slice A n c] w fun e w' => e = .returned (.string (nameS xs)) ∧ Below w.heap.size w w' := by
  have H := hide2 h
  have HR := hide2 ((rightB_iff xs).1 hr)
  clear h hr
  obtain ⟨i0, hi, hz0, hz1, hz2⟩ := info_parts infoByte
  have hsz : i0.bytes * (3 * n) ≤ 281474976710656 := by rw [hz2]; omega
  have hmx : 3 * n ≤ maxLen := by simp only [maxLen]; omega
  have hc3 : (3 : Int) * (n : Int) = ((3 * n : Nat) : Int) := by omega
  have HC := hide2 hc3
  clear hc3
  go_enter Try.func133, Try.ntmps133
  go_upto_region 2 with (at_make; refine wpList_make_own _ rfl _ _ 209 rfl w.heap.size 5 i0 (.int .u8 0) 1 Try.underlying209 hi hz0 hz1 .i64 .i64 _ (3 * n) rfl rfl (by first | exact HC.out | (simp; done) | omega) hsz hmx (Nat.le_refl _) ?_; intro w1 own1 hg1; have O1 := hide2 (show OwnBytes w1 w.heap.size (.slice (some ⟨w.heap.size, 0, none⟩) 0 (3 * n)) 0 [] from ⟨[], own1, Reads.nil, rfl⟩); have B1 := hide2 ((Below.refl w.heap.size w).grown hg1 (Nat.le_refl _) (fun k hk => by cases hk)); clear own1 hg1)
  clear hi hz0 hz1 hz2 hsz hmx
  go_wp2
  go_loopw [3, 12] (fun u v wr => ∃ k : Nat, k ≤ n ∧ v = .int .i64 k ∧ Hid (OwnBytes wr w.heap.size u (3 * k) (nameL (xs.take k))) ∧ Hid (Below w.heap.size w wr)) (fun _ v _ => n - (intOf v).toNat)
  case atStart => exact ⟨0, Nat.zero_le _, rfl, O1, B1⟩
  case round =>
    obtain ⟨k, hk, rfl, OW, BR⟩ := hrel
    by_cases hlt : k < n
    · have hki : (k : Int) < (n : Int) := by omega
      obtain ⟨b, off, x, rfl, hb, hx, hc⟩ := Ints.get (Ints.keep H.out BR.out) hlt
      have hxr := HR.out x (List.mem_of_getElem? hx.out)
      have NX := hide2 (show nameL (xs.take (k + 1)) = nameL (xs.take k) ++ [x.toNat % 256, x.toNat / 256 % 256, x.toNat / 65536 % 256] by rw [take_snoc hx.out, nameL_snoc])
      obtain ⟨y, rfl⟩ : ∃ y : Nat, x = (y : Int) := ⟨x.toNat, by omega⟩
      have hy : y ≤ 1000000 := by omega
      simp only [Int.toNat_natCast] at NX
      have LS := hide2 (show ∀ b ∈ [y % 256, y / 256 % 256, y / 65536 % 256], b < 256 from fun b hb => by simp at hb; omega)
      clear hxr
      go_wp2_with (at_builtin; refine wpList_appBytes rfl _ _ rfl (m := 3) (ys := [y % 256, y / 256 % 256, y / 65536 % 256]) rfl rfl (by first | rfl | simp) (by first | rfl | (simp; done) | (simp; omega)) rfl LS.out OW.out BR.out BR.out.size (by omega) ?_; intro v2 w2 own2 hg2 hb2; have OX := hide2 own2; have BZ := hide2 hb2; clear own2 hg2 hb2)
      go_roundw
      case rel => exact ⟨k + 1, by omega, by go_num, hide2 (by rw [NX.out]; exact OX.out), BZ⟩
      case measure => simp [intOf]; omega
    · obtain rfl : k = n := by omega
      have TK := hide2 (show xs.take k = xs from List.take_of_length_le (by rw [H.out.len]; exact Nat.le_refl _))
      rw [TK.out] at OW
      obtain ⟨A2, c2, hv, s2⟩ := OW.out.sl (by omega)
      subst hv
      have hcv := Bts.str s2
      clear s2
      go_wp2
      go_ret
      exact ⟨rfl, BR.out⟩
end Go.Proofs.Ytnfppolgaeibeaa
namespace Go.Proofs.Ytnfppolgaeibeaa
open Go.RowKit Go.Maps

theorem findL_snoc {ms : List (List Int)} {x y : List Int} : findL (ms ++ [x]) y = match findL ms y with
    | some k => some k
    | none => if y = x then some ms.length else none := by
  unfold findL
  rw [List.findIdx?_append]
  cases h : ms.findIdx? fun z => y == z with
  | some k => simp
  | none =>
    by_cases e : y = x
    · subst e; simp
    · simp [e]
def keyN (x : List Int) : Lit := .string (nameS x).data.toList
theorem keyN_inj {x y : List Int} (hx : rightB x = true) (hy : rightB y = true) (h : keyN x = keyN y) : x = y := by
  unfold keyN at h
  injection h with h
  exact nameS_inj hx hy (Go.WideShapes.bytes_inj h)
/-- Block b is a map that has the number of each of these marks. -/
def AtM (w : World) (b : Nat) (ms : List (List Int)) : Prop :=
  ∃ D : DataW Unit, w.ownsMap Try.prog 9 (plainElem Try.prog 3) b ms.length D ∧ ∀ x, rightB x = true → x.length ≤ 16 → match findL ms x with
    | some k => D.atKey (keyN x) (.lit (.int .i64 0)) = .lit (.int .i64 (k : Int)) ∧ Maps.has D (keyN x) = true
    | none => Maps.has D (keyN x) = false
theorem strLaw : Keyed Try.prog 9 := string_keyed Try.underlying9
theorem zeroIntR (w : World) : (zeroValue 3).run Try.prog w = .ok (.int .i64 0) w := by kernel_rfl
theorem AtM.made (w : World) : AtM (w.alloc (.map #[] 0)) w.heap.size [] := ⟨.map [], World.ownsMap_made _ _ _ _, fun _ _ _ => rfl⟩
theorem AtM.of_block {w w' : World} {b : Nat} {ms : List (List Int)} (h : AtM w b ms) (hb : w'.heap[b]? = w.heap[b]?) : AtM w' b ms := by
  obtain ⟨D, ⟨es, clock, h1, h2, h3, h4⟩, h5⟩ := h
  exact ⟨D, ⟨es, clock, hb.trans h1, h2, h3, h4⟩, h5⟩
theorem AtM.lt {w : World} {b : Nat} {ms : List (List Int)} (h : AtM w b ms) : b < w.heap.size := by
  obtain ⟨D, h1, _⟩ := h
  exact h1.lt
theorem AtM.keep {w w' : World} {b : Nat} {ms : List (List Int)} (h : AtM w b ms) (hb : Below w.heap.size w w') : AtM w' b ms := h.of_block (hb.block b h.lt)
theorem nameS_size (x : List Int) : (nameS x).size = 3 * x.length := by
  unfold nameS strB
  rw [strOfNums_size, List.length_map, nameL_len]
theorem keyOfN {x : List Int} (hx : x.length ≤ 16) : keyOf Try.prog 9 (.string (nameS x)) = some (keyN x) :=
  Go.WideMaps.keyOf_string_mk Try.underlying9 (by rw [nameS_size]; simp only [maxLen]; omega)
set_option maxRecDepth 100000 in
theorem AtM.look {w : World} {b : Nat} {ms : List (List Int)} (h : AtM w b ms) {x : List Int} (hx : rightB x = true) (hl : x.length ≤ 16) :
    ∃ v : Int, (Instr.lookup 163 (.map (some b)) (.string (nameS x)) true).run Try.prog w = .ok (.tuple #[.int .i64 v, .bool (findL ms x).isSome]) w ∧ ∀ k, findL ms x = some k → v = (k : Int) := by
  obtain ⟨D, h1, h2⟩ := h
  obtain ⟨u, ps, hrun, hv⟩ := h1.look_ok strLaw Try.underlying163 (zeroIntR w) (plainElem_int Try.underlying3 (a := 0) (by decide)) (keyOfN hl)
  obtain ⟨c, rfl, hc, _⟩ := plainElem_int_inv Try.underlying3 hv
  have h3 := h2 x hx hl
  cases hf : findL ms x with
  | none =>
    rw [hf] at h3
    rw [h3] at hrun
    exact ⟨c, hrun, fun k hk => by cases hk⟩
  | some k =>
    rw [hf] at h3
    rw [h3.2] at hrun
    refine ⟨c, hrun, fun k' hk' => ?_⟩
    injection hk' with hk'
    subst hk'
    have h4 := congrArg Prod.fst hc
    simp only at h4
    rw [h3.1] at h4
    injection h4 with h4
    injection h4 with _ h4
    exact h4.symm
set_option maxRecDepth 100000 in
theorem AtM.put {w : World} {b : Nat} {ms : List (List Int)} (h : AtM w b ms) {x : List Int} (hx : rightB x = true) (hl : x.length ≤ 16) (hn : findL ms x = none) (hm : ms.length ≤ 1000) :
    ∃ w', (Instr.mapUpdate 163 (.map (some b)) (.string (nameS x)) (.int .i64 (ms.length : Int))).run Try.prog w = .ok () w' ∧ AtM w' b (ms ++ [x]) ∧ w.grownBy w' (some b) := by
  obtain ⟨D, h1, h2⟩ := h
  obtain ⟨w', r1, r2, r3⟩ := h1.update strLaw Try.underlying163 (by rw [maxLen]; omega) (keyOfN hl) (plainElem_int Try.underlying3 (a := (ms.length : Int)) (WalkArith.wf_i64 (by omega)))
  refine ⟨w', r1, ⟨_, by rw [List.length_append]; exact r2, fun y hy hly => ?_⟩, r3⟩
  rw [findL_snoc]
  have h3 := h2 y hy hly
  have hD := (h1.tidy strLaw).isMap
  by_cases e : y = x
  · subst e
    rw [hn]
    rw [if_pos rfl]
    exact ⟨Maps.atKey_put_same hD (strLaw.key (keyOfN hl)) _ _, Maps.has_put_same hD (strLaw.key (keyOfN hl)) _⟩
  · have hne : keyN y ≠ keyN x := fun e2 => e (keyN_inj hy hx e2)
    cases hf : findL ms y with
    | some k =>
      rw [hf] at h3
      exact ⟨by rw [Maps.atKey_put_other hne]; exact h3.1, by rw [Maps.has_put_other hne]; exact h3.2⟩
    | none =>
      rw [hf] at h3
      rw [if_neg e]
      show Maps.has _ _ = false
      rw [Maps.has_put_other hne]
      exact h3
end Go.Proofs.Ytnfppolgaeibeaa
namespace Go.Proofs.Ytnfppolgaeibeaa
open Go.RowKit

theorem own_neBox {w : World} {B e s n b ty : Nat} {v : Value} {c : List Value} {cs : Array Value} (h : w.ownsRow B e s v n c) (hx : Box w b ty cs) (hne : e ≠ ty) : v.ownBlock ≠ some b := by
  intro e
  rcases h.2 with ⟨rfl, _⟩ | ⟨g, cap, cur, rfl, _, hh, _⟩
  · cases e
  · simp only [Value.ownBlock, Option.some.injEq] at e
    subst e
    unfold Box at hx
    rw [hx] at hh
    injection hh with hh
    injection hh with _ hh
    exact hne hh.symm
theorem AtM.obj {w : World} {b : Nat} {ms : List (List Int)} (h : AtM w b ms) : ∃ es c, w.heap[b]? = some (.map es c) := by
  obtain ⟨D, ⟨es, clock, h1, _⟩, _⟩ := h
  exact ⟨es, clock, h1⟩
theorem own_neMap {w : World} {B e s n b : Nat} {v : Value} {c : List Value} {ms : List (List Int)} (h : w.ownsRow B e s v n c) (hx : AtM w b ms) : v.ownBlock ≠ some b := by
  intro e
  obtain ⟨es, cl, hm⟩ := hx.obj
  rcases h.2 with ⟨rfl, _⟩ | ⟨g, cap, cur, rfl, _, hh, _⟩
  · cases e
  · simp only [Value.ownBlock, Option.some.injEq] at e
    subst e
    rw [hm] at hh
    injection hh with hh
    cases hh
theorem box_neMap {w : World} {b b' ty : Nat} {cs : Array Value} {ms : List (List Int)} (hx : Box w b ty cs) (h : AtM w b' ms) : b ≠ b' := by
  intro e
  subst e
  obtain ⟨es, cl, hm⟩ := h.obj
  unfold Box at hx
  rw [hm] at hx
  injection hx with hx
  cases hx
/-- A list that lies in none of the finder's blocks. -/
def Apart4 (bf : Nat) (u v z : Value) (A : Option Addr) (n : Nat) : Prop := ∀ b off, A = some ⟨b, off, none⟩ → 0 < n → b ≠ bf ∧ u.ownBlock ≠ some b ∧ v.ownBlock ≠ some b ∧ z.ownBlock ≠ some b
theorem Ints.same {w w' : World} {A : Option Addr} {n c : Nat} {xs : List Int} (h : Ints w A n c xs) (hs : w.heap.size ≤ w'.heap.size) (hb : ∀ b off, A = some ⟨b, off, none⟩ → 0 < n → b < w.heap.size → w'.heap[b]? = w.heap[b]?) : Ints w' A n c xs :=
  ⟨h.len, h.le, h.cap, h.small, h.nul, fun hn => by
    obtain ⟨b, off, e, hlt, hc⟩ := h.cells hn
    refine ⟨b, off, e, Nat.lt_of_lt_of_le hlt hs, fun i x hx => ?_⟩
    obtain ⟨vs, h1, h2⟩ := hc i x hx
    exact ⟨vs, fun j hj => (World.cell?_of_block (hb b off e hn hlt)).trans (h1 j hj), h2⟩⟩
def Keep4 (bf : Nat) (w : World) (u v z : Value) (w' : World) (u' v' z' : Value) : Prop := ∀ (A : Option Addr) (n c : Nat) (xs : List Int), Ints w A n c xs → Apart4 bf u v z A n → Ints w' A n c xs ∧ Apart4 bf u' v' z' A n
theorem Keep4.trans {bf : Nat} {w w1 w2 : World} {u v z u1 v1 z1 u2 v2 z2 : Value} (h : Keep4 bf w u v z w1 u1 v1 z1) (g : Keep4 bf w1 u1 v1 z1 w2 u2 v2 z2) : Keep4 bf w u v z w2 u2 v2 z2 := fun A n c xs a b => by
  obtain ⟨a1, b1⟩ := h A n c xs a b
  exact g A n c xs a1 b1
theorem Keep4.of_below {bf : Nat} {w w' : World} {u v z : Value} (hb : Below w.heap.size w w') : Keep4 bf w u v z w' u v z := fun _ _ _ _ a b => ⟨a.keep hb, b⟩
def MarkR (bf : Nat) (u v z : Value) : World → (Nat → Value) → List Int → Prop := fun w vs xs => ∃ A n c, vs 0 = .slice A n c ∧ Ints w A n c xs ∧ n ≤ 16 ∧ Apart4 bf u v z A n
theorem Keep4.mark {bf : Nat} {w w' : World} {u v z u' v' z' : Value} (h : Keep4 bf w u v z w' u' v' z') {vs : Nat → Value} {xs : List Int} (m : MarkR bf u v z w vs xs) : MarkR bf u' v' z' w' vs xs := by
  obtain ⟨A, n, c, e, i, l, p⟩ := m
  obtain ⟨i', p'⟩ := h A n c xs i p
  exact ⟨A, n, c, e, i', l, p'⟩
theorem MarkR.kept (bf : Nat) (u v z : Value) : Kept (MarkR bf u v z) := fun _ _ _ _ hb h => (Keep4.of_below hb).mark h
theorem Reads.turn {α : Type} {R R' : World → (Nat → Value) → α → Prop} {sz : Nat} {w w' : World} {cs : List Value} {xs : List α} (h : Reads R sz w cs xs) (hR : ∀ vs x, R w vs x → R' w' vs x) : Reads R' sz w' cs xs :=
  ⟨h.1, fun i x hx => by obtain ⟨vs, a, b⟩ := h.2 i x hx; exact ⟨vs, a, hR _ _ b⟩⟩
theorem OwnSl.turn {α : Type} {R R' : World → (Nat → Value) → α → Prop} {sz : Nat} {w w' : World} {B e : Nat} {v : Value} {n : Nat} {xs : List α} (h : OwnSl R sz w B e v n xs) {row : Option Nat} (hg : w.grownBy w' row) (hne : v.ownBlock = none ∨ v.ownBlock ≠ row) (hR : ∀ vs x, R w vs x → R' w' vs x) : OwnSl R' sz w' B e v n xs := by
  obtain ⟨cells, h1, h2, h3⟩ := h
  exact ⟨cells, h1.kept hg hne, h2.turn hR, h3⟩
theorem OwnSl.reread {α : Type} {R R' : World → (Nat → Value) → α → Prop} {sz : Nat} {w : World} {B e : Nat} {v : Value} {n : Nat} {xs : List α} (h : OwnSl R sz w B e v n xs) (hR : ∀ vs x, R w vs x → R' w vs x) : OwnSl R' sz w B e v n xs := by
  obtain ⟨cells, h1, h2, h3⟩ := h
  exact ⟨cells, h1, h2.turn hR, h3⟩
theorem grown_setCell (w : World) (b i : Nat) (v : Value) : w.grownBy (w.setCell ⟨b, i, none⟩ v) (some b) :=
  ⟨rfl, rfl, rfl, by simp [World.setCell], fun k _ hk => heap_setCell_other _ _ _ _ (fun e => hk (by rw [e]))⟩
/-- The finder's memory: its map has mm, its rows have ms, ars and fs. -/
structure FinW (w : World) (B bf bm : Nat) (P : Int) (A : Option Addr) (n c : Nat) (most : Int) (u v z : Value) (mm ms : List (List Int)) (ars : List PArc) (fs : List Int) : Prop where
  lo : B ≤ bf
  lom : B ≤ bm
  box : Box w bf 165 #[.int .i64 P, .slice A n c, .int .i64 most, .map (some bm), u, v, z]
  map : AtM w bm mm
  marks : OwnSl (MarkR bf u v z) 1 w B 35 u ms.length ms
  arcs : OwnSl ArcR 3 w B 130 v ars.length ars
  first : OwnInts w B z fs.length fs
section
variable {w w' : World} {B bf bm : Nat} {P : Int} {A : Option Addr} {n c : Nat} {most : Int} {u v z : Value} {mm ms : List (List Int)} {ars : List PArc} {fs : List Int}
theorem FinW.keep (h : FinW w B bf bm P A n c most u v z mm ms ars fs) (hb : Below w.heap.size w w') : FinW w' B bf bm P A n c most u v z mm ms ars fs :=
  ⟨h.lo, h.lom, h.box.keep hb, h.map.keep hb, h.marks.keep (MarkR.kept _ _ _ _) hb, h.arcs.keep ArcR.kept hb, h.first.keep IntR.kept hb⟩
/-- A mark is entered into the map. -/
theorem FinW.entry (h : FinW w B bf bm P A n c most u v z mm ms ars fs) {mm' : List (List Int)} (hm : AtM w' bm mm') (hg : w.grownBy w' (some bm)) : FinW w' B bf bm P A n c most u v z mm' ms ars fs ∧ ∀ (A : Option Addr) (n c : Nat) (xs : List Int), Ints w A n c xs → Ints w' A n c xs := by
  have nm : ∀ (A : Option Addr) (n c : Nat) (xs : List Int), Ints w A n c xs → Ints w' A n c xs := fun A n c xs hi => by
    refine hi.same hg.size (fun b off e hn hlt => hg.block b hlt (fun e2 => ?_))
    injection e2 with e2
    subst e2
    obtain ⟨es, cl, hmo⟩ := h.map.obj
    obtain ⟨b', off', e', hlt', hc⟩ := hi.cells hn
    rw [e] at e'
    injection e' with e'
    injection e' with e1 e2
    subst e1
    obtain ⟨vs, a, b⟩ := hc 0 _ (List.getElem?_eq_getElem (by rw [hi.len]; exact hn))
    have := a 0 (by omega)
    unfold World.cell? at this
    rw [hmo] at this
    cases this
  have bx : bf ≠ bm := box_neMap h.box h.map
  obtain ⟨_, o1, _⟩ := id h.marks
  obtain ⟨_, o2, _⟩ := id h.arcs
  obtain ⟨_, o3, _⟩ := id h.first
  refine ⟨⟨h.lo, h.lom, h.box.grown hg (fun e => bx (by injection e with e; exact e.symm)), hm, h.marks.turn hg (.inr (own_neMap o1 h.map)) (fun vs x hx => ?_), h.arcs.turn hg (.inr (own_neMap o2 h.map)) (fun vs x hx => hx), h.first.turn hg (.inr (own_neMap o3 h.map)) (fun vs x hx => hx)⟩, nm⟩
  obtain ⟨A, n, c, e, i, l, p⟩ := hx
  exact ⟨A, n, c, e, nm _ _ _ _ i, l, p⟩
/-- One of the finder's rows has grown, and its new header is stored. -/
theorem keep4_row {w w' : World} {bf : Nat} {u v z y : Value} {g k cap i : Nat} (hg : w.grownBy w' y.ownBlock) (hat : y.ownBlock = some g ∨ w.heap.size ≤ g) (hy : y = u ∨ y = v ∨ y = z) {u' v' z' : Value} (hu : u' = u ∨ (y = u ∧ u' = .slice (some ⟨g, 0, none⟩) k cap)) (hv : v' = v ∨ (y = v ∧ v' = .slice (some ⟨g, 0, none⟩) k cap)) (hz : z' = z ∨ (y = z ∧ z' = .slice (some ⟨g, 0, none⟩) k cap)) (V : Value) :
    Keep4 bf w u v z (w'.setCell ⟨bf, i, none⟩ V) u' v' z' := by
  intro A n c xs hi ha
  have key : ∀ b off, A = some ⟨b, off, none⟩ → 0 < n → b < w.heap.size ∧ b ≠ bf ∧ y.ownBlock ≠ some b ∧ g ≠ b := fun b off e hn => by
    obtain ⟨b', off', e', hlt, _⟩ := hi.cells hn
    rw [e] at e'
    injection e' with e'
    injection e' with e1 _
    subst e1
    obtain ⟨p0, p1, p2, p3⟩ := ha b off e hn
    have hyb : y.ownBlock ≠ some b := by rcases hy with rfl | rfl | rfl <;> assumption
    refine ⟨hlt, p0, hyb, fun e2 => ?_⟩
    subst e2
    rcases hat with h | h
    · exact hyb h
    · omega
  refine ⟨hi.same (by simpa [World.setCell] using hg.size) (fun b off e hn hlt => ?_), fun b off e hn => ?_⟩
  · obtain ⟨_, k1, k2, _⟩ := key b off e hn
    exact (heap_setCell_other _ _ _ _ k1).trans (hg.block b hlt (fun e2 => k2 e2.symm))
  · obtain ⟨p0, p1, p2, p3⟩ := ha b off e hn
    have kg := (key b off e hn).2.2.2
    have ng : (Value.slice (some ⟨g, 0, none⟩) k cap).ownBlock ≠ some b := fun e2 => kg (by injection e2)
    refine ⟨p0, ?_, ?_, ?_⟩
    · rcases hu with rfl | ⟨_, rfl⟩ <;> assumption
    · rcases hv with rfl | ⟨_, rfl⟩ <;> assumption
    · rcases hz with rfl | ⟨_, rfl⟩ <;> assumption
theorem FinW.mark (h : FinW w B bf bm P A n c most u v z mm ms ars fs) {g k cap : Nat} {ms' : List (List Int)} (hk : k = ms'.length) (own : OwnSl (fun _ vs x => MarkR bf u v z w vs x) 1 w' B 35 (.slice (some ⟨g, 0, none⟩) k cap) k ms') (hg : w.grownBy w' u.ownBlock) (hat : u.ownBlock = some g ∨ w.heap.size ≤ g) :
    FinW (w'.setCell ⟨bf, 4, none⟩ (.slice (some ⟨g, 0, none⟩) k cap)) B bf bm P A n c most (.slice (some ⟨g, 0, none⟩) k cap) v z mm ms' ars fs ∧ Keep4 bf w u v z (w'.setCell ⟨bf, 4, none⟩ (.slice (some ⟨g, 0, none⟩) k cap)) (.slice (some ⟨g, 0, none⟩) k cap) v z := by
  subst hk
  have KK := keep4_row (i := 4) (k := ms'.length) (cap := cap) hg hat (u := u) (v := v) (z := z) (bf := bf) (.inl rfl) (.inr ⟨rfl, rfl⟩) (.inl rfl) (.inl rfl) (.slice (some ⟨g, 0, none⟩) ms'.length cap)
  obtain ⟨_, o1, _⟩ := id h.marks
  obtain ⟨_, o2, _⟩ := id h.arcs
  obtain ⟨_, o3, _⟩ := id h.first
  have b1 : Box w' bf 165 #[.int .i64 P, .slice A n c, .int .i64 most, .map (some bm), u, v, z] := h.box.grown hg (own_neBox o1 h.box (by decide))
  have m1 : AtM w' bm mm := h.map.of_block (hg.block bm h.map.lt (fun e => own_neMap o1 h.map e.symm))
  have a1 : OwnSl ArcR 3 w' B 130 v ars.length ars := h.arcs.turn hg (own_ne o2 o1 (by decide)) (fun _ _ hx => hx)
  have f1 : OwnInts w' B z fs.length fs := h.first.turn hg (own_ne o3 o1 (by decide)) (fun _ _ hx => hx)
  obtain ⟨_, q1, _⟩ := id own
  obtain ⟨_, q2, _⟩ := id a1
  obtain ⟨_, q3, _⟩ := id f1
  have gs := grown_setCell w' bf 4 (.slice (some ⟨g, 0, none⟩) ms'.length cap)
  refine ⟨⟨h.lo, h.lom, by simpa using b1.set 4 (.slice (some ⟨g, 0, none⟩) ms'.length cap), m1.of_block (heap_setCell_other _ _ _ _ (box_neMap b1 m1).symm),
    own.turn gs (.inr (own_neBox q1 b1 (by decide))) (fun vs x hx => KK.mark hx), a1.turn gs (.inr (own_neBox q2 b1 (by decide))) (fun _ _ hx => hx), f1.turn gs (.inr (own_neBox q3 b1 (by decide))) (fun _ _ hx => hx)⟩, KK⟩
theorem FinW.firstPut (h : FinW w B bf bm P A n c most u v z mm ms ars fs) {g k cap : Nat} {fs' : List Int} (hk : k = fs'.length) (own : OwnInts w' B (.slice (some ⟨g, 0, none⟩) k cap) k fs') (hg : w.grownBy w' z.ownBlock) (hat : z.ownBlock = some g ∨ w.heap.size ≤ g) :
    FinW (w'.setCell ⟨bf, 6, none⟩ (.slice (some ⟨g, 0, none⟩) k cap)) B bf bm P A n c most u v (.slice (some ⟨g, 0, none⟩) k cap) mm ms ars fs' ∧ Keep4 bf w u v z (w'.setCell ⟨bf, 6, none⟩ (.slice (some ⟨g, 0, none⟩) k cap)) u v (.slice (some ⟨g, 0, none⟩) k cap) := by
  subst hk
  have KK := keep4_row (i := 6) (k := fs'.length) (cap := cap) hg hat (u := u) (v := v) (z := z) (bf := bf) (.inr (.inr rfl)) (.inl rfl) (.inl rfl) (.inr ⟨rfl, rfl⟩) (.slice (some ⟨g, 0, none⟩) fs'.length cap)
  obtain ⟨_, o1, _⟩ := id h.marks
  obtain ⟨_, o2, _⟩ := id h.arcs
  obtain ⟨_, o3, _⟩ := id h.first
  have b1 : Box w' bf 165 #[.int .i64 P, .slice A n c, .int .i64 most, .map (some bm), u, v, z] := h.box.grown hg (own_neBox o3 h.box (by decide))
  have m1 : AtM w' bm mm := h.map.of_block (hg.block bm h.map.lt (fun e => own_neMap o3 h.map e.symm))
  have a1 : OwnSl ArcR 3 w' B 130 v ars.length ars := h.arcs.turn hg (own_ne o2 o3 (by decide)) (fun _ _ hx => hx)
  have k1 : OwnSl (fun _ vs x => MarkR bf u v z w vs x) 1 w' B 35 u ms.length ms := h.marks.turn hg (own_ne o1 o3 (by decide)) (fun _ _ hx => hx)
  obtain ⟨_, q1, _⟩ := id k1
  obtain ⟨_, q2, _⟩ := id a1
  obtain ⟨_, q3, _⟩ := id own
  have gs := grown_setCell w' bf 6 (.slice (some ⟨g, 0, none⟩) fs'.length cap)
  refine ⟨⟨h.lo, h.lom, by simpa using b1.set 6 (.slice (some ⟨g, 0, none⟩) fs'.length cap), m1.of_block (heap_setCell_other _ _ _ _ (box_neMap b1 m1).symm),
    k1.turn gs (.inr (own_neBox q1 b1 (by decide))) (fun vs x hx => KK.mark hx), a1.turn gs (.inr (own_neBox q2 b1 (by decide))) (fun _ _ hx => hx), own.turn gs (.inr (own_neBox q3 b1 (by decide))) (fun _ _ hx => hx)⟩, KK⟩
theorem FinW.arc (h : FinW w B bf bm P A n c most u v z mm ms ars fs) {g k cap : Nat} {ars' : List PArc} (hk : k = ars'.length) (own : OwnSl ArcR 3 w' B 130 (.slice (some ⟨g, 0, none⟩) k cap) k ars') (hg : w.grownBy w' v.ownBlock) (hat : v.ownBlock = some g ∨ w.heap.size ≤ g) :
    FinW (w'.setCell ⟨bf, 5, none⟩ (.slice (some ⟨g, 0, none⟩) k cap)) B bf bm P A n c most u (.slice (some ⟨g, 0, none⟩) k cap) z mm ms ars' fs ∧ Keep4 bf w u v z (w'.setCell ⟨bf, 5, none⟩ (.slice (some ⟨g, 0, none⟩) k cap)) u (.slice (some ⟨g, 0, none⟩) k cap) z := by
  subst hk
  have KK := keep4_row (i := 5) (k := ars'.length) (cap := cap) hg hat (u := u) (v := v) (z := z) (bf := bf) (.inr (.inl rfl)) (.inl rfl) (.inr ⟨rfl, rfl⟩) (.inl rfl) (.slice (some ⟨g, 0, none⟩) ars'.length cap)
  obtain ⟨_, o1, _⟩ := id h.marks
  obtain ⟨_, o2, _⟩ := id h.arcs
  obtain ⟨_, o3, _⟩ := id h.first
  have b1 : Box w' bf 165 #[.int .i64 P, .slice A n c, .int .i64 most, .map (some bm), u, v, z] := h.box.grown hg (own_neBox o2 h.box (by decide))
  have m1 : AtM w' bm mm := h.map.of_block (hg.block bm h.map.lt (fun e => own_neMap o2 h.map e.symm))
  have f1 : OwnInts w' B z fs.length fs := h.first.turn hg (own_ne o3 o2 (by decide)) (fun _ _ hx => hx)
  have k1 : OwnSl (fun _ vs x => MarkR bf u v z w vs x) 1 w' B 35 u ms.length ms := h.marks.turn hg (own_ne o1 o2 (by decide)) (fun _ _ hx => hx)
  obtain ⟨_, q1, _⟩ := id k1
  obtain ⟨_, q2, _⟩ := id own
  obtain ⟨_, q3, _⟩ := id f1
  have gs := grown_setCell w' bf 5 (.slice (some ⟨g, 0, none⟩) ars'.length cap)
  refine ⟨⟨h.lo, h.lom, by simpa using b1.set 5 (.slice (some ⟨g, 0, none⟩) ars'.length cap), m1.of_block (heap_setCell_other _ _ _ _ (box_neMap b1 m1).symm),
    k1.turn gs (.inr (own_neBox q1 b1 (by decide))) (fun vs x hx => KK.mark hx), own.turn gs (.inr (own_neBox q2 b1 (by decide))) (fun _ _ hx => hx), f1.turn gs (.inr (own_neBox q3 b1 (by decide))) (fun _ _ hx => hx)⟩, KK⟩
end
end Go.Proofs.Ytnfppolgaeibeaa
namespace Go.Proofs.Ytnfppolgaeibeaa
open Go.RowKit

theorem tyLists : SlTy 54 35 1 24 := SlTy.mk' (z := .slice none 0 0) Try.underlying54 (by kernel_rfl) rfl (by decide)
def AnsFind (w0 w : World) (bf bm : Nat) (P : Int) (A : Option Addr) (n c : Nat) (most : Int) (u v z : Value) (ars : List PArc) (p : List (List Int) × List Int × Int × Bool) (e : Ending) (w' : World) : Prop :=
  ∃ u' z', e = .returned (.tuple #[.int .i64 p.2.2.1, .bool p.2.2.2]) ∧ FinW w' w0.heap.size bf bm P A n c most u' v z' p.1 p.1 ars p.2.1 ∧ Below w0.heap.size w0 w' ∧ w.heap.size ≤ w'.heap.size ∧ Keep4 bf w u v z w' u' v z'

set_option maxRecDepth 100000 in
set_option maxHeartbeats 2000000 in
theorem find_calls {w0 w : World} {bf bm : Nat} {P : Int} {A : Option Addr} {n c M : Nat} {u v z : Value} {ms : List (List Int)} {ars : List PArc} {fs : List Int} {X : Option Addr} {nx cx : Nat} {x : List Int} (a : Int)
    (h : FinW w w0.heap.size bf bm P A n c (M : Int) u v z ms ms ars fs) (hB : Below w0.heap.size w0 w) (hx : Ints w X nx cx x) (hn : nx ≤ 16) (hr : rightB x = true) (ha : Apart4 bf u v z X nx) (hm : ms.length ≤ 300) (hfs : fs.length ≤ 300) :
    Calls Try.prog 124 #[.pointer (some ⟨bf, 0, none⟩), .slice X nx cx, .int .i64 a] w (AnsFind w0 w bf bm P A n c (M : Int) u v z ars (findP M ms fs x a)) := by
  obtain ⟨U, cu, hu, su⟩ := h.marks.sl (by omega)
  obtain ⟨Z, cz, hz, sz⟩ := h.first.sl (by omega)
  subst hu hz
  have hxl : x.length ≤ 16 := by rw [hx.len]; exact hn
  have HF := hide2 h
  have HB := hide2 hB
  have HX := hide2 hx
  have HR := hide2 hr
  have HA := hide2 ha
  have HL := hide2 hxl
  have DR := hide2 ((Below.refl w.heap.size w).drew)
  have KEEP := hide2 (show ∀ w', Below w.heap.size w w' → w'.cell? ⟨bf, 2, none⟩ = some (.int .i64 (M : Int)) ∧ w'.cell? ⟨bf, 3, none⟩ = some (.map (some bm)) from fun w' hb => ⟨(h.box.keep hb).cell 2, (h.box.keep hb).cell 3⟩)
  have CN := hide2 (fun (w' : World) (hb : Below w.heap.size w w') => name_calls (hx.keep hb) hn hr)
  clear h hB hx hr ha su sz hxl
  obtain ⟨r, hfr⟩ : ∃ r, findL ms x = r := ⟨_, rfl⟩
  obtain ⟨d2, d3⟩ := KEEP.out w (Below.refl _ _)
  go_enter Try.func124, Try.ntmps124
  go_upto_region 1 with fail
  cases r with
  | some k =>
    have FR := hide2 hfr
    clear hfr
    go_region_held3 (fun w' => w'.cell? ⟨bf, 2, none⟩ = some (.int .i64 (M : Int)) ∧ w'.cell? ⟨bf, 3, none⟩ = some (.map (some bm)))
      (first | go_keep)
      (first | (go_at_call 133; (with_reducible refine (CN.out _ DR.out).mono ?_); rintro e1 w1 ⟨rfl, hb1⟩; have F1 := hide2 (DR.out.trans (hb1.mono DR.out.size)); clear hb1 d2 d3; obtain ⟨d2, d3⟩ := KEEP.out w1 F1.out; obtain ⟨vv, LK, hvv⟩ := (HF.out.map.keep F1.out).look HR.out HL.out; rw [FR.out] at LK; obtain rfl := hvv k FR.out; simp only [Option.isSome] at LK))
    all_goals
      clear d2 d3 LK
      have BB := hide2 (HB.out.trans (F1.out.mono HB.out.size))
      have FP := hide2 (show findP M ms fs x a = (ms, fs, (k : Int), true) by unfold findP; rw [FR.out])
      go_wp2
      exact bodyPost_ret (v := .tuple #[.int .i64 (k : Int), .bool true]) (by simp [results, Try.results124, go_sem]) rfl (by rw [FP.out]; exact ⟨_, _, rfl, HF.out.keep F1.out, BB.out, F1.out.size, Keep4.of_below F1.out⟩)
  | none =>
    have FR := hide2 hfr
    clear hfr
    go_region_held3 (fun w' => w'.cell? ⟨bf, 2, none⟩ = some (.int .i64 (M : Int)) ∧ w'.cell? ⟨bf, 3, none⟩ = some (.map (some bm)))
      (first | go_keep)
      (first | (go_at_call 133; (with_reducible refine (CN.out _ DR.out).mono ?_); rintro e1 w1 ⟨rfl, hb1⟩; have F1 := hide2 (DR.out.trans (hb1.mono DR.out.size)); clear hb1 d2 d3; obtain ⟨d2, d3⟩ := KEEP.out w1 F1.out; obtain ⟨vv, LK, hvv⟩ := (HF.out.map.keep F1.out).look HR.out HL.out; rw [FR.out] at LK; clear hvv; simp only [Option.isSome] at LK))
    all_goals
      clear d2 d3 LK
      have FW := hide2 (HF.out.keep F1.out)
      have BB := hide2 (HB.out.trans (F1.out.mono HB.out.size))
      have K1 := hide2 (Keep4.of_below F1.out (bf := bf) (u := .slice U ms.length cu) (v := v) (z := .slice Z fs.length cz))
      have HX1 := hide2 (HX.out.keep F1.out)
      have S1 := hide2 F1.out.size
      clear CN KEEP DR HF HB HX F1
      obtain ⟨L, hL⟩ : ∃ L, ms.length = L := ⟨_, rfl⟩
      have HLL := hide2 hL
      obtain ⟨e0, e2, e3, e4, e6⟩ : w1.cell? ⟨bf, 0, none⟩ = some (.int .i64 P) ∧ w1.cell? ⟨bf, 2, none⟩ = some (.int .i64 (M : Int)) ∧ w1.cell? ⟨bf, 3, none⟩ = some (.map (some bm)) ∧ w1.cell? ⟨bf, 4, none⟩ = some (.slice U ms.length cu) ∧ w1.cell? ⟨bf, 6, none⟩ = some (.slice Z fs.length cz) := ⟨FW.out.box.cell 0, FW.out.box.cell 2, FW.out.box.cell 3, FW.out.box.cell 4, FW.out.box.cell 6⟩
      rw [hL] at e4
      by_cases hLM : L = M
      · have FP := hide2 (show findP M ms fs x a = (ms, fs, 0, false) by unfold findP; rw [FR.out, HLL.out]; simp only [hLM, if_true])
        have hLi : (L : Int) = (M : Int) := by omega
        clear hL
        go_wp2
        exact bodyPost_ret (v := .tuple #[.int .i64 0, .bool false]) (by simp [results, Try.results124, go_sem]) rfl (by rw [FP.out]; exact ⟨_, _, rfl, FW.out, BB.out, S1.out, K1.out⟩)
      · have FP := hide2 (show findP M ms fs x a = (ms ++ [x], fs ++ [a], (L : Int), true) by unfold findP; rw [FR.out, HLL.out]; simp only [hLM, if_false])
        have hLi : ¬ (L : Int) = (M : Int) := by omega
        have hL3 : L ≤ 300 := by omega
        clear hL hLM
        go_upto_region 7 with fail
        clear e0 e2 e3 e4 e6
        obtain ⟨d2, d3⟩ : w1.cell? ⟨bf, 2, none⟩ = some (.int .i64 (M : Int)) ∧ w1.cell? ⟨bf, 3, none⟩ = some (.map (some bm)) := ⟨FW.out.box.cell 2, FW.out.box.cell 3⟩
        have DR := hide2 ((Below.refl w1.heap.size w1).drew)
        have KEEP := hide2 (show ∀ w', Below w1.heap.size w1 w' → w'.cell? ⟨bf, 2, none⟩ = some (.int .i64 (M : Int)) ∧ w'.cell? ⟨bf, 3, none⟩ = some (.map (some bm)) from fun w' hb => ⟨(FW.out.box.keep hb).cell 2, (FW.out.box.keep hb).cell 3⟩)
        have CN := hide2 (fun (w' : World) (hb : Below w1.heap.size w1 w') => name_calls (HX1.out.keep hb) hn HR.out)
        have HM3 := hide2 hm
        go_region_held3 (fun w' => w'.cell? ⟨bf, 2, none⟩ = some (.int .i64 (M : Int)) ∧ w'.cell? ⟨bf, 3, none⟩ = some (.map (some bm)))
          (first | go_keep)
          (first | (go_at_call 133; (with_reducible refine (CN.out _ DR.out).mono ?_); rintro e1 w2 ⟨rfl, hb1⟩; have F2 := hide2 (DR.out.trans (hb1.mono DR.out.size)); clear hb1 d2 d3; obtain ⟨d2, d3⟩ := KEEP.out w2 F2.out; obtain ⟨w3, UP, AM', GR'⟩ := (FW.out.map.keep F2.out).put HR.out HL.out FR.out (by have := HM3.out; omega); rw [HLL.out] at UP; have E3 := hide2 ((FW.out.keep F2.out).entry AM' GR'); have GR := hide2 GR'; clear AM' GR'; have g2 := E3.out.1.box.cell 2; have g3 := E3.out.1.box.cell 3; simp at g2 g3))
        all_goals
          clear d2 d3 UP g2 g3
          have B3 := hide2 ((BB.out.trans (F2.out.mono BB.out.size)).grown GR.out (Nat.le_trans BB.out.size F2.out.size) (fun k hk => by cases hk; exact E3.out.1.lom))
          have HX3 := hide2 (E3.out.2 _ _ _ _ (HX1.out.keep F2.out))
          have K3 := hide2 (K1.out.trans (fun A' n' c' xs' hi hap => ⟨E3.out.2 _ _ _ _ (hi.keep F2.out), hap⟩ : Keep4 bf w1 (.slice U ms.length cu) v (.slice Z fs.length cz) w3 (.slice U ms.length cu) v (.slice Z fs.length cz)))
          have S3 := hide2 (Nat.le_trans S1.out (Nat.le_trans F2.out.size GR.out.size))
          have F3 := hide2 E3.out.1
          clear FW BB HX1 K1 S1 F2 GR E3 CN KEEP DR HM3
          have c4 : w3.cell? ⟨bf, 4, none⟩ = some (.slice U ms.length cu) := F3.out.box.cell 4
          have MK := hide2 (show MarkR bf (.slice U ms.length cu) v (.slice Z fs.length cz) w3 (fun _ => .slice X nx cx) x from ⟨X, nx, cx, rfl, HX3.out, hn, HA.out⟩)
          have NB := hide2 (show (Value.slice U ms.length cu).ownBlock ≠ some bf by obtain ⟨_, o1, _⟩ := id F3.out.marks; exact own_neBox o1 F3.out.box (by decide))
          have OM := hide2 (show OwnSl (fun _ vs y => MarkR bf (.slice U ms.length cu) v (.slice Z fs.length cz) w3 vs y) 1 w3 w0.heap.size 35 (.slice U ms.length cu) ms.length ms from F3.out.marks.reread fun _ _ hy => hy)
          go_upto_region 9 with (at_builtin; go_loud (refine wpList_appLies (R := fun _ vs y => MarkR bf (.slice U ms.length cu) v (.slice Z fs.length cz) w3 vs y) tyLists rfl _ _ rfl [x] #[.slice X nx cx] rfl rfl (by first | rfl | simp) rfl (by omega) (by simp [Value.oneCell']) OM.out (Reads.one (vs := fun _ => .slice X nx cx) MK.out rfl (fun j hj => (by obtain rfl : j = 0 := (by omega); rfl))) rfl B3.out B3.out.size (by omega) (by omega) (fun _ _ _ _ h => h) ?_; intro g4 cap4 w4 own4' hg4' hb4' hat4'; have own4 := hide2 own4'; have hg4 := hide2 hg4'; have hb4 := hide2 hb4'; have hat4 := hide2 hat4'; clear own4' hg4' hb4' hat4' c4; have c4 : w4.cell? ⟨bf, 4, none⟩ = some (.slice U ms.length cu) := (F3.out.box.grown hg4.out NB.out).cell 4; have f4 := (F3.out.box.grown hg4.out NB.out).frozen 4))
          clear c4 f4
          have FK := hide2 (F3.out.mark (by simp) own4.out hg4.out hat4.out)
          have BX := hide2 (show Below w0.heap.size w0 (w4.setCell ⟨bf, 4, none⟩ (.slice (some ⟨g4, 0, none⟩) (ms.length + 1) cap4)) from hb4.out.grown (grown_setCell _ _ _ _) hb4.out.size (fun k hk => by cases hk; exact F3.out.lo))
          have S5 := hide2 (show w.heap.size ≤ (w4.setCell ⟨bf, 4, none⟩ (.slice (some ⟨g4, 0, none⟩) (ms.length + 1) cap4)).heap.size from Nat.le_trans S3.out (Nat.le_trans hg4.out.size (by simp [World.setCell])))
          clear OM NB MK HX3 hb4 hat4 hg4 own4 B3 S3
          generalize w4.setCell ⟨bf, 4, none⟩ (.slice (some ⟨g4, 0, none⟩) (ms.length + 1) cap4) = w5 at *
          have F5 := hide2 FK.out.1
          have K5 := hide2 (K3.out.trans FK.out.2)
          clear FK K3 F3
          have c6 : w5.cell? ⟨bf, 6, none⟩ = some (.slice Z fs.length cz) := F5.out.box.cell 6
          have NB := hide2 (show (Value.slice Z fs.length cz).ownBlock ≠ some bf by obtain ⟨_, o1, _⟩ := id F5.out.first; exact own_neBox o1 F5.out.box (by decide))
          go_wp2_with (at_builtin; go_loud (refine wpList_appLies tyInts rfl _ _ rfl [a] #[.int .i64 a] rfl rfl (by first | rfl | simp) rfl (by omega) (by simp [Value.oneCell']) F5.out.first (Reads.one (vs := fun _ => .int .i64 a) rfl rfl (fun j hj => (by obtain rfl : j = 0 := (by omega); rfl))) rfl BX.out BX.out.size (by omega) (by omega) (fun _ _ _ _ h => h) ?_; intro g6 cap6 w6 own6' hg6' hb6' hat6'; have own6 := hide2 own6'; have hg6 := hide2 hg6'; have hb6 := hide2 hb6'; have hat6 := hide2 hat6'; clear own6' hg6' hb6' hat6' c6; have c6 : w6.cell? ⟨bf, 6, none⟩ = some (.slice Z fs.length cz) := (F5.out.box.grown hg6.out NB.out).cell 6; have f6 := (F5.out.box.grown hg6.out NB.out).frozen 6))
          have FK := F5.out.firstPut (by simp) own6.out hg6.out hat6.out
          have BZ : Below w0.heap.size w0 (w6.setCell ⟨bf, 6, none⟩ (.slice (some ⟨g6, 0, none⟩) (fs.length + 1) cap6)) := hb6.out.grown (grown_setCell _ _ _ _) hb6.out.size (fun k hk => by cases hk; exact F5.out.lo)
          exact bodyPost_ret (v := .tuple #[.int .i64 (L : Int), .bool true]) (by simp [results, Try.results124, go_sem]) rfl (by rw [FP.out]; exact ⟨_, _, rfl, FK.1, BZ, Nat.le_trans S5.out (Nat.le_trans hg6.out.size (by simp [World.setCell])), K5.out.trans FK.2⟩)
end Go.Proofs.Ytnfppolgaeibeaa
namespace Go.Proofs.Ytnfppolgaeibeaa
open Go.RowKit

/-- The list that a call answers is apart from the finder's blocks. -/
theorem FinW.apart {w : World} {B bf bm : Nat} {P : Int} {A : Option Addr} {n c : Nat} {most : Int} {u v z : Value} {mm ms : List (List Int)} {ars : List PArc} {fs : List Int} (h : FinW w B bf bm P A n c most u v z mm ms ars fs) {C : Option Addr} {l : Nat} (hf : Fresh w C) : Apart4 bf u v z C l := by
  intro b off e _
  have hb : w.heap.size ≤ b := hf _ e
  have h0 := h.box.lt
  exact ⟨by omega, fun e2 => (by have := (h.marks.lt b e2).2; omega), fun e2 => (by have := (h.arcs.lt b e2).2; omega), fun e2 => (by have := (h.first.lt b e2).2; omega)⟩
structure ExpOk (N : PNet) (M : Nat) (s : PSp) (fs : List Int) (k : Nat) : Prop where
  sp : SpOk N M s
  fst : FstOk s fs
  arcs : s.arcs.length ≤ k
def AnsExp (w0 : World) (bf bm : Nat) (N : PNet) (A : Option Addr) (n c M : Nat) (r : Option PSp) (e : Ending) (w' : World) : Prop :=
  Below w0.heap.size w0 w' ∧ match r with
  | none => e = .returned (.int .i64 4)
  | some s => e = .returned (.int .i64 0) ∧ ∃ u v z fs, FinW w' w0.heap.size bf bm N.places A n c (M : Int) u v z s.marks s.marks s.arcs fs ∧ ExpOk N M s fs 7200
theorem ans_none {w0 w' : World} {bf bm : Nat} {N : PNet} {A : Option Addr} {n c M : Nat} {r : Option PSp} (hr : r = none) (hb : Below w0.heap.size w0 w') : AnsExp w0 bf bm N A n c M r (.returned (.int .i64 4)) w' := by
  subst hr
  exact ⟨hb, rfl⟩

set_option maxRecDepth 100000 in
set_option maxHeartbeats 4000000 in
theorem explore_calls {w0 w : World} {bf bm : Nat} {P : Int} {A : Option Addr} {n c M : Nat} {u v z : Value} {ts : List PTran} {s : PSp} {fs : List Int} (hT : Trans w0 A n c ts) (hM : M ≤ 300)
    (h : FinW w w0.heap.size bf bm P A n c (M : Int) u v z s.marks s.marks s.arcs fs) (hB : Below w0.heap.size w0 w) (hs : ExpOk ⟨P, ts⟩ M s fs 0) :
    Calls Try.prog 125 #[.pointer (some ⟨bf, 0, none⟩)] w (AnsExp w0 bf bm ⟨P, ts⟩ A n c M (goM ⟨P, ts⟩ M M 0 s)) := by
  obtain ⟨R, hR⟩ : ∃ R, goM ⟨P, ts⟩ M M 0 s = R := ⟨_, rfl⟩
  rw [hR]
  have HR := hide2 hR
  have HT := hide2 hT
  have HF := hide2 h
  have HB := hide2 hB
  have HS := hide2 hs
  have HM := hide2 hM
  clear hR hT h hB hs hM
  go_enter Try.func125, Try.ntmps125
  go_wp2
  go_loopw [3] (fun fv wr => ∃ (f : Nat) (u v z : Value) (s : PSp) (fs : List Int), fv = .int .i64 f ∧ f ≤ s.marks.length ∧ f ≤ M ∧ Hid (FinW wr w0.heap.size bf bm P A n c (M : Int) u v z s.marks s.marks s.arcs fs) ∧ Hid (Below w0.heap.size w0 wr) ∧ Hid (ExpOk ⟨P, ts⟩ M s fs (24 * f)) ∧ Hid (goM ⟨P, ts⟩ M (M - f) f s = R)) (fun fv _ => M - (intOf fv).toNat)
  case atStart => exact ⟨0, u, v, z, s, fs, rfl, Nat.zero_le _, Nat.zero_le _, HF, HB, HS, HR⟩
  case round =>
    clear HF HB HS HR u v z fs s
    obtain ⟨f, u, v, z, s, fs, rfl, hfl, hfM, HF, HB, HS, HR⟩ := hrel
    have hM3 : M ≤ 300 := HM.out
    have hL3 : s.marks.length ≤ 300 := Nat.le_trans HS.out.sp.few HM.out
    obtain ⟨U, cu, hu, su⟩ := HF.out.marks.sl (by omega)
    subst hu
    obtain ⟨L, hL⟩ : ∃ L, s.marks.length = L := ⟨_, rfl⟩
    have HLL := hide2 hL
    by_cases hlt : f < s.marks.length
    · obtain ⟨b, off, m, vs, hU, hbl, hm, hc, A1, n1, c1, e1, i1, hn1, ap1⟩ := Sl.get su hlt
      subst hU
      have hU2 : f < L := by omega
      have c0 : wr.cell? ⟨bf, 0, none⟩ = some (.int .i64 P) := HF.out.box.cell 0
      have c1' : wr.cell? ⟨bf, 1, none⟩ = some (.slice A n c) := HF.out.box.cell 1
      have c4 : wr.cell? ⟨bf, 4, none⟩ = some (.slice (some ⟨b, off, none⟩) s.marks.length cu) := HF.out.box.cell 4
      have cm : wr.cell? ⟨b, off + f, none⟩ = some (.slice A1 n1 c1) := by have := hc 0 (by omega); rw [e1] at this; simpa using this
      rw [hL] at c4
      have hfLi : (f : Int) < (L : Int) := by omega
      have MF := hide2 (HS.out.sp.fits m (List.mem_of_getElem? hm))
      have HM1 := hide2 hm
      have I1 := hide2 i1
      have AP1 := hide2 ap1
      have HT1 := hide2 (HT.out.keep HB.out)
      have FIN := hide2 (show enabledL ⟨P, ts⟩ m = (enIdx ts m, 0) by rw [enabledL, if_pos MF.out])
      have HN := hide2 hn1
      clear hL su hlt hm hc i1 ap1 e1 hn1
      go_wp2_with ((with_reducible refine (enabledF_calls HT1.out I1.out).mono ?_); rw [FIN.out]; rintro e w1 ⟨C, l, lc, rfl, hi, hb1, hfr⟩)
      have F1 := hide2 (HF.out.keep hb1)
      have B1 := hide2 (HB.out.trans (hb1.mono HB.out.size))
      have IM := hide2 (I1.out.keep hb1)
      have IC := hide2 hi
      have AC := hide2 (HF.out.apart (l := l) hfr)
      have hl24 : l ≤ 24 := by
        have h1 := hi.len
        have h2 := enIdx_length ts m
        have h3 : ts.length ≤ 24 := ((netOk_iff _).1 ((fitsB_iff _ _).1 MF.out).1).2.2.1
        omega
      have FD := hide2 (show fromL ⟨P, ts⟩ M f s = foldS ⟨P, ts⟩ M m (f : Int) (enIdx ts m) (some s) by
        have := foldS_enabled (most := M) (f := (f : Int)) MF.out (some s) ts.length (Nat.le_refl _)
        rw [List.take_length] at this
        rw [this, fromL, show s.marks.getD f [] = m by rw [List.getD_eq_getElem?_getD, HM1.out]; rfl])
      obtain ⟨wo, hwo⟩ : ∃ wo : World, wo = wr := ⟨_, rfl⟩
      subst hwo
      clear c0 c1' c4 cm hi hb1 hfr I1 HT1 HF HB
      go_wp2
      go_loopw [45] (fun kv wr => ∃ (k : Nat) (u v z : Value) (s1 : PSp) (fs : List Int), kv = .int .i64 k ∧ k ≤ l ∧ Hid (FinW wr w0.heap.size bf bm P A n c (M : Int) u v z s1.marks s1.marks s1.arcs fs) ∧ Hid (Below w0.heap.size w0 wr) ∧ Hid (ExpOk ⟨P, ts⟩ M s1 fs (24 * f + k)) ∧ Hid (foldS ⟨P, ts⟩ M m (f : Int) ((enIdx ts m).take k) (some s) = some s1) ∧ Hid (Ints wr C l lc (enIdx ts m) ∧ Apart4 bf u v z C l) ∧ Hid (Ints wr A1 n1 c1 m ∧ Apart4 bf u v z A1 n1) ∧ Hid (f < s1.marks.length)) (fun kv _ => l - (intOf kv).toNat)
      case atStart => exact ⟨0, _, _, _, s, fs, rfl, Nat.zero_le _, F1, B1, HS, rfl, ⟨IC.out, AC.out⟩, ⟨IM.out, AP1.out⟩, by rw [HLL.out]; exact hU2⟩
      case round =>
        clear F1 B1 IM IC AC AP1
        obtain ⟨k, u1, v1, z1, s1, fs1, rfl, hk, F1, B1, X1, FO, ⟨ic, ac⟩, ⟨im, am⟩, FL⟩ := hrel
        have hm300 : s1.marks.length ≤ 300 := Nat.le_trans X1.out.sp.few HM.out
        have ha72 : s1.arcs.length ≤ 24 * f + k := X1.out.arcs
        have hf72 : s1.arcs.length ≤ 7224 := by omega
        have hfs : fs1.length ≤ 300 := by rw [X1.out.fst.len]; exact hm300
        have SUCC := hide2 (show R = none ∨ True from .inr trivial)
        by_cases hlt : k < l
        · obtain ⟨bC, offC, t, hC, hbC, ht, hct⟩ := Ints.get ic hlt
          subst hC
          have htm : t ∈ enIdx ts m := List.mem_of_getElem? ht
          obtain ⟨⟨i, hi, hti⟩, hfe⟩ := enIdx_fire MF.out htm
          subst hti
          obtain ⟨V, cv, hv, sv⟩ := F1.out.arcs.sl (by omega)
          subst hv
          have hki : (k : Int) < (l : Int) := by omega
          have hi24 : i ≤ 24 := by
            have h3 : ts.length ≤ 24 := ((netOk_iff _).1 ((fitsB_iff _ _).1 MF.out).1).2.2.1
            have h4 : i < ts.length := hi
            omega
          have STEP := hide2 (show foldS ⟨P, ts⟩ M m (f : Int) ((enIdx ts m).take (k + 1)) (some s) = arcStep ⟨P, ts⟩ M m (f : Int) s1 (i : Int) by
            rw [take_snoc ht, foldS_snoc, FO.out]; rfl)
          have NONE := hide2 (fun (h0 : arcStep ⟨P, ts⟩ M m (f : Int) s1 (i : Int) = none) => show R = none by
            rw [← HR.out]
            obtain ⟨g, hg⟩ : ∃ g, M - f = g + 1 := ⟨M - f - 1, by have := HS.out.sp.few; rw [HLL.out] at this; omega⟩
            rw [hg, goM, if_pos (by rw [HLL.out]; exact hU2), FD.out, foldS_ended (k + 1) (by rw [STEP.out]; exact h0)]
            rfl)
          obtain ⟨p, hp⟩ : ∃ p, fireL ⟨P, ts⟩ m (i : Int) = p := ⟨_, rfl⟩
          obtain ⟨x, fe⟩ := p
          rw [hp] at hfe
          have c0 : wr.cell? ⟨bf, 0, none⟩ = some (.int .i64 P) := F1.out.box.cell 0
          have c1' : wr.cell? ⟨bf, 1, none⟩ = some (.slice A n c) := F1.out.box.cell 1
          have HP := hide2 hp
          have HTr := hide2 (HT.out.keep B1.out)
          have IMR := hide2 im
          have AMR := hide2 am
          have ICR := hide2 ic
          have ACR := hide2 ac
          have FXF := hide2 (fire_fits (t := (i : Int)) MF.out)
          clear hp im am ic ac hi htm sv ht SUCC
          rcases hfe with hfe | hfe
          · simp only at hfe
            subst hfe
            have XF := hide2 (FXF.out (by rw [HP.out]))
            simp only [HP.out] at XF
            have XL := hide2 (show x.length ≤ 16 by
              obtain ⟨h1, h2, _⟩ := (fitsB_iff _ _).1 XF.out.1
              have h3 := ((netOk_iff _).1 h1).2.1
              simp only at h2 h3
              omega)
            have XR := hide2 ((fitsB_iff _ _).1 XF.out.1).2.2
            have AST := hide2 (show arcStep ⟨P, ts⟩ M m (f : Int) s1 (i : Int) = meetL M s1 (f : Int) (i : Int) x by unfold arcStep; rw [HP.out]; rfl)
            have SPS := hide2 (fun (s' : PSp) (h : meetL M s1 (f : Int) (i : Int) x = some s') => X1.out.sp.step FL.out MF.out (AST.out.trans h))
            have MT := X1.out.fst.meet (M := M) (x := x) (f := (f : Int)) (t := (i : Int)) (fun a ha => (X1.out.sp.ends a ha).2.2.2)
            have CF := hide2 (fun (w2 : World) (D : Option Addr) (q qc : Nat) (hi2 : Ints w2 D q qc x) (hb2 : Below wr.heap.size wr w2) (hfr2 : Fresh wr D) => find_calls (s1.arcs.length : Int) (F1.out.keep hb2) (B1.out.trans (hb2.mono B1.out.size)) hi2 (by rw [← hi2.len]; exact XL.out) XR.out (F1.out.apart hfr2) hm300 hfs)
            obtain ⟨pp, hpp⟩ : ∃ pp, findP M s1.marks fs1 x (s1.arcs.length : Int) = pp := ⟨_, rfl⟩
            rw [hpp] at MT
            simp only [hpp] at CF
            obtain ⟨ms', fs', k', ok⟩ := pp
            clear hpp
            have CELL := hide2 (show ∀ w2, Below wr.heap.size wr w2 → w2.cell? ⟨bf, 5, none⟩ = some (.slice V s1.arcs.length cv) from fun w2 hb => (F1.out.box.keep hb).cell 5)
            obtain ⟨na, hna⟩ : ∃ na, s1.arcs.length = na := ⟨_, rfl⟩
            have HNA := hide2 hna
            simp only [hna] at CF CELL ACR AMR
            rcases MT with ⟨hok, hme⟩ | ⟨hok, hme, hfo⟩
            · simp only at hok
              subst hok
              have RN := hide2 (NONE.out (AST.out.trans hme))
              clear hme hna
              go_wp2_with (first
                | ((with_reducible refine (fireF_calls HTr.out IMR.out (i : Int)).mono ?_); rw [HP.out]; rintro e w2 ⟨D, q, qc, rfl, hi2, hb2, hfr2⟩; have CALL := hide2 (CF.out w2 D q qc hi2 hb2 hfr2); have c5 := CELL.out w2 hb2; clear hi2 hb2 hfr2)
                | (go_at_call 124; (with_reducible refine CALL.out.mono ?_); rintro e w3 ⟨u', z', rfl, F3, B3, S3, K3⟩; have B4 := hide2 B3; clear F3 B3 S3 K3))
              go_ret
              exact ans_none RN.out B4.out
            · simp only at hok hme hfo
              subst hok
              have SP := hide2 (SPS.out _ hme)
              have FO2 := hide2 (STEP.out.trans (AST.out.trans hme))
              have HFO := hide2 hfo
              have WI := hide2 (show (Lit.int .i64 (i : Int)).wf = true from WalkArith.wf_i64 (by omega))
              clear hme hfo hna
              go_wp2_with (first
                | ((with_reducible refine (fireF_calls HTr.out IMR.out (i : Int)).mono ?_); rw [HP.out]; rintro e w2 ⟨D, q, qc, rfl, hi2, hb2, hfr2⟩; have CALL := hide2 (CF.out w2 D q qc hi2 hb2 hfr2); have HB2 := hide2 hb2; have c5 := CELL.out w2 hb2; clear hi2 hb2 hfr2)
                | (go_at_call 124; go_loud ((with_reducible refine CALL.out.mono ?_); rintro e w3 ⟨u', z', rfl, F3, B3, S3, K3⟩; have F4 := hide2 F3; have B4 := hide2 B3; have IC4 := hide2 (K3 _ _ _ _ (ICR.out.keep HB2.out) ACR.out); have IM4 := hide2 (K3 _ _ _ _ (IMR.out.keep HB2.out) AMR.out); have NB := hide2 (show (Value.slice V na cv).ownBlock ≠ some bf by obtain ⟨_, o1, _⟩ := id F3.arcs; exact own_neBox o1 F3.box (by decide)); clear c5; have c5 : w3.cell? ⟨bf, 5, none⟩ = some (.slice V na cv) := F3.box.cell 5; clear F3 B3 S3 K3))
                | (at_builtin; go_loud (refine wpList_appLies tyArcs rfl _ _ rfl [(⟨(f : Int), (i : Int), k'⟩ : PArc)] #[.int .i64 (f : Int), .int .i64 (i : Int), .int .i64 k'] rfl rfl (by first | rfl | simp) rfl (by omega) (by simp [Value.oneCell']) F4.out.arcs (Reads.one (vs := fun j => #[Value.int .i64 (f : Int), .int .i64 (i : Int), .int .i64 k'].getD j (.int .i64 0)) ⟨rfl, rfl, rfl, WI.out⟩ rfl (fun j hj => (by match j, hj with | 0, _ => rfl | 1, _ => rfl | 2, _ => rfl))) rfl B4.out B4.out.size (by omega) (by omega) (fun _ _ _ _ h => h) ?_; intro g6 cap6 w6 own6' hg6' hb6' hat6'; have own6 := hide2 own6'; have hg6 := hide2 hg6'; have hb6 := hide2 hb6'; have hat6 := hide2 hat6'; clear own6' hg6' hb6' hat6' c5; have c5 : w6.cell? ⟨bf, 5, none⟩ = some (.slice V na cv) := (F4.out.box.grown hg6.out NB.out).cell 5; have f5 := (F4.out.box.grown hg6.out NB.out).frozen 5)))
              go_roundw
              case rel =>
                have FK := F4.out.arc (by simp) own6.out hg6.out hat6.out
                exact ⟨k + 1, u', _, z', ⟨ms', s1.arcs ++ [⟨(f : Int), (i : Int), k'⟩]⟩, fs', by go_num, by omega, hide2 FK.1, hide2 (hb6.out.grown (grown_setCell _ _ _ _) hb6.out.size (fun k hk => by cases hk; exact F4.out.lo)), hide2 ⟨SP.out.1, HFO.out, by simp; omega⟩, FO2, hide2 (FK.2 _ _ _ _ IC4.out.1 IC4.out.2), hide2 (FK.2 _ _ _ _ IM4.out.1 IM4.out.2), hide2 (Nat.lt_of_lt_of_le FL.out SP.out.2.length_le)⟩
              case measure => simp [intOf]; omega
          · simp only at hfe
            subst hfe
            have RN := hide2 (NONE.out (by unfold arcStep; rw [HP.out]; rfl))
            go_wp2_with ((with_reducible refine (fireF_calls HTr.out IMR.out (i : Int)).mono ?_); rw [HP.out]; rintro e w2 ⟨D, q, qc, rfl, hi2, hb2, hfr2⟩; have B2 := hide2 (B1.out.trans (hb2.mono B1.out.size)); clear hi2 hb2 hfr2)
            go_ret
            exact ans_none RN.out B2.out
        · obtain rfl : k = l := by omega
          have FA := hide2 (show foldS ⟨P, ts⟩ M m (f : Int) (enIdx ts m) (some s) = some s1 by
            have := FO.out
            rwa [List.take_of_length_le (by rw [ic.len]; exact Nat.le_refl _)] at this)
          have NX := hide2 (show goM ⟨P, ts⟩ M (M - (f + 1)) (f + 1) s1 = R by
            rw [← HR.out]
            obtain ⟨g, hg⟩ : ∃ g, M - f = g + 1 := ⟨M - f - 1, by have := HS.out.sp.few; rw [HLL.out] at this; omega⟩
            rw [hg, goM, if_pos (by rw [HLL.out]; exact hU2), FD.out, FA.out, show M - (f + 1) = g by omega]
            rfl)
          have fM : f + 1 ≤ M := by have := HS.out.sp.few; rw [HLL.out] at this; omega
          clear ic im
          go_wp2
          go_roundw
          case rel => exact ⟨f + 1, u1, v1, z1, s1, fs1, by go_num, FL.out, fM, F1, B1, ⟨X1.out.sp, X1.out.fst, by omega⟩, NX⟩
          case measure => simp [intOf]; omega
    · have FE := hide2 (show R = some s by
        rw [← HR.out]
        cases M - f with
        | zero => rfl
        | succ g => rw [goM, if_neg hlt])
      obtain rfl : f = L := by omega
      have c4 : wr.cell? ⟨bf, 4, none⟩ = some (.slice U s.marks.length cu) := HF.out.box.cell 4
      rw [hL] at c4
      clear hL su hlt hfl hL3
      go_wp2
      go_ret
      rw [FE.out]
      exact ⟨HB.out, rfl, _, _, _, fs, HF.out, ⟨HS.out.sp, HS.out.fst, Nat.le_trans HS.out.arcs (by omega)⟩⟩
end Go.Proofs.Ytnfppolgaeibeaa
namespace Go.Proofs.Ytnfppolgaeibeaa
open Go.RowKit

theorem FinW.start (w1 : World) {B : Nat} (hB : B ≤ w1.heap.size) (P : Int) (A : Option Addr) (n c : Nat) (most : Int) :
    FinW ((w1.alloc (.map #[] 0)).alloc (.cells #[.int .i64 P, .slice A n c, .int .i64 most, .map (some w1.heap.size), .slice none 0 0, .slice none 0 0, .slice none 0 0] 165)) B (w1.heap.size + 1) w1.heap.size P A n c most (.slice none 0 0) (.slice none 0 0) (.slice none 0 0) [] [] [] [] where
  lo := by omega
  lom := hB
  box := Box.newAt (by simp) _ _
  map := (AtM.made w1).of_block (heap_alloc_old _ _ (by simp))
  marks := OwnSl.nil
  arcs := OwnSl.nil
  first := OwnSl.nil
def AnsSearch (N : PNet) (most : Int) (r : PSp × Int) (w : World) (e : Ending) (w' : World) : Prop :=
  Below w.heap.size w w' ∧ ((r.2 ≠ 0 ∧ e = .returned (.tuple #[.pointer none, .int .i64 r.2])) ∨ (r.2 = 0 ∧ ∃ (bf bm : Nat) (A : Option Addr) (n c : Nat) (u v z : Value) (fs : List Int), e = .returned (.tuple #[.pointer (some ⟨bf, 0, none⟩), .int .i64 0]) ∧ FinW w' w.heap.size bf bm N.places A n c most u v z r.1.marks r.1.marks r.1.arcs fs ∧ ExpOk N most.toNat r.1 fs 7200 ∧ r.1.marks.length ≤ 300))

set_option maxRecDepth 100000 in
set_option maxHeartbeats 2000000 in
theorem search_calls {w : World} {P : Int} {A B : Option Addr} {n c m d : Nat} {ts : List PTran} {xs : List Int} (most : Int) (h : Trans w A n c ts) (g : Ints w B m d xs) :
    Calls Try.prog 108 #[.agg #[.int .i64 P, .slice A n c], .slice B m d, .int .i64 most] w (AnsSearch ⟨P, ts⟩ most (graphL ⟨P, ts⟩ xs most) w) := by
  have HB := hide2 (boxBelow w)
  have H := hide2 h
  have G := hide2 g
  have gs := g.small
  clear h g
  have hmm := @run_makeMap Try.prog
  by_cases hm : 1 ≤ most ∧ most ≤ 300
  · obtain ⟨hm1, hm2⟩ := hm
    obtain ⟨M, rfl⟩ : ∃ M : Nat, most = (M : Int) := ⟨most.toNat, by omega⟩
    have MM := hide2 (show (1 : Int) ≤ (M : Int) ∧ (M : Int) ≤ 300 from ⟨hm1, hm2⟩)
    have hf1 : ¬ (M : Int) < 1 := by omega
    have hf2 : ¬ (M : Int) > 300 := by omega
    clear hm1 hm2
    go_enter Try.func108, Try.ntmps108
    cases hok : fitsB ⟨P, ts⟩ xs
    · have FE := hide2 (show graphL ⟨P, ts⟩ xs (M : Int) = (PSp.nil, 2) by rw [graphL, if_neg (by rw [hok]; simp)])
      have FIN := hide2 (show enabledL ⟨P, ts⟩ xs = ([], 2) by rw [enabledL, hok]; rfl)
      clear hok hmm
      go_wp2_with ((with_reducible refine (enabled_calls (H.out.keep (HB.out _)) (G.out.keep (HB.out _))).mono ?_); rw [FIN.out]; rintro e w1 ⟨C, l, lc, rfl, hi, hb1⟩; have B1 := hide2 ((HB.out (.cells #[.int .i64 P, .slice A n c] 27)).trans (hb1.mono (by simp))); clear hi hb1)
      exact bodyPost_ret (v := .tuple #[.pointer none, .int .i64 2]) (by simp [results, Try.results108, go_sem]) rfl (by rw [FE.out]; exact ⟨B1.out, .inl ⟨by decide, rfl⟩⟩)
    · have FT := hide2 hok
      have FIN := hide2 (show enabledL ⟨P, ts⟩ xs = (enIdx ts xs, 0) by rw [enabledL, hok]; rfl)
      have HX := hide2 (show xs.length ≤ 16 by
        obtain ⟨h1, h2, _⟩ := (fitsB_iff _ _).1 hok
        have h3 := ((netOk_iff _).1 h1).2.1
        simp only at h2 h3
        omega)
      have hm16 : m ≤ 16 := by rw [← G.out.len]; exact HX.out
      clear hok
      go_upto_region 6 with ((with_reducible refine (enabled_calls (H.out.keep (HB.out _)) (G.out.keep (HB.out _))).mono ?_); rw [FIN.out]; rintro e w1 ⟨C, l, lc, rfl, hi, hb1⟩; have B1 := hide2 ((HB.out (.cells #[.int .i64 P, .slice A n c] 27)).trans (hb1.mono (by simp))); have c0 : w1.cell? ⟨w.heap.size, 0, none⟩ = some (.int .i64 P) := (hb1.cell (by simp)).trans (by simp); have c1 : w1.cell? ⟨w.heap.size, 1, none⟩ = some (.slice A n c) := (hb1.cell (by simp)).trans (by simp); clear hi hb1)
      go_upto_region 7 with fail
      clear hmm c0 c1
      have F0 := hide2 (FinW.start w1 B1.out.size P A n c (M : Int))
      have B2 := hide2 ((B1.out.alloc B1.out.size (.map #[] 0)).alloc (Nat.le_trans B1.out.size (by simp)) (.cells #[.int .i64 P, .slice A n c, .int .i64 (M : Int), .map (some w1.heap.size), .slice none 0 0, .slice none 0 0, .slice none 0 0] 165))
      generalize (w1.alloc (.map #[] 0)).alloc (.cells #[.int .i64 P, .slice A n c, .int .i64 (M : Int), .map (some w1.heap.size), .slice none 0 0, .slice none 0 0, .slice none 0 0] 165) = w2 at *
      generalize w1.heap.size + 1 = bf at *
      generalize w1.heap.size = bm at *
      have G2 := hide2 (G.out.keep B2.out)
      have FP := hide2 (show findP M [] [] xs (-1) = ([xs], [-1], 0, true) by
        have hM0 : ¬ (0 = M) := by have := MM.out; omega
        simp [findP, findL, hM0])
      have GE := hide2 (show graphL ⟨P, ts⟩ xs (M : Int) = (match goM ⟨P, ts⟩ M M 0 ⟨[xs], []⟩ with | some s => (s, 0) | none => (PSp.nil, 4)) by
        rw [graphL, if_pos ⟨MM.out.1, MM.out.2, FT.out⟩]; rfl)
      have EX := hide2 (fun (w' : World) (u v z : Value) (h1 : FinW w' w.heap.size bf bm P A n c (M : Int) u v z [xs] [xs] [] [-1]) (h2 : Below w.heap.size w w') => explore_calls (s := ⟨[xs], []⟩) H.out (by have := MM.out; omega) h1 h2 ⟨SpOk.start FT.out (by have := MM.out; omega), FstOk.start xs, Nat.le_refl _⟩)
      have RX := hide2 ((fitsB_iff _ _).1 FT.out).2.2
      obtain ⟨r, hr⟩ : ∃ r, goM ⟨P, ts⟩ M M 0 ⟨[xs], []⟩ = r := ⟨_, rfl⟩
      rw [hr] at GE
      simp only [hr] at EX
      clear hr
      cases r with
      | none =>
        go_wp2_with (first
          | (go_at_call 46; (with_reducible refine (cloneInts_calls G2.out (by omega)).mono ?_); rintro e w3 ⟨vv, rfl, own, hb3⟩; obtain ⟨X, cx, rfl, ix⟩ := own.sl (by omega); have CALL := hide2 (find_calls (-1) (F0.out.keep hb3) (B2.out.trans (hb3.mono B2.out.size)) ix (by omega) RX.out (F0.out.apart (fun ad had => by subst had; exact (own.lt ad.block rfl).1)) (by simp) (by simp)); clear own ix hb3)
          | (go_at_call 124; go_loud ((with_reducible refine CALL.out.mono ?_); rw [FP.out]; rintro e w4 ⟨u', z', rfl, F4, B4, S4, K4⟩; have CALX := hide2 (EX.out w4 _ _ _ F4 B4); clear F4 B4 S4 K4))
          | (go_at_call 125; go_loud ((with_reducible refine CALX.out.mono ?_); rintro e w5 ⟨B5, rfl⟩; have BZ := hide2 B5; clear B5)))
        exact bodyPost_ret (v := .tuple #[.pointer none, .int .i64 4]) (by simp [results, Try.results108, go_sem]) rfl (by rw [GE.out]; exact ⟨BZ.out, .inl ⟨by decide, rfl⟩⟩)
      | some s =>
        go_wp2_with (first
          | (go_at_call 46; (with_reducible refine (cloneInts_calls G2.out (by omega)).mono ?_); rintro e w3 ⟨vv, rfl, own, hb3⟩; obtain ⟨X, cx, rfl, ix⟩ := own.sl (by omega); have CALL := hide2 (find_calls (-1) (F0.out.keep hb3) (B2.out.trans (hb3.mono B2.out.size)) ix (by omega) RX.out (F0.out.apart (fun ad had => by subst had; exact (own.lt ad.block rfl).1)) (by simp) (by simp)); clear own ix hb3)
          | (go_at_call 124; go_loud ((with_reducible refine CALL.out.mono ?_); rw [FP.out]; rintro e w4 ⟨u', z', rfl, F4, B4, S4, K4⟩; have CALX := hide2 (EX.out w4 _ _ _ F4 B4); clear F4 B4 S4 K4))
          | (go_at_call 125; go_loud ((with_reducible refine CALX.out.mono ?_); rintro e w5 ⟨B5, rfl, ans⟩; have BZ := hide2 B5; have AN := hide2 ans; clear B5 ans)))
        obtain ⟨u, v, z, fs, hF, hX⟩ := AN.out
        exact bodyPost_ret (v := .tuple #[.pointer (some ⟨bf, 0, none⟩), .int .i64 0]) (by simp [results, Try.results108, go_sem]) rfl (by rw [GE.out]; exact ⟨BZ.out, .inr ⟨rfl, bf, bm, A, n, c, u, v, z, fs, rfl, hF, hX, by have := hX.sp.few; have := MM.out; simp only; omega⟩⟩)
  · have FE := hide2 (show graphL ⟨P, ts⟩ xs most = (PSp.nil, 2) by rw [graphL, if_neg (fun h => hm ⟨h.1, h.2.1⟩)])
    have BX := hide2 (HB.out (.cells #[.int .i64 P, .slice A n c] 27))
    clear hmm
    go_enter Try.func108, Try.ntmps108
    by_cases h1 : most < 1
    · go_wp2
      exact bodyPost_ret (v := .tuple #[.pointer none, .int .i64 2]) (by simp [results, Try.results108, go_sem]) rfl (by rw [FE.out]; exact ⟨BX.out, .inl ⟨by decide, rfl⟩⟩)
    · have h2 : most > 300 := by omega
      clear hm
      go_wp2
      exact bodyPost_ret (v := .tuple #[.pointer none, .int .i64 2]) (by simp [results, Try.results108, go_sem]) rfl (by rw [FE.out]; exact ⟨BX.out, .inl ⟨by decide, rfl⟩⟩)
end Go.Proofs.Ytnfppolgaeibeaa
namespace Go.Proofs.Ytnfppolgaeibeaa
open Go.RowKit

def AnsSpace (r : PSp × Int) (w : World) (e : Ending) (w' : World) : Prop :=
  ∃ U cu V cv, e = .returned (.tuple #[.agg #[.slice U r.1.marks.length cu, .slice V r.1.arcs.length cv], .int .i64 r.2]) ∧ Lists w' U r.1.marks.length cu r.1.marks ∧ Arcs w' V r.1.arcs.length cv r.1.arcs ∧ Below w.heap.size w w'
theorem FinW.space {w w' : World} {B bf bm b ty : Nat} {P : Int} {A : Option Addr} {n c : Nat} {most : Int} {u v z : Value} {mm ms : List (List Int)} {ars : List PArc} {fs : List Int} {cs : Array Value} (h : FinW w B bf bm P A n c most u v z mm ms ars fs) (hx : Box w b ty cs) (hcs : ∀ (j : Nat) (x : Int), cs[j]? ≠ some (.int .i64 x)) (hb : b < B) (hw : Beside b w w') (hos : w'.os = w.os) (htape : w'.tape = w.tape) (hout : w'.output = w.output) (hl : ms.length ≤ 7200) (ha : ars.length ≤ 7200) :
    ∃ U cu V cv, u = .slice U ms.length cu ∧ v = .slice V ars.length cv ∧ Lists w' U ms.length cu ms ∧ Arcs w' V ars.length cv ars := by
  have hg : w.grownBy w' (some b) := ⟨hos, htape, hout, Nat.le_of_eq hw.1.symm, fun k _ hk => hw.2 k (fun e => hk (by rw [e]))⟩
  have o1 : OwnSl ListR 1 w' B 35 u ms.length ms := h.marks.turn hg (.inr (fun e => by have := (h.marks.lt b e).1; omega)) (fun vs x hx' => by
    obtain ⟨A, n, c, e, i, l, _⟩ := hx'
    exact ⟨A, n, c, e, i.beside hx hcs hw, by omega⟩)
  have o2 : OwnSl ArcR 3 w' B 130 v ars.length ars := h.arcs.turn hg (.inr (fun e => by have := (h.arcs.lt b e).1; omega)) (fun vs x hx' => hx')
  obtain ⟨U, cu, e1, s1⟩ := o1.sl (by omega)
  obtain ⟨V, cv, e2, s2⟩ := o2.sl (by omega)
  exact ⟨U, cu, V, cv, e1, e2, s1, s2⟩
theorem ans_space0 {w w' : World} {k : Int} (hb : Below w.heap.size w w') : AnsSpace (PSp.nil, k) w (.returned (.tuple #[.agg #[.slice none 0 0, .slice none 0 0], .int .i64 k])) w' :=
  ⟨none, 0, none, 0, rfl, Sl.nil0, Sl.nil0, hb⟩
theorem graphL_err {N : PNet} {m : List Int} {most : Int} (h : (graphL N m most).2 ≠ 0) : (graphL N m most).1 = PSp.nil := by
  unfold graphL at h ⊢
  split
  · rename_i h1
    rw [if_pos h1] at h
    cases hg : goM N most.toNat most.toNat 0 ⟨[m], []⟩ with
    | none => rfl
    | some s => rw [hg] at h; simp at h
  · rfl
theorem below_set2 {B b : Nat} {w0 w : World} (h : Below B w0 w) (hB : B ≤ w0.heap.size) (hb : B ≤ b) (u v : Value) : Below B w0 ((w.setCell ⟨b, 0, none⟩ u).setCell ⟨b, 1, none⟩ v) :=
  (h.grown (grown_setCell w b 0 u) (Nat.le_trans hB h.size) (fun k hk => by cases hk; exact hb)).grown (grown_setCell _ b 1 v) (by simpa [World.setCell] using Nat.le_trans hB h.size) (fun k hk => by cases hk; exact hb)

set_option maxRecDepth 100000 in
set_option maxHeartbeats 2000000 in
theorem graph_calls {w : World} {P : Int} {A B : Option Addr} {n c m d : Nat} {ts : List PTran} {xs : List Int} (most : Int) (h : Trans w A n c ts) (g : Ints w B m d xs) :
    Calls Try.prog 60 #[.agg #[.int .i64 P, .slice A n c], .slice B m d, .int .i64 most] w (AnsSpace (graphL ⟨P, ts⟩ xs most) w) := by
  generalize hw : ((w.alloc (.cells #[.int .i64 P, .slice A n c] 27)).alloc (.cells #[.slice none 0 0, .slice none 0 0] 107)) = w0
  have HB := hide2 (show Below w.heap.size w w0 by rw [← hw]; exact ((Below.refl _ _).alloc (Nat.le_refl _) _).alloc (by simp) _)
  have X0 := hide2 (show Box w0 w.heap.size 27 #[.int .i64 P, .slice A n c] by rw [← hw]; exact (Box.new _ _ _).old _)
  have X1 := hide2 (show Box w0 (w.heap.size + 1) 107 #[.slice none 0 0, .slice none 0 0] by rw [← hw]; exact Box.newAt (by simp) _ _)
  have CS := hide2 (search_calls (P := P) most (h.keep HB.out) (g.keep HB.out))
  have ER := hide2 (graphL_err (N := ⟨P, ts⟩) (m := xs) (most := most))
  clear h g
  obtain ⟨r, hr⟩ : ∃ r, graphL ⟨P, ts⟩ xs most = r := ⟨_, rfl⟩
  rw [hr] at CS ER
  rw [hr]
  clear hr
  obtain ⟨s, k⟩ := r
  go_enter Try.func60, Try.ntmps60
  go_upto_region 1 with fail
  clear hw
  obtain ⟨a0, a1⟩ := X0.out.two
  obtain ⟨z0, z1⟩ := X1.out.two
  have f0 := X1.out.frozen 0
  have f1 := X1.out.frozen 1
  by_cases hk : k = 0
  · subst hk
    go_upto_region 2 with (go_at_call 108; go_loud ((with_reducible refine CS.out.mono ?_); rintro e w1 ⟨B1, ⟨hne, _⟩ | ⟨_, bf, bm, A1, n1, c1, u, v, z, fs, rfl, hF, hX, hms'⟩⟩; (exact absurd rfl hne); have FF := hide2 hF; have XX := hide2 hX; have BB := hide2 B1; have HMS := hide2 hms'; clear hF hX B1 hms'))
    have Y1 := hide2 (X1.out.keep BB.out)
    have BZ := hide2 (HB.out.trans (BB.out.mono HB.out.size))
    have Hlt := hide2 X1.out.lt
    clear X0 X1 HB CS ER a0 a1 z0 z1 f0 f1 BB
    have hms : s.marks.length ≤ 300 := HMS.out
    obtain ⟨U, cu, V, cv, eu, ev, hL, hA⟩ := FF.out.space Y1.out noInt2 Hlt.out (Beside.set2 w1 (w.heap.size + 1) 0 1 u v) rfl rfl rfl (by omega) XX.out.arcs
    subst eu ev
    have LL := hide2 hL
    have LA := hide2 hA
    clear hL hA
    have c4 : w1.cell? ⟨bf, 4, none⟩ = some (.slice U s.marks.length cu) := FF.out.box.cell 4
    have c5 : w1.cell? ⟨bf, 5, none⟩ = some (.slice V s.arcs.length cv) := FF.out.box.cell 5
    obtain ⟨z0, z1⟩ := Y1.out.two
    have f0 := Y1.out.frozen 0
    have f1 := Y1.out.frozen 1
    go_wp2
    obtain ⟨r0, r1⟩ := (Y1.out.set2 (.slice U s.marks.length cu) (.slice V s.arcs.length cv)).two
    have BW := below_set2 BZ.out (Nat.le_refl _) (show w.heap.size ≤ w.heap.size + 1 by omega) (.slice U s.marks.length cu) (.slice V s.arcs.length cv)
    exact bodyPost_ret (v := .tuple #[.agg #[.slice U s.marks.length cu, .slice V s.arcs.length cv], .int .i64 0]) (by simp [results, Try.results60, go_sem, r0, r1]) rfl ⟨U, cu, V, cv, rfl, LL.out, LA.out, BW⟩
  · have ES := hide2 (ER.out hk)
    simp only at ES
    go_upto_region 2 with (go_at_call 108; go_loud ((with_reducible refine CS.out.mono ?_); rintro e w1 ⟨B1, ⟨_, rfl⟩ | ⟨he, _⟩⟩; rotate_left; (exact absurd he hk); have BB := hide2 B1; clear B1))
    have Y1 := hide2 (X1.out.keep BB.out)
    have BZ := hide2 (HB.out.trans (BB.out.mono HB.out.size))
    clear X0 X1 HB CS ER a0 a1 z0 z1 f0 f1 BB
    obtain ⟨z0, z1⟩ := Y1.out.two
    have f0 := Y1.out.frozen 0
    have f1 := Y1.out.frozen 1
    go_wp2
    obtain ⟨r0, r1⟩ := (Y1.out.set2 (.slice none 0 0) (.slice none 0 0)).two
    have BW := below_set2 BZ.out (Nat.le_refl _) (show w.heap.size ≤ w.heap.size + 1 by omega) (.slice none 0 0) (.slice none 0 0)
    obtain rfl : s = PSp.nil := ES.out
    exact bodyPost_ret (v := .tuple #[.agg #[.slice none 0 0, .slice none 0 0], .int .i64 k]) (by simp [results, Try.results60, go_sem, r0, r1]) rfl (ans_space0 BW)
end Go.Proofs.Ytnfppolgaeibeaa
