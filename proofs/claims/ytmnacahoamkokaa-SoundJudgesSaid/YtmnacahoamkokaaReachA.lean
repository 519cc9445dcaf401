/- A mark as a text: the contract of reach.name. Conditions: the mark reads as a list of at most 16 numbers of tokens. | The map from marks' texts to numbers. Conditions: the marks are of at most 16 places. -/
import Derived.Test.YtmnacahoamkokaaJourD
import Derived.Test.YtmnacahoamkokaaPlainM
import Derived.OwnWalk
import Derived.Maps.OwnSet
import Derived.Maps.OwnOps
import Derived.Maps.Views
import Derived.Maps.Keyed
import Derived.StringKeys
namespace Go.Proofs.Ytmnacahoamkokaa
open Go.RowKit

def nameL (xs : List Int) : List Nat := xs.flatMap fun x => [x.toNat % 256, x.toNat / 256 % 256, x.toNat / 65536 % 256]
theorem nameL_snoc (xs : List Int) (x : Int) : nameL (xs ++ [x]) = nameL xs ++ [x.toNat % 256, x.toNat / 256 % 256, x.toNat / 65536 % 256] := by simp [nameL]
theorem nameL_len (xs : List Int) : (nameL xs).length = 3 * xs.length := by
  induction xs with
  | nil => rfl
  | cons x l ih =>
    have : nameL (x :: l) = [x.toNat % 256, x.toNat / 256 % 256, x.toNat / 65536 % 256] ++ nameL l := rfl
    rw [this, List.length_append, ih]
    simp only [List.length_cons, List.length_nil]
    omega
theorem nameL_lt (xs : List Int) : ∀ b ∈ nameL xs, b < 256 := by
  intro b hb
  unfold nameL at hb
  obtain ⟨x, _, hx⟩ := List.mem_flatMap.1 hb
  simp at hx
  omega
theorem nameL_inj : ∀ {xs ys : List Int} (_ : rightB xs = true) (_ : rightB ys = true) (_ : nameL xs = nameL ys), xs = ys
  | [], [], _, _, _ => rfl
  | [], y :: l, _, _, h => by have := congrArg List.length h; rw [nameL_len, nameL_len] at this; simp at this
  | x :: l, [], _, _, h => by have := congrArg List.length h; rw [nameL_len, nameL_len] at this; simp at this
  | x :: l, y :: r, hx, hy, h => by
    have e1 : nameL (x :: l) = x.toNat % 256 :: (x.toNat / 256 % 256) :: (x.toNat / 65536 % 256) :: nameL l := rfl
    have e2 : nameL (y :: r) = y.toNat % 256 :: (y.toNat / 256 % 256) :: (y.toNat / 65536 % 256) :: nameL r := rfl
    rw [e1, e2] at h
    injection h with h1 h
    injection h with h2 h
    injection h with h3 h
    rw [rightB_iff] at hx hy
    have hx0 := hx x (by simp)
    have hy0 := hy y (by simp)
    rw [nameL_inj ((rightB_iff l).2 fun z hz => hx z (by simp [hz])) ((rightB_iff r).2 fun z hz => hy z (by simp [hz])) h, show x = y from by omega]
theorem strB_inj {a b : List Nat} (ha : ∀ x ∈ a, x < 256) (hb : ∀ x ∈ b, x < 256) (h : strB a = strB b) : a = b := by
  have h1 : (strB a).data.toList = (strB b).data.toList := by rw [h]
  unfold strB at h1
  rw [strOfNums_data, strOfNums_data, List.map_map, List.map_map] at h1
  have h2 := congrArg (List.map UInt8.toNat) h1
  rw [List.map_map, List.map_map] at h2
  have key : ∀ l : List Nat, (∀ x ∈ l, x < 256) → l.map (UInt8.toNat ∘ ((fun n : Int => UInt8.ofNat n.toNat) ∘ fun b : Nat => (b : Int))) = l := fun l hl => by
    rw [List.map_congr_left (g := id) (fun x hx => by
      simp only [Function.comp, Int.toNat_natCast, UInt8.toNat_ofNat', id]
      have := hl x hx
      omega)]
    simp
  rwa [key a ha, key b hb] at h2
def nameS (xs : List Int) : ByteArray := strB (nameL xs)
theorem nameS_inj {xs ys : List Int} (hx : rightB xs = true) (hy : rightB ys = true) (h : nameS xs = nameS ys) : xs = ys := nameL_inj hx hy (strB_inj (nameL_lt _) (nameL_lt _) h)
theorem infoByte : (Try.prog.info? 5).map (fun i => (i.zero, i.size, i.bytes)) = some (some (.int .u8 0), 1, 1) := by kernel_rfl

set_option maxRecDepth 100000 in
set_option maxHeartbeats 1000000 in
theorem name_calls {w : World} {A : Option Addr} {n c : Nat} {xs : List Int} (h : Ints w A n c xs) (hn : n ≤ 16) (hr : rightB xs = true) :
    Calls Try.prog 180 #[.slice A n c] w fun e w' => e = .returned (.string (nameS xs)) ∧ Below w.heap.size w w' := by
  have H := hide2 h
  have HR := hide2 ((rightB_iff xs).1 hr)
  clear h hr
  obtain ⟨i0, hi, hz0, hz1, hz2⟩ := info_parts infoByte
  have hsz : i0.bytes * (3 * n) ≤ 281474976710656 := by rw [hz2]; omega
  have hmx : 3 * n ≤ maxLen := by simp only [maxLen]; omega
  have hc3 : (3 : Int) * (n : Int) = ((3 * n : Nat) : Int) := by omega
  have HC := hide2 hc3
  clear hc3
  go_enter Try.func180, Try.ntmps180
  go_upto_region 2 with (at_make; refine wpList_make_own _ rfl _ _ 155 rfl w.heap.size 5 i0 (.int .u8 0) 1 Try.underlying155 hi hz0 hz1 .i64 .i64 _ (3 * n) rfl rfl (by first | exact HC.out | (simp; done) | omega) hsz hmx (Nat.le_refl _) ?_; intro w1 own1 hg1; have O1 := hide2 (show OwnBytes w1 w.heap.size (.slice (some ⟨w.heap.size, 0, none⟩) 0 (3 * n)) 0 [] from ⟨[], own1, Reads.nil, rfl⟩); have B1 := hide2 ((Below.refl w.heap.size w).grown hg1 (Nat.le_refl _) (fun k hk => by cases hk)); clear own1 hg1)
  clear hi hz0 hz1 hz2 hsz hmx
  go_wp2
  go_loopw [3, 12] (fun u v wr => ∃ k : Nat, k ≤ n ∧ v = .int .i64 k ∧ Hid (OwnBytes wr w.heap.size u (3 * k) (nameL (xs.take k))) ∧ Hid (Below w.heap.size w wr)) (fun _ v _ => n - (intOf v).toNat)
  case atStart => exact ⟨0, Nat.zero_le _, rfl, O1, B1⟩
  case round =>
    obtain ⟨k, hk, rfl, OW, BR⟩ := hrel
    by_cases hlt : k < n
    · have hki : (k : Int) < (n : Int) := by omega
      obtain ⟨b, off, x, rfl, hb, hx, hc⟩ := Ints.get (Ints.keep H.out BR.out) hlt
      have hxr := HR.out x (List.mem_of_getElem? hx.out)
      have NX := hide2 (show nameL (xs.take (k + 1)) = nameL (xs.take k) ++ [x.toNat % 256, x.toNat / 256 % 256, x.toNat / 65536 % 256] by rw [take_snoc hx.out, nameL_snoc])
      obtain ⟨y, rfl⟩ : ∃ y : Nat, x = (y : Int) := ⟨x.toNat, by omega⟩
      have hy : y ≤ 1000000 := by omega
      simp only [Int.toNat_natCast] at NX
      have LS := hide2 (show ∀ b ∈ [y % 256, y / 256 % 256, y / 65536 % 256], b < 256 from fun b hb => by simp at hb; omega)
      clear hxr
      go_wp2_with (at_builtin; refine wpList_appBytes rfl _ _ rfl (m := 3) (ys := [y % 256, y / 256 % 256, y / 65536 % 256]) rfl rfl (by first | rfl | simp) (by first | rfl | (simp; done) | (simp; omega)) rfl LS.out OW.out BR.out BR.out.size (by omega) ?_; intro v2 w2 own2 hg2 hb2; have OX := hide2 own2; have BZ := hide2 hb2; clear own2 hg2 hb2)
      go_roundw
      case rel => exact ⟨k + 1, by omega, by go_num, hide2 (by rw [NX.out]; exact OX.out), BZ⟩
      case measure => simp [intOf]; omega
    · obtain rfl : k = n := by omega
      have TK := hide2 (show xs.take k = xs from List.take_of_length_le (by rw [H.out.len]; exact Nat.le_refl _))
      rw [TK.out] at OW
      obtain ⟨A2, c2, hv, s2⟩ := OW.out.sl (by omega)
      subst hv
      have hcv := Bts.str s2
      clear s2
      go_wp2
      go_ret
      exact ⟨rfl, BR.out⟩
end Go.Proofs.Ytmnacahoamkokaa
namespace Go.Proofs.Ytmnacahoamkokaa
open Go.RowKit Go.Maps

theorem findL_snoc {ms : List (List Int)} {x y : List Int} : findL (ms ++ [x]) y = match findL ms y with
    | some k => some k
    | none => if y = x then some ms.length else none := by
  unfold findL
  rw [List.findIdx?_append]
  cases h : ms.findIdx? fun z => y == z with
  | some k => simp
  | none =>
    by_cases e : y = x
    · subst e; simp
    · simp [e]
def keyN (x : List Int) : Lit := .string (nameS x).data.toList
theorem keyN_inj {x y : List Int} (hx : rightB x = true) (hy : rightB y = true) (h : keyN x = keyN y) : x = y := by
  unfold keyN at h
  injection h with h
  exact nameS_inj hx hy (Go.WideShapes.bytes_inj h)
/-- Block b is a map that has the number of each of these marks. -/
def AtM (w : World) (b : Nat) (ms : List (List Int)) : Prop :=
  ∃ D : DataW Unit, w.ownsMap Try.prog 9 (plainElem Try.prog 3) b ms.length D ∧ ∀ x, rightB x = true → x.length ≤ 16 → match findL ms x with
    | some k => D.atKey (keyN x) (.lit (.int .i64 0)) = .lit (.int .i64 (k : Int)) ∧ Maps.has D (keyN x) = true
    | none => Maps.has D (keyN x) = false
theorem strLaw : Keyed Try.prog 9 := string_keyed Try.underlying9
theorem zeroIntR (w : World) : (zeroValue 3).run Try.prog w = .ok (.int .i64 0) w := by kernel_rfl
theorem AtM.made (w : World) : AtM (w.alloc (.map #[] 0)) w.heap.size [] := ⟨.map [], World.ownsMap_made _ _ _ _, fun _ _ _ => rfl⟩
theorem AtM.of_block {w w' : World} {b : Nat} {ms : List (List Int)} (h : AtM w b ms) (hb : w'.heap[b]? = w.heap[b]?) : AtM w' b ms := by
  obtain ⟨D, ⟨es, clock, h1, h2, h3, h4⟩, h5⟩ := h
  exact ⟨D, ⟨es, clock, hb.trans h1, h2, h3, h4⟩, h5⟩
theorem AtM.lt {w : World} {b : Nat} {ms : List (List Int)} (h : AtM w b ms) : b < w.heap.size := by
  obtain ⟨D, h1, _⟩ := h
  exact h1.lt
theorem AtM.keep {w w' : World} {b : Nat} {ms : List (List Int)} (h : AtM w b ms) (hb : Below w.heap.size w w') : AtM w' b ms := h.of_block (hb.block b h.lt)
theorem nameS_size (x : List Int) : (nameS x).size = 3 * x.length := by
  unfold nameS strB
  rw [strOfNums_size, List.length_map, nameL_len]
theorem keyOfN {x : List Int} (hx : x.length ≤ 16) : keyOf Try.prog 9 (.string (nameS x)) = some (keyN x) :=
  Go.WideMaps.keyOf_string_mk Try.underlying9 (by rw [nameS_size]; simp only [maxLen]; omega)
set_option maxRecDepth 100000 in
theorem AtM.look {w : World} {b : Nat} {ms : List (List Int)} (h : AtM w b ms) {x : List Int} (hx : rightB x = true) (hl : x.length ≤ 16) :
    ∃ v : Int, (Instr.lookup 142 (.map (some b)) (.string (nameS x)) true).run Try.prog w = .ok (.tuple #[.int .i64 v, .bool (findL ms x).isSome]) w ∧ ∀ k, findL ms x = some k → v = (k : Int) := by
  obtain ⟨D, h1, h2⟩ := h
  obtain ⟨u, ps, hrun, hv⟩ := h1.look_ok strLaw Try.underlying142 (zeroIntR w) (plainElem_int Try.underlying3 (a := 0) (by decide)) (keyOfN hl)
  obtain ⟨c, rfl, hc, _⟩ := plainElem_int_inv Try.underlying3 hv
  have h3 := h2 x hx hl
  cases hf : findL ms x with
  | none =>
    rw [hf] at h3
    rw [h3] at hrun
    exact ⟨c, hrun, fun k hk => by cases hk⟩
  | some k =>
    rw [hf] at h3
    rw [h3.2] at hrun
    refine ⟨c, hrun, fun k' hk' => ?_⟩
    injection hk' with hk'
    subst hk'
    have h4 := congrArg Prod.fst hc
    simp only at h4
    rw [h3.1] at h4
    injection h4 with h4
    injection h4 with _ h4
    exact h4.symm
set_option maxRecDepth 100000 in
theorem AtM.put {w : World} {b : Nat} {ms : List (List Int)} (h : AtM w b ms) {x : List Int} (hx : rightB x = true) (hl : x.length ≤ 16) (hn : findL ms x = none) (hm : ms.length ≤ 1000) :
    ∃ w', (Instr.mapUpdate 142 (.map (some b)) (.string (nameS x)) (.int .i64 (ms.length : Int))).run Try.prog w = .ok () w' ∧ AtM w' b (ms ++ [x]) ∧ w.grownBy w' (some b) := by
  obtain ⟨D, h1, h2⟩ := h
  obtain ⟨w', r1, r2, r3⟩ := h1.update strLaw Try.underlying142 (by rw [maxLen]; omega) (keyOfN hl) (plainElem_int Try.underlying3 (a := (ms.length : Int)) (WalkArith.wf_i64 (by omega)))
  refine ⟨w', r1, ⟨_, by rw [List.length_append]; exact r2, fun y hy hly => ?_⟩, r3⟩
  rw [findL_snoc]
  have h3 := h2 y hy hly
  have hD := (h1.tidy strLaw).isMap
  by_cases e : y = x
  · subst e
    rw [hn]
    rw [if_pos rfl]
    exact ⟨Maps.atKey_put_same hD (strLaw.key (keyOfN hl)) _ _, Maps.has_put_same hD (strLaw.key (keyOfN hl)) _⟩
  · have hne : keyN y ≠ keyN x := fun e2 => e (keyN_inj hy hx e2)
    cases hf : findL ms y with
    | some k =>
      rw [hf] at h3
      exact ⟨by rw [Maps.atKey_put_other hne]; exact h3.1, by rw [Maps.has_put_other hne]; exact h3.2⟩
    | none =>
      rw [hf] at h3
      rw [if_neg e]
      show Maps.has _ _ = false
      rw [Maps.has_put_other hne]
      exact h3
end Go.Proofs.Ytmnacahoamkokaa
