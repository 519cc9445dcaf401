/- Texts melted into one: slices.Compare on integers; slices.SortFunc by it, on rows of lists of the call's own. Conditions: the lists are the call's own. | The contracts of tracks.number, pair, and of sorted at both types: what is in a set, in order. Conditions: the labels are 1 to 26. -/
import Derived.Test.YtcopnfdknclhnaaGreatMineTellsK15
import Derived.Test.YtcopnfdknclhnaaGreatMineTellsK06
import Derived.Test.YtcopnfdknclhnaaGreatMineTellsK04
import Derived.Test.YtcopnfdknclhnaaGreatMineTellsK16
import Derived.Test.YtcopnfdknclhnaaGreatMineTellsK14
namespace Go.Proofs.YtcopnfdknclhnaaGreat
open Go.RowKit

def cmpI (x y : Int) : Int := if x < y then -1 else if y < x then 1 else 0
theorem cmpL_cons (x y : Int) (xs ys : List Int) : cmpL (x :: xs) (y :: ys) = if cmpI x y = 0 then cmpL xs ys else cmpI x y := by
  rw [cmpL, cmpI]
  by_cases h1 : x < y
  · rw [if_pos h1, if_pos h1, if_neg (by omega)]
  · rw [if_neg h1, if_neg h1]
    by_cases h2 : y < x
    · rw [if_pos h2, if_pos h2, if_neg (by omega)]
    · rw [if_neg h2, if_neg h2, if_pos rfl]
theorem drop_at {xs : List Int} {k : Nat} {x : Int} (h : xs[k]? = some x) : xs.drop k = x :: xs.drop (k + 1) := by
  obtain ⟨hk, rfl⟩ := List.getElem?_eq_some_iff.1 h
  exact List.drop_eq_getElem_cons hk
set_option maxRecDepth 100000 in
theorem isNaN_calls (w : World) (x : Int) : Calls Tryz.prog 121 #[.int .i64 x] w fun e w' => e = .returned (.bool false) ∧ w = w' := by
  go_enter Tryz.func121, Tryz.ntmps121
  go_wp2
  go_ret
  exact ⟨ret_bool (by first | rfl | simp), rfl⟩
set_option maxRecDepth 100000 in
theorem cmpInt_calls (w : World) (x y : Int) : Calls Tryz.prog 92 #[.int .i64 x, .int .i64 y] w fun e w' => e = .returned (.int .i64 (cmpI x y)) ∧ w = w' := by
  by_cases h1 : x < y
  · have F := hide2 (show cmpI x y = -1 by rw [cmpI, if_pos h1])
    go_enter Tryz.func92, Tryz.ntmps92
    go_wp2_with (first | (refine (isNaN_calls _ x).mono ?_; rintro e w' ⟨rfl, rfl⟩) | (refine (isNaN_calls _ y).mono ?_; rintro e w' ⟨rfl, rfl⟩))
    go_ret
    exact ⟨ret_int F.out.symm, rfl⟩
  · by_cases h2 : y < x
    · have F := hide2 (show cmpI x y = 1 by rw [cmpI, if_neg h1, if_pos h2])
      go_enter Tryz.func92, Tryz.ntmps92
      go_wp2_with (first | (refine (isNaN_calls _ x).mono ?_; rintro e w' ⟨rfl, rfl⟩) | (refine (isNaN_calls _ y).mono ?_; rintro e w' ⟨rfl, rfl⟩))
      go_ret
      exact ⟨ret_int F.out.symm, rfl⟩
    · have F := hide2 (show cmpI x y = 0 by rw [cmpI, if_neg h1, if_neg h2])
      go_enter Tryz.func92, Tryz.ntmps92
      go_wp2_with (first | (refine (isNaN_calls _ x).mono ?_; rintro e w' ⟨rfl, rfl⟩) | (refine (isNaN_calls _ y).mono ?_; rintro e w' ⟨rfl, rfl⟩))
      go_ret
      exact ⟨ret_int F.out.symm, rfl⟩
set_option maxRecDepth 100000 in
set_option maxHeartbeats 1000000 in
theorem compare_calls {w : World} {A B : Option Addr} {n c m d : Nat} {xs ys : List Int} (h : Ints w A n c xs) (g : Ints w B m d ys) :
    Calls Tryz.prog 85 #[.slice A n c, .slice B m d] w fun e w' => e = .returned (.int .i64 (cmpL xs ys)) ∧ w = w' := by
  have hn := h.small
  have hm := g.small
  have HL := hide2 h.len
  have GL := hide2 g.len
  have H := hide2 h
  have G := hide2 g
  clear h g
  go_enter Tryz.func85, Tryz.ntmps85
  go_wp2
  go_loop [11] (fun i => ∃ k : Nat, k ≤ n ∧ k ≤ m ∧ i = .int .i64 k ∧ Hid (cmpL xs ys = cmpL (xs.drop k) (ys.drop k))) (fun i => n - (intOf i).toNat)
  case atStart => exact ⟨0, Nat.zero_le _, Nat.zero_le _, rfl, rfl⟩
  case round =>
    obtain ⟨k, hk, hkm, rfl, hlow⟩ := hrel
    by_cases hlt : k < n
    · have hki : (k : Int) < (n : Int) := by omega
      obtain ⟨b, off, x, rfl, hb, hx, hc⟩ := H.out.get hlt
      by_cases hltm : k < m
      · have hkj : (k : Int) < (m : Int) := by omega
        obtain ⟨b', off', y, rfl, hb', hy, hc'⟩ := G.out.get hltm
        have ST := hide2 (show cmpL xs ys = if cmpI x y = 0 then cmpL (xs.drop (k + 1)) (ys.drop (k + 1)) else cmpI x y by rw [hlow.out, drop_at hx.out, drop_at hy.out, cmpL_cons])
        obtain ⟨z, hz⟩ : ∃ z, cmpI x y = z := ⟨_, rfl⟩
        have HZ := hide2 hz
        clear hlow hx hy hz
        by_cases hz0 : z = 0
        · subst hz0
          have N1 := hide2 (show cmpL xs ys = cmpL (xs.drop (k + 1)) (ys.drop (k + 1)) by rw [ST.out, if_pos HZ.out])
          go_wp2_with (refine (cmpInt_calls _ x y).mono ?_; rintro e w' ⟨rfl, rfl⟩; rw [HZ.out])
          go_round
          case rel => exact ⟨k + 1, by omega, by omega, by go_num, N1⟩
          case measure => simp [intOf]; omega
        · have FN := hide2 (show cmpL xs ys = z by rw [ST.out, HZ.out, if_neg hz0])
          have hzb : (z == 0) = false := by simpa using hz0
          go_wp2_with (refine (cmpInt_calls _ x y).mono ?_; rintro e w' ⟨rfl, rfl⟩; rw [HZ.out])
          go_ret
          exact ⟨ret_int FN.out.symm, rfl⟩
      · obtain rfl : k = m := by omega
        have FN := hide2 (show cmpL xs ys = 1 by rw [hlow.out, drop_at hx.out, show ys.drop k = [] from List.drop_eq_nil_of_le (by rw [GL.out]; exact Nat.le_refl _)]; rfl)
        clear hlow hx
        go_wp2
        go_ret
        exact ⟨ret_int FN.out.symm, rfl⟩
    · obtain rfl : k = n := by omega
      by_cases hnm : k < m
      · have hki : (k : Int) < (m : Int) := by omega
        obtain ⟨b', off', y, rfl, hb', hy, hc'⟩ := G.out.get hnm
        have FN := hide2 (show cmpL xs ys = -1 by rw [hlow.out, show xs.drop k = [] from List.drop_eq_nil_of_le (by rw [HL.out]; exact Nat.le_refl _), drop_at hy.out]; rfl)
        clear hlow hy
        go_wp2
        go_ret
        exact ⟨ret_int FN.out.symm, rfl⟩
      · obtain rfl : k = m := by omega
        have FN := hide2 (show cmpL xs ys = 0 by rw [hlow.out, show xs.drop k = [] from List.drop_eq_nil_of_le (by rw [HL.out]; exact Nat.le_refl _), show ys.drop k = [] from List.drop_eq_nil_of_le (by rw [GL.out]; exact Nat.le_refl _)]; rfl)
        clear hlow
        go_wp2
        go_ret
        exact ⟨ret_int FN.out.symm, rfl⟩

/-! ### a strict weak order -/
theorem cmpL_self : ∀ x : List Int, cmpL x x = 0
  | [] => rfl
  | a :: x => by rw [cmpL, if_neg (by omega), if_neg (by omega)]; exact cmpL_self x
theorem cmpL_trans : ∀ x y z : List Int, cmpL x y < 0 → cmpL y z < 0 → cmpL x z < 0
  | [], [], _, h, _ => by rw [cmpL] at h; omega
  | [], _ :: _, [], _, h => by rw [cmpL] at h; omega
  | [], _ :: _, _ :: _, _, _ => by rw [cmpL]; omega
  | _ :: _, [], _, h, _ => by rw [cmpL] at h; omega
  | _ :: _, _ :: _, [], _, h => by rw [cmpL] at h; omega
  | a :: x, b :: y, c :: z, h, g => by
    rw [cmpL] at h g ⊢
    have ih := cmpL_trans x y z
    split at h
    · split at g
      · rw [if_pos (by omega)]; omega
      · split at g
        · omega
        · rw [if_pos (by omega)]; omega
    · split at h
      · omega
      · split at g
        · rw [if_pos (by omega)]; omega
        · split at g
          · omega
          · rw [if_neg (by omega), if_neg (by omega)]; exact ih h g
theorem cmpL_ntrans : ∀ x y z : List Int, ¬ cmpL x y < 0 → ¬ cmpL y z < 0 → ¬ cmpL x z < 0
  | [], [], [], _, _ => by rw [cmpL]; omega
  | [], [], _ :: _, _, h => by rw [cmpL] at h; omega
  | [], _ :: _, _, h, _ => by rw [cmpL] at h; omega
  | _ :: _, [], [], _, _ => by rw [cmpL]; omega
  | _ :: _, [], _ :: _, _, h => by rw [cmpL] at h; omega
  | _ :: _, _ :: _, [], _, _ => by rw [cmpL]; omega
  | a :: x, b :: y, c :: z, h, g => by
    rw [cmpL] at h g ⊢
    have ih := cmpL_ntrans x y z
    split at h
    · omega
    · split at h
      · split at g
        · omega
        · split at g
          · rw [if_neg (by omega), if_pos (by omega)]; omega
          · rw [if_neg (by omega), if_pos (by omega)]; omega
      · split at g
        · omega
        · split at g
          · rw [if_neg (by omega), if_pos (by omega)]; omega
          · rw [if_neg (by omega), if_neg (by omega)]; exact ih h g

/-! ### a sorted row, whatever it holds -/
section
open Go.Sort
variable {α : Type} [Inhabited α] {enc : α → Value} {w : World}
theorem grownBy_sw (g n : Nat) (d : Array α) (os : Array Obj) : w.grownBy (sortWorld enc w g 0 n d os) (some g) := by
  refine ⟨rfl, rfl, rfl, by simp [sortWorld], fun k hk hne => ?_⟩
  unfold sortWorld
  rw [heap_grow_old _ _ (by simpa using hk)]
  have : g ≠ k := fun e => hne (by rw [e])
  simp [putRow, mapBlock, Sort.ahead, Array.getElem?_modify, this]
theorem heap_sw {g n : Nat} {os : Array Obj} {cur : Array Value} {e : TypeId} {fr : Nat × Nat} (d : Array α) (hb : w.heap[g]? = some (.cells cur e fr)) :
    (sortWorld enc w g 0 n d os).heap[g]? = some (.cells (putCells enc 0 d cur) e fr) := by
  have hg : g < w.heap.size := (Array.getElem?_eq_some_iff.1 hb).1
  unfold sortWorld
  rw [heap_grow_old _ _ (by simpa using hg)]
  simp [putRow, mapBlock, Sort.ahead, Array.getElem?_modify, hb, onCells]
theorem take_sw (cur : Array Value) (ts : List α) (h : ts.length ≤ cur.size) : (putCells enc 0 ts.toArray cur).toList.take ts.length = ts.map enc := by
  apply List.ext_getElem?
  intro j
  by_cases hj : j < ts.length
  · rw [List.getElem?_take_of_lt hj, Array.getElem?_toList]
    simp [putCells, hj, show j < cur.size by omega]
  · rw [List.getElem?_take_eq_none (by omega), List.getElem?_eq_none (by simp; omega)]
theorem ownsRow_sw {base g cap n m : Nat} {e : TypeId} {os : Array Obj} {cur : Array Value} {ts : List α} (hl : ts.length = m) (hbase : base ≤ g) (hb : w.heap[g]? = some (.cells cur e (0, 0)))
    (h1 : m ≤ cap) (h2 : cap ≤ maxLen) (h3 : cur.size = cap * 1) :
    (sortWorld enc w g 0 n ts.toArray os).ownsRow base e 1 (.slice (some ⟨g, 0, none⟩) m cap) m (ts.map enc) := by
  subst hl
  exact ⟨by simp, .inr ⟨g, cap, _, rfl, hbase, heap_sw _ hb, h1, h2, by simp [putCells, h3], by rw [Nat.mul_one]; exact take_sw cur ts (by omega)⟩⟩
theorem holds_sw {g : Nat} {cur : Array Value} {e : TypeId} {ss : List α} (hb : w.heap[g]? = some (.cells cur e (0, 0))) (ht : cur.toList.take ss.length = ss.map enc) : Holds enc w g 0 ss.toArray := by
  intro j hj
  have hj' : j < ss.length := by simpa using hj
  refine ⟨?_, by simp [World.frozen?, hb]⟩
  have h1 : (cur.toList.take ss.length)[j]? = (ss.map enc)[j]? := by rw [ht]
  rw [List.getElem?_take_of_lt hj'] at h1
  simp only [World.cell?, hb, Nat.zero_add]
  simp only [Option.isSome_none, Bool.false_eq_true, if_false]
  rw [← Array.getElem?_toList, h1]
  simp [hj']
end
/-- One for each. -/
theorem pick {α : Type} {P : Nat → α → Prop} : ∀ (n : Nat), (∀ i, i < n → ∃ x, P i x) → ∃ l : List α, l.length = n ∧ ∀ (i : Nat) (x : α), l[i]? = some x → P i x
  | 0, _ => ⟨[], rfl, fun i x h => by simp at h⟩
  | n + 1, h => by
    obtain ⟨l, hl, hp⟩ := pick n (fun i hi => h i (by omega))
    obtain ⟨x, hx⟩ := h n (by omega)
    refine ⟨l ++ [x], by simp [hl], fun i y hy => ?_⟩
    by_cases hi : i < n
    · rw [List.getElem?_append_left (by omega)] at hy
      exact hp i y hy
    · have hi2 := (List.getElem?_eq_some_iff.1 hy).1
      rw [List.length_append, hl] at hi2
      simp only [List.length_cons, List.length_nil] at hi2
      obtain rfl : i = n := by omega
      rw [List.getElem?_append_right (by omega), hl] at hy
      simp only [Nat.sub_self, List.getElem?_cons_zero, Option.some.injEq] at hy
      rw [← hy]; exact hx

/-! ### rows of lists, sorted -/
/-- A list of the call's own, as it lay in w. -/
abbrev RowH (w : World) (B : Nat) := { x : (Option Addr × Nat × Nat) × List Int // OwnInts w B (.slice x.1.1 x.1.2.1 x.1.2.2) x.1.2.1 x.2 ∧ x.1.2.1 ≤ 17592186043904 }
instance {w : World} {B : Nat} : Inhabited (RowH w B) := ⟨⟨((none, 0, 0), []), OwnSl.nil, Nat.zero_le _⟩⟩
end Go.Proofs.YtcopnfdknclhnaaGreat
namespace Go.Proofs.YtcopnfdknclhnaaGreat
open Go.RowKit Go.Maps

abbrev NumH := { x : Int // okI x }
instance : Inhabited NumH := ⟨⟨1, by decide, by decide⟩⟩
def encN (x : NumH) : Value := .int .i64 x.1
def cmpN (x y : NumH) : Int := x.1 - y.1
theorem swoN : Sort.SWO (ltOf cmpN) where
  irrefl := fun x => decide_eq_false (by unfold cmpN; omega)
  trans := fun x y z h g => decide_eq_true (by have := of_decide_eq_true h; have := of_decide_eq_true g; unfold cmpN at *; omega)
  ntrans := fun x y z h g => decide_eq_false (by have := of_decide_eq_false h; have := of_decide_eq_false g; unfold cmpN at *; omega)
set_option maxRecDepth 100000 in
theorem number_calls (w : World) (x y : Int) (hx : okI x) (hy : okI y) : Calls Tryz.prog 76 #[.int .i64 x, .int .i64 y] w fun e w' => e = .returned (.int .i64 (x - y)) ∧ w = w' := by
  have hw : IntKind.i64.wrap (x - y) = x - y := by unfold okI at *; simp [IntKind.wrap, IntKind.bits, IntKind.signed]; omega
  go_enter Tryz.func76, Tryz.ntmps76
  go_wp2
  go_ret
  exact ⟨ret_int (by first | rfl | exact hw), rfl⟩
set_option maxHeartbeats 1000000 in
theorem sortNum_calls {w : World} {B n : Nat} {v : Value} {xs : List Int} (h : OwnInts w B v n xs) (hok : ∀ x ∈ xs, okI x) (hn : n ≤ 17592186044416) :
    Calls Tryz.prog 83 #[v, .func (.func 76) #[] #[]] w fun e w' => e = .returned (.tuple #[]) ∧ ∃ ys, ys.Perm xs ∧ ys.Pairwise (fun a b => ¬ b < a) ∧ OwnInts w' B v n ys ∧ w.grownBy w' v.ownBlock := by
  have hl := h.len
  have o1 := h.row
  rcases o1.2 with ⟨rfl, h0⟩ | ⟨g, cap, cur, rfl, hg, hb, h1, h2, h3, h4⟩
  · obtain rfl : n = 0 := by simpa using h0
    have hx : xs = [] := List.eq_nil_of_length_eq_zero hl
    subst hx
    refine (slices_SortFunc_none_f83 (α := Nat) none 0 _ w).mono ?_
    rintro e w' ⟨rfl, rfl⟩
    exact ⟨rfl, [], .refl _, .nil, h, World.grownBy.refl _ _⟩
  · obtain ⟨ds, dl, dp⟩ := pick (α := NumH) (P := fun i x => xs[i]? = some x.1) n (fun i hi => by
      have hx : xs[i]? = some (xs[i]'(by omega)) := List.getElem?_eq_getElem _
      exact ⟨⟨_, hok _ (List.getElem_mem (by omega))⟩, hx⟩)
    have exs : xs = ds.map (·.1) := by
      apply List.ext_getElem?
      intro i
      rw [List.getElem?_map]
      cases hd : ds[i]? with
      | none =>
        have : ds.length ≤ i := by simpa using hd
        rw [List.getElem?_eq_none (by omega)]
        rfl
      | some x => rw [dp i x hd]; rfl
    subst dl
    have ecells : xs.map (Value.int .i64) = ds.map encN := by rw [exs, List.map_map]; rfl
    have hcmp : CmpLays1 Tryz.prog 76 #[] encN cmpN g 0 ds.toArray.size w := by
      intro m os dk hdk x y
      refine (number_calls _ x.1 y.1 x.2 y.2).mono ?_
      rintro e w' ⟨rfl, rfl⟩
      exact ⟨rfl, 0, #[], by simp [World.drewN]⟩
    refine (slices_SortFunc_f83 (α := NumH) encN (fun x => rfl) cmpN swoN 76 #[] g 0 cap ds.toArray w (fun args w => by kernel_rfl) hcmp (holds_sw hb (by rw [← ecells]; simpa using h4)) (Array.getElem?_eq_some_iff.1 hb).1 (by simp; omega)).mono ?_
    rintro e w' ⟨rfl, d', q, os, hp, hs, rfl⟩
    obtain ⟨hsz, _, hperm⟩ := hp
    have hsz' : d'.size = ds.length := by simpa using hsz
    have hp2 : d'.toList.Perm ds := by
      have e1 : (d'.extract 0 ds.toArray.size).toList = d'.toList := by simp [← hsz']
      have e2 : (ds.toArray.extract 0 ds.toArray.size).toList = ds := by simp
      rw [e1, e2] at hperm
      exact hperm
    refine ⟨rfl, d'.toList.map (·.1), ?_, ?_, ?_, grownBy_sw _ _ _ _⟩
    · rw [exs]; exact hp2.map _
    · rw [List.pairwise_map, List.pairwise_iff_getElem]
      intro i j hi hj hij
      have := hs i j (Nat.zero_le _) hij (by simp at hj; simp; omega)
      have hi' : i < d'.size := by simpa using hi
      have hj' : j < d'.size := by simpa using hj
      rw [getElem!_pos d' i hi', getElem!_pos d' j hj'] at this
      unfold ltOf cmpN at this
      have := of_decide_eq_false this
      simp only [Array.getElem_toList]
      omega
    · have row := ownsRow_sw (enc := encN) (w := w) (n := q) (os := os) (ts := d'.toList) (m := ds.length) (base := B) (by simp [hsz']) hg hb h1 h2 h3
      rw [show d'.toList.toArray = d' from by simp] at row
      refine OwnInts.of_row ?_
      rw [List.map_map]
      exact row

set_option maxRecDepth 100000 in
set_option maxHeartbeats 2000000 in
theorem sortedI_calls {w : World} {b : Nat} {S : List Int} (h : SetI w b S) (hl : S.length ≤ 10000) :
    Calls Tryz.prog 75 #[.map (some b), .func (.func 76) #[] #[]] w fun e w' => ∃ v n xs, e = .returned v ∧ OwnInts w' w.heap.size v n xs ∧ n ≤ 10000 ∧ (xs.Pairwise (· < ·) ∧ ∀ x, x ∈ xs ↔ x ∈ S) ∧ Below w.heap.size w w' := by
  obtain ⟨h0, D, m, h1, hm, hs, h2⟩ := h
  have hbl := h1.lt
  have H0 := hide2 h0
  have H2 := hide2 h2
  have SZ := hide2 hs
  clear h0 h2 hs
  go_enter Tryz.func75, Tryz.ntmps75
  go_wp2_with (at_range; refine wpList_range_own _ rfl _ 82 rfl 3 _ keyI.law Tryz.underlying82 unitElem b m D rfl h1 ?_; intro w0 hrg0 hg0 hs0)
  go_frame
  go_loopw [5] (fun u5 wr => ∃ (left : Lit → Bool) (cnt n : Nat) (ss : List Int), wr.ranges Tryz.prog 3 unitElem b w.heap.size m D left cnt ∧ Hid (ss.length + cnt ≤ Maps.size D) ∧ Hid (ColD 3 kkI D left S ss) ∧ Hid (OwnInts wr w.heap.size u5 n ss) ∧ Hid (Below w.heap.size w wr)) (fun _ wr => wr.rangeLeft b w.heap.size)
  case atStart => exact ⟨_, _, 0, [], hrg0, by show 0 + _ ≤ _; omega, ColD.start D S, OwnSl.nil, (Below.refl _ _).grown hg0 (Nat.le_refl _) (fun j hj => by cases hj)⟩
  case round =>
    obtain ⟨left, cnt, n, ss, hrg, hcs, hC, hO, hB⟩ := hrel
    go_wp2_with (at_next; refine wpList_next_ranges _ rfl _ rfl 3 keyI.law unitElem (fun v => v) (fun v => v) (fun key kl hk => ⟨key, rfl⟩) (fun v y hv => ⟨v, rfl⟩) b w.heap.size m D left cnt rfl hrg ?_ ?_)
    · intro hc0 hl0
      obtain ⟨nd, mem⟩ := hC.out.fin keyI H0.out H2.out hl0
      have ND := hide2 nd
      have ME := hide2 mem
      have hn : n ≤ 10000 := by have := hcs.out; have := SZ.out; rw [← hO.out.len]; omega
      clear nd mem hl0
      go_wp2_with fail
      refine (sortNum_calls hO.out (fun x hx => H0.out x ((ME.out x).1 hx)) (by omega)).mono ?_
      rintro e w' ⟨rfl, ys, hp, hso, own, hg⟩
      have OY := hide2 own
      have BY := hide2 (hB.out.grown hg hB.out.size (fun k e => (hO.out.lt k e).1))
      have FY := hide2 (show ys.Pairwise (· < ·) ∧ ∀ x, x ∈ ys ↔ x ∈ S from ⟨(List.Pairwise.and hso (hp.nodup_iff.2 ND.out)).imp (fun {a b} ⟨e1, e2⟩ => by omega), fun x => (hp.mem_iff).trans (ME.out x)⟩)
      clear own hg hp hso
      go_wp2
      go_ret
      exact ⟨_, n, ys, rfl, OY.out, hn, FY.out, BY.out⟩
    · intro x c kl yd yp w2 cnt2 hkey hlk hv hat hrg2 hlt hg2 hs2 hen
      obtain ⟨z, hz, ekl⟩ := (H2.out x kl hkey).1 (has_true_of_atKey hat)
      subst ekl
      have hok := H0.out z hz
      obtain rfl : x = .int .i64 z := keyI.law.inj hkey (keyI.key z hok)
      obtain ⟨rfl, _⟩ := unitElem_inv hv
      have hCn := hide2 (hC.out.step keyI hz hok hlk)
      have hO2 := hide2 (OwnSl.kept hO.out hg2 (by
        have := row_ne_iter (Exists.choose_spec hO.out).1 hrg
        exact .inr (fun e => this e.symm)) (fun _ _ h => h))
      have hB2 := hide2 (hB.out.grown hg2 hB.out.size (fun k e => by cases e; exact Nat.le_refl _))
      have RG := hide2 hrg2
      have LTC := hide2 hlt
      have HLE := hide2 hrg.left_eq
      have hn : n ≤ 10000 := by have := hcs.out; have := SZ.out; rw [← hO.out.len]; omega
      clear hs2 hkey hlk hv hat hrg2 hg2 hrg hlt hz
      go_wp2_with (at_builtin; refine wpList_appInt rfl _ _ rfl rfl rfl rfl hO2.out hB2.out hB2.out.size (by omega) ?_; intro v8 w8 own8 hg8 hb8; have O8 := hide2 own8; have E8 := hide2 hb8; have R8 := hide2 (RG.out.kept hg8 (row_ne_low (Exists.choose_spec hO2.out).1 hbl) (row_ne_iter (Exists.choose_spec hO2.out).1 RG.out)); clear own8 hg8 hb8)
      go_roundw
      case rel => exact ⟨_, cnt2, n + 1, ss ++ [z], R8.out, by have h1 := hcs.out; have h2 := LTC.out; show (ss ++ [z]).length + cnt2 ≤ _; simp; omega, hCn, O8, E8⟩
      case measure => rw [R8.out.left_eq, HLE.out]; exact LTC.out
end Go.Proofs.YtcopnfdknclhnaaGreat
