/- slices.Compare on integers; slices.SortFunc by it, on rows of lists of the call's own. Conditions: the lists are the call's own. -/
import Derived.Test.YtnfppolgaeibeaaChoA
import Derived.Test.YtnfppolgaeibeaaRowsL
import Derived.Test.YtnfppolgaeibeaaCaseC
import Derived.Test.YtnfppolgaeibeaaLayF
namespace Go.Proofs.Ytnfppolgaeibeaa
open Go.RowKit

def cmpI (x y : Int) : Int := if x < y then -1 else if y < x then 1 else 0
theorem cmpL_cons (x y : Int) (xs ys : List Int) : cmpL (x :: xs) (y :: ys) = if cmpI x y = 0 then cmpL xs ys else cmpI x y := by
  rw [cmpL, cmpI]
  by_cases h1 : x < y
  · rw [if_pos h1, if_pos h1, if_neg (by omega)]
  · rw [if_neg h1, if_neg h1]
    by_cases h2 : y < x
    · rw [if_pos h2, if_pos h2, if_neg (by omega)]
    · rw [if_neg h2, if_neg h2, if_pos rfl]
theorem drop_at {xs : List Int} {k : Nat} {x : Int} (h : xs[k]? = some x) : xs.drop k = x :: xs.drop (k + 1) := by
  obtain ⟨hk, rfl⟩ := List.getElem?_eq_some_iff.1 h
  exact List.drop_eq_getElem_cons hk
set_option maxRecDepth 100000 in
theorem isNaN_calls (w : World) (x : Int) : Calls Try.prog 153 #[.int .i64 x] w fun e w' => e = .returned (.bool false) ∧ w = w' := by
  go_enter Try.func153, Try.ntmps153
  go_wp2
  go_ret
  exact ⟨ret_bool (by first | rfl | simp), rfl⟩
set_option maxRecDepth 100000 in
theorem cmpInt_calls (w : World) (x y : Int) : Calls Try.prog 131 #[.int .i64 x, .int .i64 y] w fun e w' => e = .returned (.int .i64 (cmpI x y)) ∧ w = w' := by
  by_cases h1 : x < y
  · have F := hide2 (show cmpI x y = -1 by rw [cmpI, if_pos h1])
    go_enter Try.func131, Try.ntmps131
    go_wp2_with (first | (refine (isNaN_calls _ x).mono ?_; rintro e w' ⟨rfl, rfl⟩) | (refine (isNaN_calls _ y).mono ?_; rintro e w' ⟨rfl, rfl⟩))
    go_ret
    exact ⟨ret_int F.out.symm, rfl⟩
  · by_cases h2 : y < x
    · have F := hide2 (show cmpI x y = 1 by rw [cmpI, if_neg h1, if_pos h2])
      go_enter Try.func131, Try.ntmps131
      go_wp2_with (first | (refine (isNaN_calls _ x).mono ?_; rintro e w' ⟨rfl, rfl⟩) | (refine (isNaN_calls _ y).mono ?_; rintro e w' ⟨rfl, rfl⟩))
      go_ret
      exact ⟨ret_int F.out.symm, rfl⟩
    · have F := hide2 (show cmpI x y = 0 by rw [cmpI, if_neg h1, if_neg h2])
      go_enter Try.func131, Try.ntmps131
      go_wp2_with (first | (refine (isNaN_calls _ x).mono ?_; rintro e w' ⟨rfl, rfl⟩) | (refine (isNaN_calls _ y).mono ?_; rintro e w' ⟨rfl, rfl⟩))
      go_ret
      exact ⟨ret_int F.out.symm, rfl⟩
set_option maxRecDepth 100000 in
set_option maxHeartbeats 1000000 in
theorem compare_calls {w : World} {A B : Option Addr} {n c m d : Nat} {xs ys : List Int} (h : Ints w A n c xs) (g : Ints w B m d ys) :
    Calls Try.prog 118 #[.slice A n c, .slice B m d] w fun e w' => e = .returned (.int .i64 (cmpL xs ys)) ∧ w = w' := by
  have hn := h.small
  have hm := g.small
  have HL := hide2 h.len
  have GL := hide2 g.len
  have H := hide2 h
  have G := hide2 g
  clear h g
  go_enter Try.func118, Try.ntmps118
  go_wp2
  go_loop [11] (fun i => ∃ k : Nat, k ≤ n ∧ k ≤ m ∧ i = .int .i64 k ∧ Hid (cmpL xs ys = cmpL (xs.drop k) (ys.drop k))) (fun i => n - (intOf i).toNat)
  case atStart => exact ⟨0, Nat.zero_le _, Nat.zero_le _, rfl, rfl⟩
  case round =>
    obtain ⟨k, hk, hkm, rfl, hlow⟩ := hrel
    by_cases hlt : k < n
    · have hki : (k : Int) < (n : Int) := by omega
      obtain ⟨b, off, x, rfl, hb, hx, hc⟩ := H.out.get hlt
      by_cases hltm : k < m
      · have hkj : (k : Int) < (m : Int) := by omega
        obtain ⟨b', off', y, rfl, hb', hy, hc'⟩ := G.out.get hltm
        have ST := hide2 (show cmpL xs ys = if cmpI x y = 0 then cmpL (xs.drop (k + 1)) (ys.drop (k + 1)) else cmpI x y by rw [hlow.out, drop_at hx.out, drop_at hy.out, cmpL_cons])
        obtain ⟨z, hz⟩ : ∃ z, cmpI x y = z := ⟨_, rfl⟩
        have HZ := hide2 hz
        clear hlow hx hy hz
        by_cases hz0 : z = 0
        · subst hz0
          have N1 := hide2 (show cmpL xs ys = cmpL (xs.drop (k + 1)) (ys.drop (k + 1)) by rw [ST.out, if_pos HZ.out])
          go_wp2_with (refine (cmpInt_calls _ x y).mono ?_; rintro e w' ⟨rfl, rfl⟩; rw [HZ.out])
          go_round
          case rel => exact ⟨k + 1, by omega, by omega, by go_num, N1⟩
          case measure => simp [intOf]; omega
        · have FN := hide2 (show cmpL xs ys = z by rw [ST.out, HZ.out, if_neg hz0])
          have hzb : (z == 0) = false := by simpa using hz0
          go_wp2_with (refine (cmpInt_calls _ x y).mono ?_; rintro e w' ⟨rfl, rfl⟩; rw [HZ.out])
          go_ret
          exact ⟨ret_int FN.out.symm, rfl⟩
      · obtain rfl : k = m := by omega
        have FN := hide2 (show cmpL xs ys = 1 by rw [hlow.out, drop_at hx.out, show ys.drop k = [] from List.drop_eq_nil_of_le (by rw [GL.out]; exact Nat.le_refl _)]; rfl)
        clear hlow hx
        go_wp2
        go_ret
        exact ⟨ret_int FN.out.symm, rfl⟩
    · obtain rfl : k = n := by omega
      by_cases hnm : k < m
      · have hki : (k : Int) < (m : Int) := by omega
        obtain ⟨b', off', y, rfl, hb', hy, hc'⟩ := G.out.get hnm
        have FN := hide2 (show cmpL xs ys = -1 by rw [hlow.out, show xs.drop k = [] from List.drop_eq_nil_of_le (by rw [HL.out]; exact Nat.le_refl _), drop_at hy.out]; rfl)
        clear hlow hy
        go_wp2
        go_ret
        exact ⟨ret_int FN.out.symm, rfl⟩
      · obtain rfl : k = m := by omega
        have FN := hide2 (show cmpL xs ys = 0 by rw [hlow.out, show xs.drop k = [] from List.drop_eq_nil_of_le (by rw [HL.out]; exact Nat.le_refl _), show ys.drop k = [] from List.drop_eq_nil_of_le (by rw [GL.out]; exact Nat.le_refl _)]; rfl)
        clear hlow
        go_wp2
        go_ret
        exact ⟨ret_int FN.out.symm, rfl⟩

/-! ### a strict weak order -/
theorem cmpL_self : ∀ x : List Int, cmpL x x = 0
  | [] => rfl
  | a :: x => by rw [cmpL, if_neg (by omega), if_neg (by omega)]; exact cmpL_self x
theorem cmpL_trans : ∀ x y z : List Int, cmpL x y < 0 → cmpL y z < 0 → cmpL x z < 0
  | [], [], _, h, _ => by rw [cmpL] at h; omega
  | [], _ :: _, [], _, h => by rw [cmpL] at h; omega
  | [], _ :: _, _ :: _, _, _ => by rw [cmpL]; omega
  | _ :: _, [], _, h, _ => by rw [cmpL] at h; omega
  | _ :: _, _ :: _, [], _, h => by rw [cmpL] at h; omega
  | a :: x, b :: y, c :: z, h, g => by
    rw [cmpL] at h g ⊢
    have ih := cmpL_trans x y z
    split at h
    · split at g
      · rw [if_pos (by omega)]; omega
      · split at g
        · omega
        · rw [if_pos (by omega)]; omega
    · split at h
      · omega
      · split at g
        · rw [if_pos (by omega)]; omega
        · split at g
          · omega
          · rw [if_neg (by omega), if_neg (by omega)]; exact ih h g
theorem cmpL_ntrans : ∀ x y z : List Int, ¬ cmpL x y < 0 → ¬ cmpL y z < 0 → ¬ cmpL x z < 0
  | [], [], [], _, _ => by rw [cmpL]; omega
  | [], [], _ :: _, _, h => by rw [cmpL] at h; omega
  | [], _ :: _, _, h, _ => by rw [cmpL] at h; omega
  | _ :: _, [], [], _, _ => by rw [cmpL]; omega
  | _ :: _, [], _ :: _, _, h => by rw [cmpL] at h; omega
  | _ :: _, _ :: _, [], _, _ => by rw [cmpL]; omega
  | a :: x, b :: y, c :: z, h, g => by
    rw [cmpL] at h g ⊢
    have ih := cmpL_ntrans x y z
    split at h
    · omega
    · split at h
      · split at g
        · omega
        · split at g
          · rw [if_neg (by omega), if_pos (by omega)]; omega
          · rw [if_neg (by omega), if_pos (by omega)]; omega
      · split at g
        · omega
        · split at g
          · rw [if_neg (by omega), if_pos (by omega)]; omega
          · rw [if_neg (by omega), if_neg (by omega)]; exact ih h g

/-! ### a sorted row, whatever it holds -/
section
open Go.Sort
variable {α : Type} [Inhabited α] {enc : α → Value} {w : World}
theorem grownBy_sw (g n : Nat) (d : Array α) (os : Array Obj) : w.grownBy (sortWorld enc w g 0 n d os) (some g) := by
  refine ⟨rfl, rfl, rfl, by simp [sortWorld], fun k hk hne => ?_⟩
  unfold sortWorld
  rw [heap_grow_old _ _ (by simpa using hk)]
  have : g ≠ k := fun e => hne (by rw [e])
  simp [putRow, mapBlock, Sort.ahead, Array.getElem?_modify, this]
theorem heap_sw {g n : Nat} {os : Array Obj} {cur : Array Value} {e : TypeId} {fr : Nat × Nat} (d : Array α) (hb : w.heap[g]? = some (.cells cur e fr)) :
    (sortWorld enc w g 0 n d os).heap[g]? = some (.cells (putCells enc 0 d cur) e fr) := by
  have hg : g < w.heap.size := (Array.getElem?_eq_some_iff.1 hb).1
  unfold sortWorld
  rw [heap_grow_old _ _ (by simpa using hg)]
  simp [putRow, mapBlock, Sort.ahead, Array.getElem?_modify, hb, onCells]
theorem take_sw (cur : Array Value) (ts : List α) (h : ts.length ≤ cur.size) : (putCells enc 0 ts.toArray cur).toList.take ts.length = ts.map enc := by
  apply List.ext_getElem?
  intro j
  by_cases hj : j < ts.length
  · rw [List.getElem?_take_of_lt hj, Array.getElem?_toList]
    simp [putCells, hj, show j < cur.size by omega]
  · rw [List.getElem?_take_eq_none (by omega), List.getElem?_eq_none (by simp; omega)]
theorem ownsRow_sw {base g cap n m : Nat} {e : TypeId} {os : Array Obj} {cur : Array Value} {ts : List α} (hl : ts.length = m) (hbase : base ≤ g) (hb : w.heap[g]? = some (.cells cur e (0, 0)))
    (h1 : m ≤ cap) (h2 : cap ≤ maxLen) (h3 : cur.size = cap * 1) :
    (sortWorld enc w g 0 n ts.toArray os).ownsRow base e 1 (.slice (some ⟨g, 0, none⟩) m cap) m (ts.map enc) := by
  subst hl
  exact ⟨by simp, .inr ⟨g, cap, _, rfl, hbase, heap_sw _ hb, h1, h2, by simp [putCells, h3], by rw [Nat.mul_one]; exact take_sw cur ts (by omega)⟩⟩
theorem holds_sw {g : Nat} {cur : Array Value} {e : TypeId} {ss : List α} (hb : w.heap[g]? = some (.cells cur e (0, 0))) (ht : cur.toList.take ss.length = ss.map enc) : Holds enc w g 0 ss.toArray := by
  intro j hj
  have hj' : j < ss.length := by simpa using hj
  refine ⟨?_, by simp [World.frozen?, hb]⟩
  have h1 : (cur.toList.take ss.length)[j]? = (ss.map enc)[j]? := by rw [ht]
  rw [List.getElem?_take_of_lt hj'] at h1
  simp only [World.cell?, hb, Nat.zero_add]
  simp only [Option.isSome_none, Bool.false_eq_true, if_false]
  rw [← Array.getElem?_toList, h1]
  simp [hj']
end
/-- One for each. -/
theorem pick {α : Type} {P : Nat → α → Prop} : ∀ (n : Nat), (∀ i, i < n → ∃ x, P i x) → ∃ l : List α, l.length = n ∧ ∀ (i : Nat) (x : α), l[i]? = some x → P i x
  | 0, _ => ⟨[], rfl, fun i x h => by simp at h⟩
  | n + 1, h => by
    obtain ⟨l, hl, hp⟩ := pick n (fun i hi => h i (by omega))
    obtain ⟨x, hx⟩ := h n (by omega)
    refine ⟨l ++ [x], by simp [hl], fun i y hy => ?_⟩
    by_cases hi : i < n
    · rw [List.getElem?_append_left (by omega)] at hy
      exact hp i y hy
    · have hi2 := (List.getElem?_eq_some_iff.1 hy).1
      rw [List.length_append, hl] at hi2
      simp only [List.length_cons, List.length_nil] at hi2
      obtain rfl : i = n := by omega
      rw [List.getElem?_append_right (by omega), hl] at hy
      simp only [Nat.sub_self, List.getElem?_cons_zero, Option.some.injEq] at hy
      rw [← hy]; exact hx

/-! ### rows of lists, sorted -/
/-- A list of the call's own, as it lay in w. -/
abbrev RowH (w : World) (B : Nat) := { x : (Option Addr × Nat × Nat) × List Int // OwnInts w B (.slice x.1.1 x.1.2.1 x.1.2.2) x.1.2.1 x.2 ∧ x.1.2.1 ≤ 17592186043904 }
instance {w : World} {B : Nat} : Inhabited (RowH w B) := ⟨⟨((none, 0, 0), []), OwnSl.nil, Nat.zero_le _⟩⟩
def encR {w : World} {B : Nat} (x : RowH w B) : Value := .slice x.1.1.1 x.1.1.2.1 x.1.1.2.2
def cmpR {w : World} {B : Nat} (x y : RowH w B) : Int := cmpL x.1.2 y.1.2
theorem swoR {w : World} {B : Nat} : Sort.SWO (ltOf (cmpR (w := w) (B := B))) where
  irrefl := fun x => decide_eq_false (by rw [cmpR, cmpL_self]; omega)
  trans := fun x y z h g => decide_eq_true (cmpL_trans _ _ _ (of_decide_eq_true h) (of_decide_eq_true g))
  ntrans := fun x y z h g => decide_eq_false (cmpL_ntrans _ _ _ (of_decide_eq_false h) (of_decide_eq_false g))

end Go.Proofs.Ytnfppolgaeibeaa
