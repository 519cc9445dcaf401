/- slices.IndexFunc and slices.DeleteFunc on integers, with a test that may lay blocks. Conditions: the slice is the call's own. -/
import Derived.Test.YtnfppolgaeibeaaCaseC
import Derived.Test.YtnfppolgaeibeaaNetD
import Derived.Lib.SliceRun
import Derived.Lib.LazyBuf
namespace Go.Proofs.Ytnfppolgaeibeaa
open Go.RowKit

/-- Function F, with what it captured, is a test of the integers of this list, in each later world. -/
structure IsPredB (F : FuncId) (cap : Array Value) (w : World) (xs : List Int) (p : Int → Bool) : Prop where
  enters : ∀ args w, (callFunc F args).run Try.prog w = .ok (.enter F args) w
  calls : ∀ (wr : World) (x : Int), Below w.heap.size w wr → x ∈ xs → Calls Try.prog F (#[.int .i64 x] ++ cap) wr fun e w' => e = .returned (.bool (p x)) ∧ Below wr.heap.size wr w'
theorem IsPredB.later {F : FuncId} {cap : Array Value} {w w' : World} {xs : List Int} {p : Int → Bool} (h : IsPredB F cap w xs p) (hb : Below w.heap.size w w') : IsPredB F cap w' xs p where
  enters := h.enters
  calls := fun wr a hb2 => h.calls wr a (hb.trans (hb2.mono hb.size))

set_option maxRecDepth 100000 in
theorem indexB_calls {w : World} {A : Option Addr} {n c : Nat} {xs : List Int} {F : FuncId} {cap : Array Value} {p : Int → Bool} (h : Ints w A n c xs) (hp : IsPredB F cap w xs p) :
    Calls Try.prog 121 #[.slice A n c, .func (.func F) #[] cap] w fun e w' => e = .returned (.int .i64 (idxFirst p xs)) ∧ Below w.heap.size w w' := by
  have hn := h.small
  have henter := hp.enters
  have H := hide2 h
  have HP := hide2 hp
  have HL := hide2 h.len
  clear h hp
  go_enter Try.func121, Try.ntmps121
  go_wp2
  go_loopw [8] (fun i wr => ∃ k : Nat, k ≤ n ∧ i = .int .i64 k ∧ Hid (∀ j, j < k → ∀ y, xs[j]? = some y → p y = false) ∧ Hid (Below w.heap.size w wr)) (fun i _ => n - (intOf i).toNat)
  case atStart => exact ⟨0, Nat.zero_le _, rfl, fun j hj => absurd hj (by omega), Below.refl _ _⟩
  case round =>
    obtain ⟨k, hk, rfl, hlow, D⟩ := hrel
    by_cases hlt : k < n
    · have hki : (k : Int) < (n : Int) := by omega
      obtain ⟨b, off, x, rfl, hb, hx, hc⟩ := (H.out.keep D.out).get hlt
      have CL := hide2 (HP.out.calls wr x D.out (List.mem_of_getElem? hx.out))
      obtain ⟨v, hv⟩ : ∃ v, p x = v := ⟨_, rfl⟩
      have HV := hide2 hv
      rw [hv] at CL
      clear hv
      cases v
      · go_wp2_with (refine CL.out.mono ?_; rintro e w' ⟨rfl, hb'⟩; have HB := hide2 hb'; clear hb')
        go_roundw
        case rel =>
          refine ⟨k + 1, by omega, by go_num, fun j hj y hy => ?_, D.out.trans (HB.out.mono D.out.size)⟩
          by_cases hjk : j = k
          · subst hjk
            have := hx.out
            rw [hy] at this
            injection this with this
            rw [this]
            exact HV.out
          · exact hlow.out j (by omega) y hy
        case measure => simp [intOf]; omega
      · go_wp2_with (refine CL.out.mono ?_; rintro e w' ⟨rfl, hb'⟩; have HB := hide2 hb'; clear hb')
        go_ret
        exact ⟨ret_int (idxFirst_some hlow.out hx.out HV.out).symm, D.out.trans (HB.out.mono D.out.size)⟩
    · go_wp2
      go_ret
      exact ⟨ret_int (idxFirst_none (fun j hj y hy => hlow.out j (by have := HL.out; omega) y hy)).symm, D.out⟩

set_option maxRecDepth 100000 in
theorem containsB_calls {w : World} {A : Option Addr} {n c : Nat} {xs : List Int} {F : FuncId} {cap : Array Value} {p : Int → Bool} (h : Ints w A n c xs) (hp : IsPredB F cap w xs p) :
    Calls Try.prog 92 #[.slice A n c, .func (.func F) #[] cap] w fun e w' => e = .returned (.bool (xs.any p)) ∧ Below w.heap.size w w' := by
  have H := hide2 h
  have HP := hide2 hp
  clear h hp
  go_enter Try.func92, Try.ntmps92
  go_wp2_with (refine (indexB_calls H.out HP.out).mono ?_; rintro e w' ⟨rfl, hb⟩)
  go_ret
  exact ⟨ret_bool (idxFirst_any _ _), hb⟩

/-- The state of DeleteFunc: so many kept, so many seen. -/
structure DelJ {α : Type} (p : α → Bool) (ars L : List α) (i j : Nat) : Prop where
  len : L.length = ars.length
  le : i ≤ j
  kept : L.take i = (ars.take j).filter fun a => !p a
  rest : ∀ q, j ≤ q → L[q]? = ars[q]?
section
variable {α : Type} {p : α → Bool} {ars L : List α} {i j : Nat} {a : α}
theorem DelJ.skip (h : DelJ p ars L i j) (ha : ars[j]? = some a) (hp : p a = true) : DelJ p ars L i (j + 1) where
  len := h.len
  le := by have := h.le; omega
  kept := by rw [take_snoc ha, List.filter_append, h.kept]; simp [hp]
  rest := fun q hq => h.rest q (by omega)
theorem DelJ.take (h : DelJ p ars L i j) (ha : ars[j]? = some a) (hp : p a = false) : DelJ p ars (L.set i a) (i + 1) (j + 1) where
  len := by rw [List.length_set]; exact h.len
  le := by have := h.le; omega
  kept := by
    have hj := (List.getElem?_eq_some_iff.1 ha).1
    have hl := h.len
    have hle := h.le
    rw [take_snoc ha, List.filter_append, ← h.kept, take_snoc (x := a) (List.getElem?_set_self (by omega)), List.take_set_of_le (Nat.le_refl _)]
    simp [hp]
  rest := fun q hq => by
    have := h.le
    rw [List.getElem?_set_ne (by omega)]
    exact h.rest q (by omega)
theorem first_orJ (p : α → Bool) : ∀ ars : List α, (∀ (j : Nat) (y : α), ars[j]? = some y → p y = false) ∨ ∃ (k : Nat) (x : α), ars[k]? = some x ∧ p x = true ∧ ∀ (j : Nat), j < k → ∀ y, ars[j]? = some y → p y = false
  | [] => .inl fun j y h => by simp at h
  | a :: l => by
    cases h : p a
    · rcases first_orJ p l with h1 | ⟨k, x, h1, h2, h3⟩
      · refine .inl fun j y hy => ?_
        match j, hy with
        | 0, hy => simp only [List.getElem?_cons_zero, Option.some.injEq] at hy; rw [← hy]; exact h
        | j + 1, hy => exact h1 j y (by simpa using hy)
      · refine .inr ⟨k + 1, x, by simpa using h1, h2, fun j hj y hy => ?_⟩
        match j, hj, hy with
        | 0, _, hy => simp only [List.getElem?_cons_zero, Option.some.injEq] at hy; rw [← hy]; exact h
        | j + 1, hj, hy => exact h3 j (by omega) y (by simpa using hy)
    · exact .inr ⟨0, a, rfl, h, fun j hj => absurd hj (by omega)⟩
theorem filter_noneJ {l : List α} (h : ∀ (j : Nat) (y : α), l[j]? = some y → p y = false) : l.filter (fun a => !p a) = l := by
  rw [List.filter_eq_self]
  intro a ha
  obtain ⟨j, hj, rfl⟩ := List.getElem_of_mem ha
  rw [h j _ (List.getElem?_eq_getElem hj)]
  rfl
theorem DelJ.start {k : Nat} {x : α} (hx : ars[k]? = some x) (hp : p x = true) (lo : ∀ (j : Nat), j < k → ∀ y, ars[j]? = some y → p y = false) : DelJ p ars ars k (k + 1) where
  len := rfl
  le := by omega
  kept := by
    rw [take_snoc hx, List.filter_append, filter_noneJ (fun j y hy => ?_)]
    · simp [hp]
    · rw [List.getElem?_take] at hy
      split at hy
      · exact lo j (by assumption) y hy
      · cases hy
  rest := fun q _ => rfl
end
theorem Ints.cut {w w' : World} {g n cap k : Nat} {L : List Int} (h : Ints w (some ⟨g, 0, none⟩) n cap L) (hk : k ≤ n) (hs : w.heap.size ≤ w'.heap.size) (hc : ∀ j, j < k → w'.cell? ⟨g, j, none⟩ = w.cell? ⟨g, j, none⟩) : Ints w' (some ⟨g, 0, none⟩) k cap (L.take k) := by
  refine ⟨by rw [List.length_take, h.len]; omega, by have := h.le; omega, h.cap, by have := h.small; omega, fun e => (by cases e), fun hk0 => ?_⟩
  obtain ⟨b, off, e, hb, hcells⟩ := h.cells (by omega)
  injection e with e
  injection e with e1 e2
  subst e1 e2
  refine ⟨g, 0, rfl, Nat.lt_of_lt_of_le hb hs, fun i x hx => ?_⟩
  rw [List.getElem?_take] at hx
  split at hx
  · obtain ⟨vs, a1, a2⟩ := hcells i x hx
    refine ⟨vs, fun j hj => ?_, a2⟩
    rw [Nat.zero_add, hc _ (by omega), ← a1 j hj, Nat.zero_add]
  · cases hx
/-- What DeleteFunc answers on a slice of the call's own. -/
def AnsDelI (w0 : World) (l : List Int) (e : Ending) (w' : World) : Prop := ∃ A k c', e = .returned (.slice A k c') ∧ Ints w' A k c' l ∧ Below w0.heap.size w0 w'
/-- The same, and that it is the call's own. -/
def AnsDelO (w0 : World) (l : List Int) (e : Ending) (w' : World) : Prop := ∃ A k c', e = .returned (.slice A k c') ∧ OwnInts w' w0.heap.size (.slice A k c') k l ∧ Below w0.heap.size w0 w'
theorem own_setCells {B e g n cap : Nat} : ∀ (vs : List Value) (o : Nat) (w : World) (cells : List Value), w.ownsRow B e 1 (.slice (some ⟨g, 0, none⟩) n cap) n cells →
    ∃ cells', (w.setCells g o vs).ownsRow B e 1 (.slice (some ⟨g, 0, none⟩) n cap) n cells' ∧ cells'.take o = cells.take o
  | [], o, w, cells, h => ⟨cells, h, rfl⟩
  | v :: r, o, w, cells, h => by
    obtain ⟨c2, h1, h2⟩ := own_setCells r (o + 1) (w.setCell ⟨g, o, none⟩ v) _ (h.stored o v).1
    refine ⟨c2, h1, ?_⟩
    have e1 : c2.take o = (c2.take (o + 1)).take o := by rw [List.take_take]; congr 1; omega
    rw [e1, h2, List.take_take, Nat.min_eq_left (by omega), List.take_set_of_le (Nat.le_refl _)]
theorem own_pre {w : World} {B e n k g cap : Nat} {cells : List Value} (h : w.ownsRow B e 1 (.slice (some ⟨g, 0, none⟩) n cap) n cells) (hk : k ≤ n) : w.ownsRow B e 1 (.slice (some ⟨g, 0, none⟩) k cap) k (cells.take k) := by
  obtain ⟨h0, h1⟩ := h
  refine ⟨by rw [List.length_take]; omega, ?_⟩
  rcases h1 with ⟨hv, _⟩ | ⟨g', cap', cur, hv, hg, hb, a1, a2, a3, a4⟩
  · cases hv
  · injection hv with e1 e2 e3
    subst e3
    injection e1 with e1
    injection e1 with e1
    subst e1
    refine .inr ⟨g, cap, cur, rfl, hg, hb, by omega, a2, a3, ?_⟩
    rw [← a4, List.take_take]
    congr 1
    omega
theorem OwnInts.anyCell {w : World} {B g n cap : Nat} {xs : List Int} (h : OwnInts w B (.slice (some ⟨g, 0, none⟩) n cap) n xs) {j : Nat} (hj : j < n) : (w.cell? ⟨g, j, none⟩).isSome = true := by
  rw [h.at (List.getElem?_eq_getElem (by rw [h.len]; exact hj))]; rfl

set_option maxRecDepth 100000 in
set_option maxHeartbeats 4000000 in
theorem deleteB_calls {w0 w : World} {g n cap : Nat} {xs : List Int} {F : FuncId} {cv : Array Value} {p : Int → Bool} (own : OwnInts w w0.heap.size (.slice (some ⟨g, 0, none⟩) n cap) n xs) (hn : n ≤ 17592186044416) (hb : Below w0.heap.size w0 w) (hp : IsPredB F cv w0 xs p) :
    Calls Try.prog 97 #[.slice (some ⟨g, 0, none⟩) n cap, .func (.func F) #[] cv] w (AnsDelO w0 (xs.filter fun a => !p a)) := by
  have henter := hp.enters
  have HP := hide2 hp
  have HB := hide2 hb
  have OW := hide2 own
  have hl := hide2 (show xs.length = n from OwnSl.len own)
  have hg := hide2 (show w0.heap.size ≤ g from (OwnSl.lt own g rfl).1)
  clear hb own hp
  rcases first_orJ p xs with h1 | ⟨k, x, hx, hpx, lo⟩
  · have FN := hide2 (filter_noneJ h1)
    have IX := hide2 (show idxFirst p xs = -1 from idxFirst_none (fun j hj y hy => h1 j y hy))
    clear h1
    go_enter Try.func97, Try.ntmps97
    go_wp2_with (refine (indexB_calls (OwnInts.ints OW.out (by omega)) (HP.out.later HB.out)).mono ?_; rintro e w1 ⟨rfl, b1⟩; rw [IX.out]; have B1 := hide2 b1; clear b1)
    go_ret
    rw [FN.out]
    exact ⟨_, n, cap, rfl, OwnSl.keep IntR.kept OW.out B1.out, HB.out.trans (B1.out.mono HB.out.size)⟩
  · have IX := hide2 (show idxFirst p xs = (k : Int) from idxFirst_some lo hx hpx)
    have DI := hide2 (DelJ.start hx hpx lo)
    have hkn : k < n := by have := (List.getElem?_eq_some_iff.1 hx).1; have := hl.out; omega
    have hk0 : ((k : Int) == -1) = false := by simp
    clear lo hx hpx
    go_enter Try.func97, Try.ntmps97
    go_wp2_with (refine (indexB_calls (OwnInts.ints OW.out (by omega)) (HP.out.later HB.out)).mono ?_; rintro e w1 ⟨rfl, b1⟩; rw [IX.out]; have B1 := hide2 (HB.out.trans (b1.mono HB.out.size)); have O1 := hide2 (OwnSl.keep IntR.kept OW.out b1); clear b1)
    clear OW HB hk0
    go_loopw [5, 6] (fun u v wr => ∃ i j : Nat, u = .int .i64 i ∧ v = .int .i64 j ∧ i < j ∧ j ≤ n ∧ ∃ L, Hid (OwnInts wr w0.heap.size (.slice (some ⟨g, 0, none⟩) n cap) n L) ∧ Hid (DelJ p xs L i j) ∧ Hid (Below w0.heap.size w0 wr)) (fun _ v _ => n - (intOf v).toNat)
    case atStart => exact ⟨k, k + 1, rfl, by go_num, by omega, by omega, xs, O1, DI, B1⟩
    case round =>
      obtain ⟨i, j, rfl, rfl, hij, hj, L, OL, DL, BR⟩ := hrel
      by_cases hlt : j < n
      · have hji : (j : Int) < (n : Int) := by omega
        have hii : (i : Int) < (n : Int) := by omega
        have hin : i < n := by omega
        have hjl : j < L.length := by have := OL.out.len; omega
        obtain ⟨a, ha⟩ : ∃ a, L[j]? = some a := ⟨_, List.getElem?_eq_getElem hjl⟩
        have q0 := OL.out.at ha
        have HA := hide2 (show xs[j]? = some a by rw [← DL.out.rest j (Nat.le_refl _)]; exact ha)
        have CL := hide2 (HP.out.calls wr a BR.out (List.mem_of_getElem? HA.out))
        obtain ⟨v, hv⟩ : ∃ v, p a = v := ⟨_, rfl⟩
        have HV := hide2 hv
        rw [hv] at CL
        clear hv ha hjl
        cases v
        · go_wp2_with (refine CL.out.mono ?_; rintro e u1 ⟨rfl, b1⟩; have B2 := hide2 (BR.out.trans (b1.mono BR.out.size)); have O2 := hide2 (OwnSl.keep IntR.kept OL.out b1); obtain ⟨v0, y0⟩ := Option.isSome_iff_exists.1 (OwnInts.anyCell O2.out (j := i) (by omega)); have z0 := OwnInts.frozen O2.out i; clear b1)
          go_roundw
          case rel => exact ⟨i + 1, j + 1, by go_num, by go_num, by omega, by omega, L.set i a, hide2 (OwnInts.put O2.out i a), DL.out.take HA.out HV.out, hide2 (B2.out.setCell hg.out _)⟩
          case measure => simp [intOf]; omega
        · go_wp2_with (refine CL.out.mono ?_; rintro e u1 ⟨rfl, b1⟩; have B2 := hide2 (BR.out.trans (b1.mono BR.out.size)); have O2 := hide2 (OwnSl.keep IntR.kept OL.out b1); clear b1)
          go_roundw
          case rel => exact ⟨i, j + 1, rfl, by go_num, by omega, by omega, L, O2, DL.out.skip HA.out HV.out, B2⟩
          case measure => simp [intOf]; omega
      · obtain rfl : n = j := by omega
        have hcl := hide2 (fun ty => Lib.run_clear_slice (P := Try.prog) wr 35 3 ty (.int .i64 0) Try.underlying35 (fun w => by kernel_rfl) rfl rfl g i (n - i) (cap - i) (by omega) (fun q hq => OwnInts.anyCell OL.out (by omega)) (fun q hq => OwnInts.frozen OL.out _))
        have AR := hide2 (OwnInts.ints OL.out (by omega))
        have hcap := AR.out.le
        have e1 := hcl.out
        have hin1 : (i : Int) ≤ (n : Int) := by omega
        have hin2 : (i : Int) ≤ (cap : Int) := by omega
        have hnc : (n : Int) ≤ (cap : Int) := by omega
        have hc0 : ¬ cap = 0 := by omega
        have hci : ¬ cap = i := by omega
        have hii : i ≤ n := by omega
        have hii2 : i ≤ cap := by omega
        go_wp2
        go_ret
        have FN : L.take i = xs.filter fun a => !p a := by
          have := DL.out.kept
          rwa [List.take_of_length_le (l := xs) (by rw [hl.out]; exact Nat.le_refl _)] at this
        obtain ⟨c2, r1, r2⟩ := own_setCells (List.replicate (n - i) (.int .i64 0)) i wr _ OL.out.row
        have r3 := own_pre r1 hii
        rw [r2, ← List.map_take, FN] at r3
        exact ⟨_, i, cap, rfl, OwnInts.of_row r3, below_setCells hg.out _ _ _ BR.out⟩

set_option maxRecDepth 100000 in
theorem deleteB_own {w0 w : World} {v : Value} {n : Nat} {xs : List Int} {F : FuncId} {cv : Array Value} {p : Int → Bool} (own : OwnInts w w0.heap.size v n xs) (hn : n ≤ 17592186044416) (hb : Below w0.heap.size w0 w) (hp : IsPredB F cv w0 xs p) :
    Calls Try.prog 97 #[v, .func (.func F) #[] cv] w (AnsDelO w0 (xs.filter fun a => !p a)) := by
  obtain ⟨cells, o1, o2, o3⟩ := own
  rcases o1.2 with ⟨rfl, hc⟩ | ⟨g, cap, cur, rfl, hg⟩
  · have hn0 : n = 0 := by
      first
        | exact hc
        | (have := o1.1; simp_all)
    subst hn0
    have hx := List.eq_nil_of_length_eq_zero o3
    subst hx
    have henter := hp.enters
    have HP := hide2 hp
    have HB := hide2 hb
    clear o1 o2 o3 hb hp hc
    go_enter Try.func97, Try.ntmps97
    go_wp2_with (refine (indexB_calls (Sl.nil0 : Ints w none 0 0 []) (HP.out.later HB.out)).mono ?_; rintro e w1 ⟨rfl, b1⟩; rw [show idxFirst p [] = -1 from rfl]; have B1 := hide2 b1; clear b1)
    go_ret
    exact ⟨none, 0, 0, rfl, OwnSl.nil, HB.out.trans (B1.out.mono HB.out.size)⟩
  · exact deleteB_calls ⟨cells, o1, o2, o3⟩ hn hb hp
theorem deleteB_any {w0 w : World} {v : Value} {n : Nat} {xs : List Int} {F : FuncId} {cv : Array Value} {p : Int → Bool} (own : OwnInts w w0.heap.size v n xs) (hn : n ≤ 17592186044416) (hb : Below w0.heap.size w0 w) (hp : IsPredB F cv w0 xs p) :
    Calls Try.prog 97 #[v, .func (.func F) #[] cv] w (AnsDelI w0 (xs.filter fun a => !p a)) := by
  refine (deleteB_own own hn hb hp).mono ?_
  rintro e w' ⟨A, k, c', rfl, o, b⟩
  have hk : k ≤ n := by
    rw [← o.len, ← own.len]
    exact List.length_filter_le _ _
  obtain ⟨A2, c2, e2, i⟩ := o.sl (by omega)
  injection e2 with e3 _ e4
  subst e3 e4
  exact ⟨_, k, _, rfl, i, b⟩
end Go.Proofs.Ytnfppolgaeibeaa
