/- slices.IndexFunc and slices.DeleteFunc on integers, with a test that may lay blocks. Conditions: the slice is the call's own. -/
import Derived.Test.YtmabnigdocokmaaGreatCaseC
import Derived.Test.YtmabnigdocokmaaGreatNetD
import Derived.Lib.SliceRun
import Derived.Lib.LazyBuf
namespace Go.Proofs.YtmabnigdocokmaaGreat
open Go.RowKit

/-- Function F, with what it captured, is a test of the integers of this list, in each later world. -/
structure IsPredB (F : FuncId) (cap : Array Value) (w : World) (xs : List Int) (p : Int → Bool) : Prop where
  enters : ∀ args w, (callFunc F args).run Tryz.prog w = .ok (.enter F args) w
  calls : ∀ (wr : World) (x : Int), Below w.heap.size w wr → x ∈ xs → Calls Tryz.prog F (#[.int .i64 x] ++ cap) wr fun e w' => e = .returned (.bool (p x)) ∧ Below wr.heap.size wr w'
theorem IsPredB.later {F : FuncId} {cap : Array Value} {w w' : World} {xs : List Int} {p : Int → Bool} (h : IsPredB F cap w xs p) (hb : Below w.heap.size w w') : IsPredB F cap w' xs p where
  enters := h.enters
  calls := fun wr a hb2 => h.calls wr a (hb.trans (hb2.mono hb.size))

set_option maxRecDepth 100000 in
theorem indexB_calls {w : World} {A : Option Addr} {n c : Nat} {xs : List Int} {F : FuncId} {cap : Array Value} {p : Int → Bool} (h : Ints w A n c xs) (hp : IsPredB F cap w xs p) :
    Calls Tryz.prog 91 #[.slice A n c, .func (.func F) #[] cap] w fun e w' => e = .returned (.int .i64 (idxFirst p xs)) ∧ Below w.heap.size w w' := by
  have hn := h.small
  have henter := hp.enters
  have H := hide2 h
  have HP := hide2 hp
  have HL := hide2 h.len
  clear h hp
  go_enter Tryz.func91, Tryz.ntmps91
  go_wp2
  go_loopw [8] (fun i wr => ∃ k : Nat, k ≤ n ∧ i = .int .i64 k ∧ Hid (∀ j, j < k → ∀ y, xs[j]? = some y → p y = false) ∧ Hid (Below w.heap.size w wr)) (fun i _ => n - (intOf i).toNat)
  case atStart => exact ⟨0, Nat.zero_le _, rfl, fun j hj => absurd hj (by omega), Below.refl _ _⟩
  case round =>
    obtain ⟨k, hk, rfl, hlow, D⟩ := hrel
    by_cases hlt : k < n
    · have hki : (k : Int) < (n : Int) := by omega
      obtain ⟨b, off, x, rfl, hb, hx, hc⟩ := (H.out.keep D.out).get hlt
      have CL := hide2 (HP.out.calls wr x D.out (List.mem_of_getElem? hx.out))
      obtain ⟨v, hv⟩ : ∃ v, p x = v := ⟨_, rfl⟩
      have HV := hide2 hv
      rw [hv] at CL
      clear hv
      cases v
      · go_wp2_with (refine CL.out.mono ?_; rintro e w' ⟨rfl, hb'⟩; have HB := hide2 hb'; clear hb')
        go_roundw
        case rel =>
          refine ⟨k + 1, by omega, by go_num, fun j hj y hy => ?_, D.out.trans (HB.out.mono D.out.size)⟩
          by_cases hjk : j = k
          · subst hjk
            have := hx.out
            rw [hy] at this
            injection this with this
            rw [this]
            exact HV.out
          · exact hlow.out j (by omega) y hy
        case measure => simp [intOf]; omega
      · go_wp2_with (refine CL.out.mono ?_; rintro e w' ⟨rfl, hb'⟩; have HB := hide2 hb'; clear hb')
        go_ret
        exact ⟨ret_int (idxFirst_some hlow.out hx.out HV.out).symm, D.out.trans (HB.out.mono D.out.size)⟩
    · go_wp2
      go_ret
      exact ⟨ret_int (idxFirst_none (fun j hj y hy => hlow.out j (by have := HL.out; omega) y hy)).symm, D.out⟩

set_option maxRecDepth 100000 in
theorem containsB_calls {w : World} {A : Option Addr} {n c : Nat} {xs : List Int} {F : FuncId} {cap : Array Value} {p : Int → Bool} (h : Ints w A n c xs) (hp : IsPredB F cap w xs p) :
    Calls Tryz.prog 60 #[.slice A n c, .func (.func F) #[] cap] w fun e w' => e = .returned (.bool (xs.any p)) ∧ Below w.heap.size w w' := by
  have H := hide2 h
  have HP := hide2 hp
  clear h hp
  go_enter Tryz.func60, Tryz.ntmps60
  go_wp2_with (refine (indexB_calls H.out HP.out).mono ?_; rintro e w' ⟨rfl, hb⟩)
  go_ret
  exact ⟨ret_bool (idxFirst_any _ _), hb⟩

/-- The state of DeleteFunc: so many kept, so many seen. -/
structure DelJ {α : Type} (p : α → Bool) (ars L : List α) (i j : Nat) : Prop where
  len : L.length = ars.length
  le : i ≤ j
  kept : L.take i = (ars.take j).filter fun a => !p a
  rest : ∀ q, j ≤ q → L[q]? = ars[q]?
section
variable {α : Type} {p : α → Bool} {ars L : List α} {i j : Nat} {a : α}
theorem DelJ.skip (h : DelJ p ars L i j) (ha : ars[j]? = some a) (hp : p a = true) : DelJ p ars L i (j + 1) where
  len := h.len
  le := by have := h.le; omega
  kept := by rw [take_snoc ha, List.filter_append, h.kept]; simp [hp]
  rest := fun q hq => h.rest q (by omega)
theorem DelJ.take (h : DelJ p ars L i j) (ha : ars[j]? = some a) (hp : p a = false) : DelJ p ars (L.set i a) (i + 1) (j + 1) where
  len := by rw [List.length_set]; exact h.len
  le := by have := h.le; omega
  kept := by
    have hj := (List.getElem?_eq_some_iff.1 ha).1
    have hl := h.len
    have hle := h.le
    rw [take_snoc ha, List.filter_append, ← h.kept, take_snoc (x := a) (List.getElem?_set_self (by omega)), List.take_set_of_le (Nat.le_refl _)]
    simp [hp]
  rest := fun q hq => by
    have := h.le
    rw [List.getElem?_set_ne (by omega)]
    exact h.rest q (by omega)
theorem first_orJ (p : α → Bool) : ∀ ars : List α, (∀ (j : Nat) (y : α), ars[j]? = some y → p y = false) ∨ ∃ (k : Nat) (x : α), ars[k]? = some x ∧ p x = true ∧ ∀ (j : Nat), j < k → ∀ y, ars[j]? = some y → p y = false
  | [] => .inl fun j y h => by simp at h
  | a :: l => by
    cases h : p a
    · rcases first_orJ p l with h1 | ⟨k, x, h1, h2, h3⟩
      · refine .inl fun j y hy => ?_
        match j, hy with
        | 0, hy => simp only [List.getElem?_cons_zero, Option.some.injEq] at hy; rw [← hy]; exact h
        | j + 1, hy => exact h1 j y (by simpa using hy)
      · refine .inr ⟨k + 1, x, by simpa using h1, h2, fun j hj y hy => ?_⟩
        match j, hj, hy with
        | 0, _, hy => simp only [List.getElem?_cons_zero, Option.some.injEq] at hy; rw [← hy]; exact h
        | j + 1, hj, hy => exact h3 j (by omega) y (by simpa using hy)
    · exact .inr ⟨0, a, rfl, h, fun j hj => absurd hj (by omega)⟩
theorem filter_noneJ {l : List α} (h : ∀ (j : Nat) (y : α), l[j]? = some y → p y = false) : l.filter (fun a => !p a) = l := by
  rw [List.filter_eq_self]
  intro a ha
  obtain ⟨j, hj, rfl⟩ := List.getElem_of_mem ha
  rw [h j _ (List.getElem?_eq_getElem hj)]
  rfl
theorem DelJ.start {k : Nat} {x : α} (hx : ars[k]? = some x) (hp : p x = true) (lo : ∀ (j : Nat), j < k → ∀ y, ars[j]? = some y → p y = false) : DelJ p ars ars k (k + 1) where
  len := rfl
  le := by omega
  kept := by
    rw [take_snoc hx, List.filter_append, filter_noneJ (fun j y hy => ?_)]
    · simp [hp]
    · rw [List.getElem?_take] at hy
      split at hy
      · exact lo j (by assumption) y hy
      · cases hy
  rest := fun q _ => rfl
end
theorem Ints.cut {w w' : World} {g n cap k : Nat} {L : List Int} (h : Ints w (some ⟨g, 0, none⟩) n cap L) (hk : k ≤ n) (hs : w.heap.size ≤ w'.heap.size) (hc : ∀ j, j < k → w'.cell? ⟨g, j, none⟩ = w.cell? ⟨g, j, none⟩) : Ints w' (some ⟨g, 0, none⟩) k cap (L.take k) := by
  refine ⟨by rw [List.length_take, h.len]; omega, by have := h.le; omega, h.cap, by have := h.small; omega, fun e => (by cases e), fun hk0 => ?_⟩
  obtain ⟨b, off, e, hb, hcells⟩ := h.cells (by omega)
  injection e with e
  injection e with e1 e2
  subst e1 e2
  refine ⟨g, 0, rfl, Nat.lt_of_lt_of_le hb hs, fun i x hx => ?_⟩
  rw [List.getElem?_take] at hx
  split at hx
  · obtain ⟨vs, a1, a2⟩ := hcells i x hx
    refine ⟨vs, fun j hj => ?_, a2⟩
    rw [Nat.zero_add, hc _ (by omega), ← a1 j hj, Nat.zero_add]
  · cases hx
/-- What DeleteFunc answers on a slice of the call's own. -/
def AnsDelI (w0 : World) (l : List Int) (e : Ending) (w' : World) : Prop := ∃ A k c', e = .returned (.slice A k c') ∧ Ints w' A k c' l ∧ Below w0.heap.size w0 w'
/-- The same, and that it is the call's own. -/
def AnsDelO (w0 : World) (l : List Int) (e : Ending) (w' : World) : Prop := ∃ A k c', e = .returned (.slice A k c') ∧ OwnInts w' w0.heap.size (.slice A k c') k l ∧ Below w0.heap.size w0 w'
theorem own_setCells {B e g n cap : Nat} : ∀ (vs : List Value) (o : Nat) (w : World) (cells : List Value), w.ownsRow B e 1 (.slice (some ⟨g, 0, none⟩) n cap) n cells →
    ∃ cells', (w.setCells g o vs).ownsRow B e 1 (.slice (some ⟨g, 0, none⟩) n cap) n cells' ∧ cells'.take o = cells.take o
  | [], o, w, cells, h => ⟨cells, h, rfl⟩
  | v :: r, o, w, cells, h => by
    obtain ⟨c2, h1, h2⟩ := own_setCells r (o + 1) (w.setCell ⟨g, o, none⟩ v) _ (h.stored o v).1
    refine ⟨c2, h1, ?_⟩
    have e1 : c2.take o = (c2.take (o + 1)).take o := by rw [List.take_take]; congr 1; omega
    rw [e1, h2, List.take_take, Nat.min_eq_left (by omega), List.take_set_of_le (Nat.le_refl _)]
theorem own_pre {w : World} {B e n k g cap : Nat} {cells : List Value} (h : w.ownsRow B e 1 (.slice (some ⟨g, 0, none⟩) n cap) n cells) (hk : k ≤ n) : w.ownsRow B e 1 (.slice (some ⟨g, 0, none⟩) k cap) k (cells.take k) := by
  obtain ⟨h0, h1⟩ := h
  refine ⟨by rw [List.length_take]; omega, ?_⟩
  rcases h1 with ⟨hv, _⟩ | ⟨g', cap', cur, hv, hg, hb, a1, a2, a3, a4⟩
  · cases hv
  · injection hv with e1 e2 e3
    subst e3
    injection e1 with e1
    injection e1 with e1
    subst e1
    refine .inr ⟨g, cap, cur, rfl, hg, hb, by omega, a2, a3, ?_⟩
    rw [← a4, List.take_take]
    congr 1
    omega
theorem OwnInts.anyCell {w : World} {B g n cap : Nat} {xs : List Int} (h : OwnInts w B (.slice (some ⟨g, 0, none⟩) n cap) n xs) {j : Nat} (hj : j < n) : (w.cell? ⟨g, j, none⟩).isSome = true := by
  rw [h.at (List.getElem?_eq_getElem (by rw [h.len]; exact hj))]; rfl

end Go.Proofs.YtmabnigdocokmaaGreat
