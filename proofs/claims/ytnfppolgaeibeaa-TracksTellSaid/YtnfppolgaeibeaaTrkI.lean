/- The tests of the reference's VOf on one track, and `some` on the log. Conditions: the tracks read as lists. -/
import Derived.Test.YtnfppolgaeibeaaTrkC
namespace Go.Proofs.Ytnfppolgaeibeaa
open Go.RowKit

/-- Function F, with what it captured, is a test of lists. -/
structure IsPredT (F : FuncId) (cap : Array Value) (w : World) (p : List Int → Bool) : Prop where
  enters : ∀ args w, (callFunc F args).run Try.prog w = .ok (.enter F args) w
  calls : ∀ (wr : World) (A : Option Addr) (n c : Nat) (y : List Int), Below w.heap.size w wr → Ints wr A n c y →
    Calls Try.prog F (#[.slice A n c] ++ cap) wr fun e w' => e = .returned (.bool (p y)) ∧ Below wr.heap.size wr w'

set_option maxRecDepth 100000 in
theorem indexT_calls {w : World} {A : Option Addr} {n c : Nat} {ms : List (List Int)} {F : FuncId} {cap : Array Value} {p : List Int → Bool} (h : Lists w A n c ms) (hp : IsPredT F cap w p) :
    Calls Try.prog 119 #[.slice A n c, .func (.func F) #[] cap] w fun e w' => e = .returned (.int .i64 (idxFirst p ms)) ∧ Below w.heap.size w w' := by
  have hn := h.small
  have henter := hp.enters
  have H := hide2 h
  have HP := hide2 hp
  clear h hp
  go_enter Try.func119, Try.ntmps119
  go_wp2
  go_loopw [8] (fun i wr => ∃ k : Nat, k ≤ n ∧ i = .int .i64 k ∧ Hid (∀ j, j < k → ∀ y, ms[j]? = some y → p y = false) ∧ Hid (Below w.heap.size w wr)) (fun i _ => n - (intOf i).toNat)
  case atStart => exact ⟨0, Nat.zero_le _, rfl, fun j hj => absurd hj (by omega), Below.refl _ _⟩
  case round =>
    obtain ⟨k, hk, rfl, hlow, D⟩ := hrel
    by_cases hlt : k < n
    · have hki : (k : Int) < (n : Int) := by omega
      obtain ⟨b, off, t, vs, rfl, hb, ht, hc, A1, n1, c1, e1, i1, hn1⟩ := Sl.get (Sl.keep ListR.kept H.out D.out) hlt
      have q0 : wr.cell? ⟨b, off + k, none⟩ = some (.slice A1 n1 c1) := by have := hc 0 (by omega); rw [e1] at this; simpa using this
      have CL := hide2 (HP.out.calls wr A1 n1 c1 t D.out i1)
      have HT := hide2 ht
      obtain ⟨v, hv⟩ : ∃ v, p t = v := ⟨_, rfl⟩
      have HV := hide2 hv
      rw [hv] at CL
      clear hv hc e1 i1 ht
      cases v
      · go_wp2_with (refine CL.out.mono ?_; rintro e w' ⟨rfl, hb'⟩; have HB := hide2 hb'; clear hb')
        go_roundw
        case rel =>
          refine ⟨k + 1, by omega, by go_num, fun j hj y hy => ?_, D.out.trans (HB.out.mono D.out.size)⟩
          by_cases hjk : j = k
          · subst hjk
            have := HT.out
            rw [hy] at this
            injection this with this
            rw [this]
            exact HV.out
          · exact hlow.out j (by omega) y hy
        case measure => simp [intOf]; omega
      · go_wp2_with (refine CL.out.mono ?_; rintro e w' ⟨rfl, hb'⟩; have HB := hide2 hb'; clear hb')
        go_ret
        exact ⟨ret_int (idxFirst_some hlow.out HT.out HV.out).symm, D.out.trans (HB.out.mono D.out.size)⟩
    · go_wp2
      go_ret
      exact ⟨ret_int (idxFirst_none (fun j hj y hy => hlow.out j (by have := H.out.len; omega) y hy)).symm, D.out⟩
set_option maxRecDepth 100000 in
theorem containsT_calls {w : World} {A : Option Addr} {n c : Nat} {ms : List (List Int)} {F : FuncId} {cap : Array Value} {p : List Int → Bool} (h : Lists w A n c ms) (hp : IsPredT F cap w p) :
    Calls Try.prog 85 #[.slice A n c, .func (.func F) #[] cap] w fun e w' => e = .returned (.bool (ms.any p)) ∧ Below w.heap.size w w' := by
  have H := hide2 h
  have HP := hide2 hp
  clear h hp
  go_enter Try.func85, Try.ntmps85
  go_wp2_with (refine (indexT_calls H.out HP.out).mono ?_; rintro e w' ⟨rfl, hb'⟩; have HB := hide2 hb'; clear hb')
  go_ret
  exact ⟨ret_bool (idxFirst_any _ _), HB.out⟩
set_option maxRecDepth 100000 in
theorem some_calls {w : World} {bl n c : Nat} {A : Option Addr} {ms : List (List Int)} {F : FuncId} {cap : Array Value} {p : List Int → Bool} (x : Box w bl 54 #[.slice A n c]) (h : Lists w A n c ms) (hp : IsPredT F cap w p) :
    Calls Try.prog 84 #[.func (.func F) #[] cap, .pointer (some ⟨bl, 0, none⟩)] w fun e w' => e = .returned (.bool (ms.any p)) ∧ Below w.heap.size w w' := by
  have H := hide2 h
  have HP := hide2 hp
  have x0 := x.cell 0
  simp only [List.getElem?_toArray, List.getElem?_cons_zero] at x0
  clear h hp x
  go_enter Try.func84, Try.ntmps84
  go_wp2_with (refine (containsT_calls H.out HP.out).mono ?_; rintro e w' ⟨rfl, hb'⟩; have HB := hide2 hb'; clear hb')
  go_ret
  exact ⟨rfl, HB.out⟩

/-! ### the tests -/
def p2 (a : Int) (t : List Int) : Bool := t.any fun y => a == y
def p3 (a : Int) (t : List Int) : Bool := decide (t.head? = some a)
def p4 (a : Int) (t : List Int) : Bool := decide (t.getLast? = some a)
def p5 (a b : Int) (t : List Int) : Bool := (List.range t.length).any fun j => decide (t[j]? = some a) && decide (t[j + 1]? = some b)
theorem pred2 {w : World} {ba : Nat} {a : Int} (x : Box w ba 3 #[.int .i64 a]) : IsPredT 86 #[.pointer (some ⟨ba, 0, none⟩)] w (p2 a) where
  enters := fun args w => by kernel_rfl
  calls := fun wr A n c y hb hi => by
    have x0 := (x.keep hb).cell 0
    simp only [List.getElem?_toArray, List.getElem?_cons_zero] at x0
    have HI := hide2 hi
    show Calls Try.prog 86 #[.slice A n c, .pointer (some ⟨ba, 0, none⟩)] wr _
    clear x hi
    go_enter Try.func86, Try.ntmps86
    go_wp2_with (refine (containsInt_calls a HI.out).mono ?_; rintro e w' ⟨rfl, rfl⟩)
    go_ret
    exact ⟨rfl, Below.refl _ _⟩
set_option maxRecDepth 100000 in
theorem pred3 {w : World} {ba : Nat} {a : Int} (x : Box w ba 3 #[.int .i64 a]) : IsPredT 88 #[.pointer (some ⟨ba, 0, none⟩)] w (p3 a) where
  enters := fun args w => by kernel_rfl
  calls := fun wr A n c y hb hi => by
    have x0 := (x.keep hb).cell 0
    simp only [List.getElem?_toArray, List.getElem?_cons_zero] at x0
    have hl := hi.len
    have hsm := hi.small
    show Calls Try.prog 88 #[.slice A n c, .pointer (some ⟨ba, 0, none⟩)] wr _
    by_cases h0 : 0 < n
    · obtain ⟨b, off, z, rfl, hb2, hz, qz⟩ := Ints.get hi h0
      have h0i : (0 : Int) < (n : Int) := by omega
      have HV := hide2 (show p3 a y = (z == a) by
        have hz := hz.out
        unfold p3
        cases y with
        | nil => simp at hz
        | cons u y =>
          simp only [List.getElem?_cons_zero, Option.some.injEq] at hz
          subst hz
          by_cases e : u = a <;> simp [e])
      clear hz hi x hl
      simp only [Nat.add_zero] at qz
      go_enter Try.func88, Try.ntmps88
      go_wp2
      go_quiet (fail)
      go_wp2
      go_ret
      exact ⟨ret_bool (by rw [HV.out]), ⟨rfl, rfl, rfl, Nat.le_refl _, fun _ _ => rfl⟩⟩
    · obtain rfl : n = 0 := by omega
      have HV := hide2 (show p3 a y = false by
        have := List.eq_nil_of_length_eq_zero hl
        subst this
        simp [p3])
      clear hi x hl
      go_enter Try.func88, Try.ntmps88
      go_wp2
      go_quiet (fail)
      go_wp2
      go_ret
      exact ⟨ret_bool HV.out.symm, ⟨rfl, rfl, rfl, Nat.le_refl _, fun _ _ => rfl⟩⟩
set_option maxRecDepth 100000 in
theorem pred4 {w : World} {ba : Nat} {a : Int} (x : Box w ba 3 #[.int .i64 a]) : IsPredT 89 #[.pointer (some ⟨ba, 0, none⟩)] w (p4 a) where
  enters := fun args w => by kernel_rfl
  calls := fun wr A n c y hb hi => by
    have x0 := (x.keep hb).cell 0
    simp only [List.getElem?_toArray, List.getElem?_cons_zero] at x0
    have hl := hi.len
    have hsm := hi.small
    show Calls Try.prog 89 #[.slice A n c, .pointer (some ⟨ba, 0, none⟩)] wr _
    by_cases h0 : 0 < n
    · obtain ⟨l, hnl⟩ : ∃ l, n = l + 1 := ⟨n - 1, by omega⟩
      have hln : l < n := by omega
      have hlni : (l : Int) < (n : Int) := by omega
      have hsub : IntKind.i64.wrap ((n : Int) - 1) = (l : Int) := by simp [IntKind.wrap, IntKind.bits, IntKind.signed]; omega
      obtain ⟨b, off, z, rfl, hb2, hz, qz⟩ := Ints.get hi hln
      have h0i : (0 : Int) < (n : Int) := by omega
      have HV := hide2 (show p4 a y = (z == a) by
        have hz := hz.out
        unfold p4
        rw [List.getLast?_eq_getElem?, hl, show n - 1 = l by omega, hz]
        by_cases e : z = a <;> simp [e])
      clear hz hi x hl hnl
      go_enter Try.func89, Try.ntmps89
      go_wp2
      go_quiet (fail)
      go_wp2
      go_ret
      exact ⟨ret_bool (by rw [HV.out]), ⟨rfl, rfl, rfl, Nat.le_refl _, fun _ _ => rfl⟩⟩
    · obtain rfl : n = 0 := by omega
      have HV := hide2 (show p4 a y = false by
        have := List.eq_nil_of_length_eq_zero hl
        subst this
        simp [p4])
      clear hi x hl
      go_enter Try.func89, Try.ntmps89
      go_wp2
      go_quiet (fail)
      go_wp2
      go_ret
      exact ⟨ret_bool HV.out.symm, ⟨rfl, rfl, rfl, Nat.le_refl _, fun _ _ => rfl⟩⟩
theorem p5_true {t : List Int} {a b : Int} {j : Nat} (h1 : t[j]? = some a) (h2 : t[j + 1]? = some b) : p5 a b t = true := by
  unfold p5
  rw [List.any_eq_true]
  refine ⟨j, List.mem_range.2 (List.getElem?_eq_some_iff.1 h1).1, ?_⟩
  rw [h1, h2]
  simp
theorem p5_false {t : List Int} {a b : Int} (h : ∀ j x y, j + 1 < t.length → t[j]? = some x → t[j + 1]? = some y → ¬ (x = a ∧ y = b)) : p5 a b t = false := by
  unfold p5
  rw [List.any_eq_false]
  intro j hj
  rw [Bool.and_eq_true, decide_eq_true_eq, decide_eq_true_eq]
  rintro ⟨h1, h2⟩
  exact h j a b (List.getElem?_eq_some_iff.1 h2).1 h1 h2 ⟨rfl, rfl⟩
theorem p5_iff {t : List Int} {a b : Int} : p5 a b t = true ↔ ∃ j : Nat, t[j]? = some a ∧ t[j + 1]? = some b := by
  constructor
  · intro h
    unfold p5 at h
    rw [List.any_eq_true] at h
    obtain ⟨j, _, h⟩ := h
    rw [Bool.and_eq_true, decide_eq_true_eq, decide_eq_true_eq] at h
    exact ⟨j, h⟩
  · rintro ⟨j, h1, h2⟩
    exact p5_true h1 h2
set_option maxRecDepth 100000 in
theorem vbehind_calls {w : World} {A : Option Addr} {n c : Nat} {t : List Int} (a b : Int) (h : Ints w A n c t) :
    Calls Try.prog 91 #[.slice A n c, .int .i64 a, .int .i64 b] w fun e w' => e = .returned (.bool (p5 a b t)) ∧ w = w' := by
  have hn := h.small
  have HL := hide2 h.len
  have H := hide2 h
  clear h
  go_enter Try.func91, Try.ntmps91
  go_wp2
  go_loop [10] (fun i => ∃ k : Nat, k ≤ n ∧ i = .int .i64 k ∧ Hid (∀ j x y, j + 1 < k → t[j]? = some x → t[j + 1]? = some y → ¬ (x = a ∧ y = b))) (fun i => n - (intOf i).toNat)
  case atStart => exact ⟨0, Nat.zero_le _, rfl, fun j x y hj => absurd hj (by omega)⟩
  case round =>
    obtain ⟨k, hk, rfl, hlow⟩ := hrel
    by_cases hlt : k < n
    · have hki : (k : Int) < (n : Int) := by omega
      by_cases hk0 : k = 0
      · subst hk0
        have N1 := hide2 (show ∀ j x y, j + 1 < 0 + 1 → t[j]? = some x → t[j + 1]? = some y → ¬ (x = a ∧ y = b) from fun j x y hj => absurd hj (by omega))
        clear hlow
        go_wp2
        go_round
        case rel => exact ⟨0 + 1, by omega, by go_num, N1⟩
        case measure => simp [intOf]; omega
      · obtain ⟨i, hik⟩ : ∃ i, k = i + 1 := ⟨k - 1, by omega⟩
        have hin : i < n := by omega
        have hini : (i : Int) < (n : Int) := by omega
        have hk0i : (0 : Int) < (k : Int) := by omega
        have hsub : IntKind.i64.wrap ((k : Int) - 1) = (i : Int) := by simp [IntKind.wrap, IntKind.bits, IntKind.signed]; omega
        obtain ⟨bb, off, z, rfl, hb, hz, qz⟩ := Ints.get H.out hlt
        obtain ⟨b3, off3, u, e3, hb3, hu, qu⟩ := Ints.get H.out hin
        injection e3 with e3
        injection e3 with e3 e4
        subst e3 e4
        have HZ := hide2 (show t[i + 1]? = some z by rw [← hik]; exact hz.out)
        have HU := hide2 hu.out
        have HK := hide2 hik
        clear hz hu hik
        by_cases h1 : u = a
        · subst h1
          by_cases h2 : z = b
          · subst h2
            have FN := hide2 (p5_true HU.out HZ.out)
            go_wp2
            go_ret
            exact ⟨ret_bool FN.out.symm, rfl⟩
          · have N1 := hide2 (show ∀ j x y, j + 1 < k + 1 → t[j]? = some x → t[j + 1]? = some y → ¬ (x = u ∧ y = b) from fun j x y hj hx hy hxy => by
              by_cases e : j + 1 < k
              · exact hlow.out j x y e hx hy hxy
              · have e : j = i := by have := HK.out; omega
                subst e
                rw [HZ.out] at hy
                injection hy with hy
                exact h2 (hy.trans hxy.2))
            have h2b : (z == b) = false := by simpa using h2
            clear hlow
            go_wp2
            go_round
            case rel => exact ⟨k + 1, by omega, by go_num, N1⟩
            case measure => simp [intOf]; omega
        · have N1 := hide2 (show ∀ j x y, j + 1 < k + 1 → t[j]? = some x → t[j + 1]? = some y → ¬ (x = a ∧ y = b) from fun j x y hj hx hy hxy => by
              by_cases e : j + 1 < k
              · exact hlow.out j x y e hx hy hxy
              · have e : j = i := by have := HK.out; omega
                subst e
                rw [HU.out] at hx
                injection hx with hx
                exact h1 (hx.trans hxy.1))
          have h1b : (u == a) = false := by simpa using h1
          clear hlow
          go_wp2
          go_round
          case rel => exact ⟨k + 1, by omega, by go_num, N1⟩
          case measure => simp [intOf]; omega
    · obtain rfl : k = n := by omega
      have FN := hide2 (p5_false (fun j x y hj => hlow.out j x y (by rw [← HL.out]; exact hj)))
      clear hlow
      go_wp2
      go_ret
      exact ⟨ret_bool FN.out.symm, rfl⟩
theorem pred5 {w : World} {ba bb : Nat} {a b : Int} (x : Box w ba 3 #[.int .i64 a]) (y : Box w bb 3 #[.int .i64 b]) : IsPredT 90 #[.pointer (some ⟨ba, 0, none⟩), .pointer (some ⟨bb, 0, none⟩)] w (p5 a b) where
  enters := fun args w => by kernel_rfl
  calls := fun wr A n c t hb hi => by
    have x0 := (x.keep hb).cell 0
    have y0 := (y.keep hb).cell 0
    simp only [List.getElem?_toArray, List.getElem?_cons_zero] at x0 y0
    have HI := hide2 hi
    show Calls Try.prog 90 #[.slice A n c, .pointer (some ⟨ba, 0, none⟩), .pointer (some ⟨bb, 0, none⟩)] wr _
    clear x y hi
    go_enter Try.func90, Try.ntmps90
    go_wp2_with (refine (vbehind_calls a b HI.out).mono ?_; rintro e w' ⟨rfl, rfl⟩)
    go_ret
    exact ⟨rfl, Below.refl _ _⟩
end Go.Proofs.Ytnfppolgaeibeaa
