/- Texts melted into one: The tests of the reference's VOf on one track, and `some` on the log. Conditions: the tracks read as lists. | What the reference's VOf lists, and that it is what Of answers: the plain law. -/
import Derived.Test.YtcopnfdknclhnaaGreatMineTellsK20
namespace Go.Proofs.YtcopnfdknclhnaaGreat
open Go.RowKit

/-- Function F, with what it captured, is a test of lists. -/
structure IsPredT (F : FuncId) (cap : Array Value) (w : World) (p : List Int → Bool) : Prop where
  enters : ∀ args w, (callFunc F args).run Tryz.prog w = .ok (.enter F args) w
  calls : ∀ (wr : World) (A : Option Addr) (n c : Nat) (y : List Int), Below w.heap.size w wr → Ints wr A n c y →
    Calls Tryz.prog F (#[.slice A n c] ++ cap) wr fun e w' => e = .returned (.bool (p y)) ∧ Below wr.heap.size wr w'

set_option maxRecDepth 100000 in
theorem indexT_calls {w : World} {A : Option Addr} {n c : Nat} {ms : List (List Int)} {F : FuncId} {cap : Array Value} {p : List Int → Bool} (h : Lists w A n c ms) (hp : IsPredT F cap w p) :
    Calls Tryz.prog 48 #[.slice A n c, .func (.func F) #[] cap] w fun e w' => e = .returned (.int .i64 (idxFirst p ms)) ∧ Below w.heap.size w w' := by
  have hn := h.small
  have henter := hp.enters
  have H := hide2 h
  have HP := hide2 hp
  clear h hp
  go_enter Tryz.func48, Tryz.ntmps48
  go_wp2
  go_loopw [8] (fun i wr => ∃ k : Nat, k ≤ n ∧ i = .int .i64 k ∧ Hid (∀ j, j < k → ∀ y, ms[j]? = some y → p y = false) ∧ Hid (Below w.heap.size w wr)) (fun i _ => n - (intOf i).toNat)
  case atStart => exact ⟨0, Nat.zero_le _, rfl, fun j hj => absurd hj (by omega), Below.refl _ _⟩
  case round =>
    obtain ⟨k, hk, rfl, hlow, D⟩ := hrel
    by_cases hlt : k < n
    · have hki : (k : Int) < (n : Int) := by omega
      obtain ⟨b, off, t, vs, rfl, hb, ht, hc, A1, n1, c1, e1, i1, hn1⟩ := Sl.get (Sl.keep ListR.kept H.out D.out) hlt
      have q0 : wr.cell? ⟨b, off + k, none⟩ = some (.slice A1 n1 c1) := by have := hc 0 (by omega); rw [e1] at this; simpa using this
      have CL := hide2 (HP.out.calls wr A1 n1 c1 t D.out i1)
      have HT := hide2 ht
      obtain ⟨v, hv⟩ : ∃ v, p t = v := ⟨_, rfl⟩
      have HV := hide2 hv
      rw [hv] at CL
      clear hv hc e1 i1 ht
      cases v
      · go_wp2_with (refine CL.out.mono ?_; rintro e w' ⟨rfl, hb'⟩; have HB := hide2 hb'; clear hb')
        go_roundw
        case rel =>
          refine ⟨k + 1, by omega, by go_num, fun j hj y hy => ?_, D.out.trans (HB.out.mono D.out.size)⟩
          by_cases hjk : j = k
          · subst hjk
            have := HT.out
            rw [hy] at this
            injection this with this
            rw [this]
            exact HV.out
          · exact hlow.out j (by omega) y hy
        case measure => simp [intOf]; omega
      · go_wp2_with (refine CL.out.mono ?_; rintro e w' ⟨rfl, hb'⟩; have HB := hide2 hb'; clear hb')
        go_ret
        exact ⟨ret_int (idxFirst_some hlow.out HT.out HV.out).symm, D.out.trans (HB.out.mono D.out.size)⟩
    · go_wp2
      go_ret
      exact ⟨ret_int (idxFirst_none (fun j hj y hy => hlow.out j (by have := H.out.len; omega) y hy)).symm, D.out⟩
set_option maxRecDepth 100000 in
theorem containsT_calls {w : World} {A : Option Addr} {n c : Nat} {ms : List (List Int)} {F : FuncId} {cap : Array Value} {p : List Int → Bool} (h : Lists w A n c ms) (hp : IsPredT F cap w p) :
    Calls Tryz.prog 23 #[.slice A n c, .func (.func F) #[] cap] w fun e w' => e = .returned (.bool (ms.any p)) ∧ Below w.heap.size w w' := by
  have H := hide2 h
  have HP := hide2 hp
  clear h hp
  go_enter Tryz.func23, Tryz.ntmps23
  go_wp2_with (refine (indexT_calls H.out HP.out).mono ?_; rintro e w' ⟨rfl, hb'⟩; have HB := hide2 hb'; clear hb')
  go_ret
  exact ⟨ret_bool (idxFirst_any _ _), HB.out⟩
set_option maxRecDepth 100000 in
theorem some_calls {w : World} {bl n c : Nat} {A : Option Addr} {ms : List (List Int)} {F : FuncId} {cap : Array Value} {p : List Int → Bool} (x : Box w bl 22 #[.slice A n c]) (h : Lists w A n c ms) (hp : IsPredT F cap w p) :
    Calls Tryz.prog 62 #[.func (.func F) #[] cap, .pointer (some ⟨bl, 0, none⟩)] w fun e w' => e = .returned (.bool (ms.any p)) ∧ Below w.heap.size w w' := by
  have H := hide2 h
  have HP := hide2 hp
  have x0 := x.cell 0
  simp only [List.getElem?_toArray, List.getElem?_cons_zero] at x0
  clear h hp x
  go_enter Tryz.func62, Tryz.ntmps62
  go_wp2_with (refine (containsT_calls H.out HP.out).mono ?_; rintro e w' ⟨rfl, hb'⟩; have HB := hide2 hb'; clear hb')
  go_ret
  exact ⟨rfl, HB.out⟩

/-! ### the tests -/
def p2 (a : Int) (t : List Int) : Bool := t.any fun y => a == y
def p3 (a : Int) (t : List Int) : Bool := decide (t.head? = some a)
def p4 (a : Int) (t : List Int) : Bool := decide (t.getLast? = some a)
def p5 (a b : Int) (t : List Int) : Bool := (List.range t.length).any fun j => decide (t[j]? = some a) && decide (t[j + 1]? = some b)
theorem pred2 {w : World} {ba : Nat} {a : Int} (x : Box w ba 3 #[.int .i64 a]) : IsPredT 63 #[.pointer (some ⟨ba, 0, none⟩)] w (p2 a) where
  enters := fun args w => by kernel_rfl
  calls := fun wr A n c y hb hi => by
    have x0 := (x.keep hb).cell 0
    simp only [List.getElem?_toArray, List.getElem?_cons_zero] at x0
    have HI := hide2 hi
    show Calls Tryz.prog 63 #[.slice A n c, .pointer (some ⟨ba, 0, none⟩)] wr _
    clear x hi
    go_enter Tryz.func63, Tryz.ntmps63
    go_wp2_with (refine (containsInt_calls a HI.out).mono ?_; rintro e w' ⟨rfl, rfl⟩)
    go_ret
    exact ⟨rfl, Below.refl _ _⟩
set_option maxRecDepth 100000 in
theorem pred3 {w : World} {ba : Nat} {a : Int} (x : Box w ba 3 #[.int .i64 a]) : IsPredT 64 #[.pointer (some ⟨ba, 0, none⟩)] w (p3 a) where
  enters := fun args w => by kernel_rfl
  calls := fun wr A n c y hb hi => by
    have x0 := (x.keep hb).cell 0
    simp only [List.getElem?_toArray, List.getElem?_cons_zero] at x0
    have hl := hi.len
    have hsm := hi.small
    show Calls Tryz.prog 64 #[.slice A n c, .pointer (some ⟨ba, 0, none⟩)] wr _
    by_cases h0 : 0 < n
    · obtain ⟨b, off, z, rfl, hb2, hz, qz⟩ := Ints.get hi h0
      have h0i : (0 : Int) < (n : Int) := by omega
      have HV := hide2 (show p3 a y = (z == a) by
        have hz := hz.out
        unfold p3
        cases y with
        | nil => simp at hz
        | cons u y =>
          simp only [List.getElem?_cons_zero, Option.some.injEq] at hz
          subst hz
          by_cases e : u = a <;> simp [e])
      clear hz hi x hl
      simp only [Nat.add_zero] at qz
      go_enter Tryz.func64, Tryz.ntmps64
      go_wp2
      go_quiet (fail)
      go_wp2
      go_ret
      exact ⟨ret_bool (by rw [HV.out]), ⟨rfl, rfl, rfl, Nat.le_refl _, fun _ _ => rfl⟩⟩
    · obtain rfl : n = 0 := by omega
      have HV := hide2 (show p3 a y = false by
        have := List.eq_nil_of_length_eq_zero hl
        subst this
        simp [p3])
      clear hi x hl
      go_enter Tryz.func64, Tryz.ntmps64
      go_wp2
      go_quiet (fail)
      go_wp2
      go_ret
      exact ⟨ret_bool HV.out.symm, ⟨rfl, rfl, rfl, Nat.le_refl _, fun _ _ => rfl⟩⟩
set_option maxRecDepth 100000 in
theorem pred4 {w : World} {ba : Nat} {a : Int} (x : Box w ba 3 #[.int .i64 a]) : IsPredT 65 #[.pointer (some ⟨ba, 0, none⟩)] w (p4 a) where
  enters := fun args w => by kernel_rfl
  calls := fun wr A n c y hb hi => by
    have x0 := (x.keep hb).cell 0
    simp only [List.getElem?_toArray, List.getElem?_cons_zero] at x0
    have hl := hi.len
    have hsm := hi.small
    show Calls Tryz.prog 65 #[.slice A n c, .pointer (some ⟨ba, 0, none⟩)] wr _
    by_cases h0 : 0 < n
    · obtain ⟨l, hnl⟩ : ∃ l, n = l + 1 := ⟨n - 1, by omega⟩
      have hln : l < n := by omega
      have hlni : (l : Int) < (n : Int) := by omega
      have hsub : IntKind.i64.wrap ((n : Int) - 1) = (l : Int) := by simp [IntKind.wrap, IntKind.bits, IntKind.signed]; omega
      obtain ⟨b, off, z, rfl, hb2, hz, qz⟩ := Ints.get hi hln
      have h0i : (0 : Int) < (n : Int) := by omega
      have HV := hide2 (show p4 a y = (z == a) by
        have hz := hz.out
        unfold p4
        rw [List.getLast?_eq_getElem?, hl, show n - 1 = l by omega, hz]
        by_cases e : z = a <;> simp [e])
      clear hz hi x hl hnl
      go_enter Tryz.func65, Tryz.ntmps65
      go_wp2
      go_quiet (fail)
      go_wp2
      go_ret
      exact ⟨ret_bool (by rw [HV.out]), ⟨rfl, rfl, rfl, Nat.le_refl _, fun _ _ => rfl⟩⟩
    · obtain rfl : n = 0 := by omega
      have HV := hide2 (show p4 a y = false by
        have := List.eq_nil_of_length_eq_zero hl
        subst this
        simp [p4])
      clear hi x hl
      go_enter Tryz.func65, Tryz.ntmps65
      go_wp2
      go_quiet (fail)
      go_wp2
      go_ret
      exact ⟨ret_bool HV.out.symm, ⟨rfl, rfl, rfl, Nat.le_refl _, fun _ _ => rfl⟩⟩
theorem p5_true {t : List Int} {a b : Int} {j : Nat} (h1 : t[j]? = some a) (h2 : t[j + 1]? = some b) : p5 a b t = true := by
  unfold p5
  rw [List.any_eq_true]
  refine ⟨j, List.mem_range.2 (List.getElem?_eq_some_iff.1 h1).1, ?_⟩
  rw [h1, h2]
  simp
theorem p5_false {t : List Int} {a b : Int} (h : ∀ j x y, j + 1 < t.length → t[j]? = some x → t[j + 1]? = some y → ¬ (x = a ∧ y = b)) : p5 a b t = false := by
  unfold p5
  rw [List.any_eq_false]
  intro j hj
  rw [Bool.and_eq_true, decide_eq_true_eq, decide_eq_true_eq]
  rintro ⟨h1, h2⟩
  exact h j a b (List.getElem?_eq_some_iff.1 h2).1 h1 h2 ⟨rfl, rfl⟩
theorem p5_iff {t : List Int} {a b : Int} : p5 a b t = true ↔ ∃ j : Nat, t[j]? = some a ∧ t[j + 1]? = some b := by
  constructor
  · intro h
    unfold p5 at h
    rw [List.any_eq_true] at h
    obtain ⟨j, _, h⟩ := h
    rw [Bool.and_eq_true, decide_eq_true_eq, decide_eq_true_eq] at h
    exact ⟨j, h⟩
  · rintro ⟨j, h1, h2⟩
    exact p5_true h1 h2
set_option maxRecDepth 100000 in
theorem vbehind_calls {w : World} {A : Option Addr} {n c : Nat} {t : List Int} (a b : Int) (h : Ints w A n c t) :
    Calls Tryz.prog 67 #[.slice A n c, .int .i64 a, .int .i64 b] w fun e w' => e = .returned (.bool (p5 a b t)) ∧ w = w' := by
  have hn := h.small
  have HL := hide2 h.len
  have H := hide2 h
  clear h
  go_enter Tryz.func67, Tryz.ntmps67
  go_wp2
  go_loop [10] (fun i => ∃ k : Nat, k ≤ n ∧ i = .int .i64 k ∧ Hid (∀ j x y, j + 1 < k → t[j]? = some x → t[j + 1]? = some y → ¬ (x = a ∧ y = b))) (fun i => n - (intOf i).toNat)
  case atStart => exact ⟨0, Nat.zero_le _, rfl, fun j x y hj => absurd hj (by omega)⟩
  case round =>
    obtain ⟨k, hk, rfl, hlow⟩ := hrel
    by_cases hlt : k < n
    · have hki : (k : Int) < (n : Int) := by omega
      by_cases hk0 : k = 0
      · subst hk0
        have N1 := hide2 (show ∀ j x y, j + 1 < 0 + 1 → t[j]? = some x → t[j + 1]? = some y → ¬ (x = a ∧ y = b) from fun j x y hj => absurd hj (by omega))
        clear hlow
        go_wp2
        go_round
        case rel => exact ⟨0 + 1, by omega, by go_num, N1⟩
        case measure => simp [intOf]; omega
      · obtain ⟨i, hik⟩ : ∃ i, k = i + 1 := ⟨k - 1, by omega⟩
        have hin : i < n := by omega
        have hini : (i : Int) < (n : Int) := by omega
        have hk0i : (0 : Int) < (k : Int) := by omega
        have hsub : IntKind.i64.wrap ((k : Int) - 1) = (i : Int) := by simp [IntKind.wrap, IntKind.bits, IntKind.signed]; omega
        obtain ⟨bb, off, z, rfl, hb, hz, qz⟩ := Ints.get H.out hlt
        obtain ⟨b3, off3, u, e3, hb3, hu, qu⟩ := Ints.get H.out hin
        injection e3 with e3
        injection e3 with e3 e4
        subst e3 e4
        have HZ := hide2 (show t[i + 1]? = some z by rw [← hik]; exact hz.out)
        have HU := hide2 hu.out
        have HK := hide2 hik
        clear hz hu hik
        by_cases h1 : u = a
        · subst h1
          by_cases h2 : z = b
          · subst h2
            have FN := hide2 (p5_true HU.out HZ.out)
            go_wp2
            go_ret
            exact ⟨ret_bool FN.out.symm, rfl⟩
          · have N1 := hide2 (show ∀ j x y, j + 1 < k + 1 → t[j]? = some x → t[j + 1]? = some y → ¬ (x = u ∧ y = b) from fun j x y hj hx hy hxy => by
              by_cases e : j + 1 < k
              · exact hlow.out j x y e hx hy hxy
              · have e : j = i := by have := HK.out; omega
                subst e
                rw [HZ.out] at hy
                injection hy with hy
                exact h2 (hy.trans hxy.2))
            have h2b : (z == b) = false := by simpa using h2
            clear hlow
            go_wp2
            go_round
            case rel => exact ⟨k + 1, by omega, by go_num, N1⟩
            case measure => simp [intOf]; omega
        · have N1 := hide2 (show ∀ j x y, j + 1 < k + 1 → t[j]? = some x → t[j + 1]? = some y → ¬ (x = a ∧ y = b) from fun j x y hj hx hy hxy => by
              by_cases e : j + 1 < k
              · exact hlow.out j x y e hx hy hxy
              · have e : j = i := by have := HK.out; omega
                subst e
                rw [HU.out] at hx
                injection hx with hx
                exact h1 (hx.trans hxy.1))
          have h1b : (u == a) = false := by simpa using h1
          clear hlow
          go_wp2
          go_round
          case rel => exact ⟨k + 1, by omega, by go_num, N1⟩
          case measure => simp [intOf]; omega
    · obtain rfl : k = n := by omega
      have FN := hide2 (p5_false (fun j x y hj => hlow.out j x y (by rw [← HL.out]; exact hj)))
      clear hlow
      go_wp2
      go_ret
      exact ⟨ret_bool FN.out.symm, rfl⟩
theorem pred5 {w : World} {ba bb : Nat} {a b : Int} (x : Box w ba 3 #[.int .i64 a]) (y : Box w bb 3 #[.int .i64 b]) : IsPredT 66 #[.pointer (some ⟨ba, 0, none⟩), .pointer (some ⟨bb, 0, none⟩)] w (p5 a b) where
  enters := fun args w => by kernel_rfl
  calls := fun wr A n c t hb hi => by
    have x0 := (x.keep hb).cell 0
    have y0 := (y.keep hb).cell 0
    simp only [List.getElem?_toArray, List.getElem?_cons_zero] at x0 y0
    have HI := hide2 hi
    show Calls Tryz.prog 66 #[.slice A n c, .pointer (some ⟨ba, 0, none⟩), .pointer (some ⟨bb, 0, none⟩)] wr _
    clear x y hi
    go_enter Tryz.func66, Tryz.ntmps66
    go_wp2_with (refine (vbehind_calls a b HI.out).mono ?_; rintro e w' ⟨rfl, rfl⟩)
    go_ret
    exact ⟨rfl, Below.refl _ _⟩
end Go.Proofs.YtcopnfdknclhnaaGreat
namespace Go.Proofs.YtcopnfdknclhnaaGreat

def rng (k : Nat) : List Int := (List.range k).map fun i : Nat => (i : Int) + 1
theorem rng_succ (k : Nat) : rng (k + 1) = rng k ++ [(k : Int) + 1] := by simp [rng, List.range_succ]
theorem rng_len (k : Nat) : (rng k).length = k := by simp [rng]
theorem mem_rng {k : Nat} {x : Int} : x ∈ rng k ↔ 1 ≤ x ∧ x ≤ k := by
  unfold rng
  rw [List.mem_map]
  constructor
  · rintro ⟨i, hi, rfl⟩
    have := List.mem_range.1 hi
    omega
  · rintro ⟨h1, h2⟩
    exact ⟨(x - 1).toNat, List.mem_range.2 (by omega), by omega⟩
theorem rng_asc : ∀ k : Nat, (rng k).Pairwise (· < ·)
  | 0 => by simp [rng]
  | k + 1 => by
    rw [rng_succ, List.pairwise_append]
    refine ⟨rng_asc k, List.pairwise_singleton _ _, fun a ha b hb => ?_⟩
    have := (mem_rng.1 ha).2
    rw [List.mem_singleton] at hb
    omega
def onR (log : List (List Int)) (p : Int → List Int → Bool) (k : Nat) : List Int := (rng k).filter fun a => log.any (p a)
theorem onR_yes {log : List (List Int)} {p : Int → List Int → Bool} {k : Nat} (h : log.any (p ((k : Int) + 1)) = true) : onR log p (k + 1) = onR log p k ++ [(k : Int) + 1] := by
  unfold onR
  rw [rng_succ, List.filter_append]
  simp [h]
theorem onR_no {log : List (List Int)} {p : Int → List Int → Bool} {k : Nat} (h : log.any (p ((k : Int) + 1)) = false) : onR log p (k + 1) = onR log p k := by
  unfold onR
  rw [rng_succ, List.filter_append]
  simp only [List.filter_cons, List.filter_nil, h, List.append_nil, if_neg Bool.false_ne_true]
theorem onR_len (log : List (List Int)) (p : Int → List Int → Bool) (k : Nat) : (onR log p k).length ≤ k := by
  have := List.length_filter_le (fun a => log.any (p a)) (rng k)
  rw [rng_len] at this
  exact this
theorem onR_asc (log : List (List Int)) (p : Int → List Int → Bool) (k : Nat) : (onR log p k).Pairwise (· < ·) := List.Pairwise.sublist List.filter_sublist (rng_asc k)
theorem mem_onR {log : List (List Int)} {p : Int → List Int → Bool} {k : Nat} {x : Int} : x ∈ onR log p k ↔ (1 ≤ x ∧ x ≤ k) ∧ ∃ t ∈ log, p x t = true := by
  unfold onR
  rw [List.mem_filter, mem_rng, List.any_eq_true]
def behI (log : List (List Int)) (a : Int) (j : Nat) : List (Int × Int) := ((rng j).filter fun b => log.any (p5 a b)).map fun b => (a, b)
theorem behI_yes {log : List (List Int)} {a : Int} {j : Nat} (h : log.any (p5 a ((j : Int) + 1)) = true) : behI log a (j + 1) = behI log a j ++ [(a, (j : Int) + 1)] := by
  unfold behI
  rw [rng_succ, List.filter_append]
  simp [h]
theorem behI_no {log : List (List Int)} {a : Int} {j : Nat} (h : log.any (p5 a ((j : Int) + 1)) = false) : behI log a (j + 1) = behI log a j := by
  unfold behI
  rw [rng_succ, List.filter_append]
  simp only [List.filter_cons, List.filter_nil, h, List.append_nil, if_neg Bool.false_ne_true]
theorem behI_len (log : List (List Int)) (a : Int) (j : Nat) : (behI log a j).length ≤ j := by
  unfold behI
  rw [List.length_map]
  have := List.length_filter_le (fun b => log.any (p5 a b)) (rng j)
  rw [rng_len] at this
  exact this
theorem mem_behI {log : List (List Int)} {a : Int} {j : Nat} {q : Int × Int} : q ∈ behI log a j ↔ q.1 = a ∧ (1 ≤ q.2 ∧ q.2 ≤ j) ∧ ∃ t ∈ log, p5 a q.2 t = true := by
  unfold behI
  rw [List.mem_map]
  constructor
  · rintro ⟨b, hb, rfl⟩
    rw [List.mem_filter, mem_rng, List.any_eq_true] at hb
    exact ⟨rfl, hb⟩
  · rintro ⟨h1, h2, h3⟩
    refine ⟨q.2, ?_, by rw [← h1]⟩
    rw [List.mem_filter, mem_rng, List.any_eq_true]
    exact ⟨h2, h3⟩
theorem behI_asc (log : List (List Int)) (a : Int) (j : Nat) : (behI log a j).Pairwise pairLt := by
  unfold behI
  rw [List.pairwise_map]
  exact (List.Pairwise.sublist List.filter_sublist (rng_asc j)).imp fun h => .inr ⟨rfl, h⟩
def behB (log : List (List Int)) (k : Nat) : List (Int × Int) := (rng k).flatMap fun a => behI log a 26
theorem behB_succ (log : List (List Int)) (k : Nat) : behB log (k + 1) = behB log k ++ behI log ((k : Int) + 1) 26 := by
  unfold behB
  rw [rng_succ, List.flatMap_append]
  simp
theorem behB_len (log : List (List Int)) : ∀ k : Nat, (behB log k).length ≤ 26 * k
  | 0 => by simp [behB, rng]
  | k + 1 => by
    rw [behB_succ, List.length_append]
    have := behB_len log k
    have := behI_len log ((k : Int) + 1) 26
    omega
theorem mem_behB {log : List (List Int)} {k : Nat} {q : Int × Int} : q ∈ behB log k ↔ (1 ≤ q.1 ∧ q.1 ≤ k) ∧ (1 ≤ q.2 ∧ q.2 ≤ 26) ∧ ∃ t ∈ log, p5 q.1 q.2 t = true := by
  unfold behB
  rw [List.mem_flatMap]
  constructor
  · rintro ⟨a, ha, h⟩
    obtain ⟨e, h2, h3⟩ := mem_behI.1 h
    subst e
    exact ⟨mem_rng.1 ha, h2, h3⟩
  · rintro ⟨h1, h2, h3⟩
    exact ⟨q.1, mem_rng.2 h1, mem_behI.2 ⟨rfl, h2, h3⟩⟩
theorem behB_asc (log : List (List Int)) : ∀ k : Nat, (behB log k).Pairwise pairLt
  | 0 => by simp [behB, rng]
  | k + 1 => by
    rw [behB_succ, List.pairwise_append]
    refine ⟨behB_asc log k, behI_asc _ _ _, fun a ha b hb => ?_⟩
    have h1 := (mem_behB.1 ha).1.2
    have h2 := (mem_behI.1 hb).1
    exact .inl (by omega)
/-- As far as it has come: labels to k1, first to k2, last to k3, the pairs of the labels to k, and of the next to j. -/
def gotV (log : List (List Int)) (k1 k2 k3 k j : Nat) : PPrints := ⟨onR log p2 k1, onR log p3 k2, onR log p4 k3, behB log k ++ behI log ((k : Int) + 1) j⟩
theorem gotV_start (log : List (List Int)) : gotV log 0 0 0 0 0 = emptyP := by simp [gotV, emptyP, onR, behB, behI, rng]
theorem gotV_next (log : List (List Int)) (k1 k2 k3 k : Nat) : gotV log k1 k2 k3 k 26 = gotV log k1 k2 k3 (k + 1) 0 := by
  simp [gotV, behB_succ, behI, rng]
theorem gotV_len (log : List (List Int)) (k1 k2 k3 k j : Nat) : (gotV log k1 k2 k3 k j).labels.length ≤ k1 ∧ (gotV log k1 k2 k3 k j).first.length ≤ k2 ∧ (gotV log k1 k2 k3 k j).last.length ≤ k3 ∧ (gotV log k1 k2 k3 k j).behind.length ≤ 26 * k + j := by
  refine ⟨onR_len _ _ _, onR_len _ _ _, onR_len _ _ _, ?_⟩
  show (behB log k ++ behI log ((k : Int) + 1) j).length ≤ _
  rw [List.length_append]
  have := behB_len log k
  have := behI_len log ((k : Int) + 1) j
  omega
theorem gotV_shows {log : List (List Int)} (h : wrongV log = 0) : OfP log (gotV log 26 26 26 26 0) 0 := by
  refine ⟨h.symm, ?_⟩
  rw [if_pos h]
  obtain ⟨_, hall⟩ := wrongV_zero h
  have hd : ∀ {t : List Int} {x : Int}, t ∈ log → x ∈ t → 1 ≤ x ∧ x ≤ (26 : Nat) := fun ht hx => (hall _ ht).2 _ hx
  have hb : behB log 26 ++ behI log (((26 : Nat) : Int) + 1) 0 = behB log 26 := by simp [behI, rng]
  refine ⟨⟨onR_asc _ _ _, fun x => ?_⟩, ⟨onR_asc _ _ _, fun x => ?_⟩, ⟨onR_asc _ _ _, fun x => ?_⟩, ?_⟩
  · show x ∈ onR log p2 26 ↔ _
    rw [mem_onR]
    unfold allP p2
    constructor
    · rintro ⟨_, t, ht, hp⟩
      obtain ⟨y, hy, e⟩ := List.any_eq_true.1 hp
      simp only [beq_iff_eq] at e
      exact ⟨t, ht, e ▸ hy⟩
    · rintro ⟨t, ht, hx⟩
      exact ⟨hd ht hx, t, ht, List.any_eq_true.2 ⟨x, hx, by simp⟩⟩
  · show x ∈ onR log p3 26 ↔ _
    rw [mem_onR]
    unfold firstP p3
    constructor
    · rintro ⟨_, t, ht, hp⟩
      exact ⟨t, ht, of_decide_eq_true hp⟩
    · rintro ⟨t, ht, hx⟩
      exact ⟨hd ht (List.mem_of_head? hx), t, ht, decide_eq_true hx⟩
  · show x ∈ onR log p4 26 ↔ _
    rw [mem_onR]
    unfold lastP p4
    constructor
    · rintro ⟨_, t, ht, hp⟩
      exact ⟨t, ht, of_decide_eq_true hp⟩
    · rintro ⟨t, ht, hx⟩
      exact ⟨hd ht (List.mem_of_getLast? hx), t, ht, decide_eq_true hx⟩
  · show (behB log 26 ++ behI log (((26 : Nat) : Int) + 1) 0).Pairwise pairLt ∧ ∀ x, x ∈ behB log 26 ++ behI log (((26 : Nat) : Int) + 1) 0 ↔ _
    rw [hb]
    refine ⟨behB_asc _ _, fun q => ?_⟩
    rw [mem_behB]
    unfold behP
    constructor
    · rintro ⟨_, _, t, ht, hp⟩
      exact ⟨t, ht, p5_iff.1 hp⟩
    · rintro ⟨t, ht, k, h1, h2⟩
      exact ⟨hd ht (List.mem_of_getElem? h1), hd ht (List.mem_of_getElem? h2), t, ht, p5_iff.2 ⟨k, h1, h2⟩⟩
end Go.Proofs.YtcopnfdknclhnaaGreat
