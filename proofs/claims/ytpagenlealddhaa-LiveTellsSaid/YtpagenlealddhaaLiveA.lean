/- What a space reads ars: lists of lists of integers, and arcs; live.Right and GRight. Conditions: the slices read ars lists. -/
import Derived.Test.YtpagenlealddhaaShapeC
namespace Go.Proofs.Ytpagenlealddhaa
open Go.RowKit

structure PArc where
  from_ : Int
  tran : Int
  to_ : Int
def ArcR : World → (Nat → Value) → PArc → Prop := fun _ vs a => vs 0 = .int .i64 a.from_ ∧ vs 1 = .int .i64 a.tran ∧ vs 2 = .int .i64 a.to_ ∧ (Lit.int .i64 a.tran).wf = true
theorem ArcR.kept : Kept ArcR := fun _ _ _ _ _ h => h
theorem ArcR.good : Good ArcR 3 where
  kept := ArcR.kept
  one := fun w vs x h j hj => by
    obtain ⟨h0, h1, h2, _⟩ := h
    match j, hj with
    | 0, _ => rw [h0]; rfl
    | 1, _ => rw [h1]; rfl
    | 2, _ => rw [h2]; rfl
  pos := by omega
abbrev Arcs (w : World) (A : Option Addr) (n c : Nat) (ars : List PArc) : Prop := Sl ArcR 3 w A n c ars
theorem Arcs.get {w : World} {A : Option Addr} {n c k : Nat} {ars : List PArc} (h : Arcs w A n c ars) (hk : k < n) :
    ∃ b off a, A = some ⟨b, off, none⟩ ∧ b < w.heap.size ∧ Hid (ars[k]? = some a) ∧ w.cell? ⟨b, off + k * 3, none⟩ = some (.int .i64 a.from_) ∧ w.cell? ⟨b, off + k * 3 + 1, none⟩ = some (.int .i64 a.tran) ∧ w.cell? ⟨b, off + k * 3 + 2, none⟩ = some (.int .i64 a.to_) ∧ Hid ((Lit.int .i64 a.tran).wf = true) := by
  obtain ⟨b, off, a, vs, h1, h2, h3, h4, e0, e1, e2, e3⟩ := Sl.get h hk
  refine ⟨b, off, a, h1, h2, h3, ?_, ?_, ?_, e3⟩
  · rw [← e0]; exact h4 0 (by omega)
  · rw [← e1]; exact h4 1 (by omega)
  · rw [← e2]; exact h4 2 (by omega)
def ListR : World → (Nat → Value) → List Int → Prop := fun w vs xs => ∃ A n c, vs 0 = .slice A n c ∧ Ints w A n c xs ∧ n ≤ 17592186043904
theorem ListR.kept : Kept ListR := fun _ _ _ _ hb ⟨A, n, c, e, i, l⟩ => ⟨A, n, c, e, i.keep hb, l⟩
theorem ListR.good : Good ListR 1 where
  kept := ListR.kept
  one := fun w vs x h j hj => by
    obtain rfl : j = 0 := by omega
    obtain ⟨A, n, c, e, _⟩ := h
    rw [e]; rfl
  pos := by omega
abbrev Lists (w : World) (A : Option Addr) (n c : Nat) (xs : List (List Int)) : Prop := Sl ListR 1 w A n c xs
theorem Lists.get {w : World} {A : Option Addr} {n c k : Nat} {xs : List (List Int)} (h : Lists w A n c xs) (hk : k < n) :
    ∃ b off x B m d, A = some ⟨b, off, none⟩ ∧ b < w.heap.size ∧ Hid (xs[k]? = some x) ∧ w.cell? ⟨b, off + k, none⟩ = some (.slice B m d) ∧ Ints w B m d x ∧ m ≤ 17592186043904 := by
  obtain ⟨b, off, x, vs, h1, h2, h3, h4, B, m, d, e, i, l⟩ := Sl.get h hk
  refine ⟨b, off, x, B, m, d, h1, h2, h3, ?_, i, l⟩
  have := h4 0 (by omega)
  rw [e] at this
  simpa using this

/-! ### between marks? -/
def arcBad (n : Nat) (a : PArc) : Bool := decide (a.from_ < 0) || decide (a.to_ < 0) || decide ((n : Int) ≤ a.from_) || decide ((n : Int) ≤ a.to_)
def rightG (n : Nat) (ars : List PArc) : Bool := !ars.any (arcBad n)

/-- Function F, with what it captured, is a test of arcs. -/
structure IsPredA (F : FuncId) (cap : Array Value) (w : World) (p : PArc → Bool) : Prop where
  enters : ∀ args w, (callFunc F args).run Try.prog w = .ok (.enter F args) w
  calls : ∀ (wr : World) (a : PArc), Below w.heap.size w wr →
    Calls Try.prog F (#[.agg #[.int .i64 a.from_, .int .i64 a.tran, .int .i64 a.to_]] ++ cap) wr fun e w' => e = .returned (.bool (p a)) ∧ Below wr.heap.size wr w'

set_option maxRecDepth 100000 in
theorem indexArcs_calls {w : World} {A : Option Addr} {n c : Nat} {ars : List PArc} {F : FuncId} {cap : Array Value} {p : PArc → Bool} (h : Arcs w A n c ars) (hp : IsPredA F cap w p) :
    Calls Try.prog 120 #[.slice A n c, .func (.func F) #[] cap] w fun e w' => e = .returned (.int .i64 (idxFirst p ars)) ∧ Below w.heap.size w w' := by
  have hn := h.small
  have henter := hp.enters
  have H := hide2 h
  have HP := hide2 hp
  clear h hp
  go_enter Try.func120, Try.ntmps120
  go_wp2
  go_loopw [8] (fun i wr => ∃ k : Nat, k ≤ n ∧ i = .int .i64 k ∧ Hid (∀ j, j < k → ∀ y, ars[j]? = some y → p y = false) ∧ Hid (Below w.heap.size w wr)) (fun i _ => n - (intOf i).toNat)
  case atStart => exact ⟨0, Nat.zero_le _, rfl, fun j hj => absurd hj (by omega), Below.refl _ _⟩
  case round =>
    obtain ⟨k, hk, rfl, hlow, D⟩ := hrel
    by_cases hlt : k < n
    · have hki : (k : Int) < (n : Int) := by omega
      obtain ⟨b, off, t, rfl, hb, ht, q0, q1, q2, _⟩ := Arcs.get (Sl.keep ArcR.kept H.out D.out) hlt
      have CL := hide2 (HP.out.calls wr t D.out)
      obtain ⟨v, hv⟩ : ∃ v, p t = v := ⟨_, rfl⟩
      have HV := hide2 hv
      rw [hv] at CL
      clear hv
      cases v
      · go_wp2_with (refine CL.out.mono ?_; rintro e w' ⟨rfl, hb'⟩; have HB := hide2 hb'; clear hb')
        go_roundw
        case rel =>
          refine ⟨k + 1, by omega, by go_num, fun j hj y hy => ?_, D.out.trans (HB.out.mono D.out.size)⟩
          by_cases hjk : j = k
          · subst hjk
            have := ht.out
            rw [hy] at this
            injection this with this
            rw [this]
            exact HV.out
          · exact hlow.out j (by omega) y hy
        case measure => simp [intOf]; omega
      · go_wp2_with (refine CL.out.mono ?_; rintro e w' ⟨rfl, hb'⟩; have HB := hide2 hb'; clear hb')
        go_ret
        exact ⟨ret_int (idxFirst_some hlow.out ht.out HV.out).symm, D.out.trans (HB.out.mono D.out.size)⟩
    · go_wp2
      go_ret
      exact ⟨ret_int (idxFirst_none (fun j hj y hy => hlow.out j (by have := H.out.len; omega) y hy)).symm, D.out⟩
set_option maxRecDepth 100000 in
theorem containsArcs_calls {w : World} {A : Option Addr} {n c : Nat} {ars : List PArc} {F : FuncId} {cap : Array Value} {p : PArc → Bool} (h : Arcs w A n c ars) (hp : IsPredA F cap w p) :
    Calls Try.prog 64 #[.slice A n c, .func (.func F) #[] cap] w fun e w' => e = .returned (.bool (ars.any p)) ∧ Below w.heap.size w w' := by
  have H := hide2 h
  have HP := hide2 hp
  clear h hp
  go_enter Try.func64, Try.ntmps64
  go_wp2_with (refine (indexArcs_calls H.out HP.out).mono ?_; rintro e w' ⟨rfl, hb⟩)
  go_ret
  exact ⟨ret_bool (idxFirst_any _ _), hb⟩
theorem arc_pred {w : World} {bn n : Nat} (c : Box w bn 3 #[.int .i64 n]) : IsPredA 65 #[.pointer (some ⟨bn, 0, none⟩)] w (arcBad n) where
  enters := fun args w => by kernel_rfl
  calls := fun wr a hb => by
    have bb := boxBelow wr (.cells #[.int .i64 a.from_, .int .i64 a.tran, .int .i64 a.to_] 118)
    have y1 := ((c.keep hb).old (.cells #[.int .i64 a.from_, .int .i64 a.tran, .int .i64 a.to_] 118)).cell 0
    simp only [List.getElem?_toArray, List.getElem?_cons_zero] at y1
    have BB := hide2 bb
    obtain ⟨x, hx⟩ : ∃ x, a.from_ = x := ⟨_, rfl⟩
    obtain ⟨y, hy⟩ : ∃ x, a.to_ = x := ⟨_, rfl⟩
    have FN := hide2 (show arcBad n a = (decide (x < 0) || decide (y < 0) || decide ((n : Int) ≤ x) || decide ((n : Int) ≤ y)) by rw [arcBad, hx, hy])
    show Calls Try.prog 65 #[.agg #[.int .i64 a.from_, .int .i64 a.tran, .int .i64 a.to_], .pointer (some ⟨bn, 0, none⟩)] wr _
    rw [FN.out]
    rw [hx, hy] at BB y1
    rw [hx, hy]
    clear hb c bb hx hy
    by_cases h1 : x < 0
    · go_enter Try.func65, Try.ntmps65
      go_wp2
      go_ret
      exact ⟨ret_bool (by first | rfl | (simp; done) | (simp; omega)), BB.out⟩
    · by_cases h2 : y < 0
      · go_enter Try.func65, Try.ntmps65
        go_wp2
        go_ret
        exact ⟨ret_bool (by first | rfl | (simp; done) | (simp; omega)), BB.out⟩
      · by_cases h3 : (n : Int) ≤ x
        · go_enter Try.func65, Try.ntmps65
          go_wp2
          go_ret
          exact ⟨ret_bool (by first | rfl | (simp; done) | (simp; omega)), BB.out⟩
        · go_enter Try.func65, Try.ntmps65
          go_wp2
          all_goals
            go_ret
            exact ⟨ret_bool (by simp; omega), BB.out⟩

set_option maxRecDepth 100000 in
theorem liveRight_calls {w : World} {A D : Option Addr} {n c m d : Nat} {ms : List (List Int)} {ars : List PArc} (h : Lists w A n c ms) (g : Arcs w D m d ars) :
    Calls Try.prog 19 #[.agg #[.slice A n c, .slice D m d]] w fun e w' => e = .returned (.bool (rightG n ars)) ∧ Below w.heap.size w w' := by
  generalize hw0 : (w.alloc (.cells #[.slice A n c, .slice D m d] 46)).alloc (.cells #[.int .i64 n] 3) = w0
  have D0 := hide2 (show Below w.heap.size w w0 by rw [← hw0]; exact ((Below.refl _ _).alloc (Nat.le_refl _) _).alloc (by simp) _)
  have X0 := hide2 (show Box w0 w.heap.size 46 #[.slice A n c, .slice D m d] by rw [← hw0]; exact (Box.new _ _ _).old _)
  have X1 := hide2 (show Box w0 (w.heap.size + 1) 3 #[.int .i64 n] by rw [← hw0]; exact Box.newAt (by simp) _ _)
  have G := hide2 g
  have hn := h.small
  clear h g
  go_enter Try.func19, Try.ntmps19
  go_upto_region 2 with fail
  clear hw0
  obtain ⟨c0, c1⟩ := X0.out.two
  go_wp2_with fail
  refine (containsArcs_calls (Sl.keep ArcR.kept G.out D0.out) (arc_pred X1.out)).mono ?_
  rintro e w1 ⟨rfl, hb⟩
  have B1 := hide2 (D0.out.trans (hb.mono D0.out.size))
  clear hb
  go_wp2
  go_ret
  exact ⟨ret_bool (by first | rfl | simp [rightG]), B1.out⟩
end Go.Proofs.Ytpagenlealddhaa
