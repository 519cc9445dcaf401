/- Texts melted into one: Contracts of package mark, of the references of chapter 1, and of the library's functions on lists of integers that they call. Conditions: the slices read as lists of integers. | Contracts of package mark and of the references of chapter 1, part two. Conditions: the slices read as lists of integers. | Contracts of AMix, APlus, AMinus. Conditions: the slices read as lists of integers, none of them large. | Contracts of zip, Plus, Minus and their references, of ACovers and of slices.Equal on integers. Conditions: the slices read as lists of integers. | Contracts of APlus, AMinus, ACovers and slices.Equal on integers. Conditions: the slices read as lists of integers. | The contract of ACovers, and the law MarkTells as a call: it returns true. Conditions: the slices read as lists of integers. -/
import Derived.Test.YtcgdjpelcfofgaaDoorTextTellsK02
import Derived.Deep.QuietTactic
import Derived.BigQuiet
import Derived.Test.YtcgdjpelcfofgaaDoorTextTellsK03
namespace Go.Proofs.YtcgdjpelcfofgaaDoor
open Go.RowKit

/-- Function F, with what it captured, is a test of integers that leaves the world alone. -/
structure IsPred (F : FuncId) (cap : Array Value) (w : World) (p : Int → Bool) : Prop where
  enters : ∀ args w, (callFunc F args).run Tryd.prog w = .ok (.enter F args) w
  calls : ∀ x, Calls Tryd.prog F (#[.int .i64 x] ++ cap) w fun e w' => e = .returned (.bool (p x)) ∧ w = w'

set_option maxRecDepth 100000 in
theorem indexFuncInts {w : World} {A : Option Addr} {n c : Nat} {xs : List Int} {F : FuncId} {cap : Array Value} {p : Int → Bool} (h : Ints w A n c xs) (hp : IsPred F cap w p) :
    Calls Tryd.prog 43 #[.slice A n c, .func (.func F) #[] cap] w fun e w' => e = .returned (.int .i64 (idxFirst p xs)) ∧ w = w' := by
  have hn := h.small
  have henter := hp.enters
  go_enter Tryd.func43, Tryd.ntmps43
  go_wp2
  go_loop [8] (fun i => ∃ k : Nat, k ≤ n ∧ i = .int .i64 k ∧ Hid (∀ j, j < k → ∀ y, xs[j]? = some y → p y = false)) (fun i => n - (intOf i).toNat)
  case atStart => exact ⟨0, Nat.zero_le _, rfl, fun j hj => absurd hj (by omega)⟩
  case round =>
    obtain ⟨k, hk, rfl, hlow⟩ := hrel
    by_cases hlt : k < n
    · obtain ⟨b, off, x, rfl, hb, hx, hc⟩ := h.get hlt
      have hl := h.len
      have hL := hide2 hl
      clear hl
      by_cases hpx : p x = true
      · have HP := hide2 hpx
        clear hpx
        clear h
        go_wp2_with (refine (hp.calls x).mono ?_; rintro e w' ⟨rfl, rfl⟩; rw [HP.out])
        go_ret
        exact ⟨ret_int (idxFirst_some hlow.out hx.out HP.out).symm, rfl⟩
      · have HP := hide2 (show p x = false by simpa using hpx)
        clear h hpx
        go_wp2_with (refine (hp.calls x).mono ?_; rintro e w' ⟨rfl, rfl⟩; rw [HP.out])
        go_round
        case rel =>
          refine ⟨k + 1, by omega, by go_num, fun j hj y hy => ?_⟩
          by_cases hjk : j = k
          · subst hjk
            have := hx.out
            rw [hy] at this
            injection this with this
            rw [this]
            exact HP.out
          · exact hlow.out j (by omega) y hy
        case measure => simp [intOf]; omega
    · have hL := hide2 h.len
      go_wp2
      go_ret
      exact ⟨ret_int (idxFirst_none (fun j hj y hy => hlow.out j (by have := hL.out; omega) y hy)).symm, rfl⟩

set_option maxRecDepth 100000 in
theorem containsFuncInts {w : World} {A : Option Addr} {n c : Nat} {xs : List Int} {F : FuncId} {cap : Array Value} {p : Int → Bool} (h : Ints w A n c xs) (hp : IsPred F cap w p) :
    Calls Tryd.prog 29 #[.slice A n c, .func (.func F) #[] cap] w fun e w' => e = .returned (.bool (xs.any p)) ∧ w = w' := by
  go_enter Tryd.func29, Tryd.ntmps29
  go_wp2_with (refine (indexFuncInts h hp).mono ?_; rintro e w' ⟨rfl, rfl⟩)
  go_ret
  exact ⟨ret_bool (idxFirst_any _ _), rfl⟩

end Go.Proofs.YtcgdjpelcfofgaaDoor
namespace Go.Proofs.YtcgdjpelcfofgaaDoor
open Go.RowKit

end Go.Proofs.YtcgdjpelcfofgaaDoor
namespace Go.Proofs.YtcgdjpelcfofgaaDoor
open Go.RowKit

end Go.Proofs.YtcgdjpelcfofgaaDoor
namespace Go.Proofs.YtcgdjpelcfofgaaDoor
open Go.RowKit

/-- Where the slice lies, nothing was before. -/
def Fresh (w : World) (C : Option Addr) : Prop := ∀ a, C = some a → w.heap.size ≤ a.block
theorem Fresh.none {w : World} : Fresh w none := fun _ h => by cases h
theorem Fresh.at {w : World} {b off : Nat} {s : Option Nat} (h : w.heap.size ≤ b) : Fresh w (some ⟨b, off, s⟩) := fun a e => by injection e with e; subst e; exact h
theorem Fresh.mono {w w' : World} {C : Option Addr} (h : Fresh w' C) (hs : w.heap.size ≤ w'.heap.size) : Fresh w C := fun a e => Nat.le_trans hs (h a e)

end Go.Proofs.YtcgdjpelcfofgaaDoor
namespace Go.Proofs.YtcgdjpelcfofgaaDoor
open Go.RowKit

/-- The world w after some draws. -/
def Drew (w w' : World) : Prop := ∃ k, w' = w.drewN k
theorem Drew.below {w w' : World} (h : Drew w w') : Below w.heap.size w w' := by
  obtain ⟨k, rfl⟩ := h
  exact ⟨rfl, rfl, rfl, Nat.le_refl _, fun _ _ => rfl⟩
theorem Drew.refl (w : World) : Drew w w := ⟨0, rfl⟩
theorem Drew.drewN (w : World) (k : Nat) : Drew w (w.drewN k) := ⟨k, rfl⟩
set_option maxRecDepth 100000 in
theorem equalInts_calls {w : World} {A B : Option Addr} {n c m d : Nat} {xs ys : List Int} (h : Ints w A n c xs) (g : Ints w B m d ys) :
    Calls Tryd.prog 27 #[.slice A n c, .slice B m d] w fun e w' => e = .returned (.bool (xs == ys)) ∧ Drew w w' := by
  have hn := h.small
  have hm := g.small
  have HL := hide2 h.len
  have GL := hide2 g.len
  by_cases hnm : n = m
  · subst hnm
    go_enter Tryd.func27, Tryd.ntmps27
    go_wp2
    go_loopw [13] (fun i wr => ∃ k : Nat, k ≤ n ∧ i = .int .i64 k ∧ Hid (∀ j, j < k → xs[j]? = ys[j]?) ∧ ∃ q, wr = w.drewN q) (fun i _ => n - (intOf i).toNat)
    case atStart => exact ⟨0, Nat.zero_le _, rfl, fun j hj => absurd hj (by omega), 0, rfl⟩
    case round =>
      obtain ⟨k, hk, rfl, hlow, q, rfl⟩ := hrel
      by_cases hlt : k < n
      · obtain ⟨b, off, x, rfl, hb, hx, hc⟩ := h.get hlt
        obtain ⟨b', off', y, rfl, hb', hy, hc'⟩ := g.get hlt
        clear h g
        have hi : (k : Int) < (n : Int) := by omega
        by_cases hxy : x = y
        · subst hxy
          go_wp2
          go_quiet (fail)
          go_wp2
          go_roundw
          case rel =>
            refine ⟨k + 1, by omega, by go_num, fun j hj => ?_, _, rfl⟩
            by_cases hjk : j = k
            · subst hjk; rw [hx.out, hy.out]
            · exact hlow.out j (by omega)
          case measure => simp [intOf]; omega
        · have hne : (x != y) = true := by simpa using hxy
          have HN := hide2 hxy
          clear hxy
          go_wp2
          go_quiet (fail)
          go_wp2
          go_ret
          refine ⟨ret_bool ?_, _, World.drewN_drewN _ _ _⟩
          symm
          rw [beq_eq_false_iff_ne]
          intro e
          have h1 := hx.out
          rw [e, hy.out] at h1
          injection h1 with h1
          exact HN.out h1.symm
      · clear h g
        go_wp2
        go_ret
        refine ⟨ret_bool ?_, _, rfl⟩
        symm
        rw [beq_iff_eq]
        apply List.ext_getElem?
        intro j
        by_cases hj : j < k
        · exact hlow.out j hj
        · rw [List.getElem?_eq_none (by have := HL.out; omega), List.getElem?_eq_none (by have := GL.out; omega)]
  · clear h g
    have hne : ((n : Int) != (m : Int)) = true := by simp; omega
    have HN := hide2 hnm
    clear hnm
    go_enter Tryd.func27, Tryd.ntmps27
    go_wp2
    go_ret
    refine ⟨ret_bool ?_, 0, rfl⟩
    symm
    rw [beq_eq_false_iff_ne]
    intro e
    have := HL.out
    have := GL.out
    exact HN.out (by rw [e] at *; omega)
end Go.Proofs.YtcgdjpelcfofgaaDoor
namespace Go.Proofs.YtcgdjpelcfofgaaDoor
open Go.RowKit

end Go.Proofs.YtcgdjpelcfofgaaDoor
