/- The contracts of the reference's reader: skip and num. Conditions: the reader's block holds the text and a place within it. -/
import Derived.Test.YtcgdjpelcfofgaaDoorTextTellsK07
import Derived.Test.YtcgdjpelcfofgaaDoorTextTellsK09
import Derived.BigQuiet
set_option linter.all false
namespace Go.Proofs.YtcgdjpelcfofgaaDoor
open Go.RowKit

def RdV (w : World) (b : Nat) (s : List UInt8) (k : Nat) : Prop := Box w b 57 #[.string ⟨s.toArray⟩, .int .i64 (k : Int)]
theorem take_pre {p r : List UInt8} : p.isPrefixOf r = decide (r.take p.length = p) := by
  rw [Bool.eq_iff_iff, List.isPrefixOf_iff_prefix, decide_eq_true_iff]
  constructor
  · rintro ⟨t, rfl⟩
    exact List.take_left
  · intro h
    have e := List.take_append_drop p.length r
    rw [h] at e
    exact ⟨_, e⟩
theorem ext_bytes (s : List UInt8) (i j : Nat) : (⟨s.toArray⟩ : ByteArray).extract i j = ⟨((s.drop i).take (j - i)).toArray⟩ := by
  apply ByteArray.ext
  apply Array.ext'
  simp [ByteArray.data_extract, List.take_drop]
theorem grown_drewN {w w' : World} {row : Option Nat} (h : w.grownBy w' row) (n : Nat) : w.grownBy (w'.drewN n) row := ⟨h.os, h.tape, h.output, h.size, h.block⟩
theorem grownSet (w : World) (b j : Nat) (v : Value) : w.grownBy (w.setCell ⟨b, j, none⟩ v) (some b) := ⟨rfl, rfl, rfl, by simp [World.setCell], fun k _ hne => heap_setCell_other _ _ _ _ (fun e => hne (by subst e; rfl))⟩
def AnsSkip (w w' : World) (b : Nat) (s p : List UInt8) (k : Nat) (e : Ending) : Prop := e = .returned (.bool (p.isPrefixOf (s.drop k))) ∧ RdV w' b s (if p.isPrefixOf (s.drop k) = true then k + p.length else k) ∧ w.grownBy w' (some b)
set_option maxRecDepth 100000 in
theorem skip_calls {w : World} {b : Nat} {s p : List UInt8} {k : Nat} (R : RdV w b s k) (hk : k ≤ s.length) (hs : s.length ≤ 2000000) (hp : p.length ≤ 10) :
    Calls Tryd.prog 22 #[.pointer (some ⟨b, 0, none⟩), .string ⟨p.toArray⟩] w fun e w' => AnsSkip w w' b s p k e := by
  have RR := hide2 R
  obtain ⟨c0, c1⟩ := Box.two R
  have R0 : Box w b 57 #[.string ⟨s.toArray⟩, .int .i64 (k : Int)] := R
  clear R
  by_cases hlen : s.length - k < p.length
  · have hl : (s.length : Int) - (k : Int) < (p.length : Int) := by omega
    have hq : p.isPrefixOf (s.drop k) = false := by
      rw [take_pre, decide_eq_false_iff_not]
      intro e
      have := congrArg List.length e
      rw [List.length_take, List.length_drop] at this
      omega
    have HQ := hide2 hq
    clear hlen hq R0
    go_enter Tryd.func22, Tryd.ntmps22
    go_wp2_with fail
    go_quiet (fail)
    go_wp2
    exact bodyPost_ret (v := .bool false) (by simp [results, Tryd.results22, go_sem]) rfl ⟨by rw [HQ.out], by rw [HQ.out, if_neg (by decide)]; exact RR.out, grown_drewN (World.grownBy.refl _ _) _⟩
  · have hl : decide ((s.length : Int) - (k : Int) < (p.length : Int)) = false := by rw [decide_eq_false_iff_not]; omega
    have h1 : (k : Int) + (p.length : Int) ≤ (s.length : Int) := by omega
    have h2 : (0 : Int) ≤ (p.length : Int) := by omega
    have h3 : (0 : Int) ≤ (k : Int) := by omega
    have h4 : (k : Int) ≤ (s.length : Int) := by omega
    have f1 := R0.frozen 1
    have hx : (⟨s.toArray⟩ : ByteArray).extract k (k + p.length) = ⟨((s.drop k).take p.length).toArray⟩ := by
      rw [ext_bytes, show k + p.length - k = p.length by omega]
    clear R0
    by_cases hq : (s.drop k).take p.length = p
    · rw [hq] at hx
      have HQ := hide2 (show p.isPrefixOf (s.drop k) = true by rw [take_pre, decide_eq_true_iff]; exact hq)
      clear hq
      go_enter Tryd.func22, Tryd.ntmps22
      go_wp2_with fail
      go_quiet (fail)
      go_wp2
      exact bodyPost_ret (v := .bool true) (by simp [results, Tryd.results22, go_sem]) rfl ⟨by rw [HQ.out], by rw [HQ.out, if_pos rfl]; exact RR.out.set 1 _, (grown_drewN (World.grownBy.refl _ _) _).trans (grownSet _ _ _ _)⟩
    · have hx2 : ((s.drop k).take p.length == p) = false := beq_eq_false_iff_ne.2 hq
      have HQ := hide2 (show p.isPrefixOf (s.drop k) = false by rw [take_pre, decide_eq_false_iff_not]; exact hq)
      clear hq
      go_enter Tryd.func22, Tryd.ntmps22
      go_wp2_with fail
      go_quiet (fail)
      go_wp2
      exact bodyPost_ret (v := .bool false) (by simp [results, Tryd.results22, go_sem]) rfl ⟨by rw [HQ.out], by rw [HQ.out, if_neg (by decide)]; exact RR.out, grown_drewN (World.grownBy.refl _ _) _⟩
end Go.Proofs.YtcgdjpelcfofgaaDoor
