/- The contract of BRun. Conditions: the net, the mark and the sequence read as lists. -/
import Derived.Test.YtmdlbbfponepoaaNetM
import Derived.Deep.RegionHeld3
namespace Go.Proofs.Ytmdlbbfponepoaa
open Go.RowKit

theorem Sl.drop1 {α : Type} {R : World → (Nat → Value) → α → Prop} {w : World} {b off n c : Nat} {x : α} {xs : List α} (h : Sl R 1 w (some ⟨b, off, none⟩) n c (x :: xs)) :
    Sl R 1 w (if c = 1 then some ⟨b, off, none⟩ else some ⟨b, off + 1, none⟩) (n - 1) (c - 1) xs := by
  have hl := h.len
  simp at hl
  refine ⟨by omega, by have := h.le; omega, by have := h.cap; omega, by have := h.small; omega, fun hn => ?_, fun hn => ?_⟩
  · split at hn <;> cases hn
  · have hc : c ≠ 1 := by have := h.le; omega
    rw [if_neg hc]
    obtain ⟨b', off', e, hb, hcell⟩ := h.cells (by omega)
    injection e with e
    injection e with e1 e2 _
    subst e1 e2
    refine ⟨b, off + 1, rfl, hb, fun i y hy => ?_⟩
    obtain ⟨vs, h1, h2⟩ := hcell (i + 1) y (by simpa using hy)
    refine ⟨vs, fun j hj => ?_, h2⟩
    have := h1 j hj
    rw [show off + ((i + 1) * 1 + j) = off + 1 + (i * 1 + j) from by omega] at this
    exact this

end Go.Proofs.Ytmdlbbfponepoaa
