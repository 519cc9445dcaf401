/- A slice that is handed in has no more elements than its bulk. Conditions: none. -/
import Derived.Test.YtnfppolgaeibeaaRead
import Derived.Test.YtnfppolgaeibeaaRows
namespace Go.Proofs.Ytnfppolgaeibeaa
open Go.ChangeShapes Go.WideShapes Go.ChangeAt Go.RowKit Go.Deep
section
variable {H : Type} {enc : TypeId × Value → H} {W : World}
theorem one_bulk (d : DataW H) : 1 ≤ Rows.uptoBulk d := by
  cases d with
  | lit l => cases l <;> simp [Rows.uptoBulk]
  | nil => simp [Rows.uptoBulk]
  | ptr d => simp [Rows.uptoBulk]
  | slice elems spare => simp [Rows.uptoBulk]
  | agg parts => simp [Rows.uptoBulk]
  | iface t d => simp [Rows.uptoBulk]
  | map entries => simp [Rows.uptoBulk]
  | held h => simp [Rows.uptoBulk]
theorem length_bulk (l : List (DataW H)) : l.length ≤ Rows.uptoBulkAll l := by
  induction l with
  | nil => simp [Rows.uptoBulkAll]
  | cons x r ih => have := one_bulk x; simp only [Rows.uptoBulkAll, List.length_cons]; omega
/-- A slice has no more elements than its bulk. -/
theorem slice_bulk {t e : Nat} (ht : Try.prog.underlying t = some (.slice e)) {fuel : Nat} {A : Option Addr} {n c : Nat} {D : DataW H} {pl : List MemPlace}
    (h : DataW.trod enc Try.prog W 0 (fun _ => true) true fuel t [.slice A n c] = some (D, pl)) : n ≤ Rows.uptoBulk D := by
  rcases open_slice ht h with ⟨hcs, hx⟩ | ⟨a, len, cap, m, fu, Dx, Pl, hcs, _, _, _, _, hx, _⟩
  · injection hcs with hcs
    injection hcs with _ h2 _
    omega
  · injection hcs with hcs
    injection hcs with _ h2 _
    injection hx with hx _
    subst h2 hx
    have := length_bulk ((List.range n).map Dx)
    simp only [List.length_map, List.length_range] at this
    simp only [Rows.uptoBulk]
    omega
end
end Go.Proofs.Ytnfppolgaeibeaa
