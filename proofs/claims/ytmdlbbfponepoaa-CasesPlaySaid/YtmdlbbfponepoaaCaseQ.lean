/- From a reading of an argument to lists of things to do. Conditions: none. -/
import Derived.Test.YtmdlbbfponepoaaRead
import Derived.Test.YtmdlbbfponepoaaCaseP
namespace Go.Proofs.Ytmdlbbfponepoaa
open Go.ChangeShapes Go.WideShapes Go.ChangeAt Go.RowKit Go.Deep

theorem readsCOp : ReadsAs COpR 2 16 76 := by
  refine ⟨COpR.good, by kernel_rfl, by kernel_rfl, by omega, fun enc W fuel cs d pl h hw hl => ?_⟩
  obtain ⟨n, hf⟩ := struct_fields Try.underlying76 (by kernel_rfl) h hw hl
  obtain ⟨v0, y0, e0, t0, w0⟩ := hf 0 _ rfl
  obtain ⟨v1, y1, e1, t1, w1⟩ := hf 1 _ rfl
  obtain ⟨x, hx, _, _⟩ := DataW.trod_int Try.underlying3 t0
  obtain ⟨y, hy, _, _⟩ := DataW.trod_int Try.underlying3 t1
  injection hx with hx
  injection hy with hy
  exact ⟨(x, y), by show cs.getD 0 undef = _; rw [e0, hx], by show cs.getD 1 undef = _; rw [e1, hy]⟩
end Go.Proofs.Ytmdlbbfponepoaa
