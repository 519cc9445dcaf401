/- From a reading of an argument to a case, and to a thing to do. Conditions: none. -/
import Derived.Test.YtmhcinmadelaeaaRead
import Derived.Test.YtmhcinmadelaeaaCaseS
namespace Go.Proofs.Ytmhcinmadelaeaa
open Go.ChangeShapes Go.WideShapes Go.ChangeAt Go.RowKit Go.Deep
section
variable {H : Type} {enc : TypeId × Value → H} {W : World}

theorem cellsCase : Try.prog.cellsOf 71 = 2 := by kernel_rfl
theorem cellsCaseOp : Try.prog.cellsOf 73 = 2 := by kernel_rfl
theorem two_of {cs : Array Value} {v0 v1 : Value} (hl : cs.toList.length = 2) (e0 : cs.toList.getD 0 undef = v0) (e1 : cs.toList.getD 1 undef = v1) : cs = #[v0, v1] := by
  have : cs.toList = [v0, v1] := by
    match hcl : cs.toList, hl with
    | [a, b], _ =>
      rw [hcl] at e0 e1
      have e2 : a = v0 := e0
      have e3 : b = v1 := e1
      rw [e2, e3]
  exact Array.toList_inj.1 (by rw [this])
set_option maxRecDepth 100000 in
theorem caseOf {base : Nat} {v : Value} {d : DataW H} {p : List MemPlace} (hv : Value.okWide Try.prog W .any base 71 v) (h : DataW.Trod enc Try.prog W 0 (fun _ => true) true 71 v d p) (hw : ∀ x ∈ d.weights Try.prog 71, x ≤ reachBytes) :
    ∃ A n c B m k xs ys, v = .agg #[.slice A n c, .slice B m k] ∧ Ints W A n c xs ∧ Ints W B m k ys ∧ m ≤ 17592186044416 := by
  obtain ⟨cs, rfl, hsz⟩ := okWide_struct Try.underlying71 hv
  obtain ⟨fuel, hf⟩ := h
  have hl : cs.toList.length = 2 := by rw [Array.length_toList, hsz, cellsCase]
  obtain ⟨n, hg⟩ := struct_fields Try.underlying71 (by kernel_rfl) hf hw hl
  obtain ⟨v0, y0, e0, t0, w0⟩ := hg 0 _ rfl
  obtain ⟨v1, y1, e1, t1, w1⟩ := hg 1 _ rfl
  obtain ⟨A1, n1, c1, xs, h1, i1, b1⟩ := Ints.of_trod t0 w0
  obtain ⟨A2, n2, c2, ys, h2, i2, b2⟩ := Ints.of_trod t1 w1
  subst h1 h2
  obtain rfl := two_of hl e0 e1
  exact ⟨A1, n1, c1, A2, n2, c2, xs, ys, rfl, i1, i2, b2⟩
set_option maxRecDepth 100000 in
theorem caseOpOf {base : Nat} {v : Value} {d : DataW H} {p : List MemPlace} (hv : Value.okWide Try.prog W .any base 73 v) (h : DataW.Trod enc Try.prog W 0 (fun _ => true) true 73 v d p) (hw : ∀ x ∈ d.weights Try.prog 73, x ≤ reachBytes) :
    ∃ kd t : Int, v = .agg #[.int .i64 kd, .int .i64 t] := by
  obtain ⟨cs, rfl, hsz⟩ := okWide_struct Try.underlying73 hv
  obtain ⟨fuel, hf⟩ := h
  have hl : cs.toList.length = 2 := by rw [Array.length_toList, hsz, cellsCaseOp]
  obtain ⟨n, hg⟩ := struct_fields Try.underlying73 (by kernel_rfl) hf hw hl
  obtain ⟨v0, y0, e0, t0, _⟩ := hg 0 _ rfl
  obtain ⟨v1, y1, e1, t1, _⟩ := hg 1 _ rfl
  obtain ⟨x, hx, _, _⟩ := DataW.trod_int Try.underlying3 t0
  obtain ⟨y, hy, _, _⟩ := DataW.trod_int Try.underlying3 t1
  injection hx with hx
  injection hy with hy
  subst hx hy
  obtain rfl := two_of hl e0 e1
  exact ⟨x, y, rfl⟩
end
end Go.Proofs.Ytmhcinmadelaeaa
