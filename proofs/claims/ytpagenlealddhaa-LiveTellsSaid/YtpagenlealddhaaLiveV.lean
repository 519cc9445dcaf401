/- From a reading of an argument to a space. Conditions: none. -/
import Derived.Test.YtpagenlealddhaaRead
import Derived.Test.YtpagenlealddhaaLiveA
namespace Go.Proofs.Ytpagenlealddhaa
open Go.ChangeShapes Go.WideShapes Go.ChangeAt Go.RowKit Go.Deep
section
variable {H : Type} {enc : TypeId × Value → H} {W : World}

theorem readsList : ReadsAs ListR 1 24 49 := by
  refine ⟨ListR.good, by kernel_rfl, by kernel_rfl, by omega, fun enc W fuel cs d pl h hw hl => ?_⟩
  match cs, hl with
  | [v], _ =>
    obtain ⟨A, n, c, xs, h1, i1, b1⟩ := Sl.of_trod Try.underlying49 readsInt h hw
    exact ⟨xs, A, n, c, h1, i1, by have := i1.le; simp only [reachBytes] at b1; omega⟩
theorem readsArc : ReadsAs ArcR 3 24 118 := by
  refine ⟨ArcR.good, by kernel_rfl, by kernel_rfl, by omega, fun enc W fuel cs d pl h hw hl => ?_⟩
  obtain ⟨n, hf⟩ := struct_fields Try.underlying118 (by kernel_rfl) h hw hl
  obtain ⟨v0, y0, e0, t0, _⟩ := hf 0 _ rfl
  obtain ⟨v1, y1, e1, t1, _⟩ := hf 1 _ rfl
  obtain ⟨v2, y2, e2, t2, _⟩ := hf 2 _ rfl
  obtain ⟨f, hf0, _, _⟩ := DataW.trod_int Try.underlying3 t0
  obtain ⟨t, ht0, _, hw0⟩ := DataW.trod_int Try.underlying3 t1
  obtain ⟨o, ho0, _, _⟩ := DataW.trod_int Try.underlying3 t2
  injection hf0 with hf0
  injection ht0 with ht0
  injection ho0 with ho0
  exact ⟨⟨f, t, o⟩, by show cs.getD 0 undef = _; rw [e0, hf0], by show cs.getD 1 undef = _; rw [e1, ht0], by show cs.getD 2 undef = _; rw [e2, ho0], hw0⟩
theorem twoCells {cs : Array Value} {v0 v1 : Value} (hl : cs.toList.length = 2) (e0 : cs.toList.getD 0 undef = v0) (e1 : cs.toList.getD 1 undef = v1) : cs = #[v0, v1] := by
  have : cs.toList = [v0, v1] := by
    match hcl : cs.toList, hl with
    | [a, b], _ =>
      rw [hcl] at e0 e1
      have e2 : a = v0 := e0
      have e3 : b = v1 := e1
      rw [e2, e3]
  exact Array.toList_inj.1 (by rw [this])
theorem cellsSpace : Try.prog.cellsOf 46 = 2 := by kernel_rfl
set_option maxRecDepth 100000 in
theorem spaceOf {base : Nat} {v : Value} {d : DataW H} {p : List MemPlace} (hv : Value.okWide Try.prog W .any base 46 v) (h : DataW.Trod enc Try.prog W 0 (fun _ => true) true 46 v d p) (hw : ∀ x ∈ d.weights Try.prog 46, x ≤ reachBytes) :
    ∃ A n c B m k xs ys, v = .agg #[.slice A n c, .slice B m k] ∧ Lists W A n c xs ∧ Arcs W B m k ys ∧ n ≤ 5864062014634 ∧ m ≤ 5864062014634 := by
  obtain ⟨cs, rfl, hsz⟩ := okWide_struct Try.underlying46 hv
  obtain ⟨fuel, hf⟩ := h
  have hl : cs.toList.length = 2 := by rw [Array.length_toList, hsz, cellsSpace]
  obtain ⟨n, hg⟩ := struct_fields Try.underlying46 (by kernel_rfl) hf hw hl
  obtain ⟨v0, y0, e0, t0, w0⟩ := hg 0 _ rfl
  obtain ⟨v1, y1, e1, t1, w1⟩ := hg 1 _ rfl
  obtain ⟨A1, n1, c1, xs, h1, i1, b1⟩ := Sl.of_trod Try.underlying43 readsList t0 w0
  obtain ⟨A2, n2, c2, ys, h2, i2, b2⟩ := Sl.of_trod Try.underlying44 readsArc t1 w1
  subst h1 h2
  obtain rfl := twoCells hl e0 e1
  exact ⟨A1, n1, c1, A2, n2, c2, xs, ys, rfl, i1, i2, by have := i1.le; simp only [reachBytes] at b1; omega, by have := i2.le; simp only [reachBytes] at b2; omega⟩
end
end Go.Proofs.Ytpagenlealddhaa
