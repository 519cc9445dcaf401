/- From a reading of an argument to bytes and things done at a desk; the bulk of a slice. Conditions: none. -/
import Derived.Test.YtpagenlealddhaaRead
import Derived.Test.YtpagenlealddhaaJourF
import Derived.Test.YtpagenlealddhaaRows
namespace Go.Proofs.Ytpagenlealddhaa
open Go.ChangeShapes Go.WideShapes Go.ChangeAt Go.RowKit Go.Deep
section
variable {H : Type} {enc : TypeId × Value → H} {W : World}

theorem readsByte : ReadsAs ByteR 1 1 5 := by
  refine ⟨ByteR.good, by kernel_rfl, by kernel_rfl, by omega, fun enc W fuel cs d pl h _ hl => ?_⟩
  obtain ⟨n, rfl, _, hwf⟩ := DataW.trod_int Try.underlying5 h
  have hr : 0 ≤ n ∧ n ≤ 255 := by simpa [Lit.wf, IntKind.min, IntKind.max, IntKind.signed, IntKind.bits] using hwf
  exact ⟨n.toNat, by show Value.int .u8 n = Value.int .u8 (n.toNat : Int); rw [Int.toNat_of_nonneg hr.1], by omega⟩
theorem one_bulk (d : DataW H) : 1 ≤ Rows.uptoBulk d := by
  cases d with
  | lit l => cases l <;> simp [Rows.uptoBulk]
  | nil => simp [Rows.uptoBulk]
  | ptr d => simp [Rows.uptoBulk]
  | slice elems spare => simp [Rows.uptoBulk]
  | agg parts => simp [Rows.uptoBulk]
  | iface t d => simp [Rows.uptoBulk]
  | map entries => simp [Rows.uptoBulk]
  | held h => simp [Rows.uptoBulk]
theorem length_bulk (l : List (DataW H)) : l.length ≤ Rows.uptoBulkAll l := by
  induction l with
  | nil => simp [Rows.uptoBulkAll]
  | cons x r ih => have := one_bulk x; simp only [Rows.uptoBulkAll, List.length_cons]; omega
/-- A slice has no more elements than its bulk. -/
theorem slice_bulk {t e : Nat} (ht : Try.prog.underlying t = some (.slice e)) {fuel : Nat} {A : Option Addr} {n c : Nat} {D : DataW H} {pl : List MemPlace}
    (h : DataW.trod enc Try.prog W 0 (fun _ => true) true fuel t [.slice A n c] = some (D, pl)) : n ≤ Rows.uptoBulk D := by
  rcases open_slice ht h with ⟨hcs, hx⟩ | ⟨a, len, cap, m, fu, Dx, Pl, hcs, _, _, _, _, hx, _⟩
  · injection hcs with hcs
    injection hcs with _ h2 _
    omega
  · injection hcs with hcs
    injection hcs with _ h2 _
    injection hx with hx _
    subst h2 hx
    have := length_bulk ((List.range n).map Dx)
    simp only [List.length_map, List.length_range] at this
    simp only [Rows.uptoBulk]
    omega
theorem fiveCells {cs : Array Value} {v0 v1 v2 v3 v4 : Value} (hl : cs.toList.length = 5) (e0 : cs.toList.getD 0 undef = v0) (e1 : cs.toList.getD 1 undef = v1) (e2 : cs.toList.getD 2 undef = v2) (e3 : cs.toList.getD 3 undef = v3) (e4 : cs.toList.getD 4 undef = v4) : cs = #[v0, v1, v2, v3, v4] := by
  have : cs.toList = [v0, v1, v2, v3, v4] := by
    match hcl : cs.toList, hl with
    | [a, b, c, d, e], _ =>
      rw [hcl] at e0 e1 e2 e3 e4
      have f0 : a = v0 := e0
      have f1 : b = v1 := e1
      have f2 : c = v2 := e2
      have f3 : d = v3 := e3
      have f4 : e = v4 := e4
      rw [f0, f1, f2, f3, f4]
  exact Array.toList_inj.1 (by rw [this])
theorem cellsDOp : Try.prog.cellsOf 23 = 5 := by kernel_rfl
set_option maxRecDepth 100000 in
theorem dopOf {base : Nat} {v : Value} {d : DataW H} {p : List MemPlace} (hv : Value.okWide Try.prog W .any base 23 v) (h : DataW.Trod enc Try.prog W 0 (fun _ => true) true 23 v d p) (hw : ∀ x ∈ d.weights Try.prog 23, x ≤ reachBytes) :
    ∃ o : POp, v = .agg #[.int .i64 o.kind, .int .i64 o.user, .int .i64 o.tran, .int .i64 o.item, .int .i64 o.to_] := by
  obtain ⟨cs, rfl, hsz⟩ := okWide_struct Try.underlying23 hv
  obtain ⟨fuel, hf⟩ := h
  have hl : cs.toList.length = 5 := by rw [Array.length_toList, hsz, cellsDOp]
  obtain ⟨n, hg⟩ := struct_fields Try.underlying23 (by kernel_rfl) hf hw hl
  obtain ⟨v0, y0, e0, t0, _⟩ := hg 0 _ rfl
  obtain ⟨v1, y1, e1, t1, _⟩ := hg 1 _ rfl
  obtain ⟨v2, y2, e2, t2, _⟩ := hg 2 _ rfl
  obtain ⟨v3, y3, e3, t3, _⟩ := hg 3 _ rfl
  obtain ⟨v4, y4, e4, t4, _⟩ := hg 4 _ rfl
  obtain ⟨k, hk, _, _⟩ := DataW.trod_int Try.underlying3 t0
  obtain ⟨u, hu, _, _⟩ := DataW.trod_int Try.underlying3 t1
  obtain ⟨t, ht, _, _⟩ := DataW.trod_int Try.underlying3 t2
  obtain ⟨i, hi, _, _⟩ := DataW.trod_int Try.underlying3 t3
  obtain ⟨o, ho, _, _⟩ := DataW.trod_int Try.underlying3 t4
  injection hk with hk
  injection hu with hu
  injection ht with ht
  injection hi with hi
  injection ho with ho
  exact ⟨⟨k, u, t, i, o⟩, by rw [fiveCells hl e0 e1 e2 e3 e4, hk, hu, ht, hi, ho]⟩
end
end Go.Proofs.Ytpagenlealddhaa
