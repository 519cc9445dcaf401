/- From a reading of an argument, as the rows tell it, to the words of this seat. Conditions: none. | From a reading of an argument to lists of lists. Conditions: none. -/
import Derived.Test.YtnfppolgaeibeaaOwn
import Derived.ProofKit
import Derived.OpenShut
import Derived.SizedLaws
import Derived.Deep.Slices
import Derived.Deep.Fields
import Derived.Lib.SmallJoins
import Derived.Test.YtnfppolgaeibeaaListW
namespace Go.Proofs.Ytnfppolgaeibeaa
open Go.ChangeShapes Go.WideShapes Go.ChangeAt Go.RowKit Go.Deep

section
variable {H : Type} {enc : TypeId × Value → H} {W : World}

/-- Type e reads by R: sz cells, so many bytes. -/
def ReadsAs {α : Type} (R : World → (Nat → Value) → α → Prop) (sz bytes e : Nat) : Prop :=
  Good R sz ∧ Try.prog.cellsOf e = sz ∧ Try.prog.bytesOf e = bytes ∧ 0 < bytes ∧
  ∀ {H : Type} (enc : TypeId × Value → H) (W : World) (fuel : Nat) (cs : List Value) (d : DataW H) (pl : List MemPlace), DataW.trod enc Try.prog W 0 (fun _ => true) true fuel e cs = some (d, pl) →
    (∀ x ∈ d.weights Try.prog e, x ≤ reachBytes) → cs.length = sz → ∃ x, R W (fun j => cs.getD j undef) x

theorem weightsAll_mem {e : TypeId} : ∀ {l : List (DataW H)} {d : DataW H}, d ∈ l → ∀ x ∈ d.weights Try.prog e, x ∈ DataW.weightsAll Try.prog e l
  | d0 :: l, d, hd, x, hx => by
    unfold DataW.weightsAll
    rw [List.mem_append]
    rcases List.mem_cons.1 hd with rfl | h
    · exact .inl hx
    · exact .inr (weightsAll_mem h x hx)

theorem add_none {b off : Nat} {s : Option Nat} {q : Nat} {w : World} {v : Value} (h : w.cell? ((⟨b, off, s⟩ : Addr).add q) = some v) (h0 : s = none) : w.cell? ⟨b, off + q, none⟩ = some v := by
  subst h0
  unfold Addr.add at h
  by_cases hq : q = 0
  · subst hq; simpa using h
  · rw [if_neg hq] at h; exact h

/-- A slice that came in. -/
theorem Sl.of_trod {α : Type} {R : World → (Nat → Value) → α → Prop} {t e sz bytes : Nat} (ht : Try.prog.underlying t = some (.slice e)) (hR : ReadsAs R sz bytes e) {fuel : Nat} {v : Value} {D : DataW H} {pl : List MemPlace}
    (h : DataW.trod enc Try.prog W 0 (fun _ => true) true fuel t [v] = some (D, pl)) (hw : ∀ x ∈ D.weights Try.prog t, x ≤ reachBytes) :
    ∃ A n c xs, v = .slice A n c ∧ Sl R sz W A n c xs ∧ c * bytes ≤ reachBytes := by
  obtain ⟨G, h1, h2, h3, h4⟩ := hR
  rcases open_slice ht h with ⟨hcs, hx⟩ | ⟨a, len, cap, m, fu, Dx, Pl, hcs, _, hl, hm, hmm, hx, hel⟩
  · injection hcs with hcs
    exact ⟨none, 0, 0, [], hcs, Sl.nil0, by omega⟩
  · injection hcs with hcs
    simp only [if_true] at hmm
    subst hmm
    injection hx with hx1 hx2
    subst hx1
    have hcap : m * bytes ≤ reachBytes := by
      have := hw _ (by
        unfold DataW.weights
        rw [ht]
        exact List.mem_cons_self ..)
      simp only [List.length_map, List.length_range, h2] at this
      rw [show len + (m - len) = m from by omega] at this
      exact this
    have hb : m ≤ 281474976710656 := by
      have : m * 1 ≤ m * bytes := Nat.mul_le_mul_left _ h3
      simp only [reachBytes] at hcap
      omega
    have key : ∀ i, i < len → ∃ x, ∃ cs' : List Value, (∀ j, j < sz → W.cell? (a.add (i * sz + j)) = some (cs'.getD j undef)) ∧ R W (fun j => cs'.getD j undef) x := by
      intro i hi
      obtain ⟨cs', hc, ht'⟩ := hel i (by omega)
      rw [h1] at hc
      obtain ⟨_, hcl, hat⟩ := World.cells?_some hc
      obtain ⟨x, hx⟩ := h4 enc W fu cs' _ _ ht' (fun y hy => hw y (by
        unfold DataW.weights
        rw [ht]
        refine List.mem_cons_of_mem _ (List.mem_append_left _ (weightsAll_mem (d := Dx i) ?_ y hy))
        exact List.mem_map.2 ⟨i, List.mem_range.2 hi, rfl⟩)) hcl
      refine ⟨x, cs', fun j hj => ?_, hx⟩
      rw [← add_add, hat j hj, List.getElem?_eq_getElem (by omega)]
      simp [List.getD, List.getElem?_eq_getElem (show j < cs'.length by omega)]
    have hxs : ∃ xs : List α, xs.length = len ∧ ∀ i x, xs[i]? = some x → ∃ cs' : List Value, (∀ j, j < sz → W.cell? (a.add (i * sz + j)) = some (cs'.getD j undef)) ∧ R W (fun j => cs'.getD j undef) x := by
      clear hcs hel hw hcap hb hl hm h
      induction len with
      | zero => exact ⟨[], rfl, fun i x hx => by simp at hx⟩
      | succ n ih =>
        obtain ⟨xs, hl, hxs⟩ := ih (fun i hi => key i (by omega))
        obtain ⟨x, hx⟩ := key n (by omega)
        refine ⟨xs ++ [x], by simp [hl], fun i y hy => ?_⟩
        by_cases hi : i < n
        · rw [List.getElem?_append_left (by omega)] at hy
          exact hxs i y hy
        · have hin : i = n := by
            have := (List.getElem?_eq_some_iff.1 hy).1
            simp at this
            omega
          subst hin
          rw [List.getElem?_append_right (by omega), hl, Nat.sub_self] at hy
          simp only [List.getElem?_cons_zero, Option.some.injEq] at hy
          subst hy
          exact hx
    obtain ⟨xs, hlen, hxs⟩ := hxs
    refine ⟨some a, len, m, xs, hcs, ⟨hlen, hl, hm, by omega, fun h => (by cases h), fun hn => ?_⟩, hcap⟩
    obtain ⟨b, off, s⟩ := a
    have h0 : xs[0]? = some (xs[0]'(by omega)) := List.getElem?_eq_getElem _
    obtain ⟨cs', hc', _⟩ := hxs 0 _ h0
    have hc0 := hc' 0 G.pos
    have hz : (⟨b, off, s⟩ : Addr).add (0 * sz + 0) = ⟨b, off, s⟩ := by simp [Addr.add]
    rw [hz] at hc0
    have hs : s = none := World.cell?_spot hc0
    refine ⟨b, off, by rw [hs], World.block_lt_of_cell? W _ hc0, fun i x hx => ?_⟩
    obtain ⟨cs'', hc'', hR''⟩ := hxs i x hx
    exact ⟨fun j => cs''.getD j undef, fun j hj => add_none (hc'' j hj) hs, hR''⟩

/-- A struct of one-cell fields. -/
theorem struct_fields {t : TypeId} {fs : Array Field} {fuel : Nat} {cs : List Value} {d : DataW H} {pl : List MemPlace} (hs : Try.prog.underlying t = some (.struct fs)) (hone : oneCellFields Try.prog fs = true)
    (h : DataW.trod enc Try.prog W 0 (fun _ => true) true fuel t cs = some (d, pl)) (hw : ∀ x ∈ d.weights Try.prog t, x ≤ reachBytes) (hl : cs.length = fs.size) :
    ∃ n, ∀ j f, fs[j]? = some f → ∃ v y, cs.getD j undef = v ∧ DataW.trod enc Try.prog W 0 (fun _ => true) true n f.type [v] = some y ∧ ∀ x ∈ y.1.weights Try.prog f.type, x ≤ reachBytes := by
  obtain ⟨xs, n, _, hx, _, hlen, hg⟩ := DataW.trod_struct hs h
  injection hx with hx1 hx2
  subst hx1
  refine ⟨n, fun j f hj => ?_⟩
  obtain ⟨ho, hk⟩ := hone_of hone j f hj
  have hjl : j < fs.size := (Array.getElem?_eq_some_iff.1 hj).1
  have h1 := hg j f hj
  rw [ho, hk] at h1
  have hv : (cs.drop j).take 1 = [cs.getD j undef] := by
    have e : cs.getD j undef = cs[j]'(by omega) := by rw [List.getD, List.getElem?_eq_getElem (show j < cs.length by omega)]; rfl
    rw [e, List.drop_eq_getElem_cons (by omega)]
    rfl
  rw [hv] at h1
  have hys : xs[j]? = some (xs[j]'(by omega)) := List.getElem?_eq_getElem (by omega)
  rw [hys] at h1
  refine ⟨_, _, rfl, h1, fun x hx => hw x ?_⟩
  unfold DataW.weights
  rw [hs]
  refine DataW.weights_mem_each (j := j) (t := f.type) (d := (xs[j]'(by omega)).1) ?_ ?_ x hx
  · simp [List.getElem?_map, Array.getElem?_toList, hj]
  · simp [List.getElem?_map, hys]

theorem readsInt : ReadsAs IntR 1 8 3 := by
  refine ⟨IntR.good, by kernel_rfl, by kernel_rfl, by omega, fun enc W fuel cs d pl h _ hl => ?_⟩
  obtain ⟨n, rfl, _, _⟩ := DataW.trod_int Try.underlying3 h
  exact ⟨n, rfl⟩

theorem Ints.of_trod {fuel : Nat} {v : Value} {D : DataW H} {pl : List MemPlace} (h : DataW.trod enc Try.prog W 0 (fun _ => true) true fuel 35 [v] = some (D, pl)) (hw : ∀ x ∈ D.weights Try.prog 35, x ≤ reachBytes) :
    ∃ A n c xs, v = .slice A n c ∧ Ints W A n c xs ∧ n ≤ 17592186044416 := by
  obtain ⟨A, n, c, xs, h1, h2, h3⟩ := Sl.of_trod Try.underlying35 readsInt h hw
  exact ⟨A, n, c, xs, h1, h2, by have := h2.le; simp only [reachBytes] at h3; omega⟩

theorem readsTran : ReadsAs TranR 3 56 78 := by
  refine ⟨TranR.good, by kernel_rfl, by kernel_rfl, by omega, fun enc W fuel cs d pl h hw hl => ?_⟩
  obtain ⟨n, hf⟩ := struct_fields Try.underlying78 (by kernel_rfl) h hw hl
  obtain ⟨v0, y0, e0, t0, w0⟩ := hf 0 _ rfl
  obtain ⟨v1, y1, e1, t1, w1⟩ := hf 1 _ rfl
  obtain ⟨v2, y2, e2, t2, w2⟩ := hf 2 _ rfl
  obtain ⟨l, hl0, _, _⟩ := DataW.trod_int Try.underlying3 t0
  obtain ⟨A1, n1, c1, xs, h1, i1, b1⟩ := Ints.of_trod t1 w1
  obtain ⟨A2, n2, c2, ys, h2, i2, b2⟩ := Ints.of_trod t2 w2
  injection hl0 with hl0
  exact ⟨⟨l, xs, ys⟩, by show cs.getD 0 undef = _; rw [e0, hl0], A1, n1, c1, A2, n2, c2, by show cs.getD 1 undef = _; rw [e1, h1], by show cs.getD 2 undef = _; rw [e2, h2], i1, i2, b1, b2⟩

theorem cellsNet : Try.prog.cellsOf 27 = 2 := by kernel_rfl
set_option maxRecDepth 100000 in
theorem netOf {base : Nat} {v : Value} {d : DataW H} {p : List MemPlace} (hv : Value.okWide Try.prog W .any base 27 v) (h : DataW.Trod enc Try.prog W 0 (fun _ => true) true 27 v d p) (hw : ∀ x ∈ d.weights Try.prog 27, x ≤ reachBytes) :
    ∃ P A n c ts, v = .agg #[.int .i64 P, .slice A n c] ∧ Trans W A n c ts ∧ n ≤ 2513169434916 := by
  obtain ⟨cs, rfl, hsz⟩ := okWide_struct Try.underlying27 hv
  obtain ⟨fuel, hf⟩ := h
  have hl : cs.toList.length = 2 := by rw [Array.length_toList, hsz, cellsNet]
  obtain ⟨n, hg⟩ := struct_fields Try.underlying27 (by kernel_rfl) hf hw hl
  obtain ⟨v0, y0, e0, t0, w0⟩ := hg 0 _ rfl
  obtain ⟨v1, y1, e1, t1, w1⟩ := hg 1 _ rfl
  obtain ⟨P, hP, _, _⟩ := DataW.trod_int Try.underlying3 t0
  obtain ⟨A, n, c, ts, hs, hS, hb⟩ := Sl.of_trod Try.underlying25 readsTran t1 w1
  injection hP with hP
  have hcs : cs = #[.int .i64 P, .slice A n c] := by
    have : cs.toList = [.int .i64 P, .slice A n c] := by
      match hcl : cs.toList, hl with
      | [a, b], _ =>
        have e0' : cs.toList.getD 0 undef = v0 := e0
        have e1' : cs.toList.getD 1 undef = v1 := e1
        rw [hcl] at e0' e1'
        have e2 : a = v0 := e0'
        have e3 : b = v1 := e1'
        rw [e2, e3, hP, hs]
    exact Array.toList_inj.1 (by rw [this])
  subst hcs
  exact ⟨P, A, n, c, ts, rfl, hS, by have := hS.le; simp only [reachBytes] at hb; omega⟩
end
end Go.Proofs.Ytnfppolgaeibeaa
namespace Go.Proofs.Ytnfppolgaeibeaa
open Go.ChangeShapes Go.WideShapes Go.ChangeAt Go.RowKit Go.Deep
section
variable {H : Type} {enc : TypeId × Value → H} {W : World}

theorem readsList : ReadsAs ListR 1 24 35 := by
  refine ⟨ListR.good, by kernel_rfl, by kernel_rfl, by omega, fun enc W fuel cs d pl h hw hl => ?_⟩
  match cs, hl with
  | [v], _ =>
    obtain ⟨A, n, c, xs, h1, i1, b1⟩ := Sl.of_trod Try.underlying35 readsInt h hw
    exact ⟨xs, A, n, c, h1, i1, by have := i1.le; simp only [reachBytes] at b1; omega⟩
end
end Go.Proofs.Ytnfppolgaeibeaa
