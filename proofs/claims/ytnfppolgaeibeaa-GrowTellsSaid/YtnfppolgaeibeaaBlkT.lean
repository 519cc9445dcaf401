/- From a reading of an argument to a tree of blocks. Conditions: none. -/
import Derived.Test.YtnfppolgaeibeaaRead
import Derived.Test.YtnfppolgaeibeaaBlkA
namespace Go.Proofs.Ytnfppolgaeibeaa
open Go.ChangeShapes Go.WideShapes Go.ChangeAt Go.RowKit Go.Deep

theorem BlkD.mono : ∀ (k j : Nat) (w : World) (vs : Nat → Value) (b : PBlk), k ≤ j → BlkD k w vs b → BlkD j w vs b
  | 0, _, _, _, _, _, h => h.elim
  | k + 1, j, w, vs, b, hj, h => by
    obtain ⟨j', rfl⟩ : ∃ j', j = j' + 1 := ⟨j - 1, by omega⟩
    obtain ⟨h0, h1, A, n, c, h2, h3⟩ := h
    refine ⟨h0, h1, A, n, c, h2, ⟨h3.len, h3.le, h3.cap, h3.small, h3.nul, fun hn => ?_⟩⟩
    obtain ⟨b', off, e, hb, hx⟩ := h3.cells hn
    refine ⟨b', off, e, hb, fun i x hi => ?_⟩
    obtain ⟨vs', a, r⟩ := hx i x hi
    exact ⟨vs', a, BlkD.mono k j' w vs' x (by omega) r⟩
/-- A block, of any depth. -/
def BlkS : World → (Nat → Value) → PBlk → Prop := fun w vs b => ∃ k, BlkD k w vs b
theorem BlkS.good : Good BlkS 3 where
  kept := fun _ _ _ _ hb ⟨k, h⟩ => ⟨k, BlkD.kept k _ _ _ _ hb h⟩
  one := fun w vs x h j hj => by
    obtain ⟨k, h⟩ := h
    match k, h with
    | k + 1, h =>
      obtain ⟨h0, h1, A, n, c, h2, _⟩ := h
      match j, hj with
      | 0, _ => rw [h0]; rfl
      | 1, _ => rw [h1]; rfl
      | 2, _ => rw [h2]; rfl
  pos := by omega
theorem blks_of {w : World} {A : Option Addr} {n c : Nat} {l : List PBlk} (h : Sl BlkS 3 w A n c l) : ∃ k, Blks k w A n c l := by
  by_cases hn : 0 < n
  · obtain ⟨b, off, e, hb, hx⟩ := h.cells hn
    have key : ∀ m, ∃ k, ∀ i x, i < m → l[i]? = some x → ∃ vs, (∀ q, q < 3 → w.cell? ⟨b, off + (i * 3 + q), none⟩ = some (vs q)) ∧ BlkD k w vs x := by
      intro m
      induction m with
      | zero => exact ⟨0, fun i x hi => by omega⟩
      | succ m ih =>
        obtain ⟨k, hk⟩ := ih
        cases hm : l[m]? with
        | none => exact ⟨k, fun i x hi hx' => by
            by_cases him : i = m
            · subst him; rw [hm] at hx'; cases hx'
            · exact hk i x (by omega) hx'⟩
        | some y =>
          obtain ⟨vs, a, k', r⟩ := hx m y hm
          refine ⟨max k k', fun i x hi hx' => ?_⟩
          by_cases him : i = m
          · subst him
            rw [hm] at hx'
            injection hx' with hx'
            subst hx'
            exact ⟨vs, a, BlkD.mono _ _ _ _ _ (Nat.le_max_right _ _) r⟩
          · obtain ⟨vs', a', r'⟩ := hk i x (by omega) hx'
            exact ⟨vs', a', BlkD.mono _ _ _ _ _ (Nat.le_max_left _ _) r'⟩
    obtain ⟨k, hk⟩ := key n
    exact ⟨k, h.len, h.le, h.cap, h.small, h.nul, fun _ => ⟨b, off, e, hb, fun i x hi => hk i x (by have := (List.getElem?_eq_some_iff.1 hi).1; have := h.len; omega) hi⟩⟩
  · exact ⟨0, h.len, h.le, h.cap, h.small, h.nul, fun h' => absurd h' hn⟩
section
variable {H : Type} {enc : TypeId × Value → H} {W : World}

/-- A slice that came in; its elements need read only where they are less of it. -/
theorem Sl.of_trodS {α : Type} {R : World → (Nat → Value) → α → Prop} {t e sz bytes : Nat} (ht : Try.prog.underlying t = some (.slice e)) (G : Good R sz) (h1 : Try.prog.cellsOf e = sz) (h2 : Try.prog.bytesOf e = bytes) (h3 : 0 < bytes) {fuel : Nat} {v : Value} {D : DataW H} {pl : List MemPlace}
    (h4 : ∀ (fuel : Nat) (cs : List Value) (d : DataW H) (pl : List MemPlace), SizeOf.sizeOf d < SizeOf.sizeOf D → DataW.trod enc Try.prog W 0 (fun _ => true) true fuel e cs = some (d, pl) → (∀ x ∈ d.weights Try.prog e, x ≤ reachBytes) → cs.length = sz → ∃ x, R W (fun j => cs.getD j undef) x)
    (h : DataW.trod enc Try.prog W 0 (fun _ => true) true fuel t [v] = some (D, pl)) (hw : ∀ x ∈ D.weights Try.prog t, x ≤ reachBytes) :
    ∃ A n c xs, v = .slice A n c ∧ Sl R sz W A n c xs ∧ c * bytes ≤ reachBytes := by
  rcases open_slice ht h with ⟨hcs, hx⟩ | ⟨a, len, cap, m, fu, Dx, Pl, hcs, _, hl, hm, hmm, hx, hel⟩
  · injection hcs with hcs
    exact ⟨none, 0, 0, [], hcs, Sl.nil0, by omega⟩
  · injection hcs with hcs
    simp only [if_true] at hmm
    subst hmm
    injection hx with hx1 hx2
    subst hx1
    have hcap : m * bytes ≤ reachBytes := by
      have := hw _ (by
        unfold DataW.weights
        rw [ht]
        exact List.mem_cons_self ..)
      simp only [List.length_map, List.length_range, h2] at this
      rw [show len + (m - len) = m from by omega] at this
      exact this
    have hb : m ≤ 281474976710656 := by
      have : m * 1 ≤ m * bytes := Nat.mul_le_mul_left _ h3
      simp only [reachBytes] at hcap
      omega
    have key : ∀ i, i < len → ∃ x, ∃ cs' : List Value, (∀ j, j < sz → W.cell? (a.add (i * sz + j)) = some (cs'.getD j undef)) ∧ R W (fun j => cs'.getD j undef) x := by
      intro i hi
      obtain ⟨cs', hc, ht'⟩ := hel i (by omega)
      rw [h1] at hc
      obtain ⟨_, hcl, hat⟩ := World.cells?_some hc
      have hmem : Dx i ∈ (List.range len).map Dx := List.mem_map.2 ⟨i, List.mem_range.2 hi, rfl⟩
      obtain ⟨x, hx⟩ := h4 fu cs' _ _ (by
        have := List.sizeOf_lt_of_mem hmem
        simp only [DataW.slice.sizeOf_spec]
        omega) ht' (fun y hy => hw y (by
        unfold DataW.weights
        rw [ht]
        exact List.mem_cons_of_mem _ (List.mem_append_left _ (weightsAll_mem (d := Dx i) hmem y hy)))) hcl
      refine ⟨x, cs', fun j hj => ?_, hx⟩
      rw [← add_add, hat j hj, List.getElem?_eq_getElem (by omega)]
      simp [List.getD, List.getElem?_eq_getElem (show j < cs'.length by omega)]
    have hxs : ∃ xs : List α, xs.length = len ∧ ∀ i x, xs[i]? = some x → ∃ cs' : List Value, (∀ j, j < sz → W.cell? (a.add (i * sz + j)) = some (cs'.getD j undef)) ∧ R W (fun j => cs'.getD j undef) x := by
      clear hcs hel hw hcap hb hl hm h h4
      induction len with
      | zero => exact ⟨[], rfl, fun i x hx => by simp at hx⟩
      | succ n ih =>
        obtain ⟨xs, hl, hxs⟩ := ih (fun i hi => key i (by omega))
        obtain ⟨x, hx⟩ := key n (by omega)
        refine ⟨xs ++ [x], by simp [hl], fun i y hy => ?_⟩
        by_cases hi : i < n
        · rw [List.getElem?_append_left (by omega)] at hy
          exact hxs i y hy
        · have hin : i = n := by
            have := (List.getElem?_eq_some_iff.1 hy).1
            simp at this
            omega
          subst hin
          rw [List.getElem?_append_right (by omega), hl, Nat.sub_self] at hy
          simp only [List.getElem?_cons_zero, Option.some.injEq] at hy
          subst hy
          exact hx
    obtain ⟨xs, hlen, hxs⟩ := hxs
    refine ⟨some a, len, m, xs, hcs, ⟨hlen, hl, hm, by omega, fun h => (by cases h), fun hn => ?_⟩, hcap⟩
    obtain ⟨b, off, s⟩ := a
    have h0 : xs[0]? = some (xs[0]'(by omega)) := List.getElem?_eq_getElem _
    obtain ⟨cs', hc', _⟩ := hxs 0 _ h0
    have hc0 := hc' 0 G.pos
    have hz : (⟨b, off, s⟩ : Addr).add (0 * sz + 0) = ⟨b, off, s⟩ := by simp [Addr.add]
    rw [hz] at hc0
    have hs : s = none := World.cell?_spot hc0
    refine ⟨b, off, by rw [hs], World.block_lt_of_cell? W _ hc0, fun i x hx => ?_⟩
    obtain ⟨cs'', hc'', hR''⟩ := hxs i x hx
    exact ⟨fun j => cs''.getD j undef, fun j hj => add_none (hc'' j hj) hs, hR''⟩
/-- A struct of one-cell fields; each is less of it. -/
theorem struct_fieldsS {t : TypeId} {fs : Array Field} {fuel : Nat} {cs : List Value} {d : DataW H} {pl : List MemPlace} (hs : Try.prog.underlying t = some (.struct fs)) (hone : oneCellFields Try.prog fs = true)
    (h : DataW.trod enc Try.prog W 0 (fun _ => true) true fuel t cs = some (d, pl)) (hw : ∀ x ∈ d.weights Try.prog t, x ≤ reachBytes) (hl : cs.length = fs.size) :
    ∃ n, ∀ j f, fs[j]? = some f → ∃ v y, cs.getD j undef = v ∧ DataW.trod enc Try.prog W 0 (fun _ => true) true n f.type [v] = some y ∧ (∀ x ∈ y.1.weights Try.prog f.type, x ≤ reachBytes) ∧ SizeOf.sizeOf y.1 < SizeOf.sizeOf d := by
  obtain ⟨xs, n, _, hx, _, hlen, hg⟩ := DataW.trod_struct hs h
  injection hx with hx1 hx2
  subst hx1
  refine ⟨n, fun j f hj => ?_⟩
  obtain ⟨ho, hk⟩ := hone_of hone j f hj
  have hjl : j < fs.size := (Array.getElem?_eq_some_iff.1 hj).1
  have h1 := hg j f hj
  rw [ho, hk] at h1
  have hv : (cs.drop j).take 1 = [cs.getD j undef] := by
    have e : cs.getD j undef = cs[j]'(by omega) := by rw [List.getD, List.getElem?_eq_getElem (show j < cs.length by omega)]; rfl
    rw [e, List.drop_eq_getElem_cons (by omega)]
    rfl
  rw [hv] at h1
  have hys : xs[j]? = some (xs[j]'(by omega)) := List.getElem?_eq_getElem (by omega)
  rw [hys] at h1
  refine ⟨_, _, rfl, h1, fun x hx => hw x ?_, ?_⟩
  · unfold DataW.weights
    rw [hs]
    refine DataW.weights_mem_each (j := j) (t := f.type) (d := (xs[j]'(by omega)).1) ?_ ?_ x hx
    · simp [List.getElem?_map, Array.getElem?_toList, hj]
    · simp [List.getElem?_map, hys]
  · have hmem : (xs[j]'(by omega)).1 ∈ xs.map (·.1) := List.mem_map.2 ⟨_, List.getElem_mem _, rfl⟩
    have := List.sizeOf_lt_of_mem hmem
    simp only [DataW.agg.sizeOf_spec]
    omega
theorem cellsBlk : Try.prog.cellsOf 24 = 3 := by kernel_rfl
theorem blk_fields {fuel : Nat} {cs : List Value} {d : DataW H} {pl : List MemPlace} (h : DataW.trod enc Try.prog W 0 (fun _ => true) true fuel 24 cs = some (d, pl)) (hw : ∀ x ∈ d.weights Try.prog 24, x ≤ reachBytes) (hl : cs.length = 3)
    (ih : ∀ (fuel : Nat) (cs : List Value) (d' : DataW H) (pl : List MemPlace), SizeOf.sizeOf d' < SizeOf.sizeOf d → DataW.trod enc Try.prog W 0 (fun _ => true) true fuel 24 cs = some (d', pl) → (∀ x ∈ d'.weights Try.prog 24, x ≤ reachBytes) → cs.length = 3 → ∃ b, BlkS W (fun j => cs.getD j undef) b) :
    ∃ kd lb A n c ks k, cs.getD 0 undef = .int .i64 kd ∧ cs.getD 1 undef = .int .i64 lb ∧ cs.getD 2 undef = .slice A n c ∧ Blks k W A n c ks := by
  obtain ⟨n, hg⟩ := struct_fieldsS Try.underlying24 (by kernel_rfl) h hw hl
  obtain ⟨v0, y0, e0, t0, _, _⟩ := hg 0 _ rfl
  obtain ⟨v1, y1, e1, t1, _, _⟩ := hg 1 _ rfl
  obtain ⟨v2, y2, e2, t2, w2, s2⟩ := hg 2 _ rfl
  obtain ⟨kd, hk, _, _⟩ := DataW.trod_int Try.underlying3 t0
  obtain ⟨lb, hb, _, _⟩ := DataW.trod_int Try.underlying3 t1
  obtain ⟨A, n2, c2, ks, hv, hS, _⟩ := Sl.of_trodS (R := BlkS) Try.underlying22 BlkS.good cellsBlk (bytes := 40) (by kernel_rfl) (by omega) (fun fuel cs d' pl hd => ih fuel cs d' pl (by omega)) t2 w2
  obtain ⟨k, hB⟩ := blks_of hS
  injection hk with hk
  injection hb with hb
  exact ⟨kd, lb, A, n2, c2, ks, k, by rw [e0, hk], by rw [e1, hb], by rw [e2, hv], hB⟩
theorem blk_trod : ∀ (N fuel : Nat) (cs : List Value) (d : DataW H) (pl : List MemPlace), SizeOf.sizeOf d < N → DataW.trod enc Try.prog W 0 (fun _ => true) true fuel 24 cs = some (d, pl) → (∀ x ∈ d.weights Try.prog 24, x ≤ reachBytes) → cs.length = 3 → ∃ b, BlkS W (fun j => cs.getD j undef) b
  | 0, _, _, _, _, hd, _, _, _ => by omega
  | N + 1, fuel, cs, d, pl, hd, h, hw, hl => by
    obtain ⟨kd, lb, A, n, c, ks, k, e0, e1, e2, hB⟩ := blk_fields h hw hl (fun fuel cs d' pl hd' => blk_trod N fuel cs d' pl (by omega))
    exact ⟨.mk kd lb ks, k + 1, e0, e1, A, n, c, e2, hB⟩
theorem three_of {cs : Array Value} {v0 v1 v2 : Value} (hl : cs.toList.length = 3) (e0 : cs.toList.getD 0 undef = v0) (e1 : cs.toList.getD 1 undef = v1) (e2 : cs.toList.getD 2 undef = v2) : cs = #[v0, v1, v2] := by
  have : cs.toList = [v0, v1, v2] := by
    match hcl : cs.toList, hl with
    | [a, b, c], _ =>
      rw [hcl] at e0 e1 e2
      have f0 : a = v0 := e0
      have f1 : b = v1 := e1
      have f2 : c = v2 := e2
      rw [f0, f1, f2]
  exact Array.toList_inj.1 (by rw [this])
set_option maxRecDepth 100000 in
theorem blockOf {base : Nat} {v : Value} {d : DataW H} {p : List MemPlace} (hv : Value.okWide Try.prog W .any base 24 v) (h : DataW.Trod enc Try.prog W 0 (fun _ => true) true 24 v d p) (hw : ∀ x ∈ d.weights Try.prog 24, x ≤ reachBytes) :
    ∃ kd lb A n c ks k, v = .agg #[.int .i64 kd, .int .i64 lb, .slice A n c] ∧ Blks k W A n c ks := by
  obtain ⟨cs, rfl, hsz⟩ := okWide_struct Try.underlying24 hv
  obtain ⟨fuel, hf⟩ := h
  have hl : cs.toList.length = 3 := by rw [Array.length_toList, hsz, cellsBlk]
  obtain ⟨kd, lb, A, n, c, ks, k, e0, e1, e2, hB⟩ := blk_fields hf hw hl (fun fuel cs d' pl _ => blk_trod _ fuel cs d' pl (Nat.lt_succ_self _))
  obtain rfl := three_of hl e0 e1 e2
  exact ⟨kd, lb, A, n, c, ks, k, rfl, hB⟩
end
end Go.Proofs.Ytnfppolgaeibeaa
