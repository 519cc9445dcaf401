/- Texts melted into one: What lists of lists of integers read as. Conditions: none. | From a reading of an argument, as the rows tell it, to the words of this seat. Conditions: none. | From a reading of an argument to lists of lists. Conditions: none. | The plain law of turned nets and of runs. No program in sight. | What chapter 16 says, in plain Lean: cases, and what is done with them. Conditions: none. | What is done with a case, way by way. No program in sight. Conditions: none. | Append of a whole slice to a slice of the call's own; slices.Clone on integers and on transitions. Conditions: the lengths stay below what memory bears. | Append of new elements inside a region that draws its order; transitions whose lists are the call's own. Conditions: the lengths stay below what memory bears. -/
import Derived.Test.YtcopnfdknclhnaaGreatMineTellsK01
import Derived.ProofKit
import Derived.OpenShut
import Derived.SizedLaws
import Derived.Deep.Slices
import Derived.Deep.Fields
import Derived.Lib.SmallJoins
import Derived.Deep.AppendLies
namespace Go.Proofs.YtcopnfdknclhnaaGreat
open Go.RowKit

def ListR : World → (Nat → Value) → List Int → Prop := fun w vs xs => ∃ A n c, vs 0 = .slice A n c ∧ Ints w A n c xs ∧ n ≤ 17592186043904
theorem ListR.kept : Kept ListR := fun _ _ _ _ hb ⟨A, n, c, e, i, l⟩ => ⟨A, n, c, e, i.keep hb, l⟩
theorem ListR.good : Good ListR 1 where
  kept := ListR.kept
  one := fun w vs x h j hj => by
    obtain rfl : j = 0 := by omega
    obtain ⟨A, n, c, e, _⟩ := h
    rw [e]; rfl
  pos := by omega
abbrev Lists (w : World) (A : Option Addr) (n c : Nat) (xs : List (List Int)) : Prop := Sl ListR 1 w A n c xs
theorem Lists.get {w : World} {A : Option Addr} {n c k : Nat} {xs : List (List Int)} (h : Lists w A n c xs) (hk : k < n) :
    ∃ b off x B m d, A = some ⟨b, off, none⟩ ∧ b < w.heap.size ∧ Hid (xs[k]? = some x) ∧ w.cell? ⟨b, off + k, none⟩ = some (.slice B m d) ∧ Ints w B m d x ∧ m ≤ 17592186043904 := by
  obtain ⟨b, off, x, vs, h1, h2, h3, h4, B, m, d, e, i, l⟩ := Sl.get h hk
  refine ⟨b, off, x, B, m, d, h1, h2, h3, ?_, i, l⟩
  have := h4 0 (by omega)
  rw [e] at this
  simpa using this
end Go.Proofs.YtcopnfdknclhnaaGreat
namespace Go.Proofs.YtcopnfdknclhnaaGreat
open Go.ChangeShapes Go.WideShapes Go.ChangeAt Go.RowKit Go.Deep

section
variable {H : Type} {enc : TypeId × Value → H} {W : World}

/-- Type e reads by R: sz cells, so many bytes. -/
def ReadsAs {α : Type} (R : World → (Nat → Value) → α → Prop) (sz bytes e : Nat) : Prop :=
  Good R sz ∧ Tryz.prog.cellsOf e = sz ∧ Tryz.prog.bytesOf e = bytes ∧ 0 < bytes ∧
  ∀ {H : Type} (enc : TypeId × Value → H) (W : World) (fuel : Nat) (cs : List Value) (d : DataW H) (pl : List MemPlace), DataW.trod enc Tryz.prog W 0 (fun _ => true) true fuel e cs = some (d, pl) →
    (∀ x ∈ d.weights Tryz.prog e, x ≤ reachBytes) → cs.length = sz → ∃ x, R W (fun j => cs.getD j undef) x

theorem weightsAll_mem {e : TypeId} : ∀ {l : List (DataW H)} {d : DataW H}, d ∈ l → ∀ x ∈ d.weights Tryz.prog e, x ∈ DataW.weightsAll Tryz.prog e l
  | d0 :: l, d, hd, x, hx => by
    unfold DataW.weightsAll
    rw [List.mem_append]
    rcases List.mem_cons.1 hd with rfl | h
    · exact .inl hx
    · exact .inr (weightsAll_mem h x hx)

theorem add_none {b off : Nat} {s : Option Nat} {q : Nat} {w : World} {v : Value} (h : w.cell? ((⟨b, off, s⟩ : Addr).add q) = some v) (h0 : s = none) : w.cell? ⟨b, off + q, none⟩ = some v := by
  subst h0
  unfold Addr.add at h
  by_cases hq : q = 0
  · subst hq; simpa using h
  · rw [if_neg hq] at h; exact h

/-- A slice that came in. -/
theorem Sl.of_trod {α : Type} {R : World → (Nat → Value) → α → Prop} {t e sz bytes : Nat} (ht : Tryz.prog.underlying t = some (.slice e)) (hR : ReadsAs R sz bytes e) {fuel : Nat} {v : Value} {D : DataW H} {pl : List MemPlace}
    (h : DataW.trod enc Tryz.prog W 0 (fun _ => true) true fuel t [v] = some (D, pl)) (hw : ∀ x ∈ D.weights Tryz.prog t, x ≤ reachBytes) :
    ∃ A n c xs, v = .slice A n c ∧ Sl R sz W A n c xs ∧ c * bytes ≤ reachBytes := by
  obtain ⟨G, h1, h2, h3, h4⟩ := hR
  rcases open_slice ht h with ⟨hcs, hx⟩ | ⟨a, len, cap, m, fu, Dx, Pl, hcs, _, hl, hm, hmm, hx, hel⟩
  · injection hcs with hcs
    exact ⟨none, 0, 0, [], hcs, Sl.nil0, by omega⟩
  · injection hcs with hcs
    simp only [if_true] at hmm
    subst hmm
    injection hx with hx1 hx2
    subst hx1
    have hcap : m * bytes ≤ reachBytes := by
      have := hw _ (by
        unfold DataW.weights
        rw [ht]
        exact List.mem_cons_self ..)
      simp only [List.length_map, List.length_range, h2] at this
      rw [show len + (m - len) = m from by omega] at this
      exact this
    have hb : m ≤ 281474976710656 := by
      have : m * 1 ≤ m * bytes := Nat.mul_le_mul_left _ h3
      simp only [reachBytes] at hcap
      omega
    have key : ∀ i, i < len → ∃ x, ∃ cs' : List Value, (∀ j, j < sz → W.cell? (a.add (i * sz + j)) = some (cs'.getD j undef)) ∧ R W (fun j => cs'.getD j undef) x := by
      intro i hi
      obtain ⟨cs', hc, ht'⟩ := hel i (by omega)
      rw [h1] at hc
      obtain ⟨_, hcl, hat⟩ := World.cells?_some hc
      obtain ⟨x, hx⟩ := h4 enc W fu cs' _ _ ht' (fun y hy => hw y (by
        unfold DataW.weights
        rw [ht]
        refine List.mem_cons_of_mem _ (List.mem_append_left _ (weightsAll_mem (d := Dx i) ?_ y hy))
        exact List.mem_map.2 ⟨i, List.mem_range.2 hi, rfl⟩)) hcl
      refine ⟨x, cs', fun j hj => ?_, hx⟩
      rw [← add_add, hat j hj, List.getElem?_eq_getElem (by omega)]
      simp [List.getD, List.getElem?_eq_getElem (show j < cs'.length by omega)]
    have hxs : ∃ xs : List α, xs.length = len ∧ ∀ i x, xs[i]? = some x → ∃ cs' : List Value, (∀ j, j < sz → W.cell? (a.add (i * sz + j)) = some (cs'.getD j undef)) ∧ R W (fun j => cs'.getD j undef) x := by
      clear hcs hel hw hcap hb hl hm h
      induction len with
      | zero => exact ⟨[], rfl, fun i x hx => by simp at hx⟩
      | succ n ih =>
        obtain ⟨xs, hl, hxs⟩ := ih (fun i hi => key i (by omega))
        obtain ⟨x, hx⟩ := key n (by omega)
        refine ⟨xs ++ [x], by simp [hl], fun i y hy => ?_⟩
        by_cases hi : i < n
        · rw [List.getElem?_append_left (by omega)] at hy
          exact hxs i y hy
        · have hin : i = n := by
            have := (List.getElem?_eq_some_iff.1 hy).1
            simp at this
            omega
          subst hin
          rw [List.getElem?_append_right (by omega), hl, Nat.sub_self] at hy
          simp only [List.getElem?_cons_zero, Option.some.injEq] at hy
          subst hy
          exact hx
    obtain ⟨xs, hlen, hxs⟩ := hxs
    refine ⟨some a, len, m, xs, hcs, ⟨hlen, hl, hm, by omega, fun h => (by cases h), fun hn => ?_⟩, hcap⟩
    obtain ⟨b, off, s⟩ := a
    have h0 : xs[0]? = some (xs[0]'(by omega)) := List.getElem?_eq_getElem _
    obtain ⟨cs', hc', _⟩ := hxs 0 _ h0
    have hc0 := hc' 0 G.pos
    have hz : (⟨b, off, s⟩ : Addr).add (0 * sz + 0) = ⟨b, off, s⟩ := by simp [Addr.add]
    rw [hz] at hc0
    have hs : s = none := World.cell?_spot hc0
    refine ⟨b, off, by rw [hs], World.block_lt_of_cell? W _ hc0, fun i x hx => ?_⟩
    obtain ⟨cs'', hc'', hR''⟩ := hxs i x hx
    exact ⟨fun j => cs''.getD j undef, fun j hj => add_none (hc'' j hj) hs, hR''⟩

theorem readsInt : ReadsAs IntR 1 8 3 := by
  refine ⟨IntR.good, by kernel_rfl, by kernel_rfl, by omega, fun enc W fuel cs d pl h _ hl => ?_⟩
  obtain ⟨n, rfl, _, _⟩ := DataW.trod_int Tryz.underlying3 h
  exact ⟨n, rfl⟩

theorem Ints.of_trod {fuel : Nat} {v : Value} {D : DataW H} {pl : List MemPlace} (h : DataW.trod enc Tryz.prog W 0 (fun _ => true) true fuel 35 [v] = some (D, pl)) (hw : ∀ x ∈ D.weights Tryz.prog 35, x ≤ reachBytes) :
    ∃ A n c xs, v = .slice A n c ∧ Ints W A n c xs ∧ n ≤ 17592186044416 := by
  obtain ⟨A, n, c, xs, h1, h2, h3⟩ := Sl.of_trod Tryz.underlying35 readsInt h hw
  exact ⟨A, n, c, xs, h1, h2, by have := h2.le; simp only [reachBytes] at h3; omega⟩

end
end Go.Proofs.YtcopnfdknclhnaaGreat
namespace Go.Proofs.YtcopnfdknclhnaaGreat
open Go.ChangeShapes Go.WideShapes Go.ChangeAt Go.RowKit Go.Deep
section
variable {H : Type} {enc : TypeId × Value → H} {W : World}

theorem readsList : ReadsAs ListR 1 24 35 := by
  refine ⟨ListR.good, by kernel_rfl, by kernel_rfl, by omega, fun enc W fuel cs d pl h hw hl => ?_⟩
  match cs, hl with
  | [v], _ =>
    obtain ⟨A, n, c, xs, h1, i1, b1⟩ := Sl.of_trod Tryz.underlying35 readsInt h hw
    exact ⟨xs, A, n, c, h1, i1, by have := i1.le; simp only [reachBytes] at b1; omega⟩
end
end Go.Proofs.YtcopnfdknclhnaaGreat
namespace Go.Proofs.YtcopnfdknclhnaaGreat
end Go.Proofs.YtcopnfdknclhnaaGreat
namespace Go.Proofs.YtcopnfdknclhnaaGreat

structure PCase where
  mark : List Int
  busy : List Int
deriving Inhabited, DecidableEq
def PCase.nil : PCase := ⟨[], []⟩
end Go.Proofs.YtcopnfdknclhnaaGreat
namespace Go.Proofs.YtcopnfdknclhnaaGreat

end Go.Proofs.YtcopnfdknclhnaaGreat
namespace Go.Proofs.YtcopnfdknclhnaaGreat
open Go.RowKit

/-- Append of a slice (not nil) that reads as ys. -/
theorem wpList_appSl {α : Type} {R : World → (Nat → Value) → α → Prop} {t e size bytes : Nat} (T : SlTy t e size bytes) (G : Good R size) {ops : Array Oper} {rest : List Oper} {o : Oper} {a : Act} {Q : Exit → Act → World → Prop} (hgd : o.guard = none) (s x : Operand)
    (ho : o.op = .call { callee := .builtin .append, args := #[s, x], argTypes := #[t, t] })
    {w0 w : World} {B : Nat} {v : Value} {n m c : Nat} {ad : Addr} {xs ys : List α} (hs : a.eval s = v) (hx : a.eval x = .slice (some ad) m c)
    (own : OwnSl R size w B e v n xs) (src : Sl R size w (some ad) m c ys) (hb : Below B w0 w) (hB : B ≤ w.heap.size) (h63 : n + m ≤ 281474976710656) (hn : (n + m) * bytes ≤ 140737488355328)
    (hkeep : ∀ w', w.grownBy w' v.ownBlock → ∀ vs y, R w vs y → R w' vs y)
    (K : ∀ v' w', OwnSl R size w' B e v' (n + m) (xs ++ ys) → w.grownBy w' v.ownBlock → Below B w0 w' → wpList Tryz.prog ops Q rest (a.put o.dst v') w') :
    wpList Tryz.prog ops Q (o :: rest) a w := by
  obtain ⟨i, z, h1, h2, h3, h4, h5⟩ := T.info
  obtain ⟨cells, o1, o2, o3⟩ := own
  obtain ⟨ds, d1, d2, d3, d4, d5⟩ := src.flat G
  refine wpList_append_own _ hgd s x t ho B e i z size bytes T.und h1 h2 h3 h4 h5 T.pos v n cells hs o1 ad m c ds hx d1 (d3 ad rfl) d4 (by simp only [maxLen]; omega) hn hB (fun v' w' h6 h7 _ => ?_)
  refine K v' w' ⟨_, h6, ?_, by rw [List.length_append, o3, src.len]⟩ h7 (hb.grown h7 hB (fun k hk => (o1.lt k hk).1))
  have := o2.append d5
  exact ⟨this.1, fun i x hx => by obtain ⟨vs, a, b⟩ := this.2 i x hx; exact ⟨vs, a, hkeep _ h7 _ _ b⟩⟩

theorem OwnSl.empty {α : Type} {R : World → (Nat → Value) → α → Prop} {sz : Nat} {w : World} {B e : Nat} (hB : B ≤ w.heap.size) : OwnSl R sz (w.alloc (.cells #[] e)) B e (.slice (some ⟨w.heap.size, 0, none⟩) 0 0) 0 ([] : List α) :=
  ⟨[], World.ownsRow_made w #[] 0 hB (by simp [maxLen]) (by simp), Reads.nil, rfl⟩

/-- What a call answers that hands back a slice of its own. -/
def AnsOwn {α : Type} (R : World → (Nat → Value) → α → Prop) (sz e n : Nat) (xs : List α) (w : World) (e1 : Ending) (w' : World) : Prop :=
  ∃ v, e1 = .returned v ∧ OwnSl R sz w' w.heap.size e v n xs ∧ Below w.heap.size w w'

set_option maxRecDepth 100000 in
theorem cloneInts_calls {w : World} {A : Option Addr} {n c : Nat} {xs : List Int} (h : Ints w A n c xs) (hn : n ≤ 17592186044416) :
    Calls Tryz.prog 71 #[.slice A n c] w (AnsOwn IntR 1 3 n xs w) := by
  have HB := hide2 (show ∀ o, Below w.heap.size w (w.alloc o) from fun o => (Below.refl _ _).alloc (Nat.le_refl _) _)
  rcases A with _ | ad
  · have hc := h.nul rfl
    have hn0 : n = 0 := by have := h.le; omega
    subst hc hn0
    have hx := List.eq_nil_of_length_eq_zero h.len
    subst hx
    clear h
    have he := fun (w : World) => Lib.run_eql_slice_nil (P := Tryz.prog) w 35 3 none 0 0 0 0 Tryz.underlying35
    go_enter Tryz.func71, Tryz.ntmps71
    go_wp2
    go_ret
    exact ⟨_, rfl, OwnSl.nil, Below.refl _ _⟩
  · have H := hide2 h
    have O := hide2 (OwnSl.empty (R := IntR) (sz := 1) (w := w) (B := w.heap.size) (e := 3) (Nat.le_refl _))
    clear h
    have he := fun (w : World) => Lib.run_eql_slice_nil (P := Tryz.prog) w 35 3 (some ad) n c 0 0 Tryz.underlying35
    go_enter Tryz.func71, Tryz.ntmps71
    go_wp2_with (at_builtin; refine wpList_appSl tyInts IntR.good rfl _ _ rfl rfl rfl O.out (H.out.keep (HB.out _)) (HB.out _) (by simp) (by omega) (by omega) (fun _ _ _ _ h => h) ?_; intro v1 w1 own1 hg1 hb1)
    go_ret
    exact ⟨_, rfl, by simpa using own1, hb1⟩
end Go.Proofs.YtcopnfdknclhnaaGreat
namespace Go.Proofs.YtcopnfdknclhnaaGreat
open Go.RowKit

theorem OwnSl.base {α : Type} {R : World → (Nat → Value) → α → Prop} {sz : Nat} {w : World} {B B' e : Nat} {v : Value} {n : Nat} {xs : List α} (h : OwnSl R sz w B e v n xs) (hB : B' ≤ B) : OwnSl R sz w B' e v n xs := by
  obtain ⟨cells, ⟨h0, h1⟩, h2, h3⟩ := h
  refine ⟨cells, ⟨h0, ?_⟩, h2, h3⟩
  rcases h1 with h1 | ⟨g, cap, cur, hv, hg, r⟩
  · exact .inl h1
  · exact .inr ⟨g, cap, cur, hv, by omega, r⟩
/-- Two rows of different element types never share a block. -/
theorem own_ne {w : World} {B1 B2 e1 e2 s1 s2 n1 n2 : Nat} {v1 v2 : Value} {c1 c2 : List Value} (h1 : w.ownsRow B1 e1 s1 v1 n1 c1) (h2 : w.ownsRow B2 e2 s2 v2 n2 c2) (hne : e1 ≠ e2) : v1.ownBlock = none ∨ v1.ownBlock ≠ v2.ownBlock := by
  rcases h1.2 with ⟨rfl, _⟩ | ⟨g1, cap1, cur1, rfl, _, hh1, _⟩
  · exact .inl rfl
  · refine .inr (fun e => ?_)
    rcases h2.2 with ⟨rfl, _⟩ | ⟨g2, cap2, cur2, rfl, _, hh2, _⟩
    · simp [Value.ownBlock] at e
    · simp only [Value.ownBlock, Option.some.injEq] at e
      subst e
      rw [hh1] at hh2
      injection hh2 with hh2
      injection hh2 with _ ht
      exact hne ht

/-- A transition whose two lists are the call's own. -/
def OwnTranR (B : Nat) : World → (Nat → Value) → PTran → Prop := fun w vs t =>
  vs 0 = .int .i64 t.label ∧ ∃ n1 n2, OwnInts w B (vs 1) n1 t.pre ∧ OwnInts w B (vs 2) n2 t.post ∧ n1 ≤ 17592186044416 ∧ n2 ≤ 17592186044416
theorem OwnTranR.kept (B : Nat) : Kept (OwnTranR B) := fun _ _ _ _ hb ⟨h0, n1, n2, h1, h2, h3⟩ => ⟨h0, n1, n2, h1.keep IntR.kept hb, h2.keep IntR.kept hb, h3⟩
theorem OwnTranR.tran {B : Nat} {w : World} {vs : Nat → Value} {t : PTran} (h : OwnTranR B w vs t) : TranR w vs t := by
  obtain ⟨h0, n1, n2, h1, h2, h3, h4⟩ := h
  obtain ⟨A1, c1, e1, i1⟩ := h1.sl (by omega)
  obtain ⟨A2, c2, e2, i2⟩ := h2.sl (by omega)
  exact ⟨h0, A1, n1, c1, A2, n2, c2, e1, e2, i1, i2, h3, h4⟩
/-- A store that is none of the owned rows' blocks. -/
theorem OwnTranR.far {B : Nat} {w w' : World} {g : Nat} (hg : w.grownBy w' (some g)) (hlt : g < B) {vs : Nat → Value} {t : PTran} (h : OwnTranR B w vs t) : OwnTranR B w' vs t := by
  obtain ⟨h0, n1, n2, ⟨c1, a1, a2, a3⟩, ⟨c2, b1, b2, b3⟩, h3⟩ := h
  refine ⟨h0, n1, n2, ⟨c1, a1.kept hg (.inr (fun e => ?_)), ⟨a2.1, a2.2⟩, a3⟩, ⟨c2, b1.kept hg (.inr (fun e => ?_)), ⟨b2.1, b2.2⟩, b3⟩, h3⟩
  · have := (a1.lt g e).1; omega
  · have := (b1.lt g e).1; omega
end Go.Proofs.YtcopnfdknclhnaaGreat
