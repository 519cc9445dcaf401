/- slices.Clone on arcs; the test of live.Stuck; clear on a slice of arcs. Conditions: the slices read as lists. | clear on a slice of arcs. Conditions: the cells are there. | slices.DeleteFunc on arcs. Conditions: the slice is the call's own. | slices.DeleteFunc on arcs: the walk. Conditions: the slice is the call's own. | Stuck marks by the links of the arcs that are left: the plain law. Conditions: none. | The contract of live.Stuck. Conditions: the slices read as lists. -/
import Derived.Test.YtpagenlealddhaaLiveK
import Derived.Lib.SliceRun
import Derived.Lib.LazyBuf
import Derived.Test.YtpagenlealddhaaNetL
namespace Go.Proofs.Ytpagenlealddhaa
open Go.RowKit

theorem tyArcs : SlTy 44 118 3 24 := SlTy.mk' (z := .agg #[.int .i64 0, .int .i64 0, .int .i64 0]) Try.underlying44 (by kernel_rfl) rfl (by decide)
set_option maxRecDepth 100000 in
theorem cloneArcs_calls {w : World} {A : Option Addr} {n c : Nat} {xs : List PArc} (h : Arcs w A n c xs) (hn : n ≤ 5864062014805) :
    Calls Try.prog 71 #[.slice A n c] w (AnsOwn ArcR 3 118 n xs w) := by
  have HB := hide2 (show ∀ o, Below w.heap.size w (w.alloc o) from fun o => (Below.refl _ _).alloc (Nat.le_refl _) _)
  rcases A with _ | ad
  · have hc := h.nul rfl
    have hn0 : n = 0 := by have := h.le; omega
    subst hc hn0
    have hx := List.eq_nil_of_length_eq_zero h.len
    subst hx
    clear h
    have he := fun (w : World) => Lib.run_eql_slice_nil (P := Try.prog) w 44 118 none 0 0 0 0 Try.underlying44
    go_enter Try.func71, Try.ntmps71
    go_wp2
    go_ret
    exact ⟨_, rfl, OwnSl.nil, Below.refl _ _⟩
  · have H := hide2 h
    have O := hide2 (OwnSl.empty (R := ArcR) (sz := 3) (w := w) (B := w.heap.size) (e := 118) (Nat.le_refl _))
    clear h
    have he := fun (w : World) => Lib.run_eql_slice_nil (P := Try.prog) w 44 118 (some ad) n c 0 0 Try.underlying44
    go_enter Try.func71, Try.ntmps71
    go_wp2_with (at_builtin; refine wpList_appSl tyArcs ArcR.good rfl _ _ rfl rfl rfl O.out (Sl.keep ArcR.kept H.out (HB.out _)) (HB.out _) (by simp) (by omega) (by omega) (fun _ _ _ _ h => h) ?_; intro v1 w1 own1 hg1 hb1)
    go_ret
    exact ⟨_, rfl, by simpa using own1, hb1⟩
def fromBad (n : Nat) (a : PArc) : Bool := decide (a.from_ < 0) || decide ((n : Int) ≤ a.from_)
theorem stuck_pred {w : World} {bn n c m d : Nat} {A D : Option Addr} (x : Box w bn 46 #[.slice A n c, .slice D m d]) : IsPredA 72 #[.pointer (some ⟨bn, 0, none⟩)] w (fromBad n) where
  enters := fun args w => by kernel_rfl
  calls := fun wr a hb => by
    have bb := boxBelow wr (.cells #[.int .i64 a.from_, .int .i64 a.tran, .int .i64 a.to_] 118)
    obtain ⟨y1, _⟩ := ((x.keep hb).old (.cells #[.int .i64 a.from_, .int .i64 a.tran, .int .i64 a.to_] 118)).two
    have BB := hide2 bb
    obtain ⟨f, hf⟩ : ∃ x, a.from_ = x := ⟨_, rfl⟩
    have FN := hide2 (show fromBad n a = (decide (f < 0) || decide ((n : Int) ≤ f)) by rw [fromBad, hf])
    show Calls Try.prog 72 #[.agg #[.int .i64 a.from_, .int .i64 a.tran, .int .i64 a.to_], .pointer (some ⟨bn, 0, none⟩)] wr _
    rw [FN.out]
    rw [hf] at BB y1
    rw [hf]
    clear hb x bb hf
    by_cases h1 : f < 0
    · go_enter Try.func72, Try.ntmps72
      go_wp2
      go_ret
      exact ⟨ret_bool (by first | rfl | (simp; done) | (simp; omega)), BB.out⟩
    · go_enter Try.func72, Try.ntmps72
      go_wp2
      all_goals
        go_ret
        exact ⟨ret_bool (by first | rfl | (simp; done) | (simp; omega)), BB.out⟩
end Go.Proofs.Ytpagenlealddhaa
namespace Go.Proofs.Ytpagenlealddhaa
open Go.RowKit

def arcZ (n : Nat) : List Value := (Builtin.zeroCells (Value.agg #[.int .i64 0, .int .i64 0, .int .i64 0]).cells n).toList
theorem arcZ_len (n : Nat) : (arcZ n).length = n * 3 := by
  simp [arcZ, Builtin.zeroCells, Value.cells]
theorem arcZ_one {n : Nat} {v : Value} (h : v ∈ arcZ n) : v.oneCell' = true := by
  unfold arcZ Builtin.zeroCells at h
  rw [Array.toList_map, List.mem_map] at h
  obtain ⟨i, _, rfl⟩ := h
  show Value.oneCell' (#[Value.int .i64 0, .int .i64 0, .int .i64 0][i % 3]!) = true
  have h3 : i % 3 < 3 := Nat.mod_lt _ (by omega)
  generalize i % 3 = k at *
  match k, h3 with
  | 0, _ => rfl
  | 1, _ => rfl
  | 2, _ => rfl
theorem run_clear_arcs (w : World) (ty : TypeId) (b o n c : Nat) (hn : 0 < n) (hc : ∀ j, j < n * 3 → (w.cell? ⟨b, o + j, none⟩).isSome = true) (hf : ∀ j, j < n * 3 → w.frozen? ⟨b, o + j, none⟩ = false) :
    (Builtin.clear_ #[44] ty #[.slice (some ⟨b, o, none⟩) n c]).run Try.prog w = .ok (.tuple #[]) (w.setCells b o (arcZ n)) := by
  have hv : ∀ w, (zeroValue 118).run Try.prog w = .ok (.agg #[.int .i64 0, .int .i64 0, .int .i64 0]) w := fun w => by kernel_rfl
  have hst := run_storeCells_cells (P := Try.prog) b o (arcZ n) 0 w (by simpa [arcZ_len] using hc) (by simpa [arcZ_len] using hf) (fun v hv' => arcZ_one hv')
  simp only [Nat.add_zero] at hst
  obtain ⟨m, rfl⟩ : ∃ m, n = m + 1 := ⟨n - 1, by omega⟩
  unfold arcZ at hst ⊢
  simp [Builtin.clear_, run_underlying Try.underlying44, hv, hst]
end Go.Proofs.Ytpagenlealddhaa
namespace Go.Proofs.Ytpagenlealddhaa
open Go.RowKit

theorem IsPredA.later {F : FuncId} {cap : Array Value} {w w' : World} {p : PArc → Bool} (h : IsPredA F cap w p) (hb : Below w.heap.size w w') : IsPredA F cap w' p where
  enters := h.enters
  calls := fun wr a hb2 => h.calls wr a (hb.trans (hb2.mono hb.size))
abbrev OwnArcs (w : World) (B g n cap : Nat) (L : List PArc) : Prop := OwnSl ArcR 3 w B 118 (.slice (some ⟨g, 0, none⟩) n cap) n L
def putArc (w : World) (g i : Nat) (a : PArc) : World := ((w.setCell ⟨g, i * 3, none⟩ (.int .i64 a.from_)).setCell ⟨g, i * 3 + 1, none⟩ (.int .i64 a.tran)).setCell ⟨g, i * 3 + 2, none⟩ (.int .i64 a.to_)
theorem OwnArcs.put {w : World} {B g n cap i : Nat} {L : List PArc} {a : PArc} (h : OwnArcs w B g n cap L) (hi : i < n) (hw : (Lit.int .i64 a.tran).wf = true) : OwnArcs (putArc w g i a) B g n cap (L.set i a) := by
  obtain ⟨cells, h1, h2, h3⟩ := h
  have hl := h1.1
  refine ⟨_, ((((h1.stored (i * 3) (.int .i64 a.from_)).1.stored (i * 3 + 1) (.int .i64 a.tran)).1.stored (i * 3 + 2) (.int .i64 a.to_)).1), ⟨by simp [h2.1], fun q x hx => ?_⟩, by rw [List.length_set]; exact h3⟩
  by_cases e : q = i
  · subst e
    rw [List.getElem?_set_self (by omega)] at hx
    injection hx with hx
    subst hx
    refine ⟨fun j => match j with | 0 => .int .i64 a.from_ | 1 => .int .i64 a.tran | _ => .int .i64 a.to_, fun j hj => ?_, rfl, rfl, rfl, hw⟩
    match j, hj with
    | 0, _ =>
      rw [List.getElem?_set_ne (by omega), List.getElem?_set_ne (by omega)]
      exact List.getElem?_set_self (by omega)
    | 1, _ =>
      rw [List.getElem?_set_ne (by omega)]
      exact List.getElem?_set_self (by simp; omega)
    | 2, _ => exact List.getElem?_set_self (by simp; omega)
  · rw [List.getElem?_set_ne (fun e2 => e e2.symm)] at hx
    obtain ⟨vs, a1, a2⟩ := h2.2 q x hx
    refine ⟨vs, fun j hj => ?_, a2⟩
    rw [List.getElem?_set_ne (by omega), List.getElem?_set_ne (by omega), List.getElem?_set_ne (by omega)]
    exact a1 j hj
theorem OwnArcs.arcs {w : World} {B g n cap : Nat} {L : List PArc} (h : OwnArcs w B g n cap L) (hn : n ≤ 281474976710656) : Arcs w (some ⟨g, 0, none⟩) n cap L := by
  obtain ⟨A, c, e, s⟩ := OwnSl.sl h hn
  injection e with e1 e2 e3
  subst e1 e3
  exact s
/-- The state of DeleteFunc: so many kept, so many seen. -/
structure DelI (p : PArc → Bool) (ars L : List PArc) (i j : Nat) : Prop where
  len : L.length = ars.length
  le : i ≤ j
  kept : L.take i = (ars.take j).filter fun a => !p a
  rest : ∀ q, j ≤ q → L[q]? = ars[q]?
theorem DelI.skip {p : PArc → Bool} {ars L : List PArc} {i j : Nat} {a : PArc} (h : DelI p ars L i j) (ha : ars[j]? = some a) (hp : p a = true) : DelI p ars L i (j + 1) where
  len := h.len
  le := by have := h.le; omega
  kept := by rw [take_snoc ha, List.filter_append, h.kept]; simp [hp]
  rest := fun q hq => h.rest q (by omega)
theorem DelI.take {p : PArc → Bool} {ars L : List PArc} {i j : Nat} {a : PArc} (h : DelI p ars L i j) (ha : ars[j]? = some a) (hp : p a = false) : DelI p ars (L.set i a) (i + 1) (j + 1) where
  len := by rw [List.length_set]; exact h.len
  le := by have := h.le; omega
  kept := by
    have hj := (List.getElem?_eq_some_iff.1 ha).1
    have hl := h.len
    have hle := h.le
    rw [take_snoc ha, List.filter_append, ← h.kept, take_snoc (x := a) (List.getElem?_set_self (by omega)), List.take_set_of_le (Nat.le_refl _)]
    simp [hp]
  rest := fun q hq => by
    have := h.le
    rw [List.getElem?_set_ne (by omega)]
    exact h.rest q (by omega)
end Go.Proofs.Ytpagenlealddhaa
namespace Go.Proofs.Ytpagenlealddhaa
open Go.RowKit

theorem first_or (p : PArc → Bool) : ∀ ars : List PArc, (∀ (j : Nat) (y : PArc), ars[j]? = some y → p y = false) ∨ ∃ (k : Nat) (x : PArc), ars[k]? = some x ∧ p x = true ∧ ∀ (j : Nat), j < k → ∀ y, ars[j]? = some y → p y = false
  | [] => .inl fun j y h => by simp at h
  | a :: l => by
    cases h : p a
    · rcases first_or p l with h1 | ⟨k, x, h1, h2, h3⟩
      · refine .inl fun j y hy => ?_
        match j, hy with
        | 0, hy => simp only [List.getElem?_cons_zero, Option.some.injEq] at hy; rw [← hy]; exact h
        | j + 1, hy => exact h1 j y (by simpa using hy)
      · refine .inr ⟨k + 1, x, by simpa using h1, h2, fun j hj y hy => ?_⟩
        match j, hj, hy with
        | 0, _, hy => simp only [List.getElem?_cons_zero, Option.some.injEq] at hy; rw [← hy]; exact h
        | j + 1, hj, hy => exact h3 j (by omega) y (by simpa using hy)
    · exact .inr ⟨0, a, rfl, h, fun j hj => absurd hj (by omega)⟩
theorem filter_none {p : PArc → Bool} {l : List PArc} (h : ∀ (j : Nat) (y : PArc), l[j]? = some y → p y = false) : l.filter (fun a => !p a) = l := by
  rw [List.filter_eq_self]
  intro a ha
  obtain ⟨j, hj, rfl⟩ := List.getElem_of_mem ha
  rw [h j _ (List.getElem?_eq_getElem hj)]
  rfl
theorem DelI.start {p : PArc → Bool} {ars : List PArc} {k : Nat} {x : PArc} (hx : ars[k]? = some x) (hp : p x = true) (lo : ∀ (j : Nat), j < k → ∀ y, ars[j]? = some y → p y = false) : DelI p ars ars k (k + 1) where
  len := rfl
  le := by omega
  kept := by
    rw [take_snoc hx, List.filter_append, filter_none (fun j y hy => ?_)]
    · simp [hp]
    · rw [List.getElem?_take] at hy
      split at hy
      · exact lo j (by assumption) y hy
      · cases hy
  rest := fun q _ => rfl
theorem OwnArcs.frozen {w : World} {B g n cap : Nat} {L : List PArc} (h : OwnArcs w B g n cap L) (j : Nat) : w.frozen? ⟨g, j, none⟩ = false := by
  obtain ⟨cells, h1, _⟩ := h
  exact h1.frozenAt j
theorem OwnArcs.cellAny {w : World} {B g n cap : Nat} {L : List PArc} (h : OwnArcs w B g n cap L) {j : Nat} (hj : j < n * 3) : (w.cell? ⟨g, j, none⟩).isSome = true := by
  obtain ⟨cells, h1, _⟩ := h
  rw [h1.cellAt j hj, List.getElem?_eq_getElem (by have := h1.1; omega)]
  rfl
theorem Arcs.cut {w w' : World} {g n cap k : Nat} {L : List PArc} (h : Arcs w (some ⟨g, 0, none⟩) n cap L) (hk : k ≤ n) (hs : w.heap.size ≤ w'.heap.size) (hc : ∀ j, j < k * 3 → w'.cell? ⟨g, j, none⟩ = w.cell? ⟨g, j, none⟩) : Arcs w' (some ⟨g, 0, none⟩) k cap (L.take k) := by
  refine ⟨by rw [List.length_take, h.len]; omega, by have := h.le; omega, h.cap, by have := h.small; omega, fun e => (by cases e), fun hk0 => ?_⟩
  obtain ⟨b, off, e, hb, hcells⟩ := h.cells (by omega)
  injection e with e
  injection e with e1 e2
  subst e1 e2
  refine ⟨g, 0, rfl, Nat.lt_of_lt_of_le hb hs, fun i x hx => ?_⟩
  rw [List.getElem?_take] at hx
  split at hx
  · obtain ⟨vs, a1, a2⟩ := hcells i x hx
    refine ⟨vs, fun j hj => ?_, a2⟩
    rw [Nat.zero_add, hc _ (by omega), ← a1 j hj, Nat.zero_add]
  · cases hx
def AnsDel (w0 : World) (g : Nat) (l : List PArc) (e : Ending) (w' : World) : Prop := ∃ k c', e = .returned (.slice (some ⟨g, 0, none⟩) k c') ∧ Arcs w' (some ⟨g, 0, none⟩) k c' l ∧ Below w0.heap.size w0 w'

set_option maxRecDepth 100000 in
set_option maxHeartbeats 4000000 in
theorem deleteArcs_calls {w0 w : World} {g n cap : Nat} {ars : List PArc} {F : FuncId} {cv : Array Value} {p : PArc → Bool} (own : OwnArcs w w0.heap.size g n cap ars) (hn : n ≤ 5864062014805) (hb : Below w0.heap.size w0 w) (hp : IsPredA F cv w0 p) :
    Calls Try.prog 70 #[.slice (some ⟨g, 0, none⟩) n cap, .func (.func F) #[] cv] w (AnsDel w0 g (ars.filter fun a => !p a)) := by
  have henter := hp.enters
  have HP := hide2 hp
  have HB := hide2 hb
  have OW := hide2 own
  have hl := hide2 (show ars.length = n from OwnSl.len own)
  have hg := hide2 (show w0.heap.size ≤ g from (OwnSl.lt own g rfl).1)
  clear hb own hp
  rcases first_or p ars with h1 | ⟨k, x, hx, hpx, lo⟩
  · have FN := hide2 (filter_none h1)
    have IX := hide2 (show idxFirst p ars = -1 from idxFirst_none (fun j hj y hy => h1 j y hy))
    clear h1
    go_enter Try.func70, Try.ntmps70
    go_wp2_with (refine (indexArcs_calls (OwnArcs.arcs OW.out (by omega)) (HP.out.later HB.out)).mono ?_; rintro e w1 ⟨rfl, b1⟩; rw [IX.out]; have B1 := hide2 b1; clear b1)
    go_ret
    rw [FN.out]
    exact ⟨n, cap, rfl, Sl.keep ArcR.kept (OwnArcs.arcs OW.out (by omega)) B1.out, HB.out.trans (B1.out.mono HB.out.size)⟩
  · have IX := hide2 (show idxFirst p ars = (k : Int) from idxFirst_some lo hx hpx)
    have DI := hide2 (DelI.start hx hpx lo)
    have hkn : k < n := by have := (List.getElem?_eq_some_iff.1 hx).1; have := hl.out; omega
    have hk0 : ((k : Int) == -1) = false := by simp
    clear lo hx hpx
    go_enter Try.func70, Try.ntmps70
    go_wp2_with (refine (indexArcs_calls (OwnArcs.arcs OW.out (by omega)) (HP.out.later HB.out)).mono ?_; rintro e w1 ⟨rfl, b1⟩; rw [IX.out]; have B1 := hide2 (HB.out.trans (b1.mono HB.out.size)); have O1 := hide2 (OwnSl.keep ArcR.kept OW.out b1); clear b1)
    clear OW HB hk0
    go_loopw [5, 6] (fun u v wr => ∃ i j : Nat, u = .int .i64 i ∧ v = .int .i64 j ∧ i < j ∧ j ≤ n ∧ ∃ L, Hid (OwnArcs wr w0.heap.size g n cap L) ∧ Hid (DelI p ars L i j) ∧ Hid (Below w0.heap.size w0 wr)) (fun _ v _ => n - (intOf v).toNat)
    case atStart => exact ⟨k, k + 1, rfl, by go_num, by omega, by omega, ars, O1, DI, B1⟩
    case round =>
      obtain ⟨i, j, rfl, rfl, hij, hj, L, OL, DL, BR⟩ := hrel
      by_cases hlt : j < n
      · have hji : (j : Int) < (n : Int) := by omega
        have hii : (i : Int) < (n : Int) := by omega
        have hin : i < n := by omega
        obtain ⟨bl, off, a, ea, hbl, ha, q0, q1, q2, hwf⟩ := Arcs.get (OwnArcs.arcs OL.out (by omega)) hlt
        injection ea with ea
        injection ea with ea1 ea2
        subst ea1 ea2
        simp only [Nat.zero_add] at q0 q1 q2
        have HA := hide2 (show ars[j]? = some a by rw [← DL.out.rest j (Nat.le_refl _)]; exact ha.out)
        have bb := boxBelow wr (.cells #[.int .i64 a.from_, .int .i64 a.tran, .int .i64 a.to_] 118)
        have WA := hide2 (Box.new wr #[.int .i64 a.from_, .int .i64 a.tran, .int .i64 a.to_] 118)
        have BW := hide2 (BR.out.trans (bb.mono BR.out.size))
        have OX := hide2 (OwnSl.keep ArcR.kept OL.out bb)
        go_upto_region 8 with fail
        clear bb q0 q1 q2 BR OL
        generalize wr.alloc (.cells #[.int .i64 a.from_, .int .i64 a.tran, .int .i64 a.to_] 118) = u0 at *
        generalize wr.heap.size = bx at *
        obtain ⟨t0, t1, t2⟩ := WA.out.three
        have CL := hide2 (HP.out.calls u0 a BW.out)
        obtain ⟨v, hv⟩ : ∃ v, p a = v := ⟨_, rfl⟩
        have HV := hide2 hv
        rw [hv] at CL
        clear hv
        cases v
        · go_wp2_with (refine CL.out.mono ?_; rintro e u1 ⟨rfl, b1⟩; have B2 := hide2 (BW.out.trans (b1.mono BW.out.size)); have O2 := hide2 (OwnSl.keep ArcR.kept OX.out b1); clear t0 t1 t2; obtain ⟨t0, t1, t2⟩ := (WA.out.keep b1).three; obtain ⟨v0, y0⟩ := Option.isSome_iff_exists.1 (OwnArcs.cellAny O2.out (j := i * 3) (by omega)); obtain ⟨v1, y1⟩ := Option.isSome_iff_exists.1 (OwnArcs.cellAny O2.out (j := i * 3 + 1) (by omega)); obtain ⟨v2, y2⟩ := Option.isSome_iff_exists.1 (OwnArcs.cellAny O2.out (j := i * 3 + 2) (by omega)); have z0 := OwnArcs.frozen O2.out (i * 3); have z1 := OwnArcs.frozen O2.out (i * 3 + 1); have z2 := OwnArcs.frozen O2.out (i * 3 + 2); clear b1)
          go_roundw
          case rel => exact ⟨i + 1, j + 1, by go_num, by go_num, by omega, by omega, L.set i a, hide2 (OwnArcs.put O2.out hin hwf.out), DL.out.take HA.out HV.out, hide2 (((B2.out.setCell hg.out _).setCell hg.out _).setCell hg.out _)⟩
          case measure => simp [intOf]; omega
        · go_wp2_with (refine CL.out.mono ?_; rintro e u1 ⟨rfl, b1⟩; have B2 := hide2 (BW.out.trans (b1.mono BW.out.size)); have O2 := hide2 (OwnSl.keep ArcR.kept OX.out b1); clear b1)
          go_roundw
          case rel => exact ⟨i, j + 1, rfl, by go_num, by omega, by omega, L, O2, DL.out.skip HA.out HV.out, B2⟩
          case measure => simp [intOf]; omega
      · obtain rfl : n = j := by omega
        have hcl := hide2 (fun ty => run_clear_arcs wr ty g (i * 3) (n - i) (cap - i) (by omega) (fun q hq => OwnArcs.cellAny OL.out (by omega)) (fun q hq => OwnArcs.frozen OL.out _))
        have AR := hide2 (OwnArcs.arcs OL.out (by omega))
        have hcap := AR.out.le
        have e1 := hcl.out
        have hin1 : (i : Int) ≤ (n : Int) := by omega
        have hin2 : (i : Int) ≤ (cap : Int) := by omega
        have hnc : (n : Int) ≤ (cap : Int) := by omega
        have hc0 : ¬ cap = 0 := by omega
        have hci : ¬ cap = i := by omega
        have hii : i ≤ n := by omega
        have hii2 : i ≤ cap := by omega
        go_wp2
        go_ret
        have FN : L.take i = ars.filter fun a => !p a := by
          have := DL.out.kept
          rwa [List.take_of_length_le (l := ars) (by rw [hl.out]; exact Nat.le_refl _)] at this
        have SZ : wr.heap.size ≤ (wr.setCells g (i * 3) (arcZ (n - i))).heap.size := (below_setCells (B := 0) (Nat.zero_le _) _ _ _ (Below.refl 0 wr)).size
        have CUT := Arcs.cut AR.out hii SZ (fun q hq => World.cell?_setCells_out g _ _ _ _ (fun _ _ => .inl hq))
        rw [FN] at CUT
        exact ⟨i, cap, rfl, CUT, below_setCells hg.out _ _ _ BR.out⟩
end Go.Proofs.Ytpagenlealddhaa
namespace Go.Proofs.Ytpagenlealddhaa
open Go.RowKit

theorem left_in {n : Nat} {ars : List PArc} {a : PArc} (h : a ∈ ars.filter fun a => !fromBad n a) : Inn n a.from_ := by
  have := (List.mem_filter.1 h).2
  unfold fromBad at this
  simp only [Bool.not_eq_true', Bool.or_eq_false_iff, decide_eq_false_iff_not] at this
  unfold Inn
  omega
theorem stuck_iff {n k : Nat} {ars : List PArc} (hk : k < n) : (linkAt PArc.from_ PArc.to_ (ars.filter fun a => !fromBad n a) (k : Int)).length = 0 ↔ (ars.all fun a => a.from_ != (k : Int)) = true := by
  rw [List.length_eq_zero_iff]
  unfold linkAt
  rw [List.map_eq_nil_iff, List.filter_eq_nil_iff, List.all_eq_true]
  constructor
  · intro h a ha
    rw [bne_iff_ne]
    intro e
    refine h a (List.mem_filter.2 ⟨ha, ?_⟩) (by simpa using e)
    unfold fromBad
    simp only [Bool.not_eq_true', Bool.or_eq_false_iff, decide_eq_false_iff_not]
    omega
  · intro h a ha
    have := h a (List.mem_filter.1 ha).1
    rw [bne_iff_ne] at this
    simpa using this
end Go.Proofs.Ytpagenlealddhaa
namespace Go.Proofs.Ytpagenlealddhaa
open Go.RowKit

/-- What DeleteFunc answers on any slice of the call's own. -/
def AnsDelAny (w0 : World) (l : List PArc) (e : Ending) (w' : World) : Prop := ∃ A k c', e = .returned (.slice A k c') ∧ Arcs w' A k c' l ∧ Below w0.heap.size w0 w'
set_option maxRecDepth 100000 in
theorem deleteArcs_any {w0 w : World} {v : Value} {n : Nat} {ars : List PArc} {F : FuncId} {cv : Array Value} {p : PArc → Bool} (own : OwnSl ArcR 3 w w0.heap.size 118 v n ars) (hn : n ≤ 5864062014805) (hb : Below w0.heap.size w0 w) (hp : IsPredA F cv w0 p) :
    Calls Try.prog 70 #[v, .func (.func F) #[] cv] w (AnsDelAny w0 (ars.filter fun a => !p a)) := by
  obtain ⟨cells, o1, o2, o3⟩ := own
  rcases o1.2 with ⟨rfl, hc⟩ | ⟨g, cap, cur, rfl, hg⟩
  · have hn0 : n = 0 := by
      first
        | exact hc
        | (have := o1.1; simp_all)
    subst hn0
    have hx := List.eq_nil_of_length_eq_zero o3
    subst hx
    have henter := hp.enters
    have HP := hide2 hp
    have HB := hide2 hb
    clear o1 o2 o3 hb hp hc
    go_enter Try.func70, Try.ntmps70
    go_wp2_with (refine (indexArcs_calls (Sl.nil0 : Arcs w none 0 0 []) (HP.out.later HB.out)).mono ?_; rintro e w1 ⟨rfl, b1⟩; rw [show idxFirst p [] = -1 from rfl]; have B1 := hide2 b1; clear b1)
    go_ret
    exact ⟨none, 0, 0, rfl, Sl.nil0, HB.out.trans (B1.out.mono HB.out.size)⟩
  · exact (deleteArcs_calls ⟨cells, o1, o2, o3⟩ hn hb hp).mono fun e w' ⟨k, c', h1, h2, h3⟩ => ⟨_, k, c', h1, h2, h3⟩

set_option maxRecDepth 100000 in
set_option maxHeartbeats 2000000 in
theorem stuck_calls {w : World} {A D : Option Addr} {n c m d : Nat} {ms : List (List Int)} {ars : List PArc} (h : Lists w A n c ms) (g : Arcs w D m d ars) (hn : n ≤ 5864062014634) (hm : m ≤ 5864062014634) :
    Calls Try.prog 26 #[.agg #[.slice A n c, .slice D m d]] w (AnsIF (noneL PArc.from_ ars n).length (noneL PArc.from_ ars n) w) := by
  have HB := hide2 (boxBelow w (.cells #[.slice A n c, .slice D m d] 46))
  have X0 := hide2 (Box.new w #[.slice A n c, .slice D m d] 46)
  have H := hide2 (Sl.keep ListR.kept h HB.out)
  have G := hide2 (Sl.keep ArcR.kept g HB.out)
  have GL := hide2 g.len
  clear h g
  go_enter Try.func26, Try.ntmps26
  go_upto_region 1 with fail
  generalize w.alloc (.cells #[.slice A n c, .slice D m d] 46) = w0 at *
  generalize hbx : w.heap.size = bx at *
  have HX := hide2 hbx
  clear hbx
  obtain ⟨c0, c1⟩ := X0.out.two
  have KEEP := hide2 (show ∀ w', Below w0.heap.size w0 w' → w'.cell? ⟨bx, 0, none⟩ = some (.slice A n c) ∧ w'.cell? ⟨bx, 1, none⟩ = some (.slice D m d) from fun w' hb => (X0.out.keep hb).two)
  have DR := hide2 ((Below.refl w0.heap.size w0).drew)
  have XD := hide2 (X0.out.keep DR.out)
  have HD := hide2 (Sl.keep ListR.kept H.out DR.out)
  have GD := hide2 (Sl.keep ArcR.kept G.out DR.out)
  have HIN := hide2 (show ∀ (k : Nat) (a : PArc), (ars.filter fun a => !fromBad n a)[k]? = some a → 0 ≤ a.from_ ∧ a.from_ < (n : Int) from fun k a hk => left_in (List.mem_of_getElem? hk))
  go_region_held3 (fun w' => w'.cell? ⟨bx, 0, none⟩ = some (.slice A n c) ∧ w'.cell? ⟨bx, 1, none⟩ = some (.slice D m d))
    (first | go_keep)
    (first
      | (go_at_call 71; (with_reducible refine (cloneArcs_calls GD.out (by omega)).mono ?_); rintro e w1 ⟨v1, rfl, own1, hb⟩; have O1 := hide2 own1; have B1 := hide2 hb; have F1 := hide2 (DR.out.trans (hb.mono DR.out.size)); clear hb own1 c0 c1; obtain ⟨c0, c1⟩ := KEEP.out w1 F1.out)
      | (go_at_call 70; (with_reducible refine (deleteArcs_any O1.out (by omega) B1.out (stuck_pred XD.out)).mono ?_); rintro e w2 ⟨Al, k2, c2, rfl, g2, hb⟩; have G2 := hide2 g2; have B2 := hide2 hb; have F2 := hide2 (DR.out.trans (hb.mono DR.out.size)); clear hb g2 c0 c1; obtain ⟨c0, c1⟩ := KEEP.out w2 F2.out)
      | (go_at_call 66; (with_reducible refine (linksOn_calls (Sl.keep ListR.kept HD.out B2.out) G2.out hn (by have h1 := G2.out.len; have h2 := List.length_filter_le (fun a => !fromBad n a) ars; have h3 := GL.out; omega) HIN.out).mono ?_); rintro e w3 ⟨g3, rfl, lw, hb⟩; have LW := hide2 lw; have F3 := hide2 (F2.out.trans (hb.mono F2.out.size)); clear hb lw c0 c1; obtain ⟨c0, c1⟩ := KEEP.out w3 F3.out))
  all_goals
    clear c0 c1
    go_wp2
    go_loopw [4, 18] (fun u v wr => ∃ k : Nat, k ≤ n ∧ v = .int .i64 k ∧ Hid (OwnInts wr w3.heap.size u (noneL PArc.from_ ars k).length (noneL PArc.from_ ars k)) ∧ Hid (Below w3.heap.size w3 wr)) (fun _ v _ => n - (intOf v).toNat)
    case atStart => exact ⟨0, Nat.zero_le _, rfl, OwnSl.nil, Below.refl _ _⟩
    case round =>
      obtain ⟨k, hk, rfl, OW, BQ⟩ := hrel
      by_cases hlk : k < n
      · have hki : (k : Int) < (n : Int) := by omega
        have DS := hide2 (noneL_succ PArc.from_ ars k)
        have hdl := noneL_len PArc.from_ ars k
        obtain ⟨v, x, hx, hc, ov⟩ := (LW.out.keep BQ.out).get hlk
        obtain rfl : x = linkAt PArc.from_ PArc.to_ (ars.filter fun a => !fromBad n a) (k : Int) := by
          have h := linkL_get (key := PArc.from_) (val := PArc.to_) (ars := ars.filter fun a => !fromBad n a) hlk
          rw [h] at hx
          injection hx with hx
          exact hx.symm
        have SI := hide2 (stuck_iff (ars := ars) hlk)
        have hzl : (linkAt PArc.from_ PArc.to_ (ars.filter fun a => !fromBad n a) (k : Int)).length ≤ m := Nat.le_trans (linkAt_len _ _ _ _) (Nat.le_trans (List.length_filter_le _ _) (by rw [GL.out]; exact Nat.le_refl _))
        generalize linkAt PArc.from_ PArc.to_ (ars.filter fun a => !fromBad n a) (k : Int) = z at *
        obtain ⟨Az, cz, rfl, _⟩ := ov.sl (by omega)
        generalize z.length = L at *
        clear hx ov
        by_cases hL : L = 0
        · subst hL
          have D2 := hide2 (show noneL PArc.from_ ars (k + 1) = noneL PArc.from_ ars k ++ [(k : Int)] by rw [DS.out, if_pos (SI.out.1 rfl)])
          have HDL := hide2 (show (noneL PArc.from_ ars (k + 1)).length = (noneL PArc.from_ ars k).length + 1 by rw [D2.out]; simp)
          go_wp2_with (at_builtin; refine wpList_appInt rfl _ _ rfl rfl rfl (by first | rfl | simp) OW.out BQ.out BQ.out.size (by omega) ?_; intro v2 w4 own2' hg2 hb2'; have own2 := hide2 own2'; have hb2 := hide2 hb2'; clear own2' hg2 hb2')
          go_roundw
          case rel => exact ⟨k + 1, by omega, by go_num, by rw [HDL.out, D2.out]; exact own2, hb2⟩
          case measure => simp [intOf]; omega
        · have D2 := hide2 (show noneL PArc.from_ ars (k + 1) = noneL PArc.from_ ars k by rw [DS.out, if_neg (fun e => hL (SI.out.2 e)), List.append_nil])
          have hL2 : ((L : Int) == 0) = false := by simp; omega
          go_wp2
          go_roundw
          case rel => exact ⟨k + 1, by omega, by go_num, by rw [D2.out]; exact OW, BQ⟩
          case measure => simp [intOf]; omega
      · obtain rfl : n = k := by omega
        have hdl := noneL_len PArc.from_ ars n
        obtain ⟨Au, cu, hu, iu⟩ := OW.out.sl (by omega)
        have hbx := HX.out
        subst hbx
        have HW := hide2 (HB.out.trans (F3.out.mono HB.out.size))
        have FR := hide2 ((OW.out.fresh hu).mono HW.out.size)
        have IU := hide2 iu
        subst hu
        clear iu
        go_wp2
        go_ret
        exact ⟨Au, cu, rfl, IU.out, HW.out.trans (BQ.out.mono HW.out.size), FR.out⟩
end Go.Proofs.Ytpagenlealddhaa
