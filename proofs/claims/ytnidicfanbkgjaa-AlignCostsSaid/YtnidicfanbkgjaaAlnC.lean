/- The table of costs in memory, and the contract of better. Conditions: the table is the call's own. | The contract of the reference's UCost. Conditions: the net and the trace read as lists. -/
import Derived.Test.YtnidicfanbkgjaaAlnA
import Derived.Test.YtnidicfanbkgjaaCaseE
import Derived.Test.YtnidicfanbkgjaaBox
import Derived.OneCell
import Derived.Test.YtnidicfanbkgjaaAlnD
import Derived.Test.YtnidicfanbkgjaaHeld
namespace Go.Proofs.Ytnidicfanbkgjaa
open Go.RowKit

def OwnIs (w : World) (B g n : Nat) (xs : List Int) : Prop := w.ownsRow B 3 1 (.slice (some ⟨g, 0, none⟩) n n) n (xs.map (Value.int .i64))
section
variable {w w' : World} {B g n : Nat} {xs : List Int}
theorem OwnIs.len (h : OwnIs w B g n xs) : xs.length = n := by have := h.1; simpa using this
theorem OwnIs.lt (h : OwnIs w B g n xs) : B ≤ g ∧ g < w.heap.size := World.ownsRow.lt h g rfl
theorem OwnIs.at (h : OwnIs w B g n xs) {k : Nat} {x : Int} (hk : xs[k]? = some x) : w.cell? ⟨g, k, none⟩ = some (.int .i64 x) := by
  have hl := (List.getElem?_eq_some_iff.1 hk).1
  have := h.len
  rw [World.ownsRow.cellAt h k (by omega), List.getElem?_map, hk]; rfl
theorem OwnIs.frozen (h : OwnIs w B g n xs) (k : Nat) : w.frozen? ⟨g, k, none⟩ = false := World.ownsRow.frozenAt h k
theorem OwnIs.keep (h : OwnIs w B g n xs) (hb : Below w.heap.size w w') : OwnIs w' B g n xs :=
  World.ownsRow.kept h (row := none) ⟨hb.os, hb.tape, hb.output, hb.size, fun k hk _ => hb.block k hk⟩ (.inr (by simp [Value.ownBlock]))
theorem OwnIs.put (h : OwnIs w B g n xs) (k : Nat) (x : Int) : OwnIs (w.setCell ⟨g, k, none⟩ (.int .i64 x)) B g n (xs.set k x) := by
  have := (World.ownsRow.stored h k (.int .i64 x)).1
  rw [← List.map_set] at this
  exact this
theorem OwnIs.base {B' : Nat} (h : OwnIs w B g n xs) (hB : B' ≤ B) : OwnIs w B' g n xs := by
  refine ⟨h.1, ?_⟩
  rcases h.2 with e | ⟨g1, cap, cur, e1, e2, e3⟩
  · exact .inl e
  · exact .inr ⟨g1, cap, cur, e1, Nat.le_trans hB e2, e3⟩
theorem OwnIs.neRow {b m : Nat} {cells : List Value} (h : OwnIs w B b n xs) (hr : w.ownsRow B 25 1 (.slice (some ⟨g, 0, none⟩) m m) m cells) : b ≠ g := by
  intro e
  subst e
  rcases own_ne h hr (by decide) with e | e
  · cases e
  · exact e rfl
theorem OwnIs.ints (h : OwnIs w B g n xs) : OwnInts w B (.slice (some ⟨g, 0, none⟩) n n) n xs := OwnInts.of_row h
end
/-- A row lies in no box of another type. -/
theorem ownsRow_neBox {w : World} {B e sz n m bx g ty : Nat} {cells : List Value} {cs : Array Value} (h : w.ownsRow B e sz (.slice (some ⟨g, 0, none⟩) m n) m cells) (hx : Box w bx ty cs) (hne : e ≠ ty) : bx ≠ g := by
  intro e1
  subst e1
  rcases h.2 with ⟨e, _⟩ | ⟨g1, cap, cur, e, _, hh, _⟩
  · cases e
  · injection e with e1
    injection e1 with e1
    injection e1 with e1
    subst e1
    unfold Box at hx
    rw [hx] at hh
    injection hh with hh
    injection hh with _ ht
    exact hne ht.symm
def CosT (w : World) (B g K n : Nat) (M : List (List Int)) : Prop :=
  ∃ (cells : List Value) (bl : Nat → Nat), w.ownsRow B 25 1 (.slice (some ⟨g, 0, none⟩) K K) K cells ∧ M.length ≤ K ∧ (∀ (k : Nat) (x : List Int), M[k]? = some x → cells[k]? = some (.slice (some ⟨bl k, 0, none⟩) n n) ∧ OwnIs w B (bl k) n x) ∧
    (∀ k l : Nat, k < M.length → l < M.length → k ≠ l → bl k ≠ bl l)
section
variable {w w1 : World} {B g K n : Nat} {M : List (List Int)}
theorem CosT.made {cells : List Value} (h : w.ownsRow B 25 1 (.slice (some ⟨g, 0, none⟩) K K) K cells) : CosT w B g K n [] :=
  ⟨cells, fun _ => 0, h, Nat.zero_le _, fun k x hx => by simp at hx, fun k l hk => by simp at hk⟩
theorem CosT.keep (h : CosT w B g K n M) (hb : Below w.heap.size w w1) : CosT w1 B g K n M := by
  obtain ⟨cells, bl, h1, h2, h3, h4⟩ := h
  refine ⟨cells, bl, h1.kept (row := none) ⟨hb.os, hb.tape, hb.output, hb.size, fun k hk _ => hb.block k hk⟩ (.inr (by simp [Value.ownBlock])), h2, fun k x hx => ?_, h4⟩
  obtain ⟨a, b⟩ := h3 k x hx
  exact ⟨a, b.keep hb⟩
theorem CosT.base {B' : Nat} (h : CosT w B g K n M) (hB : B' ≤ B) : CosT w B' g K n M := by
  obtain ⟨cells, bl, h1, h2, h3, h4⟩ := h
  refine ⟨cells, bl, ⟨h1.1, ?_⟩, h2, fun k x hx => ?_, h4⟩
  · rcases h1.2 with e | ⟨g1, cap, cur, e1, e2, e3⟩
    · exact .inl e
    · exact .inr ⟨g1, cap, cur, e1, Nat.le_trans hB e2, e3⟩
  · obtain ⟨a, b⟩ := h3 k x hx
    exact ⟨a, b.base hB⟩
theorem CosT.lt (h : CosT w B g K n M) : B ≤ g ∧ g < w.heap.size := by
  obtain ⟨cells, bl, h1, _⟩ := h
  exact h1.lt g rfl
theorem CosT.row (h : CosT w B g K n M) : w.ownsRow B 25 1 (.slice (some ⟨g, 0, none⟩) K K) K (Classical.choose h) := (Classical.choose_spec (Classical.choose_spec h)).1
theorem CosT.frozen (h : CosT w B g K n M) (k : Nat) : w.frozen? ⟨g, k, none⟩ = false := by
  obtain ⟨cells, bl, h1, _⟩ := h
  exact h1.frozenAt k
theorem CosT.cellAny (h : CosT w B g K n M) {k : Nat} (hk : k < K) : ∃ v, w.cell? ⟨g, k, none⟩ = some v := by
  obtain ⟨cells, bl, h1, _⟩ := h
  refine ⟨_, (h1.cellAt k (by omega)).trans (List.getElem?_eq_getElem (by have := h1.1; omega))⟩
theorem CosT.get (h : CosT w B g K n M) {k : Nat} (hk : k < M.length) : ∃ b x, M[k]? = some x ∧ w.cell? ⟨g, k, none⟩ = some (.slice (some ⟨b, 0, none⟩) n n) ∧ OwnIs w B b n x := by
  obtain ⟨cells, bl, h1, h2, h3, _⟩ := h
  have hx : M[k]? = some (M[k]'hk) := List.getElem?_eq_getElem _
  obtain ⟨a, b⟩ := h3 k _ hx
  exact ⟨_, _, hx, by rw [h1.cellAt k (by omega)]; exact a, b⟩
/-- One row more. -/
theorem CosT.push (h : CosT w B g K n M) (hb : Below w.heap.size w w1) {b : Nat} {r : List Int} (own : OwnIs w1 B b n r) (hnew : w.heap.size ≤ b) (hn : M.length < K) :
    CosT (w1.setCell ⟨g, M.length, none⟩ (.slice (some ⟨b, 0, none⟩) n n)) B g K n (M ++ [r]) := by
  obtain ⟨cells, bl, h1, h2, h3, h4⟩ := h
  have r1 := h1.kept (row := none) (w' := w1) ⟨hb.os, hb.tape, hb.output, hb.size, fun k hk _ => hb.block k hk⟩ (.inr (by simp [Value.ownBlock]))
  have hcl := h1.1
  refine ⟨cells.set M.length (.slice (some ⟨b, 0, none⟩) n n), fun k => if k = M.length then b else bl k, (r1.stored M.length _).1, by rw [List.length_append]; exact hn, fun k x hx => ?_, fun k l hk hl hkl => ?_⟩
  · by_cases hk : k = M.length
    · subst hk
      rw [List.getElem?_append_right (Nat.le_refl _), Nat.sub_self] at hx
      simp only [List.getElem?_cons_zero, Option.some.injEq] at hx
      subst hx
      simp only [if_true]
      refine ⟨List.getElem?_set_self (by omega), ?_⟩
      exact ownsRow_setCell_other own (fun e => by simp only [Value.ownBlock, Option.some.injEq] at e; exact own.neRow r1 e) _
    · have hlt : k < M.length := by
        have := (List.getElem?_eq_some_iff.1 hx).1
        simp at this
        omega
      rw [List.getElem?_append_left hlt] at hx
      obtain ⟨a, c⟩ := h3 k x hx
      dsimp only
      rw [if_neg hk]
      refine ⟨by rw [List.getElem?_set_ne (fun e => hk e.symm)]; exact a, ?_⟩
      have c1 := c.keep hb
      exact ownsRow_setCell_other c1 (fun e => by simp only [Value.ownBlock, Option.some.injEq] at e; exact c1.neRow r1 e) _
  · have old : ∀ q, q < M.length → bl q ≠ b := fun q hq e => by
      have := (h3 q _ (List.getElem?_eq_getElem hq)).2.lt.2
      omega
    simp only [List.length_append, List.length_cons, List.length_nil] at hk hl
    dsimp only
    by_cases e1 : k = M.length
    · rw [if_pos e1, if_neg (by omega)]
      exact fun e => old l (by omega) e.symm
    · rw [if_neg e1]
      by_cases e2 : l = M.length
      · rw [if_pos e2]
        exact old k (by omega)
      · rw [if_neg e2]
        exact h4 k l (by omega) (by omega) hkl
/-- One number of one row turned. -/
theorem CosT.put (h : CosT w B g K n M) {k j b : Nat} {r : List Int} {c : Int} (hr : M[k]? = some r) (hc : w.cell? ⟨g, k, none⟩ = some (.slice (some ⟨b, 0, none⟩) n n)) : CosT (w.setCell ⟨b, j, none⟩ (.int .i64 c)) B g K n (M.set k (r.set j c)) := by
  obtain ⟨cells, bl, h1, h2, h3, h4⟩ := h
  have hk : k < M.length := (List.getElem?_eq_some_iff.1 hr).1
  obtain ⟨a, cr⟩ := h3 k r hr
  have hb : bl k = b := by
    rw [h1.cellAt k (by omega), a] at hc
    simpa using hc
  subst hb
  refine ⟨cells, bl, ownsRow_setCell_other h1 (fun e => by simp only [Value.ownBlock, Option.some.injEq] at e; exact cr.neRow h1 e.symm) _, by rw [List.length_set]; exact h2, fun q x hx => ?_, fun q l hq hl => h4 q l (by simpa using hq) (by simpa using hl)⟩
  by_cases e : q = k
  · subst e
    rw [List.getElem?_set_self hk] at hx
    injection hx with hx
    subst hx
    exact ⟨a, cr.put j c⟩
  · rw [List.getElem?_set_ne (fun e2 => e e2.symm)] at hx
    obtain ⟨a2, c2⟩ := h3 q x hx
    refine ⟨a2, ownsRow_setCell_other c2 (fun e2 => ?_) _⟩
    simp only [Value.ownBlock, Option.some.injEq] at e2
    exact h4 q k (List.getElem?_eq_some_iff.1 hx).1 hk e e2
theorem CosT.uniq {M' : List (List Int)} (h : CosT w B g K n M) (h' : CosT w B g K n M') (l : M.length = K) (l' : M'.length = K) : M = M' := by
  apply List.ext_getElem (by omega)
  intro k h1 h2
  obtain ⟨b, x, hx, hc, ho⟩ := h.get h1
  obtain ⟨b', x', hx', hc', ho'⟩ := h'.get h2
  rw [hc] at hc'
  simp only [Option.some.injEq, Value.slice.injEq, Addr.mk.injEq, and_true] at hc'
  subst hc'
  have e1 : M[k] = x := by rw [List.getElem?_eq_getElem h1] at hx; injection hx
  have e2 : M'[k] = x' := by rw [List.getElem?_eq_getElem h2] at hx'; injection hx'
  rw [e1, e2]
  apply List.ext_getElem (by rw [ho.len, ho'.len])
  intro j h3 h4
  have a1 := ho.at (List.getElem?_eq_getElem h3)
  have a2 := ho'.at (List.getElem?_eq_getElem h4)
  rw [a1] at a2
  simpa using a2
end


open Classical in
noncomputable def cosT (w : World) (B g K n : Nat) : Nat := if h : ∃ M, CosT w B g K n M ∧ M.length = K then sumT (Classical.choose h) else 0
theorem cosT_eq {w : World} {B g K n : Nat} {M : List (List Int)} (h : CosT w B g K n M) (l : M.length = K) : cosT w B g K n = sumT M := by
  have hex : ∃ M, CosT w B g K n M ∧ M.length = K := ⟨M, h, l⟩
  unfold cosT
  rw [dif_pos hex]
  obtain ⟨a, b⟩ := Classical.choose_spec hex
  rw [a.uniq h b l]


/-- What the reference holds while it looks for lower costs. -/
structure CosW (w0 w : World) (B g bc ba K n : Nat) (p : List (List Int) × Bool) : Prop where
  mat : CosT w B g K n p.1
  len : p.1.length = K
  boxC : Box w bc 34 #[.slice (some ⟨g, 0, none⟩) K K]
  boxA : Box w ba 4 #[.bool p.2]
  ge : B ≤ ba
  below : Below B w0 w
theorem CosW.keep {w0 w w' : World} {B g bc ba K n : Nat} {p : List (List Int) × Bool} (h : CosW w0 w B g bc ba K n p) (hb : Below w.heap.size w w') : CosW w0 w' B g bc ba K n p :=
  ⟨h.mat.keep hb, h.len, h.boxC.keep hb, h.boxA.keep hb, h.ge, h.below.trans (hb.mono (Nat.le_trans h.ge (Nat.le_of_lt h.boxA.lt)))⟩
/-- The flag alone is turned. -/
theorem CosW.flag {w0 w : World} {B g bc ba K n : Nat} {p : List (List Int) × Bool} (h : CosW w0 w B g bc ba K n p) (b : Bool) : CosW w0 (w.setCell ⟨ba, 0, none⟩ (.bool b)) B g bc ba K n (p.1, b) := by
  obtain ⟨cells, bl, h1, h2, h3, h4⟩ := h.mat
  refine ⟨⟨cells, bl, ownsRow_setCell_other h1 (fun e => ?_) _, h2, fun k x hx => ?_, h4⟩, h.len, h.boxC.other _ (fun e => ?_), by have := h.boxA.set 0 (.bool b); simpa using this, h.ge, h.below.setCell (p := ⟨ba, 0, none⟩) h.ge _⟩
  · simp only [Value.ownBlock, Option.some.injEq] at e
    exact ownsRow_neBox h1 h.boxA (by decide) e.symm
  · obtain ⟨a, c⟩ := h3 k x hx
    refine ⟨a, ownsRow_setCell_other c (fun e => ?_) _⟩
    simp only [Value.ownBlock, Option.some.injEq] at e
    exact ownsRow_neBox c h.boxA (by decide) e.symm
  · simp only at e
    have h1 := h.boxC
    have h2 := h.boxA
    subst e
    unfold Box at h1 h2
    rw [h1] at h2
    injection h2 with h2
    injection h2 with _ ht
    exact absurd ht (by decide)
/-- One cost is set. -/
theorem CosW.put {w0 w : World} {B g bc ba K n : Nat} {p : List (List Int) × Bool} (h : CosW w0 w B g bc ba K n p) {k m b : Nat} {r : List Int} (c : Int) (hr : p.1[k]? = some r) (hc : w.cell? ⟨g, k, none⟩ = some (.slice (some ⟨b, 0, none⟩) n n)) (ho : OwnIs w B b n r) : CosW w0 (w.setCell ⟨b, m, none⟩ (.int .i64 c)) B g bc ba K n (setT p.1 k m c, p.2) :=
  ⟨by rw [setT_eq hr]; exact h.mat.put hr hc, by rw [setT_eq hr, List.length_set]; exact h.len, h.boxC.other _ (ownsRow_neBox ho h.boxC (by decide)), h.boxA.other _ (ownsRow_neBox ho h.boxA (by decide)), h.ge, h.below.setCell (p := ⟨b, m, none⟩) ho.lt.1 _⟩
theorem betT_yes {p : List (List Int) × Bool} {k m : Nat} {c x : Int} (hx : atT p.1 k m = x) (h : c < x) : betT p k m c = (setT p.1 k m c, true) := by unfold betT; rw [hx, if_pos h]
theorem betT_no {p : List (List Int) × Bool} {k m : Nat} {c x : Int} (hx : atT p.1 k m = x) (h : ¬ c < x) : betT p k m c = p := by unfold betT; rw [hx, if_neg h]

set_option maxRecDepth 100000 in
set_option maxHeartbeats 2000000 in
theorem better_calls {w0 w : World} {B g bc ba K n : Nat} {p : List (List Int) × Bool} (h : CosW w0 w B g bc ba K n p) {k m : Nat} (hk : k < K) (hm : m < n) (c : Int) :
    Calls Try.prog 16 #[.int .i64 k, .int .i64 m, .int .i64 c, .pointer (some ⟨bc, 0, none⟩), .pointer (some ⟨ba, 0, none⟩)] w fun e w' => e = .returned (.tuple #[]) ∧ CosW w0 w' B g bc ba K n (betT p k m c) ∧ (∀ bx ty cs, Box w bx ty cs → 3 ≠ ty → bx ≠ ba → Box w' bx ty cs) := by
  obtain ⟨br, r, hr, hcell, ho⟩ := h.mat.get (k := k) (by rw [h.len]; exact hk)
  obtain ⟨x, hx⟩ : ∃ x, r[m]? = some x := ⟨_, List.getElem?_eq_getElem (by rw [ho.len]; exact hm)⟩
  have AT := hide2 (atT_eq hr hx)
  have q0 := h.boxC.cell 0
  have f0 := h.boxA.frozen 0
  have a0 := h.boxA.cell 0
  simp only [List.getElem?_toArray, List.getElem?_cons_zero] at q0 a0
  have x0 := ho.at hx
  have fx := ho.frozen m
  have hki : (k : Int) < (K : Int) := by omega
  have hmi : (m : Int) < (n : Int) := by omega
  by_cases hlt : c < x
  · have hne := ownsRow_neBox ho h.boxA (by decide)
    have P1 := hide2 (h.put (m := m) c hr hcell ho)
    have P2 := hide2 (P1.out.flag true)
    have EX := hide2 (show ∀ bx ty cs, Box w bx ty cs → 3 ≠ ty → bx ≠ ba → Box ((w.setCell ⟨br, m, none⟩ (.int .i64 c)).setCell ⟨ba, 0, none⟩ (.bool true)) bx ty cs from fun bx ty cs hb ht hn => Box.other (a := ⟨ba, 0, none⟩) (Box.other (a := ⟨br, m, none⟩) hb _ (show bx ≠ br from ownsRow_neBox ho hb ht)) _ hn)
    have BE := hide2 (betT_yes AT.out hlt)
    have f1 := P1.out.boxA.frozen 0
    have a1 := P1.out.boxA.cell 0
    simp only [List.getElem?_toArray, List.getElem?_cons_zero] at a1
    clear h hr hx ho
    go_enter Try.func16, Try.ntmps16
    go_wp2
    go_end0
    exact ⟨rfl, by rw [BE.out]; exact P2.out, EX.out⟩
  · have BE := hide2 (betT_no AT.out hlt)
    have HC := hide2 h
    clear h hr hx ho f0 fx a0
    go_enter Try.func16, Try.ntmps16
    go_wp2
    go_end0
    exact ⟨rfl, by rw [BE.out]; exact HC.out, fun _ _ _ hb _ _ => hb⟩
end Go.Proofs.Ytnidicfanbkgjaa
namespace Go.Proofs.Ytnidicfanbkgjaa
open Go.RowKit

theorem infoListI : (Try.prog.info? 25).map (fun i => (i.zero, i.size, i.bytes)) = some (some (.slice none 0 0), 1, 24) := by kernel_rfl
theorem startZ_full (n : Nat) : startZ n n = List.replicate n far := by
  apply List.ext_getElem (by simp [startZ])
  intro j h1 h2
  have hj : j < n := by simpa [startZ] using h1
  simp [startZ, hj, far]
theorem fars_put {n k m : Nat} : (fars n k ++ [startZ n m]).set k ((startZ n m).set m 1073741824) = fars n k ++ [startZ n (m + 1)] := by
  have hl : (fars n k).length = k := by simp [fars]
  rw [List.set_append_right k _ (by omega), hl, Nat.sub_self, startZ_succ]
  rfl
theorem fars_get {n k m : Nat} : (fars n k ++ [startZ n m])[k]? = some (startZ n m) := by
  have hl : (fars n k).length = k := by simp [fars]
  rw [List.getElem?_append_right (by omega), hl, Nat.sub_self]
  rfl
theorem CosW.newFlag {w0 w : World} {B g bc ba K n : Nat} {p : List (List Int) × Bool} (h : CosW w0 w B g bc ba K n p) : CosW w0 (w.alloc (.cells #[.bool p.2] 4)) B g bc w.heap.size K n p := by
  have bb := boxBelow w (.cells #[.bool p.2] 4)
  exact ⟨h.mat.keep bb, h.len, h.boxC.keep bb, Box.new _ _ _, Nat.le_trans h.ge (Nat.le_of_lt h.boxA.lt), h.below.trans (bb.mono (Nat.le_trans h.ge (Nat.le_of_lt h.boxA.lt)))⟩
def atPtr (v : Value) (w : World) : Value := match v with
  | .pointer (some a) => (w.cell? a).getD undef
  | _ => undef
def AnsCost (N : PNet) (i o : Int) (tr : List Int) (w : World) (e : Ending) (w' : World) : Prop :=
  ∃ c k, CostP N i o tr c k ∧ e = .returned (.tuple #[.int .i64 c, .int .i64 k]) ∧ Below w.heap.size w w'

set_option maxRecDepth 100000 in
set_option maxHeartbeats 16000000 in
theorem ucost_calls {w : World} {P : Int} {A Q : Option Addr} {n0 c l q0 : Nat} {ts : List PTran} {tr : List Int} (i o : Int) (h : Trans w A n0 c ts) (hn : n0 ≤ 2513169434916) (g : Ints w Q l q0 tr) :
    Calls Try.prog 5 #[.agg #[.int .i64 P, .slice A n0 c], .int .i64 i, .int .i64 o, .slice Q l q0] w (AnsCost ⟨P, ts⟩ i o tr w) := by
  generalize hw : w.alloc (.cells #[.int .i64 P, .slice A n0 c] 24) = w0
  have HB := hide2 (show Below w.heap.size w w0 by rw [← hw]; exact (Below.refl _ _).alloc (Nat.le_refl _) _)
  have X0 := hide2 (show Box w0 w.heap.size 24 #[.int .i64 P, .slice A n0 c] by rw [← hw]; exact Box.new _ _ _)
  have H := hide2 (h.keep HB.out)
  have CW := hide2 (lspace_calls (P := P) i o H.out hn)
  have hls := g.small
  have G := hide2 (Ints.keep g HB.out)
  have GL := hide2 (show tr.length = l from g.len)
  have TL := hide2 (show ts.length = n0 from h.len)
  clear h g
  obtain ⟨R, hR⟩ : ∃ R, tongS ⟨P, ts⟩ i o = R := ⟨_, rfl⟩
  have HR := hide2 hR
  rw [hR] at CW
  clear hR
  obtain ⟨a0, a1⟩ := X0.out.two
  have henter : ∀ args w, (callFunc 16 args).run Try.prog w = .ok (.enter 16 args) w := fun args w => by kernel_rfl
  go_enter Try.func5, Try.ntmps5
  go_upto_region 1 with fail
  clear hw
  obtain ⟨s, k⟩ := R
  obtain ⟨tv, htv⟩ : ∃ tv, toV (findL s.marks (endL ⟨P, ts⟩ o)) = tv := ⟨_, rfl⟩
  have HTV := hide2 htv
  replace CW := hide2 (show Calls Try.prog 15 #[.agg #[.int .i64 P, .slice A n0 c], .int .i64 i, .int .i64 o] w0 (fun e w' => ∃ U cu V cv, e = .returned (.tuple #[.agg #[.slice U s.marks.length cu, .slice V s.arcs.length cv], .int .i64 tv, .int .i64 k]) ∧ Lists w' U s.marks.length cu s.marks ∧ Arcs w' V s.arcs.length cv s.arcs ∧ Below w0.heap.size w0 w') by rw [← htv]; exact CW.out)
  clear htv
  go_upto_region 2 with (go_at_call 15; go_loud ((with_reducible refine CW.out.mono ?_); rintro e w1 ⟨U, cu, V, cv, rfl, hL, hA, hb1⟩; have L1 := hide2 hL; have A1 := hide2 hA; have B1 := hide2 hb1; clear hL hA hb1))
  have BX1 := hide2 (show Below w1.heap.size w1 (w1.alloc (.cells #[.slice U s.marks.length cu, .slice V s.arcs.length cv] 37)) from (Below.refl _ _).alloc (Nat.le_refl _) _)
  have X1 := hide2 (Box.new w1 #[.slice U s.marks.length cu, .slice V s.arcs.length cv] 37)
  clear a0 a1 CW
  generalize w1.alloc (.cells #[.slice U s.marks.length cu, .slice V s.arcs.length cv] 37) = w2 at *
  generalize hb8 : w1.heap.size = b8 at *
  have B2 := hide2 (B1.out.trans (BX1.out.mono (by have := B1.out.size; rw [hb8] at this; exact this)))
  have BX2 := hide2 (show Below w1.heap.size w1 w2 by rw [hb8]; exact BX1.out)
  have BW := hide2 (HB.out.trans (B2.out.mono HB.out.size))
  clear hb8
  by_cases hk : k = 0
  · subst hk
    by_cases hl60 : 60 < l
    · have CP := hide2 (costP_long HR.out (by rw [GL.out]; exact hl60))
      have hl60i : (60 : Int) < (l : Int) := by omega
      go_wp2
      go_ret2
      exact ⟨_, _, CP.out, rfl, BW.out⟩
    · have hl60i : ¬ (60 : Int) < (l : Int) := by omega
      cases hf : findL s.marks (endL ⟨P, ts⟩ o) with
      | none =>
        have CP := hide2 (costP_none HR.out (by rw [GL.out]; exact hl60) hf)
        obtain rfl : tv = -1 := by rw [← HTV.out, hf]; rfl
        clear hf
        go_wp2
        go_ret2
        exact ⟨_, _, CP.out, rfl, BW.out⟩
      | some j =>
        have CP := hide2 (fun (cc : Int) hm => costP_some (c := cc) HR.out (by rw [GL.out]; exact hl60) hf hm)
        obtain rfl : tv = (j : Int) := by rw [← HTV.out, hf]; rfl
        have HJ := hide2 (List.getElem?_eq_some_iff.1 (findL_some hf)).1
        have T := hide2 (tongS_ok HR.out)
        have SO := hide2 (tongS_sp HR.out)
        have hj0 : ¬ (j : Int) < 0 := by omega
        clear hf
        obtain ⟨n, hn0⟩ : ∃ n, s.marks.length = n := ⟨_, rfl⟩
        obtain ⟨m, hm0⟩ : ∃ m, s.arcs.length = m := ⟨_, rfl⟩
        have HN := hide2 hn0
        have HM := hide2 hm0
        rw [hn0] at L1 X1 HJ
        rw [hm0] at A1 X1
        clear hn0 hm0
        have hn300 : n ≤ 300 := by rw [← HN.out]; exact T.out.small
        have hnpos : 0 < n := by rw [← HN.out]; exact T.out.pos
        have hm7 : m ≤ 7200 := by rw [← HM.out]; exact T.out.few
        obtain ⟨K, hK⟩ : ∃ K, l + 1 = K := ⟨_, rfl⟩
        have hKi : ((l : Int) + 1) = (K : Int) := by omega
        have KL := hide2 (show tr.length + 1 = K by rw [GL.out]; exact hK)
        have hKb : K ≤ 61 := by omega
        have hK0 : 0 < K := by omega
        have hKl := hide2 hK
        clear hK
        go_upto_region 9 with (at_make; refine wpList_mk Try.underlying34 infoListI rfl rfl _ _ rfl K rfl rfl (by go_num) (by go_num) (by omega) (by omega) (Below.refl w2.heap.size w2) (Nat.le_refl _) ?_; intro w3 own3 hg3 hb3; have M3 := hide2 (CosT.made (n := n) own3); have B3 := hide2 hb3; clear own3 hg3 hb3)
        have X3 := hide2 (X1.out.keep B3.out)
        have N3 := hide2 (X0.out.keep B2.out)
        have bb := boxBelow w3 (.cells #[.slice (some ⟨w2.heap.size, 0, none⟩) K K] 34)
        have XC := hide2 (Box.new w3 #[.slice (some ⟨w2.heap.size, 0, none⟩) K K] 34)
        have M4 := hide2 (M3.out.keep bb)
        have B4 := hide2 (B3.out.trans (bb.mono B3.out.size))
        clear bb X3
        generalize w3.alloc (.cells #[.slice (some ⟨w2.heap.size, 0, none⟩) K K] 34) = w4 at *
        generalize w3.heap.size = bc at *
        obtain ⟨wo, hwo⟩ : ∃ wo : World, wo = w4 := ⟨_, rfl⟩
        subst hwo
        have q0 := XC.out.cell 0
        simp only [List.getElem?_toArray, List.getElem?_cons_zero] at q0
        go_wp2
        clear q0
        go_loopw [53] (fun v wr => ∃ k : Nat, k ≤ K ∧ v = .int .i64 k ∧ Hid (CosT wr w2.heap.size w2.heap.size K n (fars n k)) ∧ Hid (Box wr bc 34 #[.slice (some ⟨w2.heap.size, 0, none⟩) K K]) ∧ Hid (Below w2.heap.size w2 wr)) (fun v _ => K - (intOf v).toNat)
        case atStart => exact ⟨0, Nat.zero_le _, rfl, M4, XC, B4⟩
        case round =>
          clear M4 XC B4
          obtain ⟨k, hk, rfl, MW, XC, BR⟩ := hrel
          by_cases hlt : k < K
          · have hki : (k : Int) < (K : Int) := by omega
            have DRW := hide2 ((Below.refl wr.heap.size wr).drew)
            have MD := hide2 (MW.out.keep DRW.out)
            have XD := hide2 (XC.out.keep DRW.out)
            have BD := hide2 (BR.out.trans (DRW.out.mono BR.out.size))
            obtain ⟨s0, s1⟩ := (X1.out.keep BD.out).two
            have q0 := XD.out.cell 0
            simp only [List.getElem?_toArray, List.getElem?_cons_zero] at q0
            go_upto_region 12 with fail
            refine wp_region_scr 7 (.takes [0, 1, 2, 3, 4] (.one 5 (.take 6 (.fin 7 .done)))) (fun w' => w'.cell? ⟨bc, 0, none⟩ = some (.slice (some ⟨w2.heap.size, 0, none⟩) K K) ∧ w'.cell? ⟨b8, 0, none⟩ = some (.slice U n cu)) (by kernel_rfl) (by kernel_rfl) (by kernel_rfl) (fun _ _ _ _ _ h => h) ⟨q0, s0⟩ (fun hHeld => ?_)
            simp only [Scr.takes]
            generalize wr.drew = u0 at *
            iterate 5
              refine tkTake (v := ?_) rfl (by rfl) hHeld (fun w' hSw => ?_) ?_
              rotate_left
              · (go_simp; try with_reducible rfl)
              try simp only [Act.put, List.setIfInBounds_toArray, List.set_cons_zero, List.set_cons_succ]
            refine tkOne rfl (fun Kf hKf => ?_)
            refine step_mk Try.underlying25 infoInt rfl rfl _ _ rfl n rfl rfl rfl rfl (by omega) (by omega) (Below.refl u0.heap.size u0) (Nat.le_refl _) ?_
            intro w5 own5 hg5 hb5
            have OB := hide2 (show OwnIs w5 u0.heap.size u0.heap.size n (startZ n 0) by unfold OwnIs; rw [startZ_zero, List.map_replicate]; exact own5)
            have B5 := hide2 hb5
            have XE := hide2 (XD.out.keep B5.out)
            have SE := hide2 ((X1.out.keep BD.out).keep B5.out)
            have hfl : (fars n k).length = k := by simp [fars]
            have mf := (MD.out.keep B5.out).frozen k
            obtain ⟨v0, mc⟩ := (MD.out.keep B5.out).cellAny hlt
            have MP := MD.out.push B5.out (OB.out.base BD.out.size) (Nat.le_refl _) (by rw [hfl]; exact hlt)
            rw [hfl] at MP
            have MP2 := hide2 MP
            have hne := ownsRow_neBox MD.out.row XD.out (by decide)
            have XF := hide2 (XE.out.other (a := ⟨w2.heap.size, k, none⟩) (.slice (some ⟨u0.heap.size, 0, none⟩) n n) hne)
            have B6 := hide2 (show Below w2.heap.size w2 (w5.setCell ⟨w2.heap.size, k, none⟩ (.slice (some ⟨u0.heap.size, 0, none⟩) n n)) from (BD.out.trans (B5.out.mono BD.out.size)).setCell (Nat.le_refl _) _)
            have r0 := XE.out.cell 0
            obtain ⟨r1, _⟩ := SE.out.two
            simp only [List.getElem?_toArray, List.getElem?_cons_zero] at r0
            clear own5 hg5 hb5 MP hne
            refine hKf.out _ _ ⟨r0, r1⟩ (fun hHeld => ?_)
            clear hKf
            simp only [Act.put, List.setIfInBounds_toArray, List.set_cons_zero, List.set_cons_succ]
            refine tkTake (v := ?_) rfl (by rfl) hHeld (fun w' hSw => ?_) ?_
            rotate_left
            · (go_simp; try with_reducible rfl)
            simp only [Act.put, List.setIfInBounds_toArray, List.set_cons_zero, List.set_cons_succ]
            refine tkEnd rfl (fun Kf hKf => ?_)
            go_simp
            refine hKf.out _ _ ?_
            clear hKf
            refine tkDone ?_
            clear r0 r1 q0 s0 s1 mf mc hHeld
            generalize w5.setCell ⟨w2.heap.size, k, none⟩ (.slice (some ⟨u0.heap.size, 0, none⟩) n n) = w6 at *
            have MP3 := hide2 (show CosT w6 w2.heap.size w2.heap.size K n (fars n k ++ [startZ n 0]) from MP2.out)
            clear MP2 MD XD BD XE SE B5 OB DRW MW XC BR
            have q0 := XF.out.cell 0
            simp only [List.getElem?_toArray, List.getElem?_cons_zero] at q0
            obtain ⟨br, x, hx, hc, ho⟩ := MP3.out.get (k := k) (by simp [fars])
            clear hx ho
            go_wp2
            clear q0 hc
            go_loopw [68] (fun v wr => ∃ m : Nat, m ≤ n ∧ v = .int .i64 m ∧ Hid (CosT wr w2.heap.size w2.heap.size K n (fars n k ++ [startZ n m])) ∧ Hid (Box wr bc 34 #[.slice (some ⟨w2.heap.size, 0, none⟩) K K]) ∧ Hid (Below w2.heap.size w2 wr)) (fun v _ => n - (intOf v).toNat)
            case atStart => exact ⟨0, Nat.zero_le _, rfl, MP3, XF, B6⟩
            case round =>
              clear MP3 XF B6
              obtain ⟨m', hm', rfl, MW, XC, BR⟩ := hrel
              by_cases hmn : m' < n
              · have hmi : (m' : Int) < (n : Int) := by omega
                have q0 := XC.out.cell 0
                simp only [List.getElem?_toArray, List.getElem?_cons_zero] at q0
                obtain ⟨br', x, hx, hc, ho⟩ := MW.out.get (k := k) (by simp [fars])
                obtain rfl : x = startZ n m' := by rw [fars_get] at hx; injection hx with hx; exact hx.symm
                obtain ⟨y, hy⟩ : ∃ y, (startZ n m')[m']? = some y := ⟨_, List.getElem?_eq_getElem (by rw [startZ_len]; exact hmn)⟩
                have x0 := ho.at hy
                have f0 := ho.frozen m'
                have MN := hide2 (show CosT (wr.setCell ⟨br', m', none⟩ (.int .i64 1073741824)) w2.heap.size w2.heap.size K n (fars n k ++ [startZ n (m' + 1)]) from fars_put ▸ MW.out.put (j := m') (c := 1073741824) hx hc)
                have XN := hide2 (XC.out.other (a := ⟨br', m', none⟩) (.int .i64 1073741824) (ownsRow_neBox ho XC.out (by decide)))
                have BN := hide2 (BR.out.setCell (p := ⟨br', m', none⟩) ho.lt.1 (.int .i64 1073741824))
                clear hx ho hy
                go_wp2
                go_roundw
                case rel => exact ⟨m' + 1, by omega, by go_num, MN, XN, BN⟩
                case measure => simp [intOf]; omega
              · obtain rfl : m' = n := by omega
                have MF := hide2 (show CosT wr w2.heap.size w2.heap.size K m' (fars m' (k + 1)) by rw [fars_succ, ← startZ_full]; exact MW.out)
                go_wp2
                go_roundw
                case rel => exact ⟨k + 1, by omega, by go_num, MF, XC, BR⟩
                case measure => simp [intOf]; omega
          · obtain rfl : k = K := by omega
            have MF := hide2 (show CosT wr w2.heap.size w2.heap.size k n (fars n k) from MW.out)
            have hK0i : (0 : Int) < (k : Int) := by omega
            have hn0i : (0 : Int) < (n : Int) := by omega
            have q0 := XC.out.cell 0
            simp only [List.getElem?_toArray, List.getElem?_cons_zero] at q0
            obtain ⟨br, r, hr, hc, ho⟩ := MW.out.get (k := 0) (by simpa [fars] using hK0)
            obtain ⟨f1, f2⟩ := fars_at (n := n) (k := k) (i := 0) (m := 0) hK0 hnpos
            obtain rfl : r = List.replicate n far := by rw [f1] at hr; injection hr with hr; exact hr.symm
            have x0 := ho.at f2
            have f0 := ho.frozen 0
            have MN := hide2 (show CosT (wr.setCell ⟨br, 0, none⟩ (.int .i64 0)) w2.heap.size w2.heap.size k n (firstT n k) by unfold firstT; rw [setT_eq hr]; exact MW.out.put (j := 0) (c := 0) hr hc)
            have XN := hide2 (XC.out.other (a := ⟨br, 0, none⟩) (.int .i64 0) (ownsRow_neBox ho XC.out (by decide)))
            have BN := hide2 (BR.out.setCell (p := ⟨br, 0, none⟩) ho.lt.1 (.int .i64 0))
            have LI := hide2 (show CosI (Ed s.arcs (atI (labL ⟨P, ts⟩)) tr) tr.length n (firstT n k) by rw [← KL.out]; exact CosI.start hnpos)
            have LEN := hide2 (show (firstT n k).length = k by unfold firstT; rw [setT_eq hr, List.length_set]; simp [fars])
            go_upto_region 20 with fail
            clear MF MW XC BR q0 x0 f0 hr hc ho f1 f2
            generalize wr.setCell ⟨br, 0, none⟩ (.int .i64 0) = w7 at *
            have XA := hide2 (Box.new w7 #[.bool true] 4)
            have bb := boxBelow w7 (.cells #[.bool true] 4)
            have CW := hide2 (show CosW w2 (w7.alloc (.cells #[.bool true] 4)) w2.heap.size w2.heap.size bc w7.heap.size k n (firstT n k, true) from ⟨MN.out.keep bb, LEN.out, XN.out.keep bb, XA.out, BN.out.size, BN.out.trans (bb.mono BN.out.size)⟩)
            clear XA bb MN XN BN LEN
            go_wp2
            go_loopw [16] (fun v wr => ∃ (ba : Nat) (p : List (List Int) × Bool), v = .pointer (some ⟨ba, 0, none⟩) ∧ Hid (CosW w2 wr w2.heap.size w2.heap.size bc ba k n p) ∧ Hid (CosI (Ed s.arcs (atI (labL ⟨P, ts⟩)) tr) tr.length n p.1) ∧ Hid (p.2 = false → ∀ e ∈ edAll s.arcs (atI (labL ⟨P, ts⟩)) tr n, relE (p.1, false) e = (p.1, false))) (fun v wr => cosT wr w2.heap.size w2.heap.size k n + boolOf (atPtr v wr))
            case atStart => exact ⟨w7.heap.size, (firstT n k, true), rfl, CW, LI, hide2 (fun e => (by cases e))⟩
            case round =>
              clear CW LI
              obtain ⟨ba, p, rfl, CW, CI, CL⟩ := hrel
              obtain ⟨T0, b⟩ := p
              have q0 := CW.out.boxC.cell 0
              have b0 := CW.out.boxA.cell 0
              have fb := CW.out.boxA.frozen 0
              simp only [List.getElem?_toArray, List.getElem?_cons_zero] at q0 b0
              cases b
              · have hlk : l < k := by have := hKl.out; omega
                have hlki : (l : Int) < (k : Int) := by omega
                have hjn : j < n := HJ.out
                have hjni : (j : Int) < (n : Int) := by omega
                obtain ⟨br, r, hr, hc, ho⟩ := CW.out.mat.get (k := l) (by rw [CW.out.len]; exact hlk)
                obtain ⟨x, hx⟩ : ∃ x, r[j]? = some x := ⟨_, List.getElem?_eq_getElem (by rw [ho.len]; exact hjn)⟩
                have x0 := ho.at hx
                have MN := hide2 (show IsMin (Ed s.arcs (atI (labL ⟨P, ts⟩)) tr) ((tr.length : Int), (j : Int)) x by
                  obtain ⟨c', hw', hc'⟩ := Wk.marks SO.out (lb := atI (labL ⟨P, ts⟩)) (tr := tr) T.out.label j j (Nat.le_refl _) (by rw [HN.out]; exact hjn)
                  have := CI.out.least (by rw [← HN.out]; exact T.out.to_) hnpos (CL.out rfl) (k := tr.length) (m := j) (by omega) hjn hw' (by unfold far; have := GL.out; omega)
                  have e : atT T0 tr.length j = x := by rw [GL.out]; exact atT_eq hr hx
                  rw [e] at this
                  exact this)
                have CP2 := hide2 (CP.out x MN.out)
                have BE := hide2 (BW.out.trans (CW.out.below.mono BW.out.size))
                clear hr ho hx fb
                go_wp2
                go_ret2
                exact ⟨_, _, CP2.out, rfl, BE.out⟩
              · have MQ := hide2 (cosT_eq CW.out.mat CW.out.len)
                have C0 := hide2 (show CosW w2 (wr.setCell ⟨ba, 0, none⟩ (.bool false)) w2.heap.size w2.heap.size bc ba k n (stK s.arcs (atI (labL ⟨P, ts⟩)) tr n (T0, false) 0) from CW.out.flag false)
                have MONO := hide2 (CosI.mono (edAll_right (tr := tr) (by rw [← HN.out]; exact T.out.from_) (by rw [← HN.out]; exact T.out.to_) T.out.label : ∀ e ∈ edAll s.arcs (atI (labL ⟨P, ts⟩)) tr n, _))
                have q1 := C0.out.boxC.cell 0
                simp only [List.getElem?_toArray, List.getElem?_cons_zero] at q1
                obtain ⟨wp, hwp⟩ : ∃ wp : World, wp = wr := ⟨_, rfl⟩
                subst hwp
                go_wp2
                clear q0 b0 fb q1
                go_loopw [87] (fun v wr => ∃ kk : Nat, kk ≤ k ∧ v = .int .i64 kk ∧ Hid (CosW w2 wr w2.heap.size w2.heap.size bc ba k n (stK s.arcs (atI (labL ⟨P, ts⟩)) tr n (T0, false) kk))) (fun v _ => k - (intOf v).toNat)
                case atStart => exact ⟨0, Nat.zero_le _, rfl, C0⟩
                case round =>
                  clear C0
                  obtain ⟨kk, hkk, rfl, CK⟩ := hrel
                  by_cases hlt : kk < k
                  · have hki : (kk : Int) < (k : Int) := by omega
                    have HKT := hide2 (show kk < tr.length + 1 by rw [KL.out]; exact hlt)
                    have CA0 := hide2 (show CosW w2 wr w2.heap.size w2.heap.size bc ba k n (stA s.arcs (atI (labL ⟨P, ts⟩)) tr n (T0, false) kk 0) by rw [stA_zero]; exact CK.out)
                    obtain ⟨s0, s1⟩ := (X1.out.keep CK.out.below).two
                    clear CK
                    go_wp2
                    clear s0 s1
                    go_loopw [93] (fun v wr => ∃ q : Nat, q ≤ m ∧ v = .int .i64 q ∧ Hid (CosW w2 wr w2.heap.size w2.heap.size bc ba k n (stA s.arcs (atI (labL ⟨P, ts⟩)) tr n (T0, false) kk q))) (fun v _ => m - (intOf v).toNat)
                    case atStart => exact ⟨0, Nat.zero_le _, rfl, CA0⟩
                    case round =>
                      clear CA0
                      obtain ⟨q, hq, rfl, CA⟩ := hrel
                      by_cases hqm : q < m
                      · have hqi : (q : Int) < (m : Int) := by omega
                        have INV := hide2 (inv_A (p0 := (T0, false)) MONO.out CI.out HKT.out q)
                        obtain ⟨bl, off, a, rfl, hbl, ha, r0, r1, r2, _⟩ := Arcs.get (Sl.keep ArcR.kept (Sl.keep ArcR.kept A1.out BX2.out) CA.out.below) hqm
                        have hmem := List.mem_of_getElem? ha.out
                        obtain ⟨f, ef, hf⟩ := natOf (show Inn n a.from_ by rw [← HN.out]; exact T.out.from_ a hmem)
                        obtain ⟨t, et, ht⟩ := natOf (show Inn n a.to_ by rw [← HN.out]; exact T.out.to_ a hmem)
                        obtain ⟨r, er, hr⟩ := natOf (show Inn n0 a.tran by rw [← TL.out]; exact T.out.tran a hmem)
                        have hl0 := T.out.label a hmem
                        have NX := hide2 (stA_succ (lb := atI (labL ⟨P, ts⟩)) (tr := tr) (n := n) (p0 := (T0, false)) (k := kk) ha.out)
                        obtain ⟨pA, hpA⟩ : ∃ pA, stA s.arcs (atI (labL ⟨P, ts⟩)) tr n (T0, false) kk q = pA := ⟨_, rfl⟩
                        rw [hpA] at NX INV CA
                        clear hpA
                        rw [ef] at r0
                        rw [er] at r1
                        rw [et] at r2
                        have bb := boxBelow wr (.cells #[.int .i64 f, .int .i64 r, .int .i64 t] 62)
                        have WA := hide2 (Box.new wr #[.int .i64 f, .int .i64 r, .int .i64 t] 62)
                        have CB := hide2 (CA.out.keep bb)
                        have ABX := hide2 (show wr.heap.size ≠ ba from Nat.ne_of_gt CA.out.boxA.lt)
                        have EF := hide2 ef
                        have ET := hide2 et
                        have ER := hide2 er
                        have HMEM := hide2 hmem
                        have HA := hide2 ha.out
                        clear CA ef et er hmem ha
                        go_upto_region 30 with fail
                        clear bb r0 r1 r2
                        generalize wr.alloc (.cells #[.int .i64 f, .int .i64 r, .int .i64 t] 62) = u0 at *
                        generalize wr.heap.size = bx at *
                        have BB := hide2 (B2.out.trans (CB.out.below.mono B2.out.size))
                        obtain ⟨t0, t1, t2⟩ := WA.out.three
                        obtain ⟨a0, a1⟩ := (X0.out.keep BB.out).two
                        obtain ⟨bt, offt, t', A1', n1', c1', A2', n2', c2', rfl, hbt, ht', p0', _, _, _, _, _, _⟩ := (H.out.keep BB.out).get hr
                        have hrr : (r : Int) < (n0 : Int) := by omega
                        obtain ⟨lab, hlab⟩ : ∃ x, t'.label = x := ⟨_, rfl⟩
                        have hLB : atI (labL ⟨P, ts⟩) a.tran = lab := by unfold atI labL; rw [ER.out, Int.toNat_natCast, List.getD_eq_getElem?_getD, List.getElem?_map, ht'.out, ← hlab]; rfl
                        rw [hlab] at p0'
                        rw [hLB] at hl0
                        have LB := hide2 hLB
                        clear hlab hLB ht'
                        go_upto_region 31 with fail
                        clear t0 t1 t2 a0 a1 p0'
                        obtain ⟨br, rr, hrr1, hc, ho⟩ := CB.out.mat.get (k := kk) (by rw [CB.out.len]; exact hlt)
                        obtain ⟨x, hx⟩ : ∃ x, rr[f]? = some x := ⟨_, List.getElem?_eq_getElem (by rw [ho.len]; exact hf)⟩
                        have AX := hide2 (atT_eq hrr1 hx)
                        have hlow := INV.out.low kk f HKT.out hf
                        rw [AX.out] at hlow
                        unfold far at hlow
                        have hff : (f : Int) < (n : Int) := by omega
                        obtain ⟨W, hW⟩ : ∃ W : Int, min lab 1 = W := ⟨_, rfl⟩
                        have hW1 : W ≤ 1 := by omega
                        have hW0 : 0 ≤ W := by omega
                        have hwr : IntKind.i64.wrap (x + W) = x + W := by simp [IntKind.wrap, IntKind.bits, IntKind.signed]; omega
                        have dr := (Below.refl u0.heap.size u0).drew
                        have CD := hide2 (CB.out.keep dr)
                        have WD := hide2 (WA.out.keep dr)
                        have x0 := (ho.keep dr).at hx
                        have hc' : u0.drew.cell? ⟨w2.heap.size, kk, none⟩ = some (.slice (some ⟨br, 0, none⟩) n n) := hc
                        have q0 := CD.out.boxC.cell 0
                        simp only [List.getElem?_toArray, List.getElem?_cons_zero] at q0
                        obtain ⟨t0, t1, t2⟩ := WD.out.three
                        clear hc ho hx hrr1 CB WA dr
                        refine wp_region_scr 15 (.takes [0, 1, 2, 3, 4, 5, 6, 7, 8, 9, 10, 11, 12, 13, 14] (.fin 15 .done)) (fun w' => w'.cell? ⟨bx, 0, none⟩ = some (.int .i64 f) ∧ w'.cell? ⟨bx, 2, none⟩ = some (.int .i64 t) ∧ w'.cell? ⟨bc, 0, none⟩ = some (.slice (some ⟨w2.heap.size, 0, none⟩) k k) ∧ w'.cell? ⟨w2.heap.size, kk, none⟩ = some (.slice (some ⟨br, 0, none⟩) n n) ∧ w'.cell? ⟨br, f, none⟩ = some (.int .i64 x)) (by kernel_rfl) (by kernel_rfl) (by kernel_rfl) (fun _ _ _ _ _ h => h) ⟨t0, t2, q0, hc', x0⟩ (fun hHeld => ?_)
                        simp only [Scr.takes]
                        clear t0 t1 t2 q0 hc' x0
                        generalize u0.drew = u1 at *
                        iterate 15
                          refine tkTake (v := ?_) rfl (by rfl) hHeld (fun w' hSw => ?_) ?_
                          rotate_left
                          · (go_simp; try with_reducible rfl)
                          try simp only [Act.put, List.setIfInBounds_toArray, List.set_cons_zero, List.set_cons_succ]
                        refine tkEnd rfl (fun Kf hKf => ?_)
                        go_simp
                        (with_reducible refine (better_calls CD.out hlt ht (x + W)).mono ?_)
                        rintro e w9 ⟨rfl, c9, ex9⟩
                        have RE1 : betT pA kk t (x + W) = relE pA ⟨kk, f, kk, t, min lab 1⟩ := by unfold relE; simp only; rw [AX.out, hW]
                        have C9 := hide2 (show CosW w2 w9 w2.heap.size w2.heap.size bc ba k n (relE pA ⟨kk, f, kk, t, min lab 1⟩) by rw [← RE1]; exact c9)
                        have W9 := hide2 (ex9 bx _ _ WD.out (by decide) ABX.out)
                        have E1 := hide2 (show hears (atI (labL ⟨P, ts⟩)) tr kk a = false → stA s.arcs (atI (labL ⟨P, ts⟩)) tr n (T0, false) kk (q + 1) = relE pA ⟨kk, f, kk, t, min lab 1⟩ from fun hh => by
                          rw [NX.out]
                          unfold edA
                          rw [hh, EF.out, ET.out, LB.out, Int.toNat_natCast, Int.toNat_natCast]
                          rfl)
                        have E2 := hide2 (show hears (atI (labL ⟨P, ts⟩)) tr kk a = true → stA s.arcs (atI (labL ⟨P, ts⟩)) tr n (T0, false) kk (q + 1) = relE (relE pA ⟨kk, f, kk, t, min lab 1⟩) ⟨kk, f, kk + 1, t, 0⟩ from fun hh => by
                          rw [NX.out]
                          unfold edA
                          rw [hh, EF.out, ET.out, LB.out, Int.toNat_natCast, Int.toNat_natCast]
                          rfl)
                        have INV2 := hide2 (inv_E MONO.out INV.out (e := ⟨kk, f, kk, t, min lab 1⟩) (mem_edAll.2 ⟨kk, HKT.out, .inl ⟨a, HMEM.out, by
                          unfold edA
                          rw [EF.out, ET.out, LB.out, Int.toNat_natCast, Int.toNat_natCast]
                          exact List.mem_cons_self⟩⟩))
                        clear c9 ex9 RE1
                        refine hKf.out _ _ ?_
                        clear hKf
                        refine tkDone ?_
                        clear hHeld CD WD INV NX hwr hlow AX
                        have B9 := hide2 (B2.out.trans (C9.out.below.mono B2.out.size))
                        by_cases hkl : kk < l
                        · have hkli : (kk : Int) < (l : Int) := by omega
                          obtain ⟨bq, offq, y, rfl, hbq, hy, qy⟩ := (G.out.keep B9.out).get hkl
                          by_cases hlab0 : 0 < lab
                          · by_cases hyl : y = lab
                            · have YES := hide2 (E2.out (hears_iff.2 ⟨by rw [GL.out]; exact hkl, by rw [LB.out]; exact hlab0, by rw [LB.out, ← hyl]; exact hy.out⟩))
                              subst hyl
                              clear hy
                              go_upto_region 33 with fail
                              clear qy
                              obtain ⟨br2, rr2, hrr2, hc, ho⟩ := C9.out.mat.get (k := kk) (by rw [C9.out.len]; exact hlt)
                              obtain ⟨x2, hx⟩ : ∃ x, rr2[f]? = some x := ⟨_, List.getElem?_eq_getElem (by rw [ho.len]; exact hf)⟩
                              have AX := hide2 (atT_eq hrr2 hx)
                              have hk1 : kk + 1 < k := by have := hKl.out; omega
                              have hwk : IntKind.i64.wrap ((kk : Int) + 1) = ((kk + 1 : Nat) : Int) := by simp [IntKind.wrap, IntKind.bits, IntKind.signed]; omega
                              have dr := (Below.refl w9.heap.size w9).drew
                              have CD := hide2 (C9.out.keep dr)
                              have WD := hide2 (W9.out.keep dr)
                              have x0 := (ho.keep dr).at hx
                              have hc' : w9.drew.cell? ⟨w2.heap.size, kk, none⟩ = some (.slice (some ⟨br2, 0, none⟩) n n) := hc
                              have q0 := CD.out.boxC.cell 0
                              simp only [List.getElem?_toArray, List.getElem?_cons_zero] at q0
                              obtain ⟨t0, t1, t2⟩ := WD.out.three
                              clear hc ho hx hrr2 C9 W9 dr
                              refine wp_region_scr 13 (.takes [0, 1, 2, 3, 4, 5, 6, 7, 8, 9, 10, 11, 12] (.fin 13 .done)) (fun w' => w'.cell? ⟨bx, 0, none⟩ = some (.int .i64 f) ∧ w'.cell? ⟨bx, 2, none⟩ = some (.int .i64 t) ∧ w'.cell? ⟨bc, 0, none⟩ = some (.slice (some ⟨w2.heap.size, 0, none⟩) k k) ∧ w'.cell? ⟨w2.heap.size, kk, none⟩ = some (.slice (some ⟨br2, 0, none⟩) n n) ∧ w'.cell? ⟨br2, f, none⟩ = some (.int .i64 x2)) (by kernel_rfl) (by kernel_rfl) (by kernel_rfl) (fun _ _ _ _ _ h => h) ⟨t0, t2, q0, hc', x0⟩ (fun hHeld => ?_)
                              simp only [Scr.takes]
                              clear t0 t1 t2 q0 hc' x0
                              generalize w9.drew = v1 at *
                              iterate 13
                                refine tkTake (v := ?_) rfl (by rfl) hHeld (fun w' hSw => ?_) ?_
                                rotate_left
                                · (go_simp; try with_reducible rfl)
                                try simp only [Act.put, List.setIfInBounds_toArray, List.set_cons_zero, List.set_cons_succ]
                              refine tkEnd rfl (fun Kf hKf => ?_)
                              go_simp
                              have ek1 : ((kk : Int) + 1) = ((kk + 1 : Nat) : Int) := by omega
                              rw [ek1]
                              clear ek1
                              (with_reducible refine (better_calls CD.out hk1 ht x2).mono ?_)
                              rintro e w10 ⟨rfl, c10, _⟩
                              have RE2 : betT (relE pA ⟨kk, f, kk, t, min y 1⟩) (kk + 1) t x2 = relE (relE pA ⟨kk, f, kk, t, min y 1⟩) ⟨kk, f, kk + 1, t, 0⟩ := by
                                show _ = betT (relE pA ⟨kk, f, kk, t, min y 1⟩) (kk + 1) t (atT (relE pA ⟨kk, f, kk, t, min y 1⟩).1 kk f + 0)
                                rw [AX.out, Int.add_zero]
                              have C10 := hide2 (show CosW w2 w10 w2.heap.size w2.heap.size bc ba k n (relE (relE pA ⟨kk, f, kk, t, min y 1⟩) ⟨kk, f, kk + 1, t, 0⟩) by rw [← RE2]; exact c10)
                              clear c10 RE2
                              refine hKf.out _ _ ?_
                              clear hKf
                              refine tkDone ?_
                              clear hHeld CD WD AX hwk hk1
                              go_wp2
                              go_roundw
                              case rel => exact ⟨q + 1, by omega, by go_num, hide2 (by rw [YES.out]; exact C10.out)⟩
                              case measure => simp [intOf]; omega
                            · have hyb : (y == lab) = false := by simpa using hyl
                              have NH := hide2 (show hears (atI (labL ⟨P, ts⟩)) tr kk a = false by
                                rw [← Bool.not_eq_true, hears_iff, LB.out, hy.out]
                                rintro ⟨_, _, h3⟩
                                injection h3 with h3
                                exact hyl h3)
                              clear hy
                              have NO := hide2 (E1.out NH.out)
                              go_wp2
                              go_roundw
                              case rel => exact ⟨q + 1, by omega, by go_num, hide2 (by rw [NO.out]; exact C9.out)⟩
                              case measure => simp [intOf]; omega
                          · have NH := hide2 (show hears (atI (labL ⟨P, ts⟩)) tr kk a = false by
                              rw [← Bool.not_eq_true, hears_iff, LB.out]
                              rintro ⟨_, h2, _⟩
                              exact hlab0 h2)
                            clear hy
                            have NO := hide2 (E1.out NH.out)
                            go_wp2
                            go_roundw
                            case rel => exact ⟨q + 1, by omega, by go_num, hide2 (by rw [NO.out]; exact C9.out)⟩
                            case measure => simp [intOf]; omega
                        · have hkli : ¬ (kk : Int) < (l : Int) := by omega
                          have NH := hide2 (show hears (atI (labL ⟨P, ts⟩)) tr kk a = false by
                            rw [← Bool.not_eq_true, hears_iff, GL.out]
                            rintro ⟨h1, _, _⟩
                            exact hkl h1)
                          have NO := hide2 (E1.out NH.out)
                          go_wp2
                          go_roundw
                          case rel => exact ⟨q + 1, by omega, by go_num, hide2 (by rw [NO.out]; exact C9.out)⟩
                          case measure => simp [intOf]; omega
                      · obtain rfl : q = m := by omega
                        have CM0 := hide2 (show CosW w2 wr w2.heap.size w2.heap.size bc ba k n (stM s.arcs (atI (labL ⟨P, ts⟩)) tr n (T0, false) kk 0) by rw [stM_zero, HM.out]; exact CA.out)
                        obtain ⟨s0, s1⟩ := (X1.out.keep CA.out.below).two
                        clear CA
                        go_wp2
                        clear s0 s1
                        go_loopw [154] (fun v wr => ∃ mm : Nat, mm ≤ n ∧ v = .int .i64 mm ∧ Hid (CosW w2 wr w2.heap.size w2.heap.size bc ba k n (stM s.arcs (atI (labL ⟨P, ts⟩)) tr n (T0, false) kk mm))) (fun v _ => n - (intOf v).toNat)
                        case atStart => exact ⟨0, Nat.zero_le _, rfl, CM0⟩
                        case round =>
                          clear CM0
                          obtain ⟨mm, hmm, rfl, CM⟩ := hrel
                          by_cases hmn : mm < n
                          · have hmi : (mm : Int) < (n : Int) := by omega
                            have NX := hide2 (stM_succ (ars := s.arcs) (lb := atI (labL ⟨P, ts⟩)) (tr := tr) (n := n) (p0 := (T0, false)) kk mm)
                            have INV := hide2 (inv_M (p0 := (T0, false)) MONO.out CI.out HKT.out hmm)
                            obtain ⟨pM, hpM⟩ : ∃ pM, stM s.arcs (atI (labL ⟨P, ts⟩)) tr n (T0, false) kk mm = pM := ⟨_, rfl⟩
                            rw [hpM] at NX INV CM
                            clear hpM
                            by_cases hkl : kk < l
                            · have hkli : (kk : Int) < (l : Int) := by omega
                              obtain ⟨br, rr, hrr, hc, ho⟩ := CM.out.mat.get (k := kk) (by rw [CM.out.len]; exact hlt)
                              obtain ⟨x, hx⟩ : ∃ x, rr[mm]? = some x := ⟨_, List.getElem?_eq_getElem (by rw [ho.len]; exact hmn)⟩
                              have AX := hide2 (atT_eq hrr hx)
                              have hlow := INV.out.low kk mm HKT.out hmn
                              rw [AX.out] at hlow
                              unfold far at hlow
                              have hk1 : kk + 1 < k := by have := hKl.out; omega
                              have hwk : IntKind.i64.wrap ((kk : Int) + 1) = ((kk + 1 : Nat) : Int) := by simp [IntKind.wrap, IntKind.bits, IntKind.signed]; omega
                              have hwx : IntKind.i64.wrap (x + 1) = x + 1 := by simp [IntKind.wrap, IntKind.bits, IntKind.signed]; omega
                              have x0 := ho.at hx
                              have q0 := CM.out.boxC.cell 0
                              simp only [List.getElem?_toArray, List.getElem?_cons_zero] at q0
                              have E1 := hide2 (show stM s.arcs (atI (labL ⟨P, ts⟩)) tr n (T0, false) kk (mm + 1) = betT pM (kk + 1) mm (x + 1) by
                                rw [NX.out]
                                unfold edM
                                rw [if_pos (by rw [GL.out]; exact hkl)]
                                show relE pM ⟨kk, mm, kk + 1, mm, 1⟩ = _
                                unfold relE
                                simp only
                                rw [AX.out])
                              clear ho hx hrr hlow
                              go_wp2_with fail
                              have ek1 : ((kk : Int) + 1) = ((kk + 1 : Nat) : Int) := by omega
                              rw [ek1]
                              clear ek1
                              (with_reducible refine (better_calls CM.out hk1 hmn (x + 1)).mono ?_)
                              rintro e w10 ⟨rfl, c10, _⟩
                              have C10 := hide2 c10
                              clear c10 x0 q0 hc hwk hwx hk1
                              go_wp2
                              go_roundw
                              case rel => exact ⟨mm + 1, by omega, by go_num, hide2 (by rw [E1.out]; exact C10.out)⟩
                              case measure => simp [intOf]; omega
                            · have hkli : ¬ (kk : Int) < (l : Int) := by omega
                              have E1 := hide2 (show stM s.arcs (atI (labL ⟨P, ts⟩)) tr n (T0, false) kk (mm + 1) = pM by
                                rw [NX.out]
                                unfold edM
                                rw [if_neg (by rw [GL.out]; exact hkl)]
                                rfl)
                              go_wp2
                              go_roundw
                              case rel => exact ⟨mm + 1, by omega, by go_num, hide2 (by rw [E1.out]; exact CM.out)⟩
                              case measure => simp [intOf]; omega
                          · obtain rfl : mm = n := by omega
                            have CF := hide2 (show CosW w2 wr w2.heap.size w2.heap.size bc ba k mm (stK s.arcs (atI (labL ⟨P, ts⟩)) tr mm (T0, false) (kk + 1)) by rw [← stM_full]; exact CM.out)
                            go_wp2
                            go_roundw
                            case rel => exact ⟨kk + 1, by omega, by go_num, CF⟩
                            case measure => simp [intOf]; omega
                  · obtain rfl : kk = k := by omega
                    have PS := hide2 (MONO.out.pass (T0, false) CI.out)
                    obtain ⟨pe, hpe⟩ : ∃ pe, (edAll s.arcs (atI (labL ⟨P, ts⟩)) tr n).foldl relE (T0, false) = pe := ⟨_, rfl⟩
                    have CE := hide2 (show CosW w2 wr w2.heap.size w2.heap.size bc ba kk n pe by rw [← hpe, ← stK_all, KL.out]; exact CK.out)
                    rw [hpe] at PS
                    clear hpe CK
                    obtain ⟨TE, be⟩ := pe
                    have b1 := CE.out.boxA.cell 0
                    simp only [List.getElem?_toArray, List.getElem?_cons_zero] at b1
                    have CN := hide2 CE.out.newFlag
                    have XN := hide2 (Box.new wr #[.bool be] 4)
                    go_wp2
                    go_roundw
                    case rel => exact ⟨wr.heap.size, (TE, be), rfl, CN, hide2 PS.out.inv, hide2 (fun e => by
                      simp only at e
                      subst e
                      obtain ⟨h1, h2⟩ := PS.out.same rfl
                      injection h1 with h1 _
                      subst h1
                      exact h2)⟩
                    case measure =>
                      rw [MQ.out, cosT_eq CN.out.mat CN.out.len]
                      have e1 : atPtr (.pointer (some ⟨wr.heap.size, 0, none⟩)) (wr.alloc (.cells #[.bool be] 4)) = .bool be := by
                        have := XN.out.cell 0
                        simp only [List.getElem?_toArray, List.getElem?_cons_zero] at this
                        simp [atPtr, this]
                      have e2 : atPtr (.pointer (some ⟨ba, 0, none⟩)) wp = .bool true := by
                        have := CW.out.boxA.cell 0
                        simp only [List.getElem?_toArray, List.getElem?_cons_zero] at this
                        simp [atPtr, this]
                      rw [e1, e2]
                      cases be
                      · obtain ⟨h1, _⟩ := PS.out.same rfl
                        injection h1 with h1 _
                        subst h1
                        simp [boolOf]
                      · have := PS.out.new rfl
                        simp [boolOf] at this ⊢
                        exact this
  · have CP := hide2 (costP_err (tr := tr) HR.out hk)
    have hkb : (k == 0) = false := by simpa using hk
    go_wp2
    go_ret2
    exact ⟨_, _, CP.out, rfl, BW.out⟩
end Go.Proofs.Ytnidicfanbkgjaa
