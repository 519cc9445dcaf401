/- The plain law of the hall: what was done and written down, how much of it is sure; the journal read back. No program in sight. | The memory of the hall, and the contract of its crash. Conditions: none. | The contracts of the hall's desk and do. Conditions: the net, the roles read as lists. | Things that happen in a hall as they read, and the contract of hall.Play. Conditions: the net, the roles and the things read as lists. | Desks side by side as they read, and how they go on. Conditions: none. -/
import Derived.Test.YtmnacahoamkokaaPlainL
import Derived.Test.YtmnacahoamkokaaJourD
import Derived.Test.YtmnacahoamkokaaListW
import Derived.Test.YtmnacahoamkokaaOwnB
import Derived.Test.YtmnacahoamkokaaDeskF
import Derived.Deep.RegionHeld3
import Derived.Maps.AppendAt
namespace Go.Proofs.Ytmnacahoamkokaa

structure HOp where
  kind : Int
  keep : Int
  op : POp
abbrev HSt := List POp × Nat
/-- So many more are kept at a crash. -/
def leftN (st : HSt) (keep : Int) : Nat := min ((max keep 0).toNat / 7) (st.1.length - st.2)
def hstep (N : PNet) (roles : List (List Int)) (k0 : PDesk) (st : HSt) (o : HOp) : HSt × (Int × Int) :=
  if o.kind = 1 then
    (if (writeL o.op).2 = 0 then
      (if (stepD N roles (runD N roles k0 st.1).1 o.op).2.2 = 0 then ((st.1 ++ [o.op], st.2), (0, (stepD N roles (runD N roles k0 st.1).1 o.op).2.1))
      else (st, ((stepD N roles (runD N roles k0 st.1).1 o.op).2.2, (stepD N roles (runD N roles k0 st.1).1 o.op).2.1)))
    else (st, ((writeL o.op).2, 0)))
  else if o.kind = 2 then ((st.1, st.1.length), (0, 0))
  else if o.kind = 3 then ((st.1.take (st.2 + leftN st o.keep), st.2 + leftN st o.keep), (0, 0))
  else (st, (5, 0))
/-- Something is to be done. -/
def hdo (N : PNet) (roles : List (List Int)) (k0 : PDesk) (st : HSt) (o : POp) : HSt × (Int × Int) :=
  if (writeL o).2 = 0 then
    (if (stepD N roles (runD N roles k0 st.1).1 o).2.2 = 0 then ((st.1 ++ [o], st.2), (0, (stepD N roles (runD N roles k0 st.1).1 o).2.1))
    else (st, ((stepD N roles (runD N roles k0 st.1).1 o).2.2, (stepD N roles (runD N roles k0 st.1).1 o).2.1)))
  else (st, ((writeL o).2, 0))
theorem hstep_1 {N : PNet} {roles : List (List Int)} {k0 : PDesk} {st : HSt} {o : HOp} (h : o.kind = 1) : hstep N roles k0 st o = hdo N roles k0 st o.op := by rw [hstep, if_pos h]; rfl
theorem hstep_2 {N : PNet} {roles : List (List Int)} {k0 : PDesk} {st : HSt} {o : HOp} (h : o.kind = 2) : hstep N roles k0 st o = ((st.1, st.1.length), (0, 0)) := by rw [hstep, if_neg (by omega), if_pos h]
theorem hstep_3 {N : PNet} {roles : List (List Int)} {k0 : PDesk} {st : HSt} {o : HOp} (h : o.kind = 3) : hstep N roles k0 st o = ((st.1.take (st.2 + leftN st o.keep), st.2 + leftN st o.keep), (0, 0)) := by rw [hstep, if_neg (by omega), if_neg (by omega), if_pos h]
theorem hstep_no {N : PNet} {roles : List (List Int)} {k0 : PDesk} {st : HSt} {o : HOp} (h1 : o.kind ≠ 1) (h2 : o.kind ≠ 2) (h3 : o.kind ≠ 3) : hstep N roles k0 st o = (st, (5, 0)) := by rw [hstep, if_neg h1, if_neg h2, if_neg h3]
def hrun (N : PNet) (roles : List (List Int)) (k0 : PDesk) : HSt → List HOp → HSt × List (Int × Int)
  | st, [] => (st, [])
  | st, o :: r => ((hrun N roles k0 (hstep N roles k0 st o).1 r).1, (hstep N roles k0 st o).2 :: (hrun N roles k0 (hstep N roles k0 st o).1 r).2)
theorem hrun_snoc (N : PNet) (roles : List (List Int)) (k0 : PDesk) : ∀ (l : List HOp) (st : HSt) (o : HOp), hrun N roles k0 st (l ++ [o]) =
    ((hstep N roles k0 (hrun N roles k0 st l).1 o).1, (hrun N roles k0 st l).2 ++ [(hstep N roles k0 (hrun N roles k0 st l).1 o).2])
  | [], _, _ => rfl
  | x :: l, st, o => by
    show ((hrun N roles k0 (hstep N roles k0 st x).1 (l ++ [o])).1, _ :: (hrun N roles k0 (hstep N roles k0 st x).1 (l ++ [o])).2) = _
    rw [hrun_snoc N roles k0 l]
    rfl
/-- What holds all along. -/
structure HallOk (st : HSt) : Prop where
  ops : ∀ o ∈ st.1, opOk o = true
  sure : st.2 ≤ st.1.length
theorem HallOk.start : HallOk ([], 0) := ⟨fun o h => by simp at h, Nat.le_refl _⟩
theorem HallOk.add {st : HSt} {o : POp} (h : HallOk st) (ho : opOk o = true) : HallOk (st.1 ++ [o], st.2) :=
  ⟨fun x hx => by
    rcases List.mem_append.1 hx with h1 | h1
    · exact h.ops x h1
    · rw [List.mem_singleton.1 h1]; exact ho, by have := h.sure; simp; omega⟩
theorem writeL_zero {o : POp} : (writeL o).2 = 0 ↔ opOk o = true := by
  unfold writeL
  split <;> simp_all
theorem leftN_le (st : HSt) (keep : Int) : leftN st keep ≤ st.1.length - st.2 := Nat.min_le_right _ _
theorem HallOk.cut {st : HSt} (h : HallOk st) (keep : Int) : HallOk (st.1.take (st.2 + leftN st keep), st.2 + leftN st keep) :=
  ⟨fun x hx => h.ops x (List.mem_of_mem_take hx), by have := leftN_le st keep; have := h.sure; simp; omega⟩
theorem HallOk.all {st : HSt} (h : HallOk st) : HallOk (st.1, st.1.length) := ⟨h.ops, Nat.le_refl _⟩
theorem hstep_ok {N : PNet} {roles : List (List Int)} {k0 : PDesk} {st : HSt} (o : HOp) (h : HallOk st) : HallOk (hstep N roles k0 st o).1 := by
  unfold hstep
  split
  · split
    · rename_i hw
      split
      · exact h.add (writeL_zero.1 hw)
      · exact h
    · exact h
  · split
    · exact h.all
    · split
      · exact h.cut o.keep
      · exact h
theorem hstep_len {N : PNet} {roles : List (List Int)} {k0 : PDesk} {st : HSt} (o : HOp) : (hstep N roles k0 st o).1.1.length ≤ st.1.length + 1 := by
  unfold hstep
  repeat' split
  all_goals (try simp)
  all_goals omega
theorem hrun_ok (N : PNet) (roles : List (List Int)) (k0 : PDesk) : ∀ (l : List HOp) (st : HSt), HallOk st → HallOk (hrun N roles k0 st l).1 ∧ (hrun N roles k0 st l).1.1.length ≤ st.1.length + l.length ∧ (hrun N roles k0 st l).2.length = l.length
  | [], st, h => ⟨h, Nat.le_refl _, rfl⟩
  | x :: l, st, h => by
    obtain ⟨h1, h2, h3⟩ := hrun_ok N roles k0 l (hstep N roles k0 st x).1 (hstep_ok x h)
    refine ⟨h1, ?_, by simp [hrun, h3]⟩
    have := hstep_len (N := N) (roles := roles) (k0 := k0) (st := st) x
    simp only [hrun, List.length_cons]
    omega
def hplay (N : PNet) (roles : List (List Int)) (i : Int) (l : List HOp) : PDesk × List (Int × Int) × Int :=
  if (beginL N i).2 = 0 then ((runD N roles ⟨(beginL N i).1, []⟩ (hrun N roles ⟨(beginL N i).1, []⟩ ([], 0) l).1.1).1, (hrun N roles ⟨(beginL N i).1, []⟩ ([], 0) l).2, 0) else (PDesk.nil, [], (beginL N i).2)

/-- What was written down. -/
def jb (l : List POp) : List Nat := l.flatMap fun o => (writeL o).1
theorem writeL_len {o : POp} (h : opOk o = true) : (writeL o).1.length = 7 := by rw [writeL, if_pos h]; rfl
theorem jb_snoc (l : List POp) (o : POp) : jb (l ++ [o]) = jb l ++ (writeL o).1 := by simp [jb]
theorem jb_cons (l : List POp) (o : POp) : jb (o :: l) = (writeL o).1 ++ jb l := by simp [jb]
theorem jb_len : ∀ {l : List POp}, (∀ o ∈ l, opOk o = true) → (jb l).length = 7 * l.length
  | [], _ => rfl
  | o :: l, h => by
    rw [jb_cons, List.length_append, writeL_len (h o (by simp)), jb_len (fun x hx => h x (by simp [hx]))]
    simp only [List.length_cons]
    omega
theorem opOf_write {o : POp} (h : opOk o = true) (r : List Nat) : opOf (sixB o ++ r) = o := by
  obtain ⟨⟨k0, k1⟩, ⟨u0, u1⟩, ⟨t0, t1⟩, ⟨d0, d1⟩, i0, i1⟩ := (opOk_iff o).1 h
  obtain ⟨k, u, t, i, d⟩ := o
  simp only at *
  unfold opOf sixB
  simp only [List.cons_append, List.getD_cons_zero, List.getD_cons_succ, POp.mk.injEq]
  refine ⟨by omega, by omega, by omega, by omega, by omega⟩
theorem readL_write {o : POp} (h : opOk o = true) (r : List Nat) : readL ((writeL o).1 ++ r) = (o :: (readL r).1, (readL r).2.1 + 7, (readL r).2.2) := by
  rw [writeL, if_pos h]
  have hl : (sixB o).length = 6 := rfl
  simp only
  have e : sixB o ++ [sumF (sixB o)] ++ r = sixB o ++ sumF (sixB o) :: r := by simp
  rw [e, readL_good (by simp [hl]; omega) ?_, opOf_write h]
  · have : (sixB o ++ sumF (sixB o) :: r).drop 7 = r := by
      rw [List.drop_append]
      simp [hl]
    rw [this]
  · rw [List.take_append_of_le_length (by rw [hl]; exact Nat.le_refl _), List.take_of_length_le (by rw [hl]; exact Nat.le_refl _)]
    simp [List.getD_eq_getElem?_getD, hl]
/-- A journal that was cut off reads as what was written whole. -/
theorem readL_cut : ∀ (l : List POp) (m : Nat), (∀ o ∈ l, opOk o = true) → m ≤ 7 * l.length → ∃ e, readL ((jb l).take m) = (l.take (m / 7), ((7 * (m / 7) : Nat) : Int), e)
  | [], m, _, hm => by
    obtain rfl : m = 0 := by simpa using hm
    exact ⟨0, by rw [readL_short (by simp [jb])]; rfl⟩
  | o :: l, m, h, hm => by
    have ho := h o (by simp)
    have hw := writeL_len ho
    rw [jb_cons]
    by_cases h7 : m < 7
    · refine ⟨0, ?_⟩
      rw [readL_short (by rw [List.length_take]; omega), show m / 7 = 0 by omega]
      rfl
    · obtain ⟨e, he⟩ := readL_cut l (m - 7) (fun x hx => h x (by simp [hx])) (by simp only [List.length_cons] at hm; omega)
      refine ⟨e, ?_⟩
      rw [List.take_append, List.take_of_length_le (by omega), hw, readL_write ho, he]
      obtain ⟨q, hq⟩ : ∃ q, m / 7 = q + 1 := ⟨m / 7 - 1, by omega⟩
      rw [show (m - 7) / 7 = q by omega, hq]
      simp only [List.take_succ_cons, Prod.mk.injEq, true_and, and_true]
      omega
theorem jb_take : ∀ (l : List POp) (j : Nat), (∀ o ∈ l, opOk o = true) → (jb l).take (7 * j) = jb (l.take j)
  | [], j, _ => by simp [jb]
  | o :: l, 0, _ => by simp [jb]
  | o :: l, j + 1, h => by
    have hw := writeL_len (h o (by simp))
    rw [List.take_succ_cons, jb_cons, jb_cons, List.take_append, List.take_of_length_le (by omega), hw, show 7 * (j + 1) - 7 = 7 * j by omega, jb_take l j (fun x hx => h x (by simp [hx]))]
/-- Where the cut lies. -/
theorem cut_at {s n : Nat} {keep : Int} (h : s ≤ n) : ((7 * s : Int) + min (max keep 0) ((7 * n : Int) - 7 * s)).toNat / 7 = s + min ((max keep 0).toNat / 7) (n - s) := by
  omega
end Go.Proofs.Ytmnacahoamkokaa
namespace Go.Proofs.Ytmnacahoamkokaa
open Go.RowKit

abbrev OwnBts (w : World) (B : Nat) (v : Value) (n : Nat) (bs : List Nat) : Prop := OwnSl ByteR 1 w B 5 v n bs
/-- Blocks below N of other kinds than the hall's own are as they were. -/
structure OnlyH (N : Nat) (w w' : World) : Prop where
  size : w.heap.size ≤ w'.heap.size
  same : ∀ (k : Nat) (cs : Array Value) (ty : TypeId), k < N → w.heap[k]? = some (.cells cs ty (0, 0)) → ty ≠ 184 → ty ≠ 187 → ty ≠ 5 → w'.heap[k]? = w.heap[k]?
theorem OnlyH.refl (N : Nat) (w : World) : OnlyH N w w := ⟨Nat.le_refl _, fun _ _ _ _ _ _ _ _ => rfl⟩
theorem OnlyH.trans {N : Nat} {w w1 w2 : World} (h : OnlyH N w w1) (g : OnlyH N w1 w2) : OnlyH N w w2 :=
  ⟨Nat.le_trans h.size g.size, fun k cs ty hN hk h1 h2 h3 => by
    have e := h.same k cs ty hN hk h1 h2 h3
    rw [← e]
    exact g.same k cs ty hN (e.trans hk) h1 h2 h3⟩
theorem OnlyH.of_below {N : Nat} {w w' : World} (hb : Below N w w') : OnlyH N w w' := ⟨hb.size, fun k _ _ hN _ _ _ _ => hb.block k hN⟩
theorem OnlyH.of_grown {N : Nat} {w w' : World} {B e s n : Nat} {v : Value} {c : List Value} (hg : w.grownBy w' v.ownBlock) (hNw : N ≤ w.heap.size) (h : w.ownsRow B e s v n c) (he : e = 187 ∨ e = 5) : OnlyH N w w' :=
  ⟨hg.size, fun k cs ty hN hk h1 h2 h3 => hg.block k (Nat.lt_of_lt_of_le hN hNw) (fun e2 => by
    rcases h.2 with ⟨rfl, _⟩ | ⟨g, cap, cur, rfl, _, hh, _⟩
    · cases e2
    · simp only [Value.ownBlock, Option.some.injEq] at e2
      subst e2
      rw [hk] at hh
      injection hh with hh
      injection hh with _ hh
      subst hh
      rcases he with rfl | rfl
      · exact h2 rfl
      · exact h3 rfl)⟩
theorem OnlyH.set {N : Nat} {w : World} {b : Nat} {cs : Array Value} (h : Box w b 184 cs) (i : Nat) (v : Value) : OnlyH N w (w.setCell ⟨b, i, none⟩ v) :=
  ⟨by simp [World.setCell], fun k cs' ty _ hk h1 _ _ => heap_setCell_other _ _ _ _ (fun e => by
    have e : k = b := e
    subst e
    unfold Box at h
    rw [h] at hk
    injection hk with hk
    injection hk with _ hk
    exact h1 hk.symm)⟩
theorem OwnSl.onlyH {α : Type} {R : World → (Nat → Value) → α → Prop} {sz N : Nat} {w w' : World} {B e : Nat} {v : Value} {n : Nat} {xs : List α} (h : OwnSl R sz w B e v n xs) (ho : OnlyH N w w') (hN : w.heap.size ≤ N) (h1 : e ≠ 184) (h2 : e ≠ 187) (h3 : e ≠ 5) (hR : ∀ vs x, R w vs x → R w' vs x) : OwnSl R sz w' B e v n xs := by
  have hlt := h.lt
  obtain ⟨cells, ⟨h0, h4⟩, h5, h6⟩ := h
  refine ⟨cells, ⟨h0, ?_⟩, ⟨h5.1, fun i x hx => by obtain ⟨vs, a, b⟩ := h5.2 i x hx; exact ⟨vs, a, hR _ _ b⟩⟩, h6⟩
  rcases h4 with h4 | ⟨g, cap, cur, hv, hg, hh, r⟩
  · exact .inl h4
  · exact .inr ⟨g, cap, cur, hv, hg, (ho.same g cur e (Nat.lt_of_lt_of_le (hlt g (by rw [hv]; rfl)).2 hN) hh h1 h2 h3).trans hh, r⟩
/-- A row that a call owns, cut off. -/
theorem OwnSl.cutOff {α : Type} {R : World → (Nat → Value) → α → Prop} {sz : Nat} {w : World} {B e g n cap m : Nat} {xs : List α} (h : OwnSl R sz w B e (.slice (some ⟨g, 0, none⟩) n cap) n xs) (hm : m ≤ n) : OwnSl R sz w B e (.slice (some ⟨g, 0, none⟩) m cap) m (xs.take m) := by
  obtain ⟨cells, ⟨h0, h4⟩, h5, h6⟩ := h
  have hms : m * sz ≤ n * sz := Nat.mul_le_mul_right _ hm
  refine ⟨cells.take (m * sz), ⟨by rw [List.length_take]; omega, ?_⟩, ⟨by rw [List.length_take, List.length_take, h6, Nat.min_eq_left hm]; omega, fun i x hx => ?_⟩, by rw [List.length_take]; omega⟩
  · rcases h4 with ⟨h4, _⟩ | ⟨g', cap', cur, hv, hg, hh, r1, r2, r3, r4⟩
    · cases h4
    · injection hv with e1 e2 e3
      injection e1 with e1
      injection e1 with e1
      subst e1 e3
      exact .inr ⟨_, _, cur, rfl, hg, hh, by omega, r2, r3, by rw [← r4, List.take_take, Nat.min_eq_left hms]⟩
  · rw [List.getElem?_take] at hx
    split at hx
    · rename_i him
      obtain ⟨vs, a, b⟩ := h5.2 i x hx
      refine ⟨vs, fun j hj => ?_, b⟩
      have : i * sz + j < m * sz := by
        have : (i + 1) * sz ≤ m * sz := Nat.mul_le_mul_right _ him
        rw [Nat.succ_mul] at this
        omega
      rw [List.getElem?_take_of_lt this]
      exact a j hj
    · cases hx
theorem grownAt (w : World) (b i : Nat) (v : Value) : w.grownBy (w.setCell ⟨b, i, none⟩ v) (some b) :=
  ⟨rfl, rfl, rfl, by simp [World.setCell], fun k _ hk => heap_setCell_other _ _ _ _ (fun e => hk (by rw [e]))⟩
theorem OwnSl.besideHall {α : Type} {R : World → (Nat → Value) → α → Prop} {sz : Nat} {w : World} {B e : Nat} {v : Value} {n : Nat} {xs : List α} {b : Nat} {cs : Array Value} (h : OwnSl R sz w B e v n xs) (x : Box w b 184 cs) (hne : e ≠ 184) (i : Nat) (u : Value) (hR : ∀ vs y, R w vs y → R (w.setCell ⟨b, i, none⟩ u) vs y) : OwnSl R sz (w.setCell ⟨b, i, none⟩ u) B e v n xs :=
  h.kept (grownAt w b i u) (.inr (h.notBox x hne)) hR
theorem below_setAt {B b : Nat} {w0 w : World} (h : Below B w0 w) (hB : B ≤ w0.heap.size) (hb : B ≤ b) (i : Nat) (u : Value) : Below B w0 (w.setCell ⟨b, i, none⟩ u) := h.grown (grownAt w b i u) (Nat.le_trans hB h.size) (fun k hk => by cases hk; exact hb)
structure HallW (w : World) (B bh : Nat) (P : Int) (A : Option Addr) (n c : Nat) (i : Int) (R : Option Addr) (r q : Nat) (vd vb : Value) (st : HSt) : Prop where
  lo : B ≤ bh
  box : Box w bh 184 #[.int .i64 P, .slice A n c, .int .i64 i, .slice R r q, vd, vb, .int .i64 ((7 * st.2 : Nat) : Int)]
  done : OwnDOps w B vd st.1.length st.1
  bytes : OwnBts w B vb (7 * st.1.length) (jb st.1)
section
variable {w w' : World} {B bh : Nat} {P : Int} {A : Option Addr} {n c : Nat} {i : Int} {R : Option Addr} {r q : Nat} {vd vb : Value} {st : HSt}
/-- All three of its own are stored anew. -/
theorem HallW.set3 {vd' vb' : Value} {st' : HSt} {s7 : Int} (h : Box w bh 184 #[.int .i64 P, .slice A n c, .int .i64 i, .slice R r q, vd, vb, .int .i64 s7]) (lo : B ≤ bh) (d : OwnDOps w B vd' st'.1.length st'.1) (y : OwnBts w B vb' (7 * st'.1.length) (jb st'.1)) (N : Nat) :
    HallW (((w.setCell ⟨bh, 4, none⟩ vd').setCell ⟨bh, 5, none⟩ vb').setCell ⟨bh, 6, none⟩ (.int .i64 ((7 * st'.2 : Nat) : Int))) B bh P A n c i R r q vd' vb' st' ∧
      OnlyH N w (((w.setCell ⟨bh, 4, none⟩ vd').setCell ⟨bh, 5, none⟩ vb').setCell ⟨bh, 6, none⟩ (.int .i64 ((7 * st'.2 : Nat) : Int))) := by
  have h1 := h.set 4 vd'
  have h2 := h1.set 5 vb'
  have h3 := h2.set 6 (.int .i64 ((7 * st'.2 : Nat) : Int))
  refine ⟨⟨lo, by simpa using h3, ?_, ?_⟩, ((OnlyH.set h 4 _).trans (OnlyH.set h1 5 _)).trans (OnlyH.set h2 6 _)⟩
  · exact ((d.besideHall h (by decide) 4 _ (fun _ _ hx => hx)).besideHall h1 (by decide) 5 _ (fun _ _ hx => hx)).besideHall h2 (by decide) 6 _ (fun _ _ hx => hx)
  · exact ((y.besideHall h (by decide) 4 _ (fun _ _ hx => hx)).besideHall h1 (by decide) 5 _ (fun _ _ hx => hx)).besideHall h2 (by decide) 6 _ (fun _ _ hx => hx)
theorem HallW.keep (h : HallW w B bh P A n c i R r q vd vb st) (hb : Below w.heap.size w w') : HallW w' B bh P A n c i R r q vd vb st :=
  ⟨h.lo, h.box.keep hb, h.done.keep DOpR.kept hb, h.bytes.keep ByteR.kept hb⟩
end
theorem HallW.setOther {w : World} {B bh : Nat} {P : Int} {A : Option Addr} {n c : Nat} {i : Int} {R : Option Addr} {r q : Nat} {vd vb : Value} {st : HSt} {b ty : Nat} {cs : Array Value} (h : HallW w B bh P A n c i R r q vd vb st) (x : Box w b ty cs) (hb : bh ≠ b) (h2 : 187 ≠ ty) (h3 : 5 ≠ ty) (j : Nat) (u : Value) : HallW (w.setCell ⟨b, j, none⟩ u) B bh P A n c i R r q vd vb st :=
  ⟨h.lo, h.box.other (a := ⟨b, j, none⟩) u hb, h.done.kept (grownAt w b j u) (.inr (h.done.notBox x h2)) (fun _ _ hx => hx), h.bytes.kept (grownAt w b j u) (.inr (h.bytes.notBox x h3)) (fun _ _ hx => hx)⟩
set_option maxRecDepth 100000 in
theorem cloneBytes_calls {w : World} {A : Option Addr} {n c : Nat} {xs : List Nat} (h : Bts w A n c xs) (hn : n ≤ 5864062014805) :
    Calls Try.prog 160 #[.slice A n c] w (AnsOwn ByteR 1 5 n xs w) := by
  have HB := hide2 (show ∀ o, Below w.heap.size w (w.alloc o) from fun o => (Below.refl _ _).alloc (Nat.le_refl _) _)
  rcases A with _ | ad
  · have hc := h.nul rfl
    have hn0 : n = 0 := by have := h.le; omega
    subst hc hn0
    have hx := List.eq_nil_of_length_eq_zero h.len
    subst hx
    clear h
    have he := fun (w : World) => Lib.run_eql_slice_nil (P := Try.prog) w 155 5 none 0 0 0 0 Try.underlying155
    go_enter Try.func160, Try.ntmps160
    go_wp2
    go_ret
    exact ⟨_, rfl, OwnSl.nil, Below.refl _ _⟩
  · have H := hide2 h
    have O := hide2 (OwnSl.empty (R := ByteR) (sz := 1) (w := w) (B := w.heap.size) (e := 5) (Nat.le_refl _))
    clear h
    have he := fun (w : World) => Lib.run_eql_slice_nil (P := Try.prog) w 155 5 (some ad) n c 0 0 Try.underlying155
    go_enter Try.func160, Try.ntmps160
    go_wp2_with (at_builtin; refine wpList_appSl tyBytes ByteR.good rfl _ _ rfl rfl rfl O.out (Sl.keep ByteR.kept H.out (HB.out _)) (HB.out _) (by simp) (by omega) (by omega) (fun _ _ _ _ h => h) ?_; intro v1 w1 own1 hg1 hb1)
    go_ret
    exact ⟨_, rfl, by simpa using own1, hb1⟩

theorem ownCase {α : Type} {R : World → (Nat → Value) → α → Prop} {sz : Nat} {w : World} {B e : Nat} {v : Value} {n : Nat} {xs : List α} (h : OwnSl R sz w B e v n xs) : (v = .slice none 0 0 ∧ n = 0) ∨ ∃ g cap, v = .slice (some ⟨g, 0, none⟩) n cap := by
  obtain ⟨cells, ⟨_, h1⟩, _, _⟩ := h
  rcases h1 with h1 | ⟨g, cap, _, hv, _⟩
  · exact .inl h1
  · exact .inr ⟨g, cap, hv⟩
/-- Where the cut lies. -/
theorem cutAt {st : HSt} (h : HallOk st) (keep : Int) : ∃ m : Nat, ((7 * st.2 : Nat) : Int) + min (max keep 0) (((7 * st.1.length : Nat) : Int) - ((7 * st.2 : Nat) : Int)) = (m : Int) ∧ m ≤ 7 * st.1.length ∧ m / 7 = st.2 + leftN st keep := by
  have hs := h.sure
  refine ⟨(((7 * st.2 : Nat) : Int) + min (max keep 0) (((7 * st.1.length : Nat) : Int) - ((7 * st.2 : Nat) : Int))).toNat, by omega, by omega, ?_⟩
  unfold leftN
  omega

set_option maxRecDepth 100000 in
set_option maxHeartbeats 4000000 in
theorem crash_calls {w : World} {B bh : Nat} {P : Int} {A : Option Addr} {n c : Nat} {i : Int} {R : Option Addr} {r q : Nat} {vd vb : Value} {st : HSt} (keep : Int) (h : HallW w B bh P A n c i R r q vd vb st) (ok : HallOk st) (hl : st.1.length ≤ 1048576) (hB : B ≤ w.heap.size) :
    Calls Try.prog 103 #[.pointer (some ⟨bh, 0, none⟩), .int .i64 keep] w fun e w' => e = .returned (.tuple #[]) ∧ ∃ vd' vb', HallW w' B bh P A n c i R r q vd' vb' (st.1.take (st.2 + leftN st keep), st.2 + leftN st keep) ∧ Below B w w' ∧ OnlyH w.heap.size w w' := by
  obtain ⟨m, hm1, hm2, hm3⟩ := cutAt ok keep
  obtain ⟨e, hread⟩ := readL_cut st.1 m ok.ops hm2
  have JT := hide2 (jb_take st.1 (m / 7) ok.ops)
  have h0 := hide2 h
  obtain ⟨Ab, cb, hv, sb⟩ := h.bytes.sl (by omega)
  subst hv
  have SB := hide2 sb
  have HR := hide2 hread
  have HM3 := hide2 hm3
  obtain ⟨nn, hnn⟩ : ∃ nn, 7 * st.1.length = nn := ⟨_, rfl⟩
  obtain ⟨ss, hss⟩ : ∃ ss, 7 * st.2 = ss := ⟨_, rfl⟩
  have hsn : ss ≤ nn := by have := ok.sure; omega
  have hnb : nn ≤ 7340032 := by omega
  obtain ⟨M, hM⟩ : ∃ M : Int, max keep 0 = M := ⟨_, rfl⟩
  obtain ⟨mn, hmn⟩ : ∃ mn : Int, min M ((nn : Int) - (ss : Int)) = mn := ⟨_, rfl⟩
  have hmq : (ss : Int) + mn = (m : Int) := by rw [← hm1, ← hmn, ← hM, ← hnn, ← hss]
  have hM0 : 0 ≤ M := by omega
  have hmn0 : 0 ≤ mn ∧ mn ≤ (nn : Int) := by omega
  have W1 := hide2 (show IntKind.i64.wrap ((nn : Int) - (ss : Int)) = (nn : Int) - (ss : Int) by rw [IntKind.wrap_i64]; omega)
  have W2 := hide2 (show IntKind.i64.wrap (m : Int) = (m : Int) by rw [IntKind.wrap_i64]; omega)
  have HMN := hide2 hmn
  have HMQ := hide2 hmq
  have hX := h.box
  rw [hnn, hss] at hX
  rw [hnn] at SB hm2
  have XB := hide2 hX
  have HNN := hide2 hnn
  have c4 : w.cell? ⟨bh, 4, none⟩ = some vd := hX.cell 4
  have c5 : w.cell? ⟨bh, 5, none⟩ = some (.slice Ab nn cb) := hX.cell 5
  have c6 : w.cell? ⟨bh, 6, none⟩ = some (.int .i64 ss) := hX.cell 6
  clear h hX sb hm1 hread hm3 hss hnn hmn hmq
  go_enter Try.func103, Try.ntmps103
  go_wp2
  go_quiet (fail)
  try rw [W1.out]
  rw [HMN.out, HMQ.out]
  try rw [W2.out]
  have D1 := hide2 (show Below w.heap.size w (w.drewN nq) from belowN _ _)
  have SB1 := hide2 (Sl.keep ByteR.kept SB.out D1.out)
  have XB1 := hide2 (XB.out.keep D1.out)
  have OB1 := hide2 (show OwnBts (w.drewN nq) B (.slice Ab nn cb) nn (jb st.1) by have := h0.out.bytes.keep ByteR.kept D1.out; rwa [HNN.out] at this)
  generalize w.drewN nq = w1 at *
  clear c4 c5 c6 XB SB hM hM0 hmn0 W1 W2 HMN HMQ
  have c5 : w1.cell? ⟨bh, 5, none⟩ = some (.slice Ab nn cb) := XB1.out.cell 5
  have hmi : (m : Int) ≤ (nn : Int) := by omega
  have hcb := SB1.out.le
  have hmci : (m : Int) ≤ (cb : Int) := by omega
  obtain ⟨m7, hm7⟩ : ∃ m7, 7 * (m / 7) = m7 := ⟨_, rfl⟩
  have HM7 := hide2 hm7
  have hm7m : m7 ≤ m := by omega
  have hm7c : (m7 : Int) ≤ (cb : Int) := by omega
  clear hm7
  rcases ownCase h0.out.bytes with ⟨hv, hn0⟩ | ⟨g, cap, hv⟩
  · injection hv with e1 e2 e3
    subst e1 e3
    obtain rfl : nn = 0 := by rw [HNN.out] at hn0; exact hn0
    obtain rfl : m = 0 := by omega
    obtain rfl : m7 = 0 := by have := HM7.out; omega
    have CR := hide2 (readOwn_calls (w := w1) (A := none) (n := 0) (c := 0) (bs := (jb st.1).take 0) (by rw [List.take_zero]; exact Sl.nil0) (by omega))
    rw [HR.out] at CR
    rw [HM7.out] at CR
    go_upto_region 2 with (go_at_call 159; go_loud ((with_reducible refine CR.out.mono ?_); rintro e2 w2 ⟨Al, nl, cl, rfl, ownl, hb2⟩; have OL := hide2 ownl; have D2 := hide2 hb2; clear ownl hb2 c5))
    have X2 := hide2 (XB1.out.keep D2.out)
    have hnl : nl = (st.1.take (0 / 7)).length := OL.out.len.symm
    have HNL := hide2 hnl
    have CC := hide2 (cloneBytes_calls (w := w2) (A := none) (n := 0) (c := 0) (xs := []) Sl.nil0 (by omega))
    have c5 : w2.cell? ⟨bh, 5, none⟩ = some (.slice _ _ _) := X2.out.cell 5
    clear hnl
    go_wp2_with (go_at_call 160; (with_reducible refine CC.out.mono ?_); rintro e3 w3 ⟨v3, rfl, ownb, hb3⟩; obtain ⟨Ac, cc, hv3, _⟩ := ownb.sl (by omega); subst hv3; have OB := hide2 ownb; have D3 := hide2 hb3; have X3 := hide2 (X2.out.keep D3.out); clear ownb hb3 c5; have c4 := X3.out.cell 4; have c5 := X3.out.cell 5; have c6 := X3.out.cell 6; have f4 := X3.out.frozen 4; have f5 := X3.out.frozen 5; have f6 := X3.out.frozen 6)
    have hmd : 0 / 7 = st.2 + leftN st keep := HM3.out
    have DN := hide2 (show OwnDOps w3 B (.slice Al nl cl) (st.1.take (0 / 7)).length (st.1.take (0 / 7)) by rw [← HNL.out]; exact (OL.out.keep DOpR.kept D3.out).base (Nat.le_trans hB D1.out.size))
    have BN := hide2 (show OwnBts w3 B (.slice Ac 0 cc) (7 * (st.1.take (0 / 7)).length) (jb (st.1.take (0 / 7))) from OB.out.base (Nat.le_trans hB (D1.out.trans (D2.out.mono D1.out.size)).size))
    obtain ⟨g1, g2⟩ := HallW.set3 (B := B) (vd' := .slice Al nl cl) (vb' := .slice Ac 0 cc) (st' := (st.1.take (st.2 + leftN st keep), st.2 + leftN st keep)) X3.out h0.out.lo (by rw [← hmd]; exact DN.out) (by rw [← hmd]; exact BN.out) w.heap.size
    have e7 : ((7 * (st.2 + leftN st keep) : Nat) : Int) = (0 : Int) := by rw [← hmd]; rfl
    simp only [e7] at g1 g2
    exact bodyPost_end (v := .tuple #[]) (by simp [results, Try.results103, go_sem]) rfl ⟨rfl, _, _, g1, below_setAt (below_setAt (below_setAt (((D1.out.trans (D2.out.mono D1.out.size)).trans (D3.out.mono (D1.out.trans (D2.out.mono D1.out.size)).size)).mono hB) hB h0.out.lo 4 _) hB h0.out.lo 5 _) hB h0.out.lo 6 _, (OnlyH.of_below ((D1.out.trans (D2.out.mono D1.out.size)).trans (D3.out.mono (D1.out.trans (D2.out.mono D1.out.size)).size))).trans g2⟩
  · injection hv with e1 e2 e3
    subst e1 e3
    have CR := hide2 (readOwn_calls (w := w1) (A := some ⟨g, 0, none⟩) (n := m) (c := cb) (bs := (jb st.1).take m) ((OB1.out.cutOff hm2).arr (by omega)) (by omega))
    rw [HR.out] at CR
    rw [HM7.out] at CR
    go_upto_region 2 with (go_at_call 159; go_loud ((with_reducible refine CR.out.mono ?_); rintro e2 w2 ⟨Al, nl, cl, rfl, ownl, hb2⟩; have OL := hide2 ownl; have D2 := hide2 hb2; clear ownl hb2 c5))
    have X2 := hide2 (XB1.out.keep D2.out)
    have hnl : nl = (st.1.take (m / 7)).length := OL.out.len.symm
    have HNL := hide2 hnl
    have CC := hide2 (cloneBytes_calls (w := w2) (A := some ⟨g, 0, none⟩) (n := m7) (c := cb) (xs := (jb st.1).take m7) (((OB1.out.keep ByteR.kept D2.out).cutOff (show m7 ≤ nn by omega)).arr (by omega)) (by omega))
    have c5 : w2.cell? ⟨bh, 5, none⟩ = some (.slice _ _ _) := X2.out.cell 5
    clear hnl
    go_wp2_with (go_at_call 160; (with_reducible refine CC.out.mono ?_); rintro e3 w3 ⟨v3, rfl, ownb, hb3⟩; obtain ⟨Ac, cc, hv3, _⟩ := ownb.sl (by omega); subst hv3; have OB := hide2 ownb; have D3 := hide2 hb3; have X3 := hide2 (X2.out.keep D3.out); clear ownb hb3 c5; have c4 := X3.out.cell 4; have c5 := X3.out.cell 5; have c6 := X3.out.cell 6; have f4 := X3.out.frozen 4; have f5 := X3.out.frozen 5; have f6 := X3.out.frozen 6)
    have hmd : m / 7 = st.2 + leftN st keep := HM3.out
    have DN := hide2 (show OwnDOps w3 B (.slice Al nl cl) (st.1.take (m / 7)).length (st.1.take (m / 7)) by rw [← HNL.out]; exact (OL.out.keep DOpR.kept D3.out).base (Nat.le_trans hB D1.out.size))
    have hlen : (st.1.take (m / 7)).length = m / 7 := by rw [List.length_take]; have := HNN.out; omega
    have BN := hide2 (show OwnBts w3 B (.slice Ac m7 cc) (7 * (st.1.take (m / 7)).length) (jb (st.1.take (m / 7))) by
      rw [hlen, HM7.out, ← JT.out, HM7.out]
      exact OB.out.base (Nat.le_trans hB (D1.out.trans (D2.out.mono D1.out.size)).size))
    obtain ⟨g1, g2⟩ := HallW.set3 (B := B) (vd' := .slice Al nl cl) (vb' := .slice Ac m7 cc) (st' := (st.1.take (st.2 + leftN st keep), st.2 + leftN st keep)) X3.out h0.out.lo (by rw [← hmd]; exact DN.out) (by rw [← hmd]; exact BN.out) w.heap.size
    have e7 : ((7 * (st.2 + leftN st keep) : Nat) : Int) = (m7 : Int) := by rw [← hmd, HM7.out]
    simp only [e7] at g1 g2
    exact bodyPost_end (v := .tuple #[]) (by simp [results, Try.results103, go_sem]) rfl ⟨rfl, _, _, g1, below_setAt (below_setAt (below_setAt (((D1.out.trans (D2.out.mono D1.out.size)).trans (D3.out.mono (D1.out.trans (D2.out.mono D1.out.size)).size)).mono hB) hB h0.out.lo 4 _) hB h0.out.lo 5 _) hB h0.out.lo 6 _, (OnlyH.of_below ((D1.out.trans (D2.out.mono D1.out.size)).trans (D3.out.mono (D1.out.trans (D2.out.mono D1.out.size)).size))).trans g2⟩
end Go.Proofs.Ytmnacahoamkokaa
namespace Go.Proofs.Ytmnacahoamkokaa
open Go.RowKit

theorem Answers.beside {w w' : World} {b ty : Nat} {cs : Array Value} {A : Option Addr} {n c : Nat} {xs : List (Int × Int)} (h : Answers w A n c xs) (hb : Box w b ty cs) (hcs : ∀ (j : Nat) (x : Int), cs[j]? ≠ some (.int .i64 x)) (hw : Beside b w w') : Answers w' A n c xs :=
  Sl.beside h (by omega) (fun vs x hx => ⟨⟨_, hx.1⟩, hx⟩) hb hcs hw

set_option maxRecDepth 100000 in
set_option maxHeartbeats 4000000 in
theorem hallDesk_calls {w : World} {bh : Nat} {P : Int} {A : Option Addr} {n c : Nat} {i : Int} {R : Option Addr} {r q : Nat} {vb vs : Value} {Ad : Option Addr} {sl cd : Nat} {os : List POp} {ts : List PTran} {roles : List (List Int)} (hx : Box w bh 184 #[.int .i64 P, .slice A n c, .int .i64 i, .slice R r q, .slice Ad sl cd, vb, vs]) (sd : DOps w Ad sl cd os) (t : Trans w A n c ts) (g : Lists w R r q roles) (hs : sl ≤ 3518437208780) :
    Calls Try.prog 101 #[.pointer (some ⟨bh, 0, none⟩)] w (AnsPlayD (playD ⟨P, ts⟩ roles i os) w) := by
  generalize hw : w.alloc (.cells #[.slice none 0 0, .slice none 0 0, .slice none 0 0] 78) = w0
  have hB := hide2 (show Below w.heap.size w w0 by rw [← hw]; exact (Below.refl _ _).alloc (Nat.le_refl _) _)
  have X1 := hide2 (show Box w0 w.heap.size 78 #[.slice none 0 0, .slice none 0 0, .slice none 0 0] by rw [← hw]; exact Box.new _ _ _)
  have XH := hide2 (hx.keep hB.out)
  have hlt := hide2 (show bh < w.heap.size from hx.lt)
  have CD := hide2 (fun (w' : World) (hb : Below w0.heap.size w0 w') => deskPlay_calls (P := P) i ((t.keep hB.out).keep hb) (Sl.keep ListR.kept (Sl.keep ListR.kept g hB.out) hb) (Sl.keep DOpR.kept (Sl.keep DOpR.kept sd hB.out) hb) hs)
  obtain ⟨PR, hPR⟩ : ∃ PR, playD ⟨P, ts⟩ roles i os = PR := ⟨_, rfl⟩
  rw [hPR]
  simp only [hPR] at CD
  obtain ⟨kd, la, er⟩ := PR
  clear hx t g sd hPR
  go_enter Try.func101, Try.ntmps101
  go_upto_region 1 with fail
  clear hw
  have hne1 : bh ≠ w.heap.size := by have := hlt.out; omega
  have hne2 : w.heap.size ≠ bh := by have := hlt.out; omega
  have h0 : w0.cell? ⟨bh, 0, none⟩ = some (.int .i64 P) := XH.out.cell 0
  have h1 : w0.cell? ⟨bh, 1, none⟩ = some (.slice A n c) := XH.out.cell 1
  have h2 : w0.cell? ⟨bh, 2, none⟩ = some (.int .i64 i) := XH.out.cell 2
  have h3 : w0.cell? ⟨bh, 3, none⟩ = some (.slice R r q) := XH.out.cell 3
  have h4 : w0.cell? ⟨bh, 4, none⟩ = some (.slice Ad sl cd) := XH.out.cell 4
  have DR := hide2 ((Below.refl w0.heap.size w0).drew)
  have KEEP := hide2 (show ∀ w', Below w0.heap.size w0 w' → w'.cell? ⟨bh, 0, none⟩ = some (.int .i64 P) ∧ w'.cell? ⟨bh, 1, none⟩ = some (.slice A n c) ∧ w'.cell? ⟨bh, 2, none⟩ = some (.int .i64 i) ∧ w'.cell? ⟨bh, 3, none⟩ = some (.slice R r q) ∧ w'.cell? ⟨bh, 4, none⟩ = some (.slice Ad sl cd) from fun w' hb => ⟨(XH.out.keep hb).cell 0, (XH.out.keep hb).cell 1, (XH.out.keep hb).cell 2, (XH.out.keep hb).cell 3, (XH.out.keep hb).cell 4⟩)
  go_region_held3 (fun w' => w'.cell? ⟨bh, 0, none⟩ = some (.int .i64 P) ∧ w'.cell? ⟨bh, 1, none⟩ = some (.slice A n c) ∧ w'.cell? ⟨bh, 2, none⟩ = some (.int .i64 i) ∧ w'.cell? ⟨bh, 3, none⟩ = some (.slice R r q) ∧ w'.cell? ⟨bh, 4, none⟩ = some (.slice Ad sl cd))
    (first | go_keep)
    (first | (go_at_call 157; (with_reducible refine (CD.out _ DR.out).mono ?_); rintro e w2 ⟨B2, m2, d2, D2, l2, f2, I2, n2, c2, A2, na, ca, rfl, dw, an, hb2⟩; have DW := hide2 dw; have AN := hide2 an; have F2 := hide2 (DR.out.trans (hb2.mono DR.out.size)); clear dw an hb2 h0 h1 h2 h3 h4; obtain ⟨h0, h1, h2, h3, h4⟩ := KEEP.out w2 F2.out; obtain ⟨z0, z1, z2⟩ := (X1.out.keep F2.out).three; have z3 := (X1.out.keep F2.out).frozen 0; have z4 := (X1.out.keep F2.out).frozen 1; have z5 := (X1.out.keep F2.out).frozen 2))
  all_goals
    go_wp2
    obtain ⟨r0, r1, r2⟩ := ((X1.out.keep F2.out).set3 (.slice B2 m2 d2) (.slice D2 l2 f2) (.slice I2 n2 c2)).three
    have BW := below_set3 (hB.out.trans (F2.out.mono hB.out.size)) (Nat.le_refl w.heap.size) (.slice B2 m2 d2) (.slice D2 l2 f2) (.slice I2 n2 c2)
    exact bodyPost_ret (v := .tuple #[.agg #[.slice B2 m2 d2, .slice D2 l2 f2, .slice I2 n2 c2], .slice A2 na ca, .int .i64 er]) (by simp [results, Try.results101, go_sem, r0, r1, r2]) rfl ⟨B2, m2, d2, D2, l2, f2, I2, n2, c2, A2, na, ca, rfl, DW.out.beside (X1.out.keep F2.out) noInt3 (Beside.set3 _ _ _ _ _), AN.out.beside (X1.out.keep F2.out) noInt3 (Beside.set3 _ _ _ _ _), BW⟩

theorem Answers.at {w : World} {A : Option Addr} {n c k : Nat} {os : List (Int × Int)} (h : Answers w A n c os) (hk : k < n) :
    ∃ b off o, A = some ⟨b, off, none⟩ ∧ b < w.heap.size ∧ Hid (os[k]? = some o) ∧ w.cell? ⟨b, off + k * 2, none⟩ = some (.int .i64 o.1) ∧ w.cell? ⟨b, off + k * 2 + 1, none⟩ = some (.int .i64 o.2) := by
  obtain ⟨b, off, o, vs, h1, h2, h3, h4, e0, e1⟩ := Sl.get h hk
  refine ⟨b, off, o, h1, h2, h3, ?_, ?_⟩
  · rw [← e0]; exact h4 0 (by omega)
  · rw [← e1]; exact h4 1 (by omega)

theorem ownAny {α : Type} {R : World → (Nat → Value) → α → Prop} {sz : Nat} {w : World} {B e n c : Nat} {A : Option Addr} {xs : List α} (h : OwnSl R sz w B e (.slice A n c) n xs) (hn : n ≤ 281474976710656) : Sl R sz w A n c xs := by
  obtain ⟨A2, c2, hv, s2⟩ := h.sl hn
  injection hv with e1 _ e2
  subst e1 e2
  exact s2
set_option maxRecDepth 100000 in
set_option maxHeartbeats 8000000 in
theorem hallDo_calls {w : World} {B bh : Nat} {P : Int} {A : Option Addr} {n c : Nat} {i : Int} {R : Option Addr} {r q : Nat} {vd vb : Value} {st : HSt} {ts : List PTran} {roles : List (List Int)} (o : POp) (h : HallW w B bh P A n c i R r q vd vb st) (_ : HallOk st) (hbl : (beginL ⟨P, ts⟩ i).2 = 0) (t : ∀ w', Below B w w' → Trans w' A n c ts) (g : ∀ w', Below B w w' → Lists w' R r q roles) (hl : st.1.length ≤ 1048575) (hB : B ≤ w.heap.size) :
    Calls Try.prog 102 #[.pointer (some ⟨bh, 0, none⟩), .agg #[.int .i64 o.kind, .int .i64 o.user, .int .i64 o.tran, .int .i64 o.item, .int .i64 o.to_]] w fun e w' => e = .returned (.agg #[.int .i64 (hdo ⟨P, ts⟩ roles ⟨(beginL ⟨P, ts⟩ i).1, []⟩ st o).2.1, .int .i64 (hdo ⟨P, ts⟩ roles ⟨(beginL ⟨P, ts⟩ i).1, []⟩ st o).2.2]) ∧ ∃ vd' vb', HallW w' B bh P A n c i R r q vd' vb' (hdo ⟨P, ts⟩ roles ⟨(beginL ⟨P, ts⟩ i).1, []⟩ st o).1 ∧ Below B w w' ∧ OnlyH w.heap.size w w' := by
  have PD := playD_yes (N := ⟨P, ts⟩) (roles := roles) (i := i) (l := st.1 ++ [o]) rfl hbl
  rw [runD_snoc] at PD
  have hLl := (runD_ok ⟨P, ts⟩ roles st.1 _ (DeskOk.start hbl)).2.2
  obtain ⟨k0, hk0⟩ : ∃ k0 : PDesk, (⟨(beginL ⟨P, ts⟩ i).1, []⟩ : PDesk) = k0 := ⟨_, rfl⟩
  rw [hk0] at hLl PD
  rw [hk0]
  have HE0 := hide2 (show (writeL o).2 ≠ 0 → hdo ⟨P, ts⟩ roles k0 st o = (st, ((writeL o).2, 0)) from fun hw => by rw [hdo, if_neg hw])
  have HE1 := hide2 (show (writeL o).2 = 0 → (stepD ⟨P, ts⟩ roles (runD ⟨P, ts⟩ roles k0 st.1).1 o).2.2 ≠ 0 → hdo ⟨P, ts⟩ roles k0 st o = (st, ((stepD ⟨P, ts⟩ roles (runD ⟨P, ts⟩ roles k0 st.1).1 o).2.2, (stepD ⟨P, ts⟩ roles (runD ⟨P, ts⟩ roles k0 st.1).1 o).2.1)) from fun hw he => by rw [hdo, if_pos hw, if_neg he])
  have HE2 := hide2 (show (writeL o).2 = 0 → (stepD ⟨P, ts⟩ roles (runD ⟨P, ts⟩ roles k0 st.1).1 o).2.2 = 0 → hdo ⟨P, ts⟩ roles k0 st o = ((st.1 ++ [o], st.2), (0, (stepD ⟨P, ts⟩ roles (runD ⟨P, ts⟩ roles k0 st.1).1 o).2.1)) from fun hw he => by rw [hdo, if_pos hw, if_pos he])
  generalize hdo ⟨P, ts⟩ roles k0 st o = HD at *
  generalize stepD ⟨P, ts⟩ roles (runD ⟨P, ts⟩ roles k0 st.1).1 o = SD at *
  generalize (runD ⟨P, ts⟩ roles k0 st.1).2 = LA at *
  obtain ⟨sk, it, er⟩ := SD
  simp only at PD HE1 HE2
  have PDH := hide2 PD
  have HLL := hide2 hLl
  obtain ⟨BL, ew⟩ : ∃ x, x = writeL o := ⟨_, rfl⟩
  have CW := hide2 (fun (w' : World) => write_calls (w := w') o)
  have CO := hide2 (fun (w' : World) (hw : (writeL o).2 = 0) => write_good (w := w') o (writeL_zero.1 hw))
  have WL := hide2 (show ∀ (_ : (writeL o).2 = 0), (writeL o).1.length = 7 from fun hw => writeL_len (writeL_zero.1 hw))
  have JS := hide2 (jb_snoc st.1 o)
  clear ew BL
  obtain ⟨BW, hBW⟩ : ∃ x, writeL o = x := ⟨_, rfl⟩
  rw [hBW] at HE0 HE1 HE2 WL JS
  simp only [hBW] at CW CO
  obtain ⟨bl, ew⟩ := BW
  simp only at HE0 HE1 HE2 WL JS
  have hv0 := ownCase h.done
  clear PD hLl hk0 hbl hBW
  generalize hw : (w.alloc (.cells #[.int .i64 o.kind, .int .i64 o.user, .int .i64 o.tran, .int .i64 o.item, .int .i64 o.to_] 187)).alloc (.cells #[.int .i64 0, .int .i64 0] 85) = w0
  have HB0 := hide2 (show Below w.heap.size w w0 by rw [← hw]; exact ((Below.refl _ _).alloc (Nat.le_refl _) _).alloc (by simp) _)
  have X3 := hide2 (show Box w0 w.heap.size 187 #[.int .i64 o.kind, .int .i64 o.user, .int .i64 o.tran, .int .i64 o.item, .int .i64 o.to_] by rw [← hw]; exact (Box.new _ _ _).old _)
  have X4 := hide2 (show Box w0 (w.heap.size + 1) 85 #[.int .i64 0, .int .i64 0] by rw [← hw]; exact Box.newAt (by simp) _ _)
  have H := hide2 h
  have TT := hide2 t
  have GG := hide2 g
  have hlt := hide2 (show bh < w.heap.size from h.box.lt)
  clear h t g
  go_enter Try.func102, Try.ntmps102
  go_upto_region 1 with fail
  clear hw
  obtain ⟨p0, p1, p2, p3, p4⟩ := X3.out.five
  by_cases hew : ew = 0
  · subst hew
    go_upto_region 4 with (go_at_call 158; go_loud ((with_reducible refine (CO.out _ (by first | rfl | trivial)).mono ?_); rintro e1 w1 ⟨Ab, nb, cb, rfl, ib, hb1⟩; have IB := hide2 ib; have B1 := hide2 (HB0.out.trans (hb1.mono HB0.out.size)); have Y3 := hide2 (X3.out.keep hb1); have Y4 := hide2 (X4.out.keep hb1); clear ib hb1 p0 p1 p2 p3 p4 X3 X4))
    have Z0 := hide2 (show HallW w1.drew B bh P A n c i R r q vd vb st from H.out.keep B1.out.drew)
    have Z3 := hide2 (Y3.out.drew)
    have Z4 := hide2 (Y4.out.drew)
    have D1 := hide2 (B1.out.drew)
    have IB1 := hide2 (show OwnBts w1.drew w.heap.size (.slice Ab nb cb) nb bl from (IB.out.base HB0.out.size).keep ByteR.kept ⟨rfl, rfl, rfl, Nat.le_refl _, fun _ _ => rfl⟩)
    obtain ⟨Ad, cd, hvd, sd⟩ := Z0.out.done.sl (by omega)
    subst hvd
    obtain ⟨nn, hnn⟩ : ∃ nn, st.1.length = nn := ⟨_, rfl⟩
    have HNN := hide2 hnn
    have NA := hide2 (show (Value.slice Ad st.1.length cd).ownBlock ≠ some w.heap.size from H.out.done.notAt (Nat.le_refl _))
    have OD := hide2 Z0.out.done
    have OB := hide2 Z0.out.bytes
    have XH := hide2 Z0.out.box
    rw [hnn] at OD OB XH hl NA
    clear sd H hnn HE0 Y3 Y4 B1 hv0 IB
    obtain ⟨p0, p1, p2, p3, p4⟩ := Z3.out.five
    have c4 : w1.drew.cell? ⟨bh, 4, none⟩ = some (.slice Ad nn cd) := XH.out.cell 4
    refine wp_region_scr 10 (.takes [0, 1, 2, 3, 4, 5] (.one 6 (.one 7 (.one 8 (.one 9 (.fin 10 .done)))))) (fun w' => w'.cell? ⟨bh, 4, none⟩ = some (.slice Ad nn cd) ∧ w'.cell? ⟨w.heap.size, 0, none⟩ = some (.int .i64 o.kind) ∧ w'.cell? ⟨w.heap.size, 1, none⟩ = some (.int .i64 o.user) ∧ w'.cell? ⟨w.heap.size, 2, none⟩ = some (.int .i64 o.tran) ∧ w'.cell? ⟨w.heap.size, 3, none⟩ = some (.int .i64 o.item) ∧ w'.cell? ⟨w.heap.size, 4, none⟩ = some (.int .i64 o.to_)) (by kernel_rfl) (by kernel_rfl) (by kernel_rfl) (fun _ _ _ _ _ h => h) ⟨c4, p0, p1, p2, p3, p4⟩ (fun hHeld => ?_)
    simp only [Scr.takes]
    generalize w1.drew = u0 at *
    iterate 6
      refine tkTake (v := ?_) rfl (by rfl) hHeld (fun w' hSw => ?_) ?_
      rotate_left
      · (go_simp; try with_reducible rfl)
      try simp only [Act.put, List.setIfInBounds_toArray, List.set_cons_zero, List.set_cons_succ]
    refine tkOne rfl (fun Kf hKf => ?_)
    go_simp
    refine hKf.out _ _ ⟨(XH.out.old _).cell 4, (Z3.out.old _).five⟩ (fun hHeld => ?_)
    clear hKf
    try simp only [Act.put, List.setIfInBounds_toArray, List.set_cons_zero, List.set_cons_succ]
    refine tkOne rfl (fun Kf hKf => ?_)
    refine step_appNew tyDOps rfl (.tmp 24) (.tmp 26) rfl [o] #[.int .i64 o.kind, .int .i64 o.user, .int .i64 o.tran, .int .i64 o.item, .int .i64 o.to_] rfl rfl (by first | rfl | simp) rfl rfl (by omega) (by simp [Value.oneCell']) OD.out (by have h := Reads.dop (w := u0) (o := o); simpa using h) rfl (D1.out.mono hB) (Nat.le_trans hB D1.out.size) (by omega) (by omega) (fun _ _ _ _ h => h) ?_
    intro g5 cap5 w5 own5 hg5 hb5 hBg hgl
    replace hg5 : u0.grownBy w5 (Value.slice Ad nn cd).ownBlock := hg5
    obtain ⟨cells, od1, _⟩ := id OD.out
    obtain ⟨_, ob1, _⟩ := id OB.out
    have O5 := hide2 own5
    have B5 := hide2 hb5
    have X5 := hide2 (XH.out.grown hg5 (OD.out.notBox XH.out (by decide)))
    have V3 := hide2 (Z3.out.grown hg5 NA.out)
    have V4 := hide2 (Z4.out.grown hg5 (OD.out.notBox Z4.out (by decide)))
    have OB5 := hide2 (show OwnBts w5 B vb (7 * nn) (jb st.1) from OB.out.kept hg5 (own_ne ob1 od1 (by decide)) (fun _ _ hx => hx))
    obtain ⟨_, ib1, _⟩ := id IB1.out
    have IB5 := hide2 (show OwnBts w5 w.heap.size (.slice Ab nb cb) nb bl from IB1.out.kept hg5 (own_ne ib1 od1 (by decide)) (fun _ _ hx => hx))
    have OH5 := hide2 ((OnlyH.of_below D1.out).trans (OnlyH.of_grown (N := w.heap.size) hg5 D1.out.size od1 (.inl rfl)))
    have SZ5 := hide2 (show w.heap.size ≤ w5.heap.size from Nat.le_trans D1.out.size hg5.size)
    clear own5 hb5 hg5 od1 ob1 ib1 hBg hgl c4 p0 p1 p2 p3 p4
    have c4 : w5.cell? ⟨bh, 4, none⟩ = some (.slice Ad nn cd) := X5.out.cell 4
    have f4 := X5.out.frozen 4
    refine hKf.out _ _ ⟨c4, V3.out.five⟩ (fun hHeld => ?_)
    clear hKf
    try simp only [Act.put, List.setIfInBounds_toArray, List.set_cons_zero, List.set_cons_succ]
    refine tkOne rfl (fun Kf hKf => ?_)
    go_simp
    refine hKf.out _ _ ⟨c4, V3.out.five⟩ (fun hHeld => ?_)
    clear hKf
    try simp only [Act.put, List.setIfInBounds_toArray, List.set_cons_zero, List.set_cons_succ]
    refine tkOne rfl (fun Kf hKf => ?_)
    go_simp
    refine hKf.out _ _ ⟨c4, V3.out.five⟩ (fun hHeld => ?_)
    clear hKf
    try simp only [Act.put, List.setIfInBounds_toArray, List.set_cons_zero, List.set_cons_succ]
    refine tkEnd rfl (fun Kf hKf => ?_)
    go_simp
    refine hKf.out _ _ ?_
    clear hKf
    try simp only [Act.put, List.setIfInBounds_toArray, List.set_cons_zero, List.set_cons_succ]
    refine tkDone ?_
    clear hHeld c4 f4
    have X6 := hide2 (show Box (w5.setCell ⟨bh, 4, none⟩ (.slice (some ⟨g5, 0, none⟩) (nn + 1) cap5)) bh 184 #[.int .i64 P, .slice A n c, .int .i64 i, .slice R r q, .slice (some ⟨g5, 0, none⟩) (nn + 1) cap5, vb, .int .i64 ((7 * st.2 : Nat) : Int)] by simpa using X5.out.set 4 (.slice (some ⟨g5, 0, none⟩) (nn + 1) cap5))
    have O6 := hide2 (O5.out.besideHall X5.out (by decide) 4 (.slice (some ⟨g5, 0, none⟩) (nn + 1) cap5) (fun _ _ hx => hx))
    have OB6 := hide2 (OB5.out.besideHall X5.out (by decide) 4 (.slice (some ⟨g5, 0, none⟩) (nn + 1) cap5) (fun _ _ hx => hx))
    have IB6 := hide2 (IB5.out.besideHall X5.out (by decide) 4 (.slice (some ⟨g5, 0, none⟩) (nn + 1) cap5) (fun _ _ hx => hx))
    have V46 := hide2 (V4.out.other (a := ⟨bh, 4, none⟩) (.slice (some ⟨g5, 0, none⟩) (nn + 1) cap5) (show w.heap.size + 1 ≠ bh by have := hlt.out; omega))
    have OH6 := hide2 (OH5.out.trans (OnlyH.set X5.out 4 (.slice (some ⟨g5, 0, none⟩) (nn + 1) cap5)))
    have B6 := hide2 (below_setAt B5.out hB (show B ≤ bh from Z0.out.lo) 4 (.slice (some ⟨g5, 0, none⟩) (nn + 1) cap5))
    have SZ6 := hide2 (show w.heap.size ≤ (w5.setCell ⟨bh, 4, none⟩ (.slice (some ⟨g5, 0, none⟩) (nn + 1) cap5)).heap.size by simpa [World.setCell] using SZ5.out)
    have HLO := hide2 (show B ≤ bh from Z0.out.lo)
    generalize w5.setCell ⟨bh, 4, none⟩ (.slice (some ⟨g5, 0, none⟩) (nn + 1) cap5) = w6 at *
    clear X5 O5 OB5 V3 V4 OH5 B5 SZ5 Z3 Z4 Z0 OD OB XH D1 IB1 IB5
    have CD := hide2 (hallDesk_calls X6.out (O6.out.arr (by omega)) (TT.out w6 B6.out) (GG.out w6 B6.out) (by omega))
    rw [PDH.out] at CD
    go_upto_region 6 with (go_at_call 101; go_loud ((with_reducible refine CD.out.mono ?_); rintro e7 w7 ⟨B2, m2, d2, D2, l2, f2, I2, n2, c2, A2, na, ca, rfl, _, an, hb7⟩; have AN := hide2 an; have B7 := hide2 hb7; clear an hb7))
    obtain rfl : na = nn + 1 := by have := AN.out.len; rw [List.length_append, HLL.out, HNN.out] at this; exact this.symm
    generalize hw8 : w7.alloc (.cells #[.slice B2 m2 d2, .slice D2 l2 f2, .slice I2 n2 c2] 78) = w8
    have hb8 : Below w7.heap.size w7 w8 := by rw [← hw8]; exact (Below.refl _ _).alloc (Nat.le_refl _) _
    have B8 := hide2 (B7.out.trans (hb8.mono B7.out.size))
    obtain ⟨b9, off9, y9, rfl, _, hy9, q0, q1⟩ := Answers.at (Sl.keep AnsR.kept AN.out hb8) (show nn < nn + 1 by omega)
    obtain rfl : y9 = (er, it) := by have h := hy9.out; rw [List.getElem?_append_right (by rw [HLL.out, HNN.out]; omega), HLL.out, HNN.out] at h; simpa using h.symm
    have hni : (nn : Int) < ((nn + 1 : Nat) : Int) := by omega
    clear hw8 hb8 hy9 AN CD B7
    by_cases her : er = 0
    · subst her
      have HF := hide2 (HE2.out (by first | rfl | trivial) (by first | rfl | trivial))
      go_upto_region 7 with fail
      generalize hw9 : w8.alloc (.cells #[.int .i64 0, .int .i64 it] 85) = w9
      have hb9 : Below w8.heap.size w8 w9 := by rw [← hw9]; exact (Below.refl _ _).alloc (Nat.le_refl _) _
      have X10 := hide2 (show Box w9 w8.heap.size 85 #[.int .i64 0, .int .i64 it] by rw [← hw9]; exact Box.new _ _ _)
      have B9 := hide2 (B8.out.trans (hb9.mono B8.out.size))
      have X69 := hide2 (X6.out.keep B9.out)
      have O69 := hide2 (O6.out.keep DOpR.kept B9.out)
      have OB69 := hide2 (OB6.out.keep ByteR.kept B9.out)
      have V49 := hide2 (V46.out.keep B9.out)
      have IB9 := hide2 (show OwnBts w9 w.heap.size (.slice Ab nb cb) nb bl from IB6.out.keep ByteR.kept B9.out)
      have hne10 := hide2 (show bh < w8.heap.size by have := hlt.out; have := SZ6.out; have := B8.out.size; omega)
      have hne4 := hide2 (show w.heap.size + 1 < w8.heap.size by have := V46.out.lt; have := B8.out.size; omega)
      obtain rfl : nb = 7 := by rw [← IB9.out.len]; exact WL.out (by first | rfl | trivial)
      obtain ⟨Av, cv, hvb, _⟩ := OB69.out.sl (by omega)
      subst hvb
      obtain ⟨nv, hnv⟩ : ∃ nv, 7 * nn = nv := ⟨_, rfl⟩
      have HNV := hide2 hnv
      rw [hnv] at OB69 X69
      clear hw9 hb9 O6 X6 OB6 V46 hnv q0 q1 hni
      generalize w8.heap.size = b10 at *
      have c5 : w9.cell? ⟨bh, 5, none⟩ = some (.slice Av nv cv) := X69.out.cell 5
      have B19 := hide2 (B6.out.trans (B9.out.mono (Nat.le_trans hB SZ6.out)))
      have OH9 := hide2 (OH6.out.trans (OnlyH.of_below (B9.out.mono SZ6.out)))
      have SZ9 := hide2 (Nat.le_trans SZ6.out B9.out.size)
      obtain ⟨_, od1, _⟩ := id O69.out
      obtain ⟨_, ob1, _⟩ := id OB69.out
      have OD1 := hide2 od1
      have OB1 := hide2 ob1
      clear od1 ob1 B6 OH6 B8 B9
      obtain ⟨e0, e1⟩ := X10.out.two
      go_upto_region 11 with (at_builtin; go_loud (refine wpList_appAny tyBytes ByteR.good rfl _ _ rfl rfl rfl OB69.out (ownAny IB9.out (by omega)) B19.out (Nat.le_trans hB SZ9.out) (by omega) (by omega) (fun _ _ _ _ h => h) ?_; intro v10 w10 own10 hg10 hb10; obtain ⟨Ac, cc, hvc, _⟩ := own10.sl (by omega); subst hvc; have O10 := hide2 own10; have G10 := hide2 hg10; have B10 := hide2 hb10; clear own10 hg10 hb10 c5 e0 e1; have X70 := hide2 (X69.out.grown G10.out (OB69.out.notBox X69.out (by decide))); have c5 : w10.cell? ⟨bh, 5, none⟩ = some (.slice Av nv cv) := X70.out.cell 5; have f5 := X70.out.frozen 5))
      have X11 := hide2 (X10.out.grown G10.out (OB69.out.notBox X10.out (by decide)))
      have V50 := hide2 (V49.out.grown G10.out (OB69.out.notBox V49.out (by decide)))
      have O70 := hide2 (show OwnDOps w10 B (.slice (some ⟨g5, 0, none⟩) (nn + 1) cap5) (nn + 1) (st.1 ++ [o]) from O69.out.kept G10.out (own_ne OD1.out OB1.out (by decide)) (fun _ _ hx => hx))
      have OH10 := hide2 (OH9.out.trans (OnlyH.of_grown G10.out SZ9.out OB1.out (.inr rfl)))
      have SZ10 := hide2 (Nat.le_trans SZ9.out G10.out.size)
      have X71 := hide2 (X70.out.set 5 (.slice Ac (nv + 7) cc))
      have O71 := hide2 (O70.out.besideHall X70.out (by decide) 5 (.slice Ac (nv + 7) cc) (fun _ _ hx => hx))
      have OB71 := hide2 (O10.out.besideHall X70.out (by decide) 5 (.slice Ac (nv + 7) cc) (fun _ _ hx => hx))
      have X12 := hide2 (X11.out.other (a := ⟨bh, 5, none⟩) (.slice Ac (nv + 7) cc) (show b10 ≠ bh by have := hne10.out; omega))
      have V51 := hide2 (V50.out.other (a := ⟨bh, 5, none⟩) (.slice Ac (nv + 7) cc) (show w.heap.size + 1 ≠ bh by have := hlt.out; omega))
      have OH11 := hide2 (OH10.out.trans (OnlyH.set X70.out 5 (.slice Ac (nv + 7) cc)))
      have B11 := hide2 (below_setAt B10.out hB HLO.out 5 (.slice Ac (nv + 7) cc))
      have SZ11 := hide2 (show w.heap.size ≤ (w10.setCell ⟨bh, 5, none⟩ (.slice Ac (nv + 7) cc)).heap.size by simpa [World.setCell] using SZ10.out)
      have HN1 := hide2 (show (st.1 ++ [o]).length = nn + 1 by rw [List.length_append, HNN.out]; rfl)
      have HW := hide2 (show HallW (w10.setCell ⟨bh, 5, none⟩ (.slice Ac (nv + 7) cc)) B bh P A n c i R r q (.slice (some ⟨g5, 0, none⟩) (nn + 1) cap5) (.slice Ac (nv + 7) cc) (st.1 ++ [o], st.2) from
        ⟨HLO.out, by simpa using X71.out, by show OwnDOps _ _ _ (st.1 ++ [o]).length (st.1 ++ [o]); rw [HN1.out]; exact O71.out, by show OwnBts _ _ _ (7 * (st.1 ++ [o]).length) (jb (st.1 ++ [o])); rw [HN1.out, JS.out, show 7 * (nn + 1) = nv + 7 by rw [← HNV.out]; rfl]; exact OB71.out⟩)
      clear c5 f5 X69 X70 X10 X11 V49 V50 O69 O70 OB69 OB1 OD1 O10 G10 B10 OH9 OH10 X71 O71 OB71 IB9 IB6
      generalize w10.setCell ⟨bh, 5, none⟩ (.slice Ac (nv + 7) cc) = w11 at *
      obtain ⟨e0, e1⟩ := X12.out.two
      obtain ⟨z0, z1⟩ := V51.out.two
      have zf0 := V51.out.frozen 0
      have zf1 := V51.out.frozen 1
      go_wp2
      obtain ⟨r0, r1⟩ := (V51.out.set2 (.int .i64 0) (.int .i64 it)).two
      have hbt : bh ≠ w.heap.size + 1 := by have := hlt.out; omega
      have HW2 := (HW.out.setOther V51.out hbt (by decide) (by decide) 0 (.int .i64 0)).setOther (V51.out.set 0 (.int .i64 0)) hbt (by decide) (by decide) 1 (.int .i64 it)
      have BW := below_setAt (below_setAt B11.out hB (show B ≤ w.heap.size + 1 by omega) 0 (.int .i64 0)) hB (show B ≤ w.heap.size + 1 by omega) 1 (.int .i64 it)
      have OW := OH11.out.trans (OnlyH.of_below (below_setAt (below_setAt (Below.refl w.heap.size w11) SZ11.out (show w.heap.size ≤ w.heap.size + 1 by omega) 0 (.int .i64 0)) SZ11.out (show w.heap.size ≤ w.heap.size + 1 by omega) 1 (.int .i64 it)))
      exact bodyPost_ret (v := .agg #[.int .i64 0, .int .i64 it]) (by simp [results, Try.results102, go_sem, r0, r1]) rfl (by rw [HF.out]; first | exact ⟨rfl, _, _, HW2, BW, OW⟩ | exact ⟨rfl, ⟨_, _, HW2⟩, BW, OW⟩)
    · have HF := hide2 (HE1.out (by first | rfl | trivial) her)
      go_upto_region 7 with fail
      generalize hw9 : w8.alloc (.cells #[.int .i64 er, .int .i64 it] 85) = w9
      have hb9 : Below w8.heap.size w8 w9 := by rw [← hw9]; exact (Below.refl _ _).alloc (Nat.le_refl _) _
      have X10 := hide2 (show Box w9 w8.heap.size 85 #[.int .i64 er, .int .i64 it] by rw [← hw9]; exact Box.new _ _ _)
      have B9 := hide2 (B8.out.trans (hb9.mono B8.out.size))
      have X69 := hide2 (X6.out.keep B9.out).drew
      have O69 := hide2 (show OwnDOps w9.drew B (.slice (some ⟨g5, 0, none⟩) (nn + 1) cap5) (nn + 1) (st.1 ++ [o]) from O6.out.keep DOpR.kept B9.out.drew)
      have OB69 := hide2 (show OwnBts w9.drew B vb (7 * nn) (jb st.1) from OB6.out.keep ByteR.kept B9.out.drew)
      have V49 := hide2 (V46.out.keep B9.out).drew
      have hne10 := hide2 (show bh < w8.heap.size by have := hlt.out; have := SZ6.out; have := B8.out.size; omega)
      have B19 := hide2 (B6.out.trans (B9.out.mono (Nat.le_trans hB SZ6.out))).drew
      have OH9 := hide2 (OH6.out.trans (OnlyH.of_below (B9.out.mono SZ6.out).drew))
      obtain ⟨e0, e1⟩ := X10.out.two
      have Y10 := hide2 X10.out.drew
      have hcap5 : nn + 1 ≤ cap5 := (O69.out.arr (by omega)).le
      have hcap5i : (nn : Int) ≤ (cap5 : Int) := by omega
      have WX := hide2 (show IntKind.i64.wrap (nn : Int) = (nn : Int) by rw [IntKind.wrap_i64]; omega)
      clear hw9 hb9 O6 X6 OB6 V46 q0 q1 hni
      generalize w8.heap.size = b10 at *
      go_upto_region 8 with fail
      have c4 : w9.drew.cell? ⟨bh, 4, none⟩ = some (.slice (some ⟨g5, 0, none⟩) (nn + 1) cap5) := X69.out.cell 4
      have f4 := X69.out.frozen 4
      clear e0 e1 X10
      refine wp_region_scr 14 (.takes [0, 1, 2, 3, 4, 5, 6, 7, 8, 9, 10] (.take 11 (.one 12 (.one 13 (.fin 14 .done))))) (fun w' => w'.cell? ⟨bh, 4, none⟩ = some (.slice (some ⟨g5, 0, none⟩) (nn + 1) cap5)) (by kernel_rfl) (by kernel_rfl) (by kernel_rfl) (fun _ _ _ _ _ h => h) c4 (fun hHeld => ?_)
      simp only [Scr.takes]
      generalize w9.drew = u9 at *
      iterate 11
        refine tkTake (v := ?_) rfl (by rfl) hHeld (fun w' hSw => ?_) ?_
        rotate_left
        · (go_simp; try with_reducible rfl)
        try simp only [Act.put, List.setIfInBounds_toArray, List.set_cons_zero, List.set_cons_succ]
      try rw [WX.out]
      refine tkTake (v := ?_) rfl (by rfl) hHeld (fun w' hSw => ?_) ?_
      rotate_left
      · (go_simp; try with_reducible rfl)
      try simp only [Act.put, List.setIfInBounds_toArray, List.set_cons_zero, List.set_cons_succ]
      refine tkOne rfl (fun Kf hKf => ?_)
      go_simp
      refine hKf.out _ _ c4 (fun hHeld => ?_)
      clear hKf
      try simp only [Act.put, List.setIfInBounds_toArray, List.set_cons_zero, List.set_cons_succ]
      refine tkOne rfl (fun Kf hKf => ?_)
      go_simp
      refine hKf.out _ _ c4 (fun hHeld => ?_)
      clear hKf
      try simp only [Act.put, List.setIfInBounds_toArray, List.set_cons_zero, List.set_cons_succ]
      refine tkEnd rfl (fun Kf hKf => ?_)
      go_simp
      refine hKf.out _ _ ?_
      clear hKf
      try simp only [Act.put, List.setIfInBounds_toArray, List.set_cons_zero, List.set_cons_succ]
      refine tkDone ?_
      clear hHeld c4 f4
      have OC := hide2 (show OwnDOps u9 B (.slice (some ⟨g5, 0, none⟩) nn cap5) nn st.1 by
        have h := O69.out.cutOff (show nn ≤ nn + 1 by omega)
        rwa [List.take_append_of_le_length (by rw [HNN.out]; exact Nat.le_refl _), List.take_of_length_le (by rw [HNN.out]; exact Nat.le_refl _)] at h)
      have HW := hide2 (show HallW (u9.setCell ⟨bh, 4, none⟩ (.slice (some ⟨g5, 0, none⟩) nn cap5)) B bh P A n c i R r q (.slice (some ⟨g5, 0, none⟩) nn cap5) vb st from
        ⟨HLO.out, by simpa using X69.out.set 4 (.slice (some ⟨g5, 0, none⟩) nn cap5), by rw [HNN.out]; exact OC.out.besideHall X69.out (by decide) 4 _ (fun _ _ hx => hx), by rw [HNN.out]; exact OB69.out.besideHall X69.out (by decide) 4 _ (fun _ _ hx => hx)⟩)
      have X12 := hide2 (Y10.out.other (a := ⟨bh, 4, none⟩) (.slice (some ⟨g5, 0, none⟩) nn cap5) (show b10 ≠ bh by have := hne10.out; omega))
      have V51 := hide2 (V49.out.other (a := ⟨bh, 4, none⟩) (.slice (some ⟨g5, 0, none⟩) nn cap5) (show w.heap.size + 1 ≠ bh by have := hlt.out; omega))
      have OH11 := hide2 (OH9.out.trans (OnlyH.set X69.out 4 (.slice (some ⟨g5, 0, none⟩) nn cap5)))
      have B11 := hide2 (below_setAt B19.out hB HLO.out 4 (.slice (some ⟨g5, 0, none⟩) nn cap5))
      have SZ11 := hide2 (show w.heap.size ≤ (u9.setCell ⟨bh, 4, none⟩ (.slice (some ⟨g5, 0, none⟩) nn cap5)).heap.size by simpa [World.setCell] using OH9.out.size)
      clear X69 O69 OB69 V49 B19 OH9 Y10 OC
      generalize u9.setCell ⟨bh, 4, none⟩ (.slice (some ⟨g5, 0, none⟩) nn cap5) = w11 at *
      obtain ⟨e0, e1⟩ := X12.out.two
      obtain ⟨z0, z1⟩ := V51.out.two
      have zf0 := V51.out.frozen 0
      have zf1 := V51.out.frozen 1
      go_wp2
      obtain ⟨r0, r1⟩ := (V51.out.set2 (.int .i64 er) (.int .i64 it)).two
      have hbt : bh ≠ w.heap.size + 1 := by have := hlt.out; omega
      have HW2 := (HW.out.setOther V51.out hbt (by decide) (by decide) 0 (.int .i64 er)).setOther (V51.out.set 0 (.int .i64 er)) hbt (by decide) (by decide) 1 (.int .i64 it)
      have BW := below_setAt (below_setAt B11.out hB (show B ≤ w.heap.size + 1 by omega) 0 (.int .i64 er)) hB (show B ≤ w.heap.size + 1 by omega) 1 (.int .i64 it)
      have OW := OH11.out.trans (OnlyH.of_below (below_setAt (below_setAt (Below.refl w.heap.size w11) SZ11.out (show w.heap.size ≤ w.heap.size + 1 by omega) 0 (.int .i64 er)) SZ11.out (show w.heap.size ≤ w.heap.size + 1 by omega) 1 (.int .i64 it)))
      exact bodyPost_ret (v := .agg #[.int .i64 er, .int .i64 it]) (by simp [results, Try.results102, go_sem, r0, r1]) rfl (by rw [HF.out]; first | exact ⟨rfl, _, _, HW2, BW, OW⟩ | exact ⟨rfl, ⟨_, _, HW2⟩, BW, OW⟩)
  · have HF := hide2 (HE0.out hew)
    go_wp2_with (go_at_call 158; (with_reducible refine (CW.out _).mono ?_); rintro e1 w1 ⟨Ab, nb, cb, rfl, ib, hb1⟩; have B1 := hide2 (HB0.out.trans (hb1.mono HB0.out.size)); have Y4 := hide2 (X4.out.keep hb1); clear ib hb1 p0 p1 p2 p3 p4; obtain ⟨z0, z1⟩ := Y4.out.two; have f0 := Y4.out.frozen 0; have f1 := Y4.out.frozen 1)
    obtain ⟨r0, r1⟩ := (Y4.out.set2 (.int .i64 ew) (.int .i64 0)).two
    have BW := below_setAt (below_setAt B1.out (Nat.le_refl _) (show w.heap.size ≤ w.heap.size + 1 by omega) 0 (.int .i64 ew)) (Nat.le_refl _) (show w.heap.size ≤ w.heap.size + 1 by omega) 1 (.int .i64 0)
    exact bodyPost_ret (v := .agg #[.int .i64 ew, .int .i64 0]) (by simp [results, Try.results102, go_sem, r0, r1]) rfl (by rw [HF.out]; exact ⟨rfl, vd, vb, H.out.keep BW, BW.mono hB, OnlyH.of_below BW⟩)
end Go.Proofs.Ytmnacahoamkokaa
namespace Go.Proofs.Ytmnacahoamkokaa
open Go.RowKit

def HOpR : World → (Nat → Value) → HOp → Prop := fun _ vs o => vs 0 = .int .i64 o.kind ∧ vs 1 = .int .i64 o.keep ∧ vs 2 = .int .i64 o.op.kind ∧ vs 3 = .int .i64 o.op.user ∧ vs 4 = .int .i64 o.op.tran ∧ vs 5 = .int .i64 o.op.item ∧ vs 6 = .int .i64 o.op.to_ ∧ (Lit.int .i64 o.keep).wf = true
theorem HOpR.kept : Kept HOpR := fun _ _ _ _ _ h => h
theorem HOpR.good : Good HOpR 7 where
  kept := HOpR.kept
  one := fun w vs x h j hj => by
    obtain ⟨h0, h1, h2, h3, h4, h5, h6, _⟩ := h
    match j, hj with
    | 0, _ => rw [h0]; rfl
    | 1, _ => rw [h1]; rfl
    | 2, _ => rw [h2]; rfl
    | 3, _ => rw [h3]; rfl
    | 4, _ => rw [h4]; rfl
    | 5, _ => rw [h5]; rfl
    | 6, _ => rw [h6]; rfl
  pos := by omega
abbrev HOps (w : World) (A : Option Addr) (n c : Nat) (os : List HOp) : Prop := Sl HOpR 7 w A n c os
theorem HOps.get {w : World} {A : Option Addr} {n c k : Nat} {os : List HOp} (h : HOps w A n c os) (hk : k < n) :
    ∃ b off o, A = some ⟨b, off, none⟩ ∧ b < w.heap.size ∧ Hid (os[k]? = some o) ∧ w.cell? ⟨b, off + k * 7, none⟩ = some (.int .i64 o.kind) ∧ w.cell? ⟨b, off + k * 7 + 1, none⟩ = some (.int .i64 o.keep) ∧ w.cell? ⟨b, off + k * 7 + 2, none⟩ = some (.int .i64 o.op.kind) ∧ w.cell? ⟨b, off + k * 7 + 3, none⟩ = some (.int .i64 o.op.user) ∧
      w.cell? ⟨b, off + k * 7 + 4, none⟩ = some (.int .i64 o.op.tran) ∧ w.cell? ⟨b, off + k * 7 + 5, none⟩ = some (.int .i64 o.op.item) ∧ w.cell? ⟨b, off + k * 7 + 6, none⟩ = some (.int .i64 o.op.to_) ∧ Hid ((Lit.int .i64 o.keep).wf = true) := by
  obtain ⟨b, off, o, vs, h1, h2, h3, h4, e0, e1, e2, e3, e4, e5, e6, e7⟩ := Sl.get h hk
  refine ⟨b, off, o, h1, h2, h3, ?_, ?_, ?_, ?_, ?_, ?_, ?_, e7⟩
  · rw [← e0]; exact h4 0 (by omega)
  · rw [← e1]; exact h4 1 (by omega)
  · rw [← e2]; exact h4 2 (by omega)
  · rw [← e3]; exact h4 3 (by omega)
  · rw [← e4]; exact h4 4 (by omega)
  · rw [← e5]; exact h4 5 (by omega)
  · rw [← e6]; exact h4 6 (by omega)
theorem hrun_take {N : PNet} {roles : List (List Int)} {k0 : PDesk} {os : List HOp} {j : Nat} {o : HOp} {st : HSt} {la : List (Int × Int)} (h : os[j]? = some o) (hr : hrun N roles k0 ([], 0) (os.take j) = (st, la)) : hrun N roles k0 ([], 0) (os.take (j + 1)) = ((hstep N roles k0 st o).1, la ++ [(hstep N roles k0 st o).2]) := by
  obtain ⟨hj, hx⟩ := List.getElem?_eq_some_iff.1 h
  have e : os.take (j + 1) = os.take j ++ [o] := by rw [← List.take_append_getElem hj, hx]
  rw [e, hrun_snoc, hr]
theorem Box.onlyH {w w' : World} {b ty N : Nat} {cs : Array Value} (x : Box w b ty cs) (ho : OnlyH N w w') (hb : b < N) (h1 : ty ≠ 184) (h2 : ty ≠ 187) (h3 : ty ≠ 5) : Box w' b ty cs := by
  unfold Box at x ⊢
  exact (ho.same b cs ty hb x h1 h2 h3).trans x
theorem HallW.grown {w w' : World} {B bh : Nat} {P : Int} {A : Option Addr} {n c : Nat} {i : Int} {R : Option Addr} {r q : Nat} {vd vb : Value} {st : HSt} {α : Type} {R' : World → (Nat → Value) → α → Prop} {sz B' e n' : Nat} {v : Value} {xs : List α} (h : HallW w B bh P A n c i R r q vd vb st) (own : OwnSl R' sz w B' e v n' xs) (hg : w.grownBy w' v.ownBlock) (h1 : e ≠ 184) (h2 : 187 ≠ e) (h3 : 5 ≠ e) : HallW w' B bh P A n c i R r q vd vb st := by
  obtain ⟨_, o1, _⟩ := id own
  obtain ⟨_, d1, _⟩ := id h.done
  obtain ⟨_, b1, _⟩ := id h.bytes
  exact ⟨h.lo, h.box.grown hg (own.notBox h.box h1), h.done.kept hg (own_ne d1 o1 h2) (fun _ _ hx => hx), h.bytes.kept hg (own_ne b1 o1 h3) (fun _ _ hx => hx)⟩
theorem HallW.sureAll {w : World} {B bh : Nat} {P : Int} {A : Option Addr} {n c : Nat} {i : Int} {R : Option Addr} {r q : Nat} {vd vb : Value} {st : HSt} (h : HallW w B bh P A n c i R r q vd vb st) {x : Int} (hx : ((7 * st.1.length : Nat) : Int) = x) : HallW (w.setCell ⟨bh, 6, none⟩ (.int .i64 x)) B bh P A n c i R r q vd vb (st.1, st.1.length) := by
  subst hx
  exact ⟨h.lo, by simpa using h.box.set 6 (.int .i64 ((7 * st.1.length : Nat) : Int)), h.done.besideHall h.box (by decide) 6 _ (fun _ _ hx => hx), h.bytes.besideHall h.box (by decide) 6 _ (fun _ _ hx => hx)⟩
theorem OwnSl.setFar {α : Type} {R : World → (Nat → Value) → α → Prop} {sz : Nat} {w : World} {B e : Nat} {v : Value} {n : Nat} {xs : List α} (h : OwnSl R sz w B e v n xs) {b : Nat} (hne : v.ownBlock ≠ some b) (i : Nat) (u : Value) (hR : ∀ vs x, R w vs x → R (w.setCell ⟨b, i, none⟩ u) vs x) : OwnSl R sz (w.setCell ⟨b, i, none⟩ u) B e v n xs :=
  h.kept (grownAt w b i u) (.inr hne) hR

set_option maxRecDepth 100000 in
set_option maxHeartbeats 16000000 in
theorem hallPlay_calls {w : World} {P : Int} {A R O : Option Addr} {n c r q s so : Nat} {ts : List PTran} {roles : List (List Int)} {os : List HOp} (i : Int) (h : Trans w A n c ts) (g : Lists w R r q roles) (x : HOps w O s so os) (hs : s ≤ 1048576) :
    Calls Try.prog 38 #[.agg #[.int .i64 P, .slice A n c], .int .i64 i, .slice R r q, .slice O s so] w (AnsPlayD (hplay ⟨P, ts⟩ roles i os) w) := by
  generalize hw : (w.alloc (.cells #[.int .i64 P, .slice A n c] 27)).alloc (.cells #[.slice none 0 0, .slice none 0 0, .slice none 0 0] 78) = w0
  have HB := hide2 (show Below w.heap.size w w0 by rw [← hw]; exact ((Below.refl _ _).alloc (Nat.le_refl _) _).alloc (by simp) _)
  have X0 := hide2 (show Box w0 w.heap.size 27 #[.int .i64 P, .slice A n c] by rw [← hw]; exact (Box.new _ _ _).old _)
  have X1 := hide2 (show Box w0 (w.heap.size + 1) 78 #[.slice none 0 0, .slice none 0 0, .slice none 0 0] by rw [← hw]; exact Box.newAt (by simp) _ _)
  have HSZ := hide2 (show w0.heap.size = w.heap.size + 2 by rw [← hw]; simp)
  have H := hide2 h
  have G := hide2 g
  have X := hide2 x
  have PE := hide2 (show ∀ e, (beginL ⟨P, ts⟩ i).2 = e → e ≠ 0 → hplay ⟨P, ts⟩ roles i os = (PDesk.nil, [], e) from fun e he h0 => by rw [hplay, if_neg (by rw [he]; exact h0), he])
  have PL0 := hide2 (show ∀ e, (beginL ⟨P, ts⟩ i).2 = e → e ≠ 0 → playD ⟨P, ts⟩ roles i [] = (PDesk.nil, [], e) from fun e he h0 => by rw [playD, if_neg (by rw [he]; exact h0), he])
  have PY := hide2 (show (beginL ⟨P, ts⟩ i).2 = 0 → hplay ⟨P, ts⟩ roles i os = ((runD ⟨P, ts⟩ roles ⟨(beginL ⟨P, ts⟩ i).1, []⟩ (hrun ⟨P, ts⟩ roles ⟨(beginL ⟨P, ts⟩ i).1, []⟩ ([], 0) os).1.1).1, (hrun ⟨P, ts⟩ roles ⟨(beginL ⟨P, ts⟩ i).1, []⟩ ([], 0) os).2, 0) from fun h0 => by rw [hplay, if_pos h0])
  have PLY := hide2 (show ∀ l, (beginL ⟨P, ts⟩ i).2 = 0 → playD ⟨P, ts⟩ roles i l = ((runD ⟨P, ts⟩ roles ⟨(beginL ⟨P, ts⟩ i).1, []⟩ l).1, (runD ⟨P, ts⟩ roles ⟨(beginL ⟨P, ts⟩ i).1, []⟩ l).2, 0) from fun l h0 => by rw [playD, if_pos h0])
  generalize hplay ⟨P, ts⟩ roles i os = RES at *
  clear h g x
  go_enter Try.func38, Try.ntmps38
  go_upto_region 1 with fail
  clear hw
  obtain ⟨a0, a1⟩ := X0.out.two
  go_upto_region 2 with fail
  generalize hw1 : w0.alloc (.cells #[.int .i64 P, .slice A n c, .int .i64 i, .slice R r q, .slice none 0 0, .slice none 0 0, .int .i64 0] 184) = w1
  have hb1 : Below w0.heap.size w0 w1 := by rw [← hw1]; exact (Below.refl _ _).alloc (Nat.le_refl _) _
  have HW1 := hide2 (show HallW w1 w0.heap.size w0.heap.size P A n c i R r q (.slice none 0 0) (.slice none 0 0) ([], 0) from ⟨Nat.le_refl _, by rw [← hw1]; exact Box.new _ _ _, OwnSl.nil, OwnSl.nil⟩)
  have B1 := hide2 (HB.out.trans (hb1.mono HB.out.size))
  have SB1 := hide2 (show w0.heap.size ≤ w1.heap.size from hb1.size)
  have Y1 := hide2 (X1.out.keep hb1)
  have Y1B := hide2 (show w.heap.size + 1 < w0.heap.size by rw [HSZ.out]; omega)
  clear hw1 hb1 a0 a1 X0 X1 HB
  generalize w0.heap.size = B at *
  have CD := hide2 (hallDesk_calls HW1.out.box (Sl.nil0) (H.out.keep B1.out) (Sl.keep ListR.kept G.out B1.out) (by omega))
  obtain ⟨be, hbe⟩ : ∃ be, (beginL ⟨P, ts⟩ i).2 = be := ⟨_, rfl⟩
  by_cases h0 : be = 0
  · subst h0
    have BL := hide2 hbe
    have PY1 := hide2 (PY.out hbe)
    have PLY1 := hide2 (fun l => PLY.out l hbe)
    rw [PLY.out [] hbe] at CD
    clear hbe PE PL0 PY PLY
    go_upto_region 3 with (go_at_call 101; go_loud ((with_reducible refine CD.out.mono ?_); rintro e w2 ⟨B2, m2, d2, D2, l2, f2, I2, n2, c2, A2, na, ca, rfl, _, an, hb2⟩; have D2b := hide2 hb2; clear an hb2))
    generalize hw3 : w2.alloc (.cells #[.slice B2 m2 d2, .slice D2 l2 f2, .slice I2 n2 c2] 78) = w3
    have D3 := hide2 (show Below w1.heap.size w1 w3 by rw [← hw3]; exact D2b.out.alloc D2b.out.size _)
    have HW3 := hide2 (HW1.out.keep D3.out)
    clear hw3 D2b CD HW1
    obtain ⟨k0, hk0⟩ : ∃ k0 : PDesk, (⟨(beginL ⟨P, ts⟩ i).1, []⟩ : PDesk) = k0 := ⟨_, rfl⟩
    have HK0 := hide2 hk0
    simp only [hk0] at PLY1
    rw [hk0] at PY1
    clear hk0
    go_wp2
    go_loopw [15, 39] (fun ov jv wr => ∃ (j : Nat) (vd vb : Value) (st : HSt) (la : List (Int × Int)), j ≤ s ∧ jv = .int .i64 j ∧ st.1.length ≤ j ∧ Hid (OwnAnswers wr B ov j la) ∧ Hid (HallW wr B B P A n c i R r q vd vb st) ∧ Hid (HallOk st) ∧ Hid (Below B w3 wr) ∧ Hid (hrun ⟨P, ts⟩ roles k0 ([], 0) (os.take j) = (st, la))) (fun _ jv _ => s - (intOf jv).toNat)
    case atStart => exact ⟨0, _, _, ([], 0), [], Nat.zero_le _, rfl, Nat.le_refl _, OwnSl.nil, HW3, HallOk.start, Below.refl _ _, rfl⟩
    case round =>
      obtain ⟨j, vd, vb, st, la, hj, rfl, hstl, OV, HWr, OK, BW, HR⟩ := hrel
      have BZ := hide2 (B1.out.trans ((D3.out.mono SB1.out |>.trans BW.out).mono (show w.heap.size ≤ B by have := Y1B.out; omega)))
      by_cases hlj : j < s
      · have hji : (j : Int) < (s : Int) := by omega
        obtain ⟨b, off, o, rfl, hb, hx, q0, q1, q2, q3, q4, q5, q6, _⟩ := HOps.get (Sl.keep HOpR.kept X.out BZ.out) hlj
        have RT := hide2 (hrun_take hx.out HR.out)
        have NT := hide2 (OV.out.notAt (show wr.heap.size ≤ wr.heap.size + 1 by omega))
        have hBr := hide2 (show B ≤ wr.heap.size from Nat.le_trans (Nat.le_trans SB1.out D3.out.size) BW.out.size)
        clear hx
        go_upto_region 10 with fail
        generalize hwa : (wr.alloc (.cells #[.int .i64 o.kind, .int .i64 o.keep, .int .i64 o.op.kind, .int .i64 o.op.user, .int .i64 o.op.tran, .int .i64 o.op.item, .int .i64 o.op.to_] 189)).alloc (.cells #[.int .i64 0, .int .i64 0] 85) = wa
        have ha := hide2 (show Below wr.heap.size wr wa by rw [← hwa]; exact ((Below.refl _ _).alloc (Nat.le_refl _) _).alloc (by simp) _)
        have XO := hide2 (show Box wa wr.heap.size 189 #[.int .i64 o.kind, .int .i64 o.keep, .int .i64 o.op.kind, .int .i64 o.op.user, .int .i64 o.op.tran, .int .i64 o.op.item, .int .i64 o.op.to_] by rw [← hwa]; exact (Box.new _ _ _).old _)
        have XA := hide2 (show Box wa (wr.heap.size + 1) 85 #[.int .i64 0, .int .i64 0] by rw [← hwa]; exact Box.newAt (by simp) _ _)
        have HWa := hide2 (HWr.out.keep ha.out)
        have OVa := hide2 (OV.out.keep AnsR.kept ha.out)
        have Ba := hide2 (BW.out.trans (ha.out.mono hBr.out))
        have hBa := hide2 (Nat.le_trans hBr.out ha.out.size)
        have hlt1 := hide2 (show B < wr.heap.size from HWr.out.box.lt)
        have XAlt := hide2 (show wr.heap.size + 1 < wa.heap.size from XA.out.lt)
        have TT := hide2 (show ∀ w', Below B wa w' → Trans w' A n c ts ∧ Lists w' R r q roles from fun w' hb' => ⟨H.out.keep ((BZ.out.trans (ha.out.mono BZ.out.size)).trans (hb'.mono (show w.heap.size ≤ B by have := Y1B.out; omega))), Sl.keep ListR.kept G.out ((BZ.out.trans (ha.out.mono BZ.out.size)).trans (hb'.mono (show w.heap.size ≤ B by have := Y1B.out; omega)))⟩)
        have k0c : wa.cell? ⟨wr.heap.size, 0, none⟩ = some (.int .i64 o.kind) := XO.out.cell 0
        clear hwa q0 q1 q2 q3 q4 q5 q6 HWr OV BW ha
        generalize wr.heap.size = b17 at *
        obtain ⟨kd, hkd⟩ : ∃ kd, o.kind = kd := ⟨_, rfl⟩
        rw [hkd] at k0c
        by_cases h1 : kd = 1
        · subst h1
          have HS := hide2 (hstep_1 (N := ⟨P, ts⟩) (roles := roles) (k0 := k0) (st := st) hkd)
          rw [HS.out] at RT
          have DO := hide2 (hallDo_calls o.op HWa.out OK.out BL.out (fun w' hb' => (TT.out w' hb').1) (fun w' hb' => (TT.out w' hb').2) (by omega) hBa.out)
          have SOK := hide2 (show HallOk (hdo ⟨P, ts⟩ roles k0 st o.op).1 from HS.out ▸ hstep_ok o OK.out)
          have SLN := hide2 (show (hdo ⟨P, ts⟩ roles k0 st o.op).1.1.length ≤ st.1.length + 1 from HS.out ▸ hstep_len o)
          rw [HK0.out] at DO
          generalize hdo ⟨P, ts⟩ roles k0 st o.op = HD at *
          obtain ⟨st', xx, yy⟩ := HD
          simp only at DO SOK SLN RT
          clear HS hkd
          have k2 : wa.cell? ⟨b17, 2, none⟩ = some (.int .i64 o.op.kind) := XO.out.cell 2
          have k3 : wa.cell? ⟨b17, 3, none⟩ = some (.int .i64 o.op.user) := XO.out.cell 3
          have k4 : wa.cell? ⟨b17, 4, none⟩ = some (.int .i64 o.op.tran) := XO.out.cell 4
          have k5 : wa.cell? ⟨b17, 5, none⟩ = some (.int .i64 o.op.item) := XO.out.cell 5
          have k6 : wa.cell? ⟨b17, 6, none⟩ = some (.int .i64 o.op.to_) := XO.out.cell 6
          go_upto_region 18 with (go_at_call 102; go_loud ((with_reducible refine DO.out.mono ?_); rintro e wb ⟨rfl, vd', vb', hw', hb', ho'⟩; have HWb := hide2 hw'; have Bb := hide2 (Ba.out.trans hb'); have XAb := hide2 (XA.out.onlyH ho' XAlt.out (by decide) (by decide) (by decide)); have OVb := hide2 (OVa.out.onlyH ho' (Nat.le_refl _) (by decide) (by decide) (by decide) (fun _ _ hx => hx)); clear hw' hb' ho' k0c k2 k3 k4 k5 k6; obtain ⟨z0, z1⟩ := XAb.out.two; have f0 := XAb.out.frozen 0; have f1 := XAb.out.frozen 1))
          have HWc := hide2 ((HWb.out.setOther XAb.out (show B ≠ b17 + 1 by have := hlt1.out; omega) (by decide) (by decide) 0 (.int .i64 xx)).setOther (XAb.out.set 0 (.int .i64 xx)) (show B ≠ b17 + 1 by have := hlt1.out; omega) (by decide) (by decide) 1 (.int .i64 yy))
          have OVc := hide2 (show OwnAnswers ((wb.setCell ⟨b17 + 1, 0, none⟩ (.int .i64 xx)).setCell ⟨b17 + 1, 1, none⟩ (.int .i64 yy)) B u15 j la from (OVb.out.setFar NT.out 0 (.int .i64 xx) (fun _ _ hx => hx)).setFar NT.out 1 (.int .i64 yy) (fun _ _ hx => hx))
          have XAc := hide2 (XAb.out.set2 (.int .i64 xx) (.int .i64 yy))
          have Bc := hide2 (below_setAt (below_setAt Bb.out (Nat.le_trans SB1.out D3.out.size) (show B ≤ b17 + 1 by have := hlt1.out; omega) 0 (.int .i64 xx)) (Nat.le_trans SB1.out D3.out.size) (show B ≤ b17 + 1 by have := hlt1.out; omega) 1 (.int .i64 yy))
          generalize (wb.setCell ⟨b17 + 1, 0, none⟩ (.int .i64 xx)).setCell ⟨b17 + 1, 1, none⟩ (.int .i64 yy) = wc at *
          clear z0 z1 f0 f1 HWb OVb XAb Bb
          obtain ⟨e0, e1⟩ := XAc.out.two
          go_wp2_with (at_builtin; refine wpList_appNew tyAnswers rfl _ _ rfl [(xx, yy)] #[.int .i64 xx, .int .i64 yy] rfl rfl (by first | rfl | simp) rfl (by simp [Value.oneCell']) OVc.out Reads.ans rfl Bc.out (Nat.le_trans (Nat.le_trans SB1.out D3.out.size) Bc.out.size) (by omega) (by omega) (fun _ _ _ _ h => h) ?_; intro v2 w5 own5 hg5 hb5; have O5 := hide2 own5; have HW5 := hide2 (HWc.out.grown OVc.out hg5 (by decide) (by decide) (by decide)); have B5 := hide2 hb5; clear own5 hg5 hb5)
          go_roundw
          case rel => exact ⟨j + 1, _, _, st', la ++ [(xx, yy)], by omega, by go_num, by have := SLN.out; first | omega | (simp only at this; omega), O5, HW5, SOK, B5, RT⟩
          case measure => simp [intOf]; omega
        · by_cases h2 : kd = 2
          · subst h2
            have HS := hide2 (hstep_2 (N := ⟨P, ts⟩) (roles := roles) (k0 := k0) (st := st) hkd)
            rw [HS.out] at RT
            clear HS hkd
            obtain ⟨Av, cv, hvb, _⟩ := HWa.out.bytes.sl (by omega)
            subst hvb
            obtain ⟨nv, hnv⟩ : ∃ nv, 7 * st.1.length = nv := ⟨_, rfl⟩
            have XH := hide2 HWa.out.box
            rw [hnv] at XH
            have HNV := hide2 hnv
            clear hnv
            have c5 : wa.cell? ⟨B, 5, none⟩ = some (.slice Av nv cv) := XH.out.cell 5
            obtain ⟨s7, hs7⟩ : ∃ s7 : Value, .int .i64 ((7 * st.2 : Nat) : Int) = s7 := ⟨_, rfl⟩
            have c6 : wa.cell? ⟨B, 6, none⟩ = some s7 := by rw [← hs7]; exact XH.out.cell 6
            have f6 := XH.out.frozen 6
            clear hs7
            go_upto_region 18 with fail
            have HWc := hide2 (HWa.out.sureAll (x := (nv : Int)) (by rw [HNV.out]))
            have OVc := hide2 (OVa.out.setFar (b := B) (OVa.out.notBox XH.out (by decide)) 6 (.int .i64 (nv : Int)) (fun _ _ hx => hx))
            have XAc := hide2 (XA.out.other (a := ⟨B, 6, none⟩) (.int .i64 (nv : Int)) (show b17 + 1 ≠ B by have := hlt1.out; omega))
            have Bc := hide2 (below_setAt Ba.out (Nat.le_trans SB1.out D3.out.size) (Nat.le_refl B) 6 (.int .i64 (nv : Int)))
            have SOK := hide2 OK.out.all
            have SLN := hide2 (show (st.1, st.1.length).1.length ≤ st.1.length + 1 by simp)
            generalize wa.setCell ⟨B, 6, none⟩ (.int .i64 (nv : Int)) = wc at *
            clear c5 c6 f6 XH k0c
            obtain ⟨e0, e1⟩ := XAc.out.two
            go_wp2_with (at_builtin; refine wpList_appNew tyAnswers rfl _ _ rfl [(0, 0)] #[.int .i64 0, .int .i64 0] rfl rfl (by first | rfl | simp) rfl (by simp [Value.oneCell']) OVc.out Reads.ans rfl Bc.out (Nat.le_trans (Nat.le_trans SB1.out D3.out.size) Bc.out.size) (by omega) (by omega) (fun _ _ _ _ h => h) ?_; intro v2 w5 own5 hg5 hb5; have O5 := hide2 own5; have HW5 := hide2 (HWc.out.grown OVc.out hg5 (by decide) (by decide) (by decide)); have B5 := hide2 hb5; clear own5 hg5 hb5)
            go_roundw
            case rel => exact ⟨j + 1, _, _, (st.1, st.1.length), la ++ [(0, 0)], by omega, by go_num, by have := SLN.out; first | omega | (simp only at this; omega), O5, HW5, SOK, B5, RT⟩
            case measure => simp [intOf]; omega
          · by_cases h3 : kd = 3
            · subst h3
              have HS := hide2 (hstep_3 (N := ⟨P, ts⟩) (roles := roles) (k0 := k0) (st := st) hkd)
              rw [HS.out] at RT
              clear HS hkd
              have CR := hide2 (crash_calls o.keep HWa.out OK.out (by omega) hBa.out)
              have SOK := hide2 (OK.out.cut o.keep)
              have SLN := hide2 (show (st.1.take (st.2 + leftN st o.keep)).length ≤ st.1.length + 1 by rw [List.length_take]; omega)
              generalize hst' : ((st.1.take (st.2 + leftN st o.keep), st.2 + leftN st o.keep) : HSt) = st' at *
              have SLN2 := hide2 (show st'.1.length ≤ st.1.length + 1 by rw [← hst']; exact SLN.out)
              clear hst' SLN
              have k1 : wa.cell? ⟨b17, 1, none⟩ = some (.int .i64 o.keep) := XO.out.cell 1
              go_upto_region 18 with (go_at_call 103; go_loud ((with_reducible refine CR.out.mono ?_); rintro e wc ⟨rfl, vd', vb', hw', hb', ho'⟩; have HWc := hide2 hw'; have Bc := hide2 (Ba.out.trans hb'); have XAc := hide2 (XA.out.onlyH ho' XAlt.out (by decide) (by decide) (by decide)); have OVc := hide2 (OVa.out.onlyH ho' (Nat.le_refl _) (by decide) (by decide) (by decide) (fun _ _ hx => hx)); clear hw' hb' ho' k0c k1))
              have SLN := SLN2
              obtain ⟨e0, e1⟩ := XAc.out.two
              go_wp2_with (at_builtin; refine wpList_appNew tyAnswers rfl _ _ rfl [(0, 0)] #[.int .i64 0, .int .i64 0] rfl rfl (by first | rfl | simp) rfl (by simp [Value.oneCell']) OVc.out Reads.ans rfl Bc.out (Nat.le_trans (Nat.le_trans SB1.out D3.out.size) Bc.out.size) (by omega) (by omega) (fun _ _ _ _ h => h) ?_; intro v2 w5 own5 hg5 hb5; have O5 := hide2 own5; have HW5 := hide2 (HWc.out.grown OVc.out hg5 (by decide) (by decide) (by decide)); have B5 := hide2 hb5; clear own5 hg5 hb5)
              go_roundw
              case rel => exact ⟨j + 1, _, _, st', la ++ [(0, 0)], by omega, by go_num, by have := SLN.out; first | omega | (simp only at this; omega), O5, HW5, SOK, B5, RT⟩
              case measure => simp [intOf]; omega
            · have HS := hide2 (hstep_no (N := ⟨P, ts⟩) (roles := roles) (k0 := k0) (st := st) (o := o) (by rw [hkd]; exact h1) (by rw [hkd]; exact h2) (by rw [hkd]; exact h3))
              rw [HS.out] at RT
              clear HS hkd
              obtain ⟨z0, z1⟩ := XA.out.two
              have f0 := XA.out.frozen 0
              go_upto_region 18 with fail
              have HWc := hide2 (HWa.out.setOther XA.out (show B ≠ b17 + 1 by have := hlt1.out; omega) (by decide) (by decide) 0 (.int .i64 5))
              have OVc := hide2 (OVa.out.setFar NT.out 0 (.int .i64 5) (fun _ _ hx => hx))
              have XAc := hide2 (show Box (wa.setCell ⟨b17 + 1, 0, none⟩ (.int .i64 5)) (b17 + 1) 85 #[.int .i64 5, .int .i64 0] by simpa using XA.out.set 0 (.int .i64 5))
              have Bc := hide2 (below_setAt Ba.out (Nat.le_trans SB1.out D3.out.size) (show B ≤ b17 + 1 by have := hlt1.out; omega) 0 (.int .i64 5))
              have SOK := OK
              have SLN := hide2 (show st.1.length ≤ st.1.length + 1 by omega)
              generalize wa.setCell ⟨b17 + 1, 0, none⟩ (.int .i64 5) = wc at *
              clear z0 z1 f0 k0c
              obtain ⟨e0, e1⟩ := XAc.out.two
              go_wp2_with (at_builtin; refine wpList_appNew tyAnswers rfl _ _ rfl [(5, 0)] #[.int .i64 5, .int .i64 0] rfl rfl (by first | rfl | simp) rfl (by simp [Value.oneCell']) OVc.out Reads.ans rfl Bc.out (Nat.le_trans (Nat.le_trans SB1.out D3.out.size) Bc.out.size) (by omega) (by omega) (fun _ _ _ _ h => h) ?_; intro v2 w5 own5 hg5 hb5; have O5 := hide2 own5; have HW5 := hide2 (HWc.out.grown OVc.out hg5 (by decide) (by decide) (by decide)); have B5 := hide2 hb5; clear own5 hg5 hb5)
              go_roundw
              case rel => exact ⟨j + 1, _, _, st, la ++ [(5, 0)], by omega, by go_num, by have := SLN.out; first | omega | (simp only at this; omega), O5, HW5, SOK, B5, RT⟩
              case measure => simp [intOf]; omega
      · obtain rfl : j = s := by omega
        have hfull : os.take j = os := List.take_of_length_le (by rw [X.out.len]; exact Nat.le_refl _)
        rw [hfull] at HR
        rw [HR.out] at PY1
        obtain ⟨Ad, cd, hvd, sd⟩ := HWr.out.done.sl (by omega)
        subst hvd
        have CD := hide2 (hallDesk_calls HWr.out.box sd (H.out.keep BZ.out) (Sl.keep ListR.kept G.out BZ.out) (by omega))
        rw [PLY1.out] at CD
        obtain ⟨Av, cv, hov, av⟩ := OV.out.sl (by omega)
        subst hov
        have AV := hide2 av
        have Y1r := hide2 (show Box wr (w.heap.size + 1) 78 #[.slice none 0 0, .slice none 0 0, .slice none 0 0] from (BW.out.block _ Y1B.out).trans (Y1.out.keep D3.out))
        have LAL := hide2 (show la.length = j from OV.out.len)
        clear hfull sd av HWr OV
        go_wp2_with (go_at_call 101; (with_reducible refine CD.out.mono ?_); rintro e w6 ⟨B2, m2, d2, D2, l2, f2, I2, n2, c2, A2, na, ca, rfl, dw, _, hb6⟩; have DW := hide2 (dw.keep ((Below.refl w6.heap.size w6).alloc (Nat.le_refl _) (.cells #[.slice B2 m2 d2, .slice D2 l2 f2, .slice I2 n2 c2] 78))); have D6 := hide2 (hb6.alloc hb6.size (.cells #[.slice B2 m2 d2, .slice D2 l2 f2, .slice I2 n2 c2] 78)); clear dw hb6; obtain ⟨z0, z1, z2⟩ := (Y1r.out.keep D6.out).three; have f0 := (Y1r.out.keep D6.out).frozen 0; have f1 := (Y1r.out.keep D6.out).frozen 1; have f2' := (Y1r.out.keep D6.out).frozen 2)
        obtain ⟨r0, r1, r2⟩ := ((Y1r.out.keep D6.out).set3 (.slice B2 m2 d2) (.slice D2 l2 f2) (.slice I2 n2 c2)).three
        have BWW := below_set3 (BZ.out.trans (D6.out.mono BZ.out.size)) (show w.heap.size ≤ w.heap.size + 1 by omega) (.slice B2 m2 d2) (.slice D2 l2 f2) (.slice I2 n2 c2)
        exact bodyPost_ret (v := .tuple #[.agg #[.slice B2 m2 d2, .slice D2 l2 f2, .slice I2 n2 c2], .slice Av j cv, .int .i64 0]) (by simp [results, Try.results38, go_sem, r0, r1, r2]) rfl (by rw [PY1.out]; exact ⟨B2, m2, d2, D2, l2, f2, I2, n2, c2, Av, j, cv, rfl, DW.out.beside (Y1r.out.keep D6.out) noInt3 (Beside.set3 _ _ _ _ _), Answers.beside (Sl.keep AnsR.kept AV.out D6.out) (Y1r.out.keep D6.out) noInt3 (Beside.set3 _ _ _ _ _), BWW⟩)
  · have RE := hide2 (PE.out be hbe h0)
    rw [PL0.out be hbe h0] at CD
    clear PE PL0 PY PLY hbe
    obtain ⟨z0, z1, z2⟩ := Y1.out.three
    go_wp2_with (go_at_call 101; (with_reducible refine CD.out.mono ?_); rintro e w2 ⟨B2, m2, d2, D2, l2, f2, I2, n2, c2, A2, na, ca, rfl, _, an, hb2⟩; have NA := hide2 an.len; have D2b := hide2 (hb2.alloc hb2.size (.cells #[.slice B2 m2 d2, .slice D2 l2 f2, .slice I2 n2 c2] 78)); have Z1 := hide2 ((Y1.out.keep hb2).old (.cells #[.slice B2 m2 d2, .slice D2 l2 f2, .slice I2 n2 c2] 78)); clear an hb2 z0 z1 z2; obtain ⟨z0, z1, z2⟩ := Z1.out.three; have f0 := Z1.out.frozen 0; have f1 := Z1.out.frozen 1; have f2' := Z1.out.frozen 2)
    obtain ⟨r0, r1, r2⟩ := (Z1.out.set3 (.slice none 0 0) (.slice none 0 0) (.slice none 0 0)).three
    have BW := below_set3 (B1.out.trans (D2b.out.mono B1.out.size)) (show w.heap.size ≤ w.heap.size + 1 by omega) (.slice none 0 0) (.slice none 0 0) (.slice none 0 0)
    exact bodyPost_ret (v := .tuple #[.agg #[.slice none 0 0, .slice none 0 0, .slice none 0 0], .slice none 0 0, .int .i64 be]) (by simp [results, Try.results38, go_sem, r0, r1, r2]) rfl (by rw [RE.out]; exact ⟨none, 0, 0, none, 0, 0, none, 0, 0, none, 0, 0, rfl, ⟨Sl.nil0, Sl.nil0, Sl.nil0⟩, Sl.nil0, BW⟩)
end Go.Proofs.Ytmnacahoamkokaa
namespace Go.Proofs.Ytmnacahoamkokaa
open Go.RowKit

/-- Append of any list (nil too) to one that the call owns. -/
theorem run_appAnyH {α : Type} {R : World → (Nat → Value) → α → Prop} {t e size bytes : Nat} (T : SlTy t e size bytes) (G : Good R size) {w : World} {B : Nat} {v : Value} {n m c : Nat} {A : Option Addr} {xs ys : List α} (ty : TypeId) (own : OwnSl R size w B e v n xs) (src : Sl R size w A m c ys) (hB : B ≤ w.heap.size) (h63 : n + m ≤ 281474976710656) (hn : (n + m) * bytes ≤ 140737488355328)
    (hkeep : ∀ w', w.grownBy w' v.ownBlock → ∀ vs y, R w vs y → R w' vs y) :
    ∃ v' w', (Builtin.append_ #[t, t] ty #[v, .slice A m c]).run Try.prog w = .ok v' w' ∧ OwnSl R size w' B e v' (n + m) (xs ++ ys) ∧ w.grownBy w' v.ownBlock ∧ (v'.ownBlock = v.ownBlock ∨ v'.ownBlock = some w.heap.size) := by
  obtain ⟨i, z, h1, h2, h3, h4, h5⟩ := T.info
  obtain ⟨cells, o1, o2, o3⟩ := own
  cases hA : A with
  | none =>
    subst hA
    have hc := src.nul rfl
    have hm : m = 0 := by have := src.le; omega
    subst hc hm
    have hy := List.eq_nil_of_length_eq_zero src.len
    subst hy
    refine ⟨v, w, run_append_owned_none (P := Try.prog) (w := w) B t ty e i size T.und h1 v n _ o1, ⟨cells, by simpa using o1, by simpa using o2, by simpa using o3⟩, World.grownBy.refl _ _, .inl rfl⟩
  | some ad =>
    subst hA
    obtain ⟨ds, d1, d2, d3, d4, d5⟩ := Sl.flat G src
    obtain ⟨v', w', hr, r1, r2, _, r5⟩ := run_append_own_at (P := Try.prog) w B t ty e i z size bytes T.und h1 h2 h3 h4 h5 T.pos v n cells o1 ad m c ds d1 (d3 ad rfl) d4 (by simp only [maxLen]; omega) hn hB
    have ap := o2.append d5
    exact ⟨v', w', hr, ⟨_, r1, ⟨ap.1, fun i x hx => by obtain ⟨vs, a, b⟩ := ap.2 i x hx; exact ⟨vs, a, hkeep _ r2 _ _ b⟩⟩, by rw [List.length_append, o3, src.len]⟩, r2, r5⟩
theorem step_appAnyH {α : Type} {R : World → (Nat → Value) → α → Prop} {t e size bytes : Nat} (T : SlTy t e size bytes) (G : Good R size) {ops : Array Oper} {o : Oper} {a : Act} {K : Act → World → Prop} {Q : Exit → Act → World → Prop} {E : Prop} (hgd : o.guard = none) (s x : Operand)
    (ho : o.op = .call { callee := .builtin .append, args := #[s, x], argTypes := #[t, t] })
    {w0 w : World} {B B0 : Nat} {v : Value} {n m c : Nat} {A : Option Addr} {xs ys : List α} (hs : a.eval s = v) (hx : a.eval x = .slice A m c) (own : OwnSl R size w B e v n xs) (src : Sl R size w A m c ys) (hB : B ≤ w.heap.size) (h63 : n + m ≤ 281474976710656) (hn : (n + m) * bytes ≤ 140737488355328)
    (hkeep : ∀ w', w.grownBy w' v.ownBlock → ∀ vs y, R w vs y → R w' vs y) (hb : Below B0 w0 w) (hB0 : B0 ≤ B)
    (hK : ∀ v' w', OwnSl R size w' B e v' (n + m) (xs ++ ys) → w.grownBy w' v.ownBlock → Below B0 w0 w' → (v'.ownBlock = v.ownBlock ∨ v'.ownBlock = some w.heap.size) → K (a.put o.dst v') w') :
    if Region.wanted o (yielded ops a.tmps) = true then Oper.wp Try.prog o a w K Q else E := by
  rw [if_pos (by simp [Region.wanted, hgd])]
  obtain ⟨v', w', hr, r1, r2, r5⟩ := run_appAnyH T G o.type own src hB h63 hn hkeep
  have h := hK v' w' r1 r2 (hb.grown r2 (Nat.le_trans hB0 hB) (fun k hk => Nat.le_trans hB0 (own.lt k hk).1)) r5
  unfold Oper.wp execOp
  simp only [ho, resolve, invoke, builtin, Sem.run_bind, Sem.run_pure, Result.andThen_ok, List.map_toArray, List.map_cons, List.map_nil, hs, hx, hr]
  exact h
/-- The desks behind each thing that was written. -/
def desksL (N : PNet) (roles : List (List Int)) (k0 : PDesk) (done : List POp) : List PDesk := (List.range (done.length + 1)).map fun j => (runD N roles k0 (done.take j)).1
theorem desksL_len (N : PNet) (roles : List (List Int)) (k0 : PDesk) (done : List POp) : (desksL N roles k0 done).length = done.length + 1 := by simp [desksL]
theorem desksL_nil (N : PNet) (roles : List (List Int)) (k0 : PDesk) : desksL N roles k0 [] = [k0] := rfl
theorem desksL_last (N : PNet) (roles : List (List Int)) (k0 : PDesk) (done : List POp) : (desksL N roles k0 done)[done.length]? = some (runD N roles k0 done).1 := by
  simp [desksL]
theorem desksL_snoc (N : PNet) (roles : List (List Int)) (k0 : PDesk) (done : List POp) (o : POp) : desksL N roles k0 (done ++ [o]) = desksL N roles k0 done ++ [(stepD N roles (runD N roles k0 done).1 o).1] := by
  unfold desksL
  rw [List.length_append, List.length_cons, List.length_nil, Nat.zero_add, List.range_succ, List.map_append]
  congr 1
  · refine List.map_congr_left fun j hj => ?_
    have := List.mem_range.1 hj
    rw [List.take_append_of_le_length (by omega)]
  · simp only [List.map_cons, List.map_nil]
    rw [List.take_of_length_le (by simp), runD_snoc]
theorem desksL_take (N : PNet) (roles : List (List Int)) (k0 : PDesk) (done : List POp) {m : Nat} (hm : m ≤ done.length) : (desksL N roles k0 done).take (m + 1) = desksL N roles k0 (done.take m) := by
  unfold desksL
  rw [← List.map_take, List.take_range, List.length_take, Nat.min_eq_left hm, Nat.min_eq_left (by omega)]
  refine List.map_congr_left fun j hj => ?_
  have := List.mem_range.1 hj
  rw [List.take_take, Nat.min_eq_left (by omega)]
/-- A desk that lies in none of the rows that v owns. -/
def DeskR (v : Value) : World → (Nat → Value) → PDesk → Prop := fun w vs k => ∃ B m d D l e I n c, vs 0 = .slice B m d ∧ vs 1 = .slice D l e ∧ vs 2 = .slice I n c ∧ DeskW w B m d D l e I n c k ∧ FarD v B m D l I n
theorem DeskR.kept (v : Value) : Kept (DeskR v) := fun _ _ _ _ hb ⟨B, m, d, D, l, e, I, n, c, h0, h1, h2, x, f⟩ => ⟨B, m, d, D, l, e, I, n, c, h0, h1, h2, x.keep hb, f⟩
theorem DeskR.good (v : Value) : Good (DeskR v) 3 where
  kept := DeskR.kept v
  one := fun w vs x h j hj => by
    obtain ⟨B, m, d, D, l, e, I, n, c, h0, h1, h2, _⟩ := h
    match j, hj with
    | 0, _ => rw [h0]; rfl
    | 1, _ => rw [h1]; rfl
    | 2, _ => rw [h2]; rfl
  pos := by omega
abbrev Desks (v : Value) (w : World) (A : Option Addr) (n c : Nat) (ks : List PDesk) : Prop := Sl (DeskR v) 3 w A n c ks
abbrev OwnDesks (v : Value) (w : World) (B : Nat) (d : Value) (n : Nat) (ks : List PDesk) : Prop := OwnSl (DeskR v) 3 w B 78 d n ks
theorem tyDesks : SlTy 193 78 3 72 := SlTy.mk' (z := .agg #[.slice none 0 0, .slice none 0 0, .slice none 0 0]) Try.underlying193 (by kernel_rfl) rfl (by decide)
theorem OwnSl.turnH {α : Type} {R R' : World → (Nat → Value) → α → Prop} {sz : Nat} {w w' : World} {B e : Nat} {v : Value} {n : Nat} {xs : List α} (h : OwnSl R sz w B e v n xs) {row : Option Nat} (hg : w.grownBy w' row) (hne : v.ownBlock = none ∨ v.ownBlock ≠ row) (hR : ∀ vs x, R w vs x → R' w' vs x) : OwnSl R' sz w' B e v n xs := by
  obtain ⟨cells, h1, h2, h3⟩ := h
  exact ⟨cells, h1.kept hg hne, ⟨h2.1, fun i x hx => by obtain ⟨vs, a, b⟩ := h2.2 i x hx; exact ⟨vs, a, hR _ _ b⟩⟩, h3⟩
/-- The answers grow by one: the desks read as they did. -/
theorem OwnDesks.answer {w w' : World} {B n m : Nat} {v d : Value} {ks : List PDesk} {la : List (Int × Int)} {g k cap : Nat} (h : OwnDesks v w B d n ks) (own : OwnAnswers w B v m la) (hg : w.grownBy w' v.ownBlock) (lies : v.ownBlock = some g ∨ w.heap.size ≤ g) : OwnDesks (.slice (some ⟨g, 0, none⟩) k cap) w' B d n ks := by
  obtain ⟨_, o1, _⟩ := id own
  obtain ⟨_, d1, _⟩ := id h
  exact h.turnH hg (own_ne d1 o1 (by decide)) (fun vs x ⟨B, m, d, D, l, e, I, n, c, h0, h1, h2, x, f⟩ => ⟨B, m, d, D, l, e, I, n, c, h0, h1, h2, x.grown hg f, f.app x lies⟩)
theorem Reads.desk {w : World} {v : Value} {B D I : Option Addr} {m d l e n c : Nat} {k : PDesk} (x : DeskW w B m d D l e I n c k) (f : FarD v B m D l I n) : Reads (DeskR v) 3 w [.slice B m d, .slice D l e, .slice I n c] [k] :=
  Reads.one (vs := fun j => [Value.slice B m d, .slice D l e, .slice I n c].getD j undef) ⟨B, m, d, D, l, e, I, n, c, rfl, rfl, rfl, x, f⟩ rfl (fun j hj => by
    match j, hj with
    | 0, _ => rfl
    | 1, _ => rfl
    | 2, _ => rfl)
theorem Desks.get {v : Value} {w : World} {A : Option Addr} {n c k : Nat} {ks : List PDesk} (h : Desks v w A n c ks) (hk : k < n) :
    ∃ b off x B m d D l e I ni ci, A = some ⟨b, off, none⟩ ∧ b < w.heap.size ∧ Hid (ks[k]? = some x) ∧ w.cell? ⟨b, off + k * 3, none⟩ = some (.slice B m d) ∧ w.cell? ⟨b, off + k * 3 + 1, none⟩ = some (.slice D l e) ∧ w.cell? ⟨b, off + k * 3 + 2, none⟩ = some (.slice I ni ci) ∧ Hid (DeskW w B m d D l e I ni ci x) ∧ Hid (FarD v B m D l I ni) := by
  obtain ⟨b, off, x, vs, h1, h2, h3, h4, B, m, d, D, l, e, I, ni, ci, e0, e1, e2, y, f⟩ := Sl.get h hk
  refine ⟨b, off, x, B, m, d, D, l, e, I, ni, ci, h1, h2, h3, ?_, ?_, ?_, y, f⟩
  · rw [← e0]; exact h4 0 (by omega)
  · rw [← e1]; exact h4 1 (by omega)
  · rw [← e2]; exact h4 2 (by omega)
theorem runD_items (N : PNet) (roles : List (List Int)) (k0 : PDesk) (h : DeskOk N k0) (h0 : k0.items = []) (l : List POp) : DeskOk N (runD N roles k0 l).1 ∧ (runD N roles k0 l).1.items.length ≤ l.length := by
  obtain ⟨h1, h2, _⟩ := runD_ok N roles l k0 h
  rw [h0] at h2
  exact ⟨h1, by simpa using h2⟩
/-- The same, told in one world for good. -/
def DeskR0 (v : Value) (w0 : World) : World → (Nat → Value) → PDesk → Prop := fun _ vs k => DeskR v w0 vs k
theorem DeskR0.kept (v : Value) (w0 : World) : Kept (DeskR0 v w0) := fun _ _ _ _ _ h => h
theorem DeskR0.good (v : Value) (w0 : World) : Good (DeskR0 v w0) 3 where
  kept := DeskR0.kept v w0
  one := fun w vs x h => (DeskR.good v).one w0 vs x h
  pos := by omega
theorem OwnSl.reR {α : Type} {R R' : World → (Nat → Value) → α → Prop} {sz : Nat} {w : World} {B e : Nat} {v : Value} {n : Nat} {xs : List α} (h : OwnSl R sz w B e v n xs) (hR : ∀ vs x, R w vs x → R' w vs x) : OwnSl R' sz w B e v n xs := by
  obtain ⟨cells, h1, h2, h3⟩ := h
  exact ⟨cells, h1, ⟨h2.1, fun i x hx => by obtain ⟨vs, a, b⟩ := h2.2 i x hx; exact ⟨vs, a, hR _ _ b⟩⟩, h3⟩
theorem Desks.to0 {v : Value} {w0 w : World} {A : Option Addr} {n c : Nat} {ks : List PDesk} (h : Desks v w0 A n c ks) (hb : Below w0.heap.size w0 w) : Sl (DeskR0 v w0) 3 w A n c ks :=
  Sl.keep (DeskR0.kept v w0) ⟨h.len, h.le, h.cap, h.small, h.nul, h.cells⟩ hb
theorem cellOther3 (w : World) {b b' : Nat} (hne : b' ≠ b) (i : Nat) (x y z : Value) : (((w.setCell ⟨b, 0, none⟩ x).setCell ⟨b, 1, none⟩ y).setCell ⟨b, 2, none⟩ z).cell? ⟨b', i, none⟩ = w.cell? ⟨b', i, none⟩ := by
  refine World.cell?_of_block (a := ⟨b', i, none⟩) ?_
  show (((w.setCell ⟨b, 0, none⟩ x).setCell ⟨b, 1, none⟩ y).setCell ⟨b, 2, none⟩ z).heap[b']? = w.heap[b']?
  rw [heap_setCell_other _ _ _ _ hne, heap_setCell_other _ _ _ _ hne, heap_setCell_other _ _ _ _ hne]
theorem cellOther2 (w : World) {b b' : Nat} (hne : b' ≠ b) (i : Nat) (x y : Value) : ((w.setCell ⟨b, 0, none⟩ x).setCell ⟨b, 1, none⟩ y).cell? ⟨b', i, none⟩ = w.cell? ⟨b', i, none⟩ := by
  refine World.cell?_of_block (a := ⟨b', i, none⟩) ?_
  show ((w.setCell ⟨b, 0, none⟩ x).setCell ⟨b, 1, none⟩ y).heap[b']? = w.heap[b']?
  rw [heap_setCell_other _ _ _ _ hne, heap_setCell_other _ _ _ _ hne]
theorem Reads.desk0 {w0 w : World} {v : Value} {B D I : Option Addr} {m d l e n c : Nat} {k : PDesk} (x : DeskW w0 B m d D l e I n c k) (f : FarD v B m D l I n) : Reads (DeskR0 v w0) 3 w [.slice B m d, .slice D l e, .slice I n c] [k] :=
  Reads.one (vs := fun j => [Value.slice B m d, .slice D l e, .slice I n c].getD j undef) ⟨B, m, d, D, l, e, I, n, c, rfl, rfl, rfl, x, f⟩ rfl (fun j hj => by
    match j, hj with
    | 0, _ => rfl
    | 1, _ => rfl
    | 2, _ => rfl)
end Go.Proofs.Ytmnacahoamkokaa
