/- The memory of blocks' rests (a map of counts by key, a row of blocks) and the contract of add. Conditions: as they say. -/
import Derived.Test.YtniolbbhjibobaaDoorBlocksListK26
import Derived.Test.YtniolbbhjibobaaDoorBlocksListK28
import Derived.StringKeys
set_option linter.all false
namespace Go.Proofs.YtniolbbhjibobaaDoor
open Go.RowKit Go.Maps

def okT (s : List UInt8) : Prop := s.length ≤ 200000
def kvT (s : List UInt8) : Value := .string ⟨s.toArray⟩
def kkT (s : List UInt8) : Lit := .string s
theorem keyT : KeyD 9 okT kvT kkT where
  law := string_keyed Tryd.underlying9
  key := fun x hx => WideMaps.keyOf_string_mk Tryd.underlying9 (by unfold okT at hx; simp only [maxLen]; show x.toArray.size ≤ _; simp; omega)
  back := fun x y _ _ h => by injection h
def CntI (f : List UInt8 → Int) (q : Nat) (acc : List PBlk) : Prop := ∀ x, (f (keyB x) = 0 ↔ x ∉ acc) ∧ 0 ≤ f (keyB x) ∧ f (keyB x) ≤ (q : Int)
theorem CntI.start : CntI (fun _ => 0) 0 [] := fun x => ⟨by simp, Int.le_refl _, Int.le_refl _⟩
theorem onceB_old {acc : List PBlk} {x : PBlk} (h : x ∈ acc) : onceB acc x = acc := if_pos h
theorem onceB_new {acc : List PBlk} {x : PBlk} (h : x ∉ acc) : onceB acc x = acc ++ [x] := if_neg h
theorem mem_onceB {acc : List PBlk} {x y : PBlk} : y ∈ onceB acc x ↔ y ∈ acc ∨ y = x := by
  by_cases h : x ∈ acc
  · rw [onceB_old h]
    exact ⟨.inl, fun g => g.elim id (fun e => e ▸ h)⟩
  · rw [onceB_new h]; simp
theorem CntI.next {f : List UInt8 → Int} {q : Nat} {acc : List PBlk} (h : CntI f q acc) (x : PBlk) : CntI (fun z => if z = keyB x then f (keyB x) + 1 else f z) (q + 1) (onceB acc x) := fun y => by
  obtain ⟨h1, h2, h3⟩ := h y
  have hx := h x
  by_cases e : y = x
  · subst e
    simp only [if_true]
    exact ⟨⟨fun g => by omega, fun g => absurd (mem_onceB.2 (.inr rfl)) g⟩, by omega, by omega⟩
  · have hne : keyB y ≠ keyB x := fun g => e (key_inj g)
    simp only [if_neg hne]
    refine ⟨h1.trans ⟨fun g k => ?_, fun g k => g (mem_onceB.2 (.inl k))⟩, h2, by omega⟩
    exact (mem_onceB.1 k).elim g e
/-- The memory of a struct of rests. -/
structure RstW (S : Nat → Prop) (M B : Nat) (w : World) (b bm : Nat) (v : Value) (n q : Nat) (acc : List PBlk) : Prop where
  box : Box w b 47 #[.map (some bm), v]
  map : ∃ f, MapZ 9 okT kkT w bm f q ∧ CntI f q acc
  own : OwnB (fun k => ((k < M ∧ S k) ∨ B ≤ k) ∧ k ≠ b ∧ k ≠ bm) w B v n acc
  apart : b ≠ bm ∧ B ≤ b ∧ B ≤ bm
  row : ∀ k, v.ownBlock = some k → k ≠ b ∧ k ≠ bm
theorem OwnB.grown {S : Nat → Prop} {w w' : World} {B n : Nat} {v : Value} {l : List PBlk} {row : Option Nat} (h : OwnB S w B v n l) (hg : w.grownBy w' row) (hr : ∀ k, S k → row ≠ some k) (hv : ∀ k, v.ownBlock = some k → row ≠ some k) : OwnB S w' B v n l := by
  obtain ⟨cells, ⟨h0, h1⟩, h2, h3⟩ := h
  refine ⟨cells, ⟨h0, ?_⟩, ⟨h2.1, fun i x hx => ?_⟩, h3⟩
  · rcases h1 with h1 | ⟨g, cap, cur, rfl, e1, e2, e3⟩
    · exact .inl h1
    · exact .inr ⟨g, cap, cur, rfl, e1, (hg.block g (Array.getElem?_eq_some_iff.1 e2).1 (fun e => hv g rfl e.symm)).trans e2, e3⟩
  · obtain ⟨vs, a, b⟩ := h2.2 i x hx
    exact ⟨vs, a, b.grown hg (fun k hk => hr k hk.1)⟩
theorem OwnB.bx' {S : Nat → Prop} {w : World} {B n : Nat} {v : Value} {l : List PBlk} (h : OwnB S w B v n l) (hn : n ≤ 281474976710656) : ∃ A c, v = .slice A n c ∧ True := let ⟨A, c, e, _⟩ := OwnSl.sl h hn; ⟨A, c, e, trivial⟩
theorem sl_one {S : Nat → Prop} {w : World} {b ty : Nat} {k l : Int} {A : Option Addr} {n c : Nat} {ks : List PBlk} (h : Box w b ty #[.int .i64 k, .int .i64 l, .slice A n c]) (hA : BX S w A n c ks) : Sl (BlkX S) 3 w (some ⟨b, 0, none⟩) 1 1 [.mk k l ks] := by
  refine ⟨rfl, by omega, by simp only [maxLen]; omega, by omega, fun ha => (by cases ha), fun _ => ⟨b, 0, rfl, h.lt, fun i x hi => ?_⟩⟩
  match i, hi with
  | 0, hi =>
    injection hi with hi
    subst hi
    exact ⟨fun j => [Value.int .i64 k, .int .i64 l, .slice A n c].getD j undef, fun j hj => by
      match j, hj with
      | 0, _ => exact h.cell 0
      | 1, _ => exact h.cell 1
      | 2, _ => exact h.cell 2, BlkX.mk' hA rfl rfl rfl⟩
  | i + 1, hi => simp at hi
/-- One block that has just been laid is appended, at the operation. -/
theorem step_appB1 {S T : Nat → Prop} {w : World} {B n : Nat} {v : Value} {l : List PBlk} {ops : Array Oper} {o : Oper} {a : Act} {K : Act → World → Prop} {Q : Exit → Act → World → Prop} {E : Prop} (hgd : o.guard = none) (s x : Operand)
    (ho : o.op = .call { callee := .builtin .append, args := #[s, x], argTypes := #[22, 22] })
    {kd lb : Int} {C : Option Addr} {m c H : Nat} {ks : List PBlk} (hs : a.eval s = v) (hx : a.eval x = .slice (some ⟨H, 0, none⟩) 1 1) (hH : H = w.heap.size)
    (own : OwnB S w B v n l) (src : BX T w C m c ks) (hT : ∀ k, k < w.heap.size → T k → S k ∧ v.ownBlock ≠ some k) (hB : B ≤ w.heap.size) (h63 : (n + 1) * 40 ≤ 140737488355328)
    (hK : ∀ v' w', OwnB S w' B v' (n + 1) (l ++ [.mk kd lb ks]) → w.grownBy w' v.ownBlock → (∀ q, v'.ownBlock = some q → v.ownBlock = some q ∨ w.heap.size ≤ q) → K (a.put o.dst v') w') :
    if Region.wanted o (yielded ops a.tmps) = true then Oper.wp Tryd.prog o a (w.alloc (.cells #[.int .i64 kd, .int .i64 lb, .slice C m c] 24)) K Q else E := by
  rw [if_pos (by simp [Region.wanted, hgd])]
  subst hH
  have hlt : ∀ k, v.ownBlock = some k → B ≤ k ∧ k < w.heap.size := own.lt
  have bn := boxBelow w (.cells #[.int .i64 kd, .int .i64 lb, .slice C m c] 24)
  obtain ⟨cells, o1, o2, o3⟩ := own.keep bn
  have q1 : Reads (BlkX (fun k => (S k ∧ v.ownBlock ≠ some k) ∧ k < (w.alloc (.cells #[.int .i64 kd, .int .i64 lb, .slice C m c] 24)).heap.size)) 3 (w.alloc (.cells #[.int .i64 kd, .int .i64 lb, .slice C m c] 24)) cells l := ⟨o2.1, fun i x hx => by obtain ⟨vs, a, b⟩ := o2.2 i x hx; exact ⟨vs, a, b.mono (fun k hk hs => ⟨hs, hk⟩)⟩⟩
  have q2 := sl_one (Box.new w #[.int .i64 kd, .int .i64 lb, .slice C m c] 24) ((src.mono (T := fun k => (S k ∧ v.ownBlock ≠ some k) ∧ k < (w.alloc (.cells #[.int .i64 kd, .int .i64 lb, .slice C m c] 24)).heap.size) (fun k hk h => ⟨hT k hk h, by simp; omega⟩)).keep bn)
  obtain ⟨v', w', hr, h6, h7, h8⟩ := run_appAny tyBlk BlkX.good o.type ⟨cells, o1, q1, o3⟩ q2 (Nat.le_trans hB bn.size) (by omega) h63 (fun w' hg vs y hy => hy.grown hg (fun k hk => hk.1.2))
  have hg : w.grownBy w' v.ownBlock := ⟨h7.os, h7.tape, h7.output, Nat.le_trans (by simp) h7.size, fun k hk hne => (h7.block k (by simp; omega) hne).trans (heap_alloc_old w _ hk)⟩
  have h := hK v' w' ?_ hg (fun q hq => h8.elim (fun e => .inl (e ▸ hq)) (fun e => .inr (by rw [e] at hq; injection hq with hq; simp at hq; omega)))
  · unfold Oper.wp execOp
    simp only [ho, resolve, invoke, builtin, Sem.run_bind, Sem.run_pure, Result.andThen_ok, List.map_toArray, List.map_cons, List.map_nil, hs, hx, hr]
    exact h
  · obtain ⟨cells', p1, p2, p3⟩ := h6
    refine ⟨cells', p1, ⟨p2.1, fun i x hx => ?_⟩, p3⟩
    obtain ⟨vs, a, b⟩ := p2.2 i x hx
    refine ⟨vs, a, b.mono (fun k _ hk => ⟨hk.1.1, ?_⟩)⟩
    rcases h8 with h8 | h8
    · rw [h8]; exact hk.1.2
    · rw [h8]
      intro e
      injection e with e
      have := hk.2
      omega
theorem grown_set1 {w : World} (b i : Nat) (u : Value) : w.grownBy (w.setCell ⟨b, i, none⟩ u) (some b) :=
  ⟨rfl, rfl, rfl, by simp [World.setCell], fun q _ hne => heap_setCell_other _ _ _ _ (fun e => hne (by rw [e]))⟩
/-- What both orders of the last two stores leave. -/
theorem rst_fin {S : Nat → Prop} {M B : Nat} {w7 w' : World} {b bm n q g cap m c : Nat} {old : Value} {acc ks : List PBlk} {kd lb : Int} {C : Option Addr} {T : Nat → Prop}
    (own : OwnB (fun k => ((k < M ∧ S k) ∨ B ≤ k) ∧ k ≠ b ∧ k ≠ bm) w7 B (.slice (some ⟨g, 0, none⟩) (n + 1) cap) (n + 1) (acc ++ [.mk 0 0 []])) (box : Box w7 b 47 #[.map (some bm), old]) (map : ∃ f, MapZ 9 okT kkT w7 bm f q ∧ CntI f q (acc ++ [.mk kd lb ks]))
    (hx : BX T w7 C m c ks) (hT : ∀ k, k < w7.heap.size → T k → (((k < M ∧ S k) ∨ B ≤ k) ∧ k ≠ b ∧ k ≠ bm) ∧ k ≠ g) (ap : b ≠ bm ∧ B ≤ b ∧ B ≤ bm) (hgb : g ≠ b) (hgm : g ≠ bm) (hl : acc.length = n)
    (hw : w' = (((w7.setCell ⟨g, n * 3, none⟩ (.int .i64 kd)).setCell ⟨g, n * 3 + 1, none⟩ (.int .i64 lb)).setCell ⟨g, n * 3 + 2, none⟩ (.slice C m c)).setCell ⟨b, 1, none⟩ (.slice (some ⟨g, 0, none⟩) (n + 1) cap) ∨
      w' = (((w7.setCell ⟨b, 1, none⟩ (.slice (some ⟨g, 0, none⟩) (n + 1) cap)).setCell ⟨g, n * 3, none⟩ (.int .i64 kd)).setCell ⟨g, n * 3 + 1, none⟩ (.int .i64 lb)).setCell ⟨g, n * 3 + 2, none⟩ (.slice C m c)) :
    RstW S M B w' b bm (.slice (some ⟨g, 0, none⟩) (n + 1) cap) (n + 1) q (acc ++ [.mk kd lb ks]) ∧ Below B w7 w' ∧ ∀ k, k ≠ b → k ≠ g → w'.heap[k]? = w7.heap[k]? := by
  have hBg : B ≤ g := (own.lt g rfl).1
  have hset : (acc ++ [PBlk.mk 0 0 []]).set n (.mk kd lb ks) = acc ++ [.mk kd lb ks] := by rw [← hl]; simp
  obtain ⟨f, m1, m2⟩ := map
  rcases hw with rfl | rfl
  · have o9 := own.put (i := n) (kd := kd) (lb := lb) (by omega) hx hT
    rw [hset] at o9
    have g9 := grown_set3 (w := w7) (g := g) (n * 3) (n * 3 + 1) (n * 3 + 2) (.int .i64 kd) (.int .i64 lb) (.slice C m c)
    have b9 := ((box.other (a := ⟨g, n * 3, none⟩) (.int .i64 kd) (Ne.symm hgb)).other (a := ⟨g, n * 3 + 1, none⟩) (.int .i64 lb) (Ne.symm hgb)).other (a := ⟨g, n * 3 + 2, none⟩) (.slice C m c) (Ne.symm hgb)
    have l9 := below_at3 (Below.refl B w7) hBg (n * 3) (n * 3 + 1) (n * 3 + 2) (.int .i64 kd) (.int .i64 lb) (.slice C m c)
    have m9 := m1.beside g9 (fun e => by injection e with e; exact hgm e.symm)
    have e9 : ∀ k, k ≠ g → (((w7.setCell ⟨g, n * 3, none⟩ (.int .i64 kd)).setCell ⟨g, n * 3 + 1, none⟩ (.int .i64 lb)).setCell ⟨g, n * 3 + 2, none⟩ (.slice C m c)).heap[k]? = w7.heap[k]? := fun k hk => by rw [heap_setCell_other _ _ _ _ hk, heap_setCell_other _ _ _ _ hk, heap_setCell_other _ _ _ _ hk]
    generalize ((w7.setCell ⟨g, n * 3, none⟩ (.int .i64 kd)).setCell ⟨g, n * 3 + 1, none⟩ (.int .i64 lb)).setCell ⟨g, n * 3 + 2, none⟩ (.slice C m c) = w9 at *
    have g12 := grown_set1 (w := w9) b 1 (.slice (some ⟨g, 0, none⟩) (n + 1) cap)
    refine ⟨⟨b9.set 1 _, ⟨f, m9.beside g12 (fun e => by injection e with e; exact ap.1 e.symm), m2⟩, o9.grown g12 (fun k hk e => by injection e with e; exact hk.2.1 e.symm) (fun k hk e => by injection hk with hk; injection e with e; exact hgb (hk.trans e.symm)), ap, fun k hk => by injection hk with hk; have hk : g = k := hk; subst hk; exact ⟨hgb, hgm⟩⟩, l9.setCell ap.2.1 _, fun k h1 h2 => ?_⟩
    rw [heap_setCell_other _ _ _ _ (show k ≠ (⟨b, 1, none⟩ : Addr).block from h1)]
    exact e9 k h2
  · have g12 := grown_set1 (w := w7) b 1 (.slice (some ⟨g, 0, none⟩) (n + 1) cap)
    have o12 := own.grown g12 (fun k hk e => by injection e with e; exact hk.2.1 e.symm) (fun k hk e => by injection hk with hk; injection e with e; exact hgb (hk.trans e.symm))
    have x12 := (hx.mono (T := fun k => T k ∧ k < w7.heap.size) (fun k hk h => ⟨h, hk⟩)).grown g12 (fun k hk e => by injection e with e; exact (hT k hk.2 hk.1).1.2.1 e.symm)
    have b12 := box.set 1 (.slice (some ⟨g, 0, none⟩) (n + 1) cap)
    have l12 : Below B w7 (w7.setCell ⟨b, 1, none⟩ (.slice (some ⟨g, 0, none⟩) (n + 1) cap)) := (Below.refl B w7).setCell ap.2.1 _
    have m12 := m1.beside g12 (fun e => by injection e with e; exact ap.1 e.symm)
    have e12 : ∀ k, k ≠ b → (w7.setCell ⟨b, 1, none⟩ (.slice (some ⟨g, 0, none⟩) (n + 1) cap)).heap[k]? = w7.heap[k]? := fun k hk => heap_setCell_other _ _ _ _ hk
    generalize w7.setCell ⟨b, 1, none⟩ (.slice (some ⟨g, 0, none⟩) (n + 1) cap) = w12 at *
    have o9 := o12.put (i := n) (kd := kd) (lb := lb) (by omega) x12 (fun k hk h => hT k h.2 h.1)
    rw [hset] at o9
    have g9 := grown_set3 (w := w12) (g := g) (n * 3) (n * 3 + 1) (n * 3 + 2) (.int .i64 kd) (.int .i64 lb) (.slice C m c)
    have b9 := ((Box.other b12 (a := ⟨g, n * 3, none⟩) (.int .i64 kd) (Ne.symm hgb)).other (a := ⟨g, n * 3 + 1, none⟩) (.int .i64 lb) (Ne.symm hgb)).other (a := ⟨g, n * 3 + 2, none⟩) (.slice C m c) (Ne.symm hgb)
    refine ⟨⟨b9, ⟨f, m12.beside g9 (fun e => by injection e with e; exact hgm e.symm), m2⟩, o9, ap, fun k hk => by injection hk with hk; have hk : g = k := hk; subst hk; exact ⟨hgb, hgm⟩⟩, below_at3 l12 hBg _ _ _ _ _ _, fun k h1 h2 => ?_⟩
    rw [heap_setCell_other _ _ _ _ h2, heap_setCell_other _ _ _ _ h2, heap_setCell_other _ _ _ _ h2]
    exact e12 k h1
def AnsAdd (S : Nat → Prop) (M B : Nat) (w : World) (b bm : Nat) (v : Value) (q : Nat) (acc : List PBlk) (e : Ending) (w' : World) : Prop :=
  (∃ u, e = .returned u) ∧ ∃ v' n', RstW S M B w' b bm v' n' (q + 1) acc ∧ Below B w w' ∧ (∀ k, k < w.heap.size → k ≠ b → k ≠ bm → v.ownBlock ≠ some k → w'.heap[k]? = w.heap[k]?) ∧ ∀ k, v'.ownBlock = some k → v.ownBlock = some k ∨ w.heap.size ≤ k
set_option maxRecDepth 100000 in
set_option maxHeartbeats 8000000 in
theorem bwAdd_calls {S : Nat → Prop} {M B : Nat} {w : World} {b bm n q : Nat} {v : Value} {acc ks : List PBlk} {kd lb : Int} {C : Option Addr} {m c : Nat} {T : Nat → Prop} (R : RstW S M B w b bm v n q acc) (hx : BX T w C m c ks) (hT : ∀ k, k < w.heap.size → T k → (((k < M ∧ S k) ∨ B ≤ k) ∧ k ≠ b ∧ k ≠ bm) ∧ v.ownBlock ≠ some k)
    (hw : wfB (.mk kd lb ks)) (hi : intB (.mk kd lb ks)) (hz : szB (.mk kd lb ks) ≤ 2400) (hP : TabP w) (hMB : M ≤ B) (hq : q < 4611686018427387904) (hn : n ≤ 1000000000000) :
    Calls Tryd.prog 22 #[.pointer (some ⟨b, 0, none⟩), .agg #[.int .i64 kd, .int .i64 lb, .slice C m c]] w (AnsAdd S M B w b bm v q (onceB acc (.mk kd lb ks))) := by
  obtain ⟨A, cA, rfl, _⟩ := R.own.bx' (by omega)
  have X0 := hide2 (boxBelow w (.cells #[.int .i64 kd, .int .i64 lb, .slice C m c] 24))
  have BB := hide2 (Box.new w #[.int .i64 kd, .int .i64 lb, .slice C m c] 24)
  obtain ⟨K, hK⟩ : ∃ K, keyB (.mk kd lb ks) = K := ⟨_, rfl⟩
  have okK : okT K := by have := key_len _ hw hi; rw [hK] at this; unfold okT; omega
  have CK := hide2 (bwKey_calls 2400 kd lb C m c ks (w.alloc (.cells #[.int .i64 kd, .int .i64 lb, .slice C m c] 24)) hz (Nat.le_refl _) hw hi (hP.keep X0.out) (hx.keep X0.out))
  rw [hK] at CK
  obtain ⟨r1, ⟨f, r2, r3⟩, r4, r5, r6⟩ := R
  have hbW := r1.lt
  have hmW := r2.lt
  have NX := hide2 (r3.next (.mk kd lb ks))
  rw [hK] at NX
  have CQ := hide2 (show (f K = 0 ↔ (.mk kd lb ks) ∉ acc) ∧ 0 ≤ f K ∧ f K ≤ (q : Int) by rw [← hK]; exact r3 (.mk kd lb ks))
  obtain ⟨cq, hcq⟩ : ∃ cq : Nat, f K = (cq : Int) := ⟨(f K).toNat, by have := CQ.out.2.1; omega⟩
  have hcq1 : cq < 4611686018427387904 := by have := CQ.out.2.2; omega
  have HX := hide2 hx
  have HT := hide2 hT
  have OWN := hide2 r4
  have AP := hide2 r5
  have RW := hide2 r6
  have MP := hide2 r2
  have BXR := hide2 r1
  have OK := hide2 okK
  have HB := hide2 hbW
  have HM := hide2 hmW
  have HCQ := hide2 hcq
  clear hx hT r1 r2 r3 r4 r5 r6 hw hi hz hP okK hbW hmW hcq hK
  go_enter Tryd.func22, Tryd.ntmps22
  go_upto_region 1 with fail
  generalize w.alloc (.cells #[.int .i64 kd, .int .i64 lb, .slice C m c] 24) = w1 at *
  obtain ⟨z0, z1, z2⟩ := BB.out.three
  go_wp2_with fail
  refine CK.out.mono ?_
  rintro e w2 ⟨rfl, hb2⟩
  have B2 := hide2 (X0.out.trans (hb2.mono X0.out.size))
  have BX2 := hide2 (BXR.out.keep B2.out)
  have BC2 := hide2 (BB.out.keep hb2)
  have M2 := hide2 (MP.out.keep B2.out)
  have LK : (Instr.lookup 45 (.map (some bm)) (.string ⟨K.toArray⟩) false).run Tryd.prog w2 = .ok (.int .i64 (cq : Int)) w2 := by rw [← HCQ.out]; exact MapZ.look keyT Tryd.underlying45 M2.out OK.out
  obtain ⟨w3, hu3, M3, G3⟩ := MapZ.update keyT (t := 45) Tryd.underlying45 M2.out OK.out ((cq : Int) + 1) (WalkArith.wf_i64 (by omega)) (by simp only [maxLen]; omega)
  replace hu3 : (Instr.mapUpdate 45 (.map (some bm)) (.string ⟨K.toArray⟩) (.int .i64 ((cq : Int) + 1))).run Tryd.prog w2 = .ok () w3 := hu3
  have M3' := hide2 M3
  have G3' := hide2 G3
  obtain ⟨y0, y1⟩ := BX2.out.two
  clear hb2 M3 G3 z0 z1 z2
  go_upto_region 3 with fail
  have D3 := hide2 (show Below B w w3 from (B2.out.mono (Nat.le_trans AP.out.2.1 (Nat.le_of_lt HB.out))).grown G3'.out (Nat.le_trans (Nat.le_trans AP.out.2.1 (Nat.le_of_lt HB.out)) B2.out.size) (fun k hk => by injection hk with hk; have := AP.out.2.2; omega))
  have BX3 := hide2 (BX2.out.grown G3'.out (fun e => by injection e with e; exact AP.out.1 e.symm))
  have BC3 := hide2 (BC2.out.grown G3'.out (fun e => by injection e with e; have := HM.out; omega))
  have O3 := hide2 ((OWN.out.keep B2.out).grown G3'.out (fun k hk e => by injection e with e; exact hk.2.2 e.symm) (fun k hk e => by injection e with e; exact (RW.out k hk).2 e.symm))
  have LK3 : (Instr.lookup 45 (.map (some bm)) (.string ⟨K.toArray⟩) false).run Tryd.prog w3 = .ok (.int .i64 ((cq : Int) + 1)) w3 := by
    have := MapZ.look keyT Tryd.underlying45 M3'.out OK.out
    simp only [if_true] at this
    exact this
  have KEEP := hide2 (show ∀ k, k < w.heap.size → k ≠ bm → w3.heap[k]? = w.heap[k]? from fun k hk hne => (G3'.out.block k (Nat.lt_of_lt_of_le hk B2.out.size) (fun e => hne (by injection e))).trans (B2.out.block k hk))
  have SZ3 := hide2 (Nat.le_trans B2.out.size G3'.out.size)
  have M4 := hide2 (show ∃ f, MapZ 9 okT kkT w3 bm f (q + 1) ∧ CntI f (q + 1) (onceB acc (.mk kd lb ks)) from ⟨_, M3'.out, by rw [← HCQ.out]; exact NX.out⟩)
  clear y0 y1 LK hu3
  obtain ⟨y0, y1⟩ := BX3.out.two
  obtain ⟨z0, z1, z2⟩ := BC3.out.three
  by_cases hc : cq = 0
  · subst hc
    have NEW := hide2 (show (.mk kd lb ks) ∉ acc from CQ.out.1.1 HCQ.out)
    go_upto_region 4 with fail
    have BU := hide2 (show w.heap.size < w3.heap.size from Nat.lt_of_lt_of_le BC2.out.lt G3'.out.size)
    have HS := hide2 (fun (u : World) (e1 : u.heap[b]? = w3.heap[b]?) (e2 : u.heap[w.heap.size]? = w3.heap[w.heap.size]?) => show u.cell? ⟨b, 0, none⟩ = some (.map (some bm)) ∧ u.cell? ⟨b, 1, none⟩ = some (.slice A n cA) ∧ u.cell? ⟨w.heap.size, 0, none⟩ = some (.int .i64 kd) ∧ u.cell? ⟨w.heap.size, 1, none⟩ = some (.int .i64 lb) ∧ u.cell? ⟨w.heap.size, 2, none⟩ = some (.slice C m c) from ⟨(World.cell?_of_block (a := ⟨b, 0, none⟩) e1).trans y0, (World.cell?_of_block (a := ⟨b, 1, none⟩) e1).trans y1, (World.cell?_of_block (a := ⟨w.heap.size, 0, none⟩) e2).trans z0, (World.cell?_of_block (a := ⟨w.heap.size, 1, none⟩) e2).trans z1, (World.cell?_of_block (a := ⟨w.heap.size, 2, none⟩) e2).trans z2⟩)
    clear y0 y1 z0 z1 z2
    refine wp_region_scn 12 (.takes [0, 1, 2, 3, 4, 5] (.one 6 (.one 7 (.takes [10, 11] (.two 8 (.two 9 (.fin 12 .done) 12 (.fin 9 .done)) 12 (.fin 8 (.fin 9 .done))))))) (fun u => u.cell? ⟨b, 0, none⟩ = some (.map (some bm)) ∧ u.cell? ⟨b, 1, none⟩ = some (.slice A n cA) ∧ u.cell? ⟨w.heap.size, 0, none⟩ = some (.int .i64 kd) ∧ u.cell? ⟨w.heap.size, 1, none⟩ = some (.int .i64 lb) ∧ u.cell? ⟨w.heap.size, 2, none⟩ = some (.slice C m c)) (by kernel_rfl) (by kernel_rfl) (by kernel_rfl) (fun _ _ _ _ _ h => h) (HS.out _ rfl rfl) (fun hHeld => ?_)
    simp only [ScN.takes]
    have O3d := hide2 (show OwnB (fun k => ((k < M ∧ S k) ∨ B ≤ k) ∧ k ≠ b ∧ k ≠ bm) w3.drew B (.slice A n cA) n acc from O3.out.keep ((Below.refl _ _).drew))
    have HXd := hide2 (show BX (fun k => T k ∧ k < w.heap.size) w3.drew C m c ks from ((((HX.out.mono (T := fun k => T k ∧ k < w.heap.size) (fun k hk h => ⟨h, hk⟩)).keep B2.out).grown G3'.out (fun k hk e => by injection e with e; exact (HT.out k hk.2 hk.1).1.2.2 e.symm)).keep ((Below.refl _ _).drew)))
    have OLD := hide2 (show w3.drew.heap.size = w3.heap.size ∧ ∀ k : Nat, w3.drew.heap[k]? = w3.heap[k]? from ⟨rfl, fun _ => rfl⟩)
    have M4d := hide2 (show ∃ f, MapZ 9 okT kkT w3.drew bm f (q + 1) ∧ CntI f (q + 1) (onceB acc (.mk kd lb ks)) from M4.out)
    have BX4 := hide2 (show Box w3.drew b 47 #[.map (some bm), .slice A n cA] from BX3.out)
    have D4 := hide2 (show Below B w w3.drew from D3.out.trans ((Below.refl _ _).drew))
    rw [onceB_new NEW.out] at M4d
    have LN := hide2 O3.out.len
    clear BX2 BC2 M2 M3' BX3 BC3 M4 D3 O3 HX LK3
    generalize w3.drew = u0 at *
    iterate 6
      refine tnTake (v := ?_) rfl (by rfl) hHeld (fun w' hSw => ?_) ?_
      rotate_left
      · (obtain ⟨s0, s1, s2, s3, s4⟩ := hSw; go_simp; try with_reducible rfl)
      try simp only [Act.put, List.setIfInBounds_toArray, List.set_cons_zero, List.set_cons_succ]
    refine tnOne rfl (fun Kf hKf => ?_)
    go_simp
    have E6 := hide2 (show ∀ k, k < u0.heap.size → (u0.alloc (.cells #[.int .i64 0, .int .i64 0, .slice none 0 0] 24)).heap[k]? = w3.heap[k]? from fun k hk => (heap_alloc_old _ _ hk).trans (OLD.out.2 k))
    have hu : u0.heap.size = w3.heap.size := OLD.out.1
    have BS := hide2 (show b < u0.heap.size ∧ w.heap.size < u0.heap.size from by have := BX4.out.lt; have := BU.out; exact ⟨by assumption, by omega⟩)
    refine hKf.out _ _ (HS.out _ (E6.out _ BS.out.1) (E6.out _ BS.out.2)) (fun hHeld => ?_)
    clear hKf hu
    try simp only [Act.put, List.setIfInBounds_toArray, List.set_cons_zero, List.set_cons_succ]
    have HF := hide2 (show ∀ k, k < u0.heap.size → False → (((k < M ∧ S k) ∨ B ≤ k) ∧ k ≠ b ∧ k ≠ bm) ∧ (Value.slice A n cA).ownBlock ≠ some k from fun _ _ h => h.elim)
    refine tnOne rfl (fun Kf hKf => ?_)
    refine step_appB1 (kd := 0) (lb := 0) (C := none) (m := 0) (c := 0) (ks := []) (T := fun _ => False) rfl _ _ rfl rfl rfl rfl O3d.out BX.nil HF.out (by have := AP.out.2.1; have := BS.out.1; omega) (by omega) (fun v7 w7 own7 hg7 hv7 => ?_)
    obtain ⟨g, cap, rfl, hBg, hgs⟩ := own7.form (by omega)
    have GV := hide2 (show ∀ k, k = g → (Value.slice A n cA).ownBlock = some k ∨ u0.heap.size ≤ k from fun k hk => hv7 k (by rw [hk]; rfl))
    have GG := hide2 (show g ≠ b ∧ g ≠ bm ∧ g ≠ w.heap.size from by
      have h1 := GV.out g rfl
      have h2 := BS.out
      have h3 := HM.out
      rcases h1 with h1 | h1
      · have r := RW.out g h1
        have o := (OWN.out.lt g h1).2
        exact ⟨r.1, r.2, by omega⟩
      · exact ⟨by omega, by omega, by omega⟩)
    have OWB := hide2 (show ∀ k, (Value.slice A n cA).ownBlock = some k → k ≠ b ∧ k ≠ bm ∧ k < w.heap.size from fun k hk => ⟨(RW.out k hk).1, (RW.out k hk).2, (OWN.out.lt k hk).2⟩)
    have K7 := hide2 (show ∀ k, k < u0.heap.size → (Value.slice A n cA).ownBlock ≠ some k → w7.heap[k]? = w3.heap[k]? from fun k hk hne => (hg7.block k hk (fun e => hne e.symm)).trans (OLD.out.2 k))
    have E7 := hide2 (show w7.heap[b]? = w3.heap[b]? ∧ w7.heap[w.heap.size]? = w3.heap[w.heap.size]? from ⟨K7.out b BS.out.1 (fun e => (OWB.out b e).1 rfl), K7.out _ BS.out.2 (fun e => by have := (OWB.out _ e).2.2; omega)⟩)
    have BX7 := hide2 (BX4.out.grown hg7 (fun e => (OWB.out b e).1 rfl))
    have M7 := hide2 (show ∃ f, MapZ 9 okT kkT w7 bm f (q + 1) ∧ CntI f (q + 1) (acc ++ [.mk kd lb ks]) from by obtain ⟨f, h1, h2⟩ := M4d.out; exact ⟨f, h1.beside hg7 (fun e => (OWB.out bm e.symm).2.1 rfl), h2⟩)
    have X7 := hide2 (HXd.out.grown hg7 (fun k hk e => (HT.out k hk.2 hk.1).2 e))
    have D7 := hide2 (D4.out.grown hg7 (Nat.le_trans AP.out.2.1 (Nat.le_of_lt BS.out.1)) (fun k hk => (OWN.out.lt k hk).1))
    have SZ7 := hide2 (show w.heap.size ≤ w7.heap.size from Nat.le_trans (Nat.le_of_lt BS.out.2) hg7.size)
    have FINAL := hide2 (fun (w' : World) (hw' : _) => rst_fin (w' := w') own7 BX7.out M7.out X7.out (fun k hk h => ⟨(HT.out k h.2 h.1).1, fun e => by have h1 := GV.out k e; have h2 := (HT.out k h.2 h.1).2; have h3 := BS.out.2; rcases h1 with h1 | h1; exact h2 h1; omega⟩) AP.out GG.out.1 GG.out.2.1 LN.out hw')
    have OW7 := hide2 own7
    refine hKf.out _ _ (HS.out _ E7.out.1 E7.out.2) (fun hHeld => ?_)
    clear hKf hBg hg7 hv7 own7 HF
    try simp only [Act.put, List.setIfInBounds_toArray, List.set_cons_zero, List.set_cons_succ]
    iterate 2
      refine tnTake (v := ?_) rfl (by rfl) hHeld (fun w' hSw => ?_) ?_
      rotate_left
      · (obtain ⟨s0, s1, s2, s3, s4⟩ := hSw; go_simp; try with_reducible rfl)
      try simp only [Act.put, List.setIfInBounds_toArray, List.set_cons_zero, List.set_cons_succ]
    refine scnEnd (fun a0 a' w' => ∃ e29 : Value, a' = a0.put (some 29) e29 ∧ Hid (w' = (((w7.setCell ⟨g, n * 3, none⟩ (.int .i64 kd)).setCell ⟨g, n * 3 + 1, none⟩ (.int .i64 lb)).setCell ⟨g, n * 3 + 2, none⟩ (.slice C m c)).setCell ⟨b, 1, none⟩ (.slice (some ⟨g, 0, none⟩) (n + 1) cap) ∨ w' = (((w7.setCell ⟨b, 1, none⟩ (.slice (some ⟨g, 0, none⟩) (n + 1) cap)).setCell ⟨g, n * 3, none⟩ (.int .i64 kd)).setCell ⟨g, n * 3 + 1, none⟩ (.int .i64 lb)).setCell ⟨g, n * 3 + 2, none⟩ (.slice C m c))) ?_ (fun EN => ?_)
    rotate_left
    · have hnI : (n : Int) < ((n + 1 : Nat) : Int) := by omega
      have hnJ : (n : Int) < (n : Int) + 1 := by omega
      have hnN : n < n + 1 := by omega
      have hn0 : (0 : Int) ≤ (n : Int) := by omega
      refine tnTwo rfl rfl (fun Kf hKf => ?_) (fun Kf hKf => ?_)
      · go_simp
        refine hKf.out _ _ (HS.out _ E7.out.1 E7.out.2) (fun hHeld => ?_)
        clear hKf
        try simp only [Act.put, List.setIfInBounds_toArray, List.set_cons_zero, List.set_cons_succ]
        obtain ⟨u0', hu0⟩ := OW7.out.cellAt (j := n * 3) (by omega)
        obtain ⟨u1', hu1⟩ := OW7.out.cellAt (j := n * 3 + 1) (by omega)
        obtain ⟨u2', hu2⟩ := OW7.out.cellAt (j := n * 3 + 2) (by omega)
        have hfz := OW7.out.frozen
        have hbf := BX7.out.frozen 1
        have hb1 := BX7.out.two.2
        refine tnTwo rfl rfl (fun Kf hKf => ?_) (fun Kf hKf => ?_)
        · go_simp
          have E9 := hide2 (show ∀ k : Nat, k ≠ g → (((w7.setCell ⟨g, n * 3, none⟩ (.int .i64 kd)).setCell ⟨g, n * 3 + 1, none⟩ (.int .i64 lb)).setCell ⟨g, n * 3 + 2, none⟩ (.slice C m c)).heap[k]? = w7.heap[k]? from fun k hk => by rw [heap_setCell_other _ _ _ _ hk, heap_setCell_other _ _ _ _ hk, heap_setCell_other _ _ _ _ hk])
          refine hKf.out _ _ (HS.out _ ((E9.out b (Ne.symm GG.out.1)).trans E7.out.1) ((E9.out _ (Ne.symm GG.out.2.2)).trans E7.out.2)) (fun hHeld => ?_)
          clear hKf hu0 hu1 hu2 hfz
          have hbf' := (World.frozen?_of_block (a := ⟨b, 1, none⟩) (E9.out b (Ne.symm GG.out.1))).trans hbf
          have hb1' := (World.cell?_of_block (a := ⟨b, 1, none⟩) (E9.out b (Ne.symm GG.out.1))).trans hb1
          try simp only [Act.put, List.setIfInBounds_toArray, List.set_cons_zero, List.set_cons_succ]
          generalize hw9 : ((w7.setCell ⟨g, n * 3, none⟩ (.int .i64 kd)).setCell ⟨g, n * 3 + 1, none⟩ (.int .i64 lb)).setCell ⟨g, n * 3 + 2, none⟩ (.slice C m c) = w9 at *
          have HW9 := hide2 hw9
          clear hw9 hbf hb1
          refine tnEnd rfl (fun Kf hKf => ?_)
          go_simp
          refine hKf.out _ _ ?_
          clear hKf
          try simp only [Act.put, List.setIfInBounds_toArray, List.set_cons_zero, List.set_cons_succ]
          exact EN.out _ _ ⟨_, rfl, hide2 (.inl rfl)⟩
        · go_simp
          refine hKf.out _ _ ?_
          clear hKf hu0 hu1 hu2 hfz hbf hb1
          try simp only [Act.put, List.setIfInBounds_toArray, List.set_cons_zero, List.set_cons_succ]
          have hbg : ∀ j, (w7.setCell ⟨b, 1, none⟩ (.slice (some ⟨g, 0, none⟩) (n + 1) cap)).cell? ⟨g, j, none⟩ = w7.cell? ⟨g, j, none⟩ := fun j => World.cell?_of_block (a := ⟨g, j, none⟩) (heap_setCell_other _ _ _ _ GG.out.1)
          have hfg : ∀ j, (w7.setCell ⟨b, 1, none⟩ (.slice (some ⟨g, 0, none⟩) (n + 1) cap)).frozen? ⟨g, j, none⟩ = false := fun j => (World.frozen?_of_block (a := ⟨g, j, none⟩) (heap_setCell_other _ _ _ _ GG.out.1)).trans (OW7.out.frozen j)
          obtain ⟨u0', hu0⟩ := OW7.out.cellAt (j := n * 3) (by omega)
          obtain ⟨u1', hu1⟩ := OW7.out.cellAt (j := n * 3 + 1) (by omega)
          obtain ⟨u2', hu2⟩ := OW7.out.cellAt (j := n * 3 + 2) (by omega)
          have W9 := hide2 (show w7.setCell ⟨b, 1, none⟩ (.slice (some ⟨g, 0, none⟩) (n + 1) cap) = w7.setCell ⟨b, 1, none⟩ (.slice (some ⟨g, 0, none⟩) (n + 1) cap) from rfl)
          rw [← hbg] at hu0 hu1 hu2
          generalize hw9 : w7.setCell ⟨b, 1, none⟩ (.slice (some ⟨g, 0, none⟩) (n + 1) cap) = w9 at *
          have HW9 := hide2 hw9
          clear hw9 hbg
          refine tnEnd rfl (fun Kf hKf => ?_)
          go_simp
          refine hKf.out _ _ ?_
          clear hKf
          try simp only [Act.put, List.setIfInBounds_toArray, List.set_cons_zero, List.set_cons_succ]
          exact EN.out _ _ ⟨_, rfl, hide2 (.inr rfl)⟩
      · have hbf := BX7.out.frozen 1
        have hb1 := BX7.out.two.2
        go_simp
        refine hKf.out _ _ ?_
        clear hKf hbf hb1
        try simp only [Act.put, List.setIfInBounds_toArray, List.set_cons_zero, List.set_cons_succ]
        have hbg : ∀ j, (w7.setCell ⟨b, 1, none⟩ (.slice (some ⟨g, 0, none⟩) (n + 1) cap)).cell? ⟨g, j, none⟩ = w7.cell? ⟨g, j, none⟩ := fun j => World.cell?_of_block (a := ⟨g, j, none⟩) (heap_setCell_other _ _ _ _ GG.out.1)
        have hfg : ∀ j, (w7.setCell ⟨b, 1, none⟩ (.slice (some ⟨g, 0, none⟩) (n + 1) cap)).frozen? ⟨g, j, none⟩ = false := fun j => (World.frozen?_of_block (a := ⟨g, j, none⟩) (heap_setCell_other _ _ _ _ GG.out.1)).trans (OW7.out.frozen j)
        obtain ⟨u0', hu0⟩ := OW7.out.cellAt (j := n * 3) (by omega)
        obtain ⟨u1', hu1⟩ := OW7.out.cellAt (j := n * 3 + 1) (by omega)
        obtain ⟨u2', hu2⟩ := OW7.out.cellAt (j := n * 3 + 2) (by omega)
        have W9 := hide2 (show w7.setCell ⟨b, 1, none⟩ (.slice (some ⟨g, 0, none⟩) (n + 1) cap) = w7.setCell ⟨b, 1, none⟩ (.slice (some ⟨g, 0, none⟩) (n + 1) cap) from rfl)
        rw [← hbg] at hu0 hu1 hu2
        generalize hw9 : w7.setCell ⟨b, 1, none⟩ (.slice (some ⟨g, 0, none⟩) (n + 1) cap) = w9 at *
        have HW9 := hide2 hw9
        clear hw9 hbg
        refine tnEnd rfl (fun Kf hKf => ?_)
        go_simp
        refine hKf.out _ _ ?_
        clear hKf
        try simp only [Act.put, List.setIfInBounds_toArray, List.set_cons_zero, List.set_cons_succ]
        refine tnEnd rfl (fun Kf hKf => ?_)
        go_simp
        refine hKf.out _ _ ?_
        clear hKf
        try simp only [Act.put, List.setIfInBounds_toArray, List.set_cons_zero, List.set_cons_succ]
        exact EN.out _ _ ⟨_, rfl, hide2 (.inr rfl)⟩
    rintro a' w' ⟨e29, rfl, HW⟩
    try simp only [Act.put, List.setIfInBounds_toArray, List.set_cons_zero, List.set_cons_succ]
    refine tnDone ?_
    obtain ⟨f1, f2, f3⟩ := FINAL.out w' HW.out
    have F1 := hide2 f1
    have F2 := hide2 (D7.out.trans f2)
    have F3 := hide2 f3
    clear f1 f2 f3 FINAL
    go_end0
    rw [onceB_new NEW.out]
    refine ⟨⟨_, rfl⟩, _, n + 1, F1.out, F2.out, fun k hk h1 h2 h3 => ?_, fun k hk => ?_⟩
    · have hg : k ≠ g := fun e => (GV.out k e).elim h3 (fun h => by have := BS.out.2; omega)
      exact (F3.out k h1 hg).trans ((K7.out k (by have := BS.out.2; omega) h3).trans (KEEP.out k hk h2))
    · injection hk with hk
      have hk : g = k := hk
      exact (GV.out k hk.symm).imp id (fun h => by have := BS.out.2; omega)
  · have hc1 : ((cq : Int) + 1 == 1) = false := by simp; omega
    have OLD := hide2 (show (.mk kd lb ks) ∈ acc from Classical.byContradiction fun h => hc (by have := CQ.out.1.2 h; rw [HCQ.out] at this; omega))
    rw [onceB_old OLD.out] at M4
    go_wp2
    go_end0
    rw [onceB_old OLD.out]
    exact ⟨⟨_, rfl⟩, _, n, ⟨BX3.out, M4.out, O3.out, AP.out, RW.out⟩, D3.out, fun k hk _ h2 _ => KEEP.out k hk h2, fun k hk => .inl hk⟩
end Go.Proofs.YtniolbbhjibobaaDoor
