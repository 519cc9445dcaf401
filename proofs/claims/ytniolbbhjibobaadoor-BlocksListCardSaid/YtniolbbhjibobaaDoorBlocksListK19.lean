/- Blocks in memory, with the places where what they hold may lie; rows of blocks that are the call's own. Conditions: as each says. -/
import Derived.Test.YtniolbbhjibobaaDoorBlocksListK18
import Derived.Test.YtniolbbhjibobaaDoorBlocksListK15
import Derived.Maps.AppendAt
set_option linter.all false
namespace Go.Proofs.YtniolbbhjibobaaDoor
open Go.RowKit

/-- A block that reads so, all that it holds in blocks of memory that S names. -/
def BlkE (S : Nat → Prop) : Nat → World → (Nat → Value) → PBlk → Prop
  | 0 => fun _ _ _ => False
  | d + 1 => fun w vs b => vs 0 = .int .i64 b.kind ∧ vs 1 = .int .i64 b.label ∧ ∃ A n c, vs 2 = .slice A n c ∧ (0 < n → ∀ a, A = some a → S a.block) ∧ Sl (BlkE S d) 3 w A n c b.kids
def BlkX (S : Nat → Prop) : World → (Nat → Value) → PBlk → Prop := fun w vs b => ∃ d, BlkE S d w vs b
abbrev BX (S : Nat → Prop) (w : World) (A : Option Addr) (n c : Nat) (l : List PBlk) : Prop := (0 < n → ∀ a, A = some a → S a.block) ∧ Sl (BlkX S) 3 w A n c l
section
variable {S T : Nat → Prop} {w w' : World} {A : Option Addr} {n c d : Nat} {l : List PBlk} {vs : Nat → Value} {b : PBlk}
/-- Where the blocks of memory that S names have not turned, all reads as it did. -/
theorem BlkE.move (hST : ∀ k, k < w.heap.size → S k → T k ∧ w'.heap[k]? = w.heap[k]?) : ∀ d vs b, BlkE S d w vs b → BlkE T d w' vs b
  | 0, _, _, h => h.elim
  | d + 1, vs, b, h => by
    obtain ⟨h0, h1, A, n, c, h2, h3, h4⟩ := h
    refine ⟨h0, h1, A, n, c, h2, fun hn a ha => ?_, ⟨h4.len, h4.le, h4.cap, h4.small, h4.nul, fun hn => ?_⟩⟩
    · obtain ⟨g, off, e, hg, _⟩ := h4.cells hn
      have hs := h3 hn a ha
      rw [ha] at e
      injection e with e
      subst e
      exact (hST _ hg hs).1
    · obtain ⟨g, off, e, hg, hx⟩ := h4.cells hn
      have hs : S g := h3 hn _ e
      have hb := (hST g hg hs).2
      refine ⟨g, off, e, ?_, fun i x hi => ?_⟩
      · have := (Array.getElem?_eq_some_iff.1 (hb.trans (Array.getElem?_eq_getElem hg))).1
        exact this
      · obtain ⟨vs', a, r⟩ := hx i x hi
        exact ⟨vs', fun j hj => (World.cell?_of_block (a := ⟨g, off + (i * 3 + j), none⟩) hb).trans (a j hj), BlkE.move hST d vs' x r⟩
theorem BlkX.move (hST : ∀ k, k < w.heap.size → S k → T k ∧ w'.heap[k]? = w.heap[k]?) (h : BlkX S w vs b) : BlkX T w' vs b := let ⟨d, h⟩ := h; ⟨d, BlkE.move hST d vs b h⟩
theorem BlkX.mono (h : BlkX S w vs b) (hST : ∀ k, k < w.heap.size → S k → T k) : BlkX T w vs b := h.move (fun k hk hs => ⟨hST k hk hs, rfl⟩)
theorem BlkX.keep (h : BlkX S w vs b) (hb : Below w.heap.size w w') : BlkX S w' vs b := h.move (fun k hk hs => ⟨hs, hb.block k hk⟩)
theorem BlkX.kept : Kept (BlkX S) := fun _ _ _ _ hb h => h.keep hb
theorem BlkX.grown {row : Option Nat} (h : BlkX S w vs b) (hg : w.grownBy w' row) (hr : ∀ k, S k → row ≠ some k) : BlkX S w' vs b := h.move (fun k hk hs => ⟨hs, hg.block k hk (fun e => hr k hs e.symm)⟩)
theorem BlkE.deep : ∀ (k j : Nat) (vs : Nat → Value) (b : PBlk), k ≤ j → BlkE S k w vs b → BlkE S j w vs b
  | 0, _, _, _, _, h => h.elim
  | k + 1, j, vs, b, hj, h => by
    obtain ⟨j', rfl⟩ : ∃ j', j = j' + 1 := ⟨j - 1, by omega⟩
    obtain ⟨h0, h1, A, n, c, h2, h3, h4⟩ := h
    exact ⟨h0, h1, A, n, c, h2, h3, h4.imp (fun vs' x r => BlkE.deep k j' vs' x (by omega) r)⟩
/-- Rows of blocks of any depth have one depth. -/
theorem BX.deep (h : Sl (BlkX S) 3 w A n c l) : ∃ d, Sl (BlkE S d) 3 w A n c l := by
  by_cases hn : 0 < n
  · obtain ⟨g, off, e, hg, hx⟩ := h.cells hn
    have key : ∀ m, ∃ d, ∀ i x, i < m → l[i]? = some x → ∃ vs, (∀ q, q < 3 → w.cell? ⟨g, off + (i * 3 + q), none⟩ = some (vs q)) ∧ BlkE S d w vs x := fun m => by
      induction m with
      | zero => exact ⟨0, fun i x hi => by omega⟩
      | succ m ih =>
        obtain ⟨d, hd⟩ := ih
        cases hm : l[m]? with
        | none =>
          refine ⟨d, fun i x hi hx' => ?_⟩
          by_cases him : i = m
          · subst him; rw [hm] at hx'; cases hx'
          · exact hd i x (by omega) hx'
        | some y =>
          obtain ⟨vs, a, d2, r⟩ := hx m y hm
          refine ⟨max d d2, fun i x hi hx' => ?_⟩
          by_cases him : i = m
          · subst him
            rw [hm] at hx'
            injection hx' with hx'
            subst hx'
            exact ⟨vs, a, BlkE.deep d2 _ vs y (Nat.le_max_right ..) r⟩
          · obtain ⟨vs', a', r'⟩ := hd i x (by omega) hx'
            exact ⟨vs', a', BlkE.deep d _ vs' x (Nat.le_max_left ..) r'⟩
    obtain ⟨d, hd⟩ := key l.length
    exact ⟨d, h.len, h.le, h.cap, h.small, h.nul, fun _ => ⟨g, off, e, hg, fun i x hi => hd i x (List.getElem?_eq_some_iff.1 hi).1 hi⟩⟩
  · exact ⟨0, h.len, h.le, h.cap, h.small, h.nul, fun h => absurd h hn⟩
theorem BlkX.mk' {kd lb : Int} {ks : List PBlk} (h : BX S w A n c ks) (h0 : vs 0 = .int .i64 kd) (h1 : vs 1 = .int .i64 lb) (h2 : vs 2 = .slice A n c) : BlkX S w vs (.mk kd lb ks) := by
  obtain ⟨d, hd⟩ := BX.deep h.2
  exact ⟨d + 1, h0, h1, A, n, c, h2, h.1, hd⟩
theorem BlkX.open' (h : BlkX S w vs b) : ∃ kd lb ks A n c, b = .mk kd lb ks ∧ vs 0 = .int .i64 kd ∧ vs 1 = .int .i64 lb ∧ vs 2 = .slice A n c ∧ BX S w A n c ks := by
  obtain ⟨d, h⟩ := h
  match d, h with
  | d + 1, h =>
    obtain ⟨h0, h1, A, n, c, h2, h3, h4⟩ := h
    obtain ⟨kd, lb, ks⟩ := b
    exact ⟨kd, lb, ks, A, n, c, rfl, h0, h1, h2, h3, h4.imp (fun vs x r => ⟨d, r⟩)⟩
theorem BlkX.good : Good (BlkX S) 3 where
  kept := BlkX.kept
  one := fun w vs x h j hj => by
    obtain ⟨kd, lb, ks, A, n, c, _, h0, h1, h2, _⟩ := h.open'
    match j, hj with
    | 0, _ => rw [h0]; rfl
    | 1, _ => rw [h1]; rfl
    | 2, _ => rw [h2]; rfl
  pos := by omega
theorem BX.mono (h : BX S w A n c l) (hST : ∀ k, k < w.heap.size → S k → T k) : BX T w A n c l := ⟨fun hn a ha => by
    obtain ⟨g, off, e, hg, _⟩ := h.2.cells hn
    have hs := h.1 hn a ha
    rw [ha] at e
    injection e with e
    subst e
    exact hST _ hg hs, h.2.imp (fun vs x r => r.mono hST)⟩
theorem BX.keep (h : BX S w A n c l) (hb : Below w.heap.size w w') : BX S w' A n c l := ⟨h.1, h.2.keep BlkX.kept hb⟩
theorem BX.grown {row : Option Nat} (h : BX S w A n c l) (hg : w.grownBy w' row) (hr : ∀ k, S k → row ≠ some k) : BX S w' A n c l := by
  refine ⟨h.1, h.2.len, h.2.le, h.2.cap, h.2.small, h.2.nul, fun hn => ?_⟩
  obtain ⟨g, off, e, hgl, hx⟩ := h.2.cells hn
  have hs : S g := h.1 hn _ e
  have hb := hg.block g hgl (fun e => hr g hs e.symm)
  refine ⟨g, off, e, Nat.lt_of_lt_of_le hgl hg.size, fun i x hi => ?_⟩
  obtain ⟨vs, a, r⟩ := hx i x hi
  exact ⟨vs, fun j hj => (World.cell?_of_block (a := ⟨g, off + (i * 3 + j), none⟩) hb).trans (a j hj), r.grown hg hr⟩
/-- Whatever reads as blocks lies in memory that is there. -/
theorem blkS_X : ∀ d vs b, BlkD d w vs b → BlkE (fun k => k < w.heap.size) d w vs b
  | 0, _, _, h => h.elim
  | d + 1, vs, b, h => by
    obtain ⟨h0, h1, A, n, c, h2, h3⟩ := h
    refine ⟨h0, h1, A, n, c, h2, fun hn a ha => ?_, h3.imp (fun vs x r => blkS_X d vs x r)⟩
    obtain ⟨g, off, e, hg, _⟩ := h3.cells hn
    rw [ha] at e
    injection e with e
    subst e
    exact hg
theorem BX.of (h : Blks d w A n c l) : BX (fun k => k < w.heap.size) w A n c l := ⟨fun hn a ha => by
    obtain ⟨g, off, e, hg, _⟩ := h.cells hn
    rw [ha] at e
    injection e with e
    subst e
    exact hg, h.imp (fun vs x r => ⟨d, blkS_X d vs x r⟩)⟩
theorem blkE_D : ∀ d vs b, BlkE S d w vs b → BlkD d w vs b
  | 0, _, _, h => h.elim
  | d + 1, vs, b, h => by
    obtain ⟨h0, h1, A, n, c, h2, _, h4⟩ := h
    exact ⟨h0, h1, A, n, c, h2, h4.imp (fun vs x r => blkE_D d vs x r)⟩
theorem BX.blks (h : BX S w A n c l) : ∃ d, Blks d w A n c l := let ⟨d, hd⟩ := BX.deep h.2; ⟨d, hd.imp (fun vs x r => blkE_D d vs x r)⟩
theorem BX.get {k : Nat} (h : BX S w A n c l) (hk : k < n) :
    ∃ g off kd lb ks B m e, A = some ⟨g, off, none⟩ ∧ g < w.heap.size ∧ S g ∧ Hid (l[k]? = some (.mk kd lb ks)) ∧ w.cell? ⟨g, off + k * 3, none⟩ = some (.int .i64 kd) ∧ w.cell? ⟨g, off + k * 3 + 1, none⟩ = some (.int .i64 lb) ∧ w.cell? ⟨g, off + k * 3 + 2, none⟩ = some (.slice B m e) ∧ BX S w B m e ks := by
  obtain ⟨g, off, x, vs, h1, h2, h3, h4, h5⟩ := Sl.get h.2 hk
  obtain ⟨kd, lb, ks, B, m, e, rfl, e0, e1, e2, hB⟩ := h5.open'
  refine ⟨g, off, kd, lb, ks, B, m, e, h1, h2, h.1 (by omega) _ h1, h3, ?_, ?_, ?_, hB⟩
  · have := h4 0 (by omega); rw [e0] at this; simpa using this
  · have := h4 1 (by omega); rw [e1] at this; simpa [Nat.add_assoc] using this
  · have := h4 2 (by omega); rw [e2] at this; simpa [Nat.add_assoc] using this
end
theorem tyBlk : SlTy 22 24 3 40 := SlTy.mk' (z := .agg #[.int .i64 0, .int .i64 0, .slice none 0 0]) Tryd.underlying22 (by kernel_rfl) rfl (by decide)
/-- A row of blocks that the call has made for itself: what they hold lies where S says, and not in the row. -/
def OwnB (S : Nat → Prop) (w : World) (B : Nat) (v : Value) (n : Nat) (l : List PBlk) : Prop := OwnSl (BlkX (fun k => S k ∧ v.ownBlock ≠ some k)) 3 w B 24 v n l
section
variable {S T : Nat → Prop} {w w' w0 : World} {B n : Nat} {v : Value} {l : List PBlk}
theorem OwnB.nil : OwnB S w B (.slice none 0 0) 0 [] := OwnSl.nil
theorem OwnB.keep (h : OwnB S w B v n l) (hb : Below w.heap.size w w') : OwnB S w' B v n l := OwnSl.keep BlkX.kept h hb
theorem OwnB.bx (h : OwnB S w B v n l) (hn : n ≤ 281474976710656) (hS : ∀ k, B ≤ k → S k) : ∃ A c, v = .slice A n c ∧ BX S w A n c l := by
  obtain ⟨A, c, rfl, hs⟩ := OwnSl.sl h hn
  refine ⟨A, c, rfl, fun hp a ha => ?_, hs.imp (fun vs x r => r.mono (fun k _ hk => hk.1))⟩
  subst ha
  obtain ⟨g, off, e, _, _⟩ := hs.cells hp
  injection e with e
  subst e
  obtain ⟨cells, h1, _⟩ := h
  rcases h1.2 with ⟨e, _⟩ | ⟨g', cap, cur, e, hg, _⟩
  · injection e with e
    cases e
  · injection e with e
    injection e with e
    have : g = g' := by injection e
    rw [this]
    exact hS g' hg
/-- Any list is appended. -/
theorem wpList_appB {ops : Array Oper} {rest : List Oper} {o : Oper} {a : Act} {Q : Exit → Act → World → Prop} (hgd : o.guard = none) (s x : Operand)
    (ho : o.op = .call { callee := .builtin .append, args := #[s, x], argTypes := #[22, 22] })
    {m c : Nat} {A : Option Addr} {ys : List PBlk} (hs : a.eval s = v) (hx : a.eval x = .slice A m c)
    (own : OwnB S w B v n l) (src : BX T w A m c ys) (hT : ∀ k, k < w.heap.size → T k → S k ∧ v.ownBlock ≠ some k) (hb : Below B w0 w) (hB : B ≤ w.heap.size) (h63 : (n + m) * 40 ≤ 140737488355328)
    (K : ∀ v' w', OwnB S w' B v' (n + m) (l ++ ys) → w.grownBy w' v.ownBlock → Below B w0 w' → wpList Tryd.prog ops Q rest (a.put o.dst v') w') :
    wpList Tryd.prog ops Q (o :: rest) a w := by
  obtain ⟨cells, o1, o2, o3⟩ := own
  have q1 : Reads (BlkX (fun k => (S k ∧ v.ownBlock ≠ some k) ∧ k < w.heap.size)) 3 w cells l := ⟨o2.1, fun i x hx => by obtain ⟨vs, a, b⟩ := o2.2 i x hx; exact ⟨vs, a, b.mono (fun k hk hs => ⟨hs, hk⟩)⟩⟩
  refine wpList_plain hgd fun K' hK => ?_
  obtain ⟨v', w', hr, h6, h7, h8⟩ := run_appAny tyBlk BlkX.good o.type ⟨cells, o1, q1, o3⟩ (src.2.imp (fun vs x r => r.mono (fun k hk hs => ⟨hT k hk hs, hk⟩))) hB (by omega) h63 (fun w' hg vs y hy => hy.grown hg (fun k hk => hk.1.2))
  unfold Oper.wp execOp
  simp only [ho, resolve, invoke, builtin, Sem.run_bind, Sem.run_pure, Result.andThen_ok, List.map_toArray, List.map_cons, List.map_nil, hs, hx, hr]
  refine hK _ _ (K v' w' ?_ h7 (hb.grown h7 hB (fun k hk => (o1.lt k hk).1)))
  obtain ⟨cells', p1, p2, p3⟩ := h6
  refine ⟨cells', p1, ⟨p2.1, fun i x hx => ?_⟩, p3⟩
  obtain ⟨vs, a, b⟩ := p2.2 i x hx
  refine ⟨vs, a, b.mono (fun k _ hk => ⟨hk.1.1, ?_⟩)⟩
  rcases h8 with h8 | h8
  · rw [h8]; exact hk.1.2
  · rw [h8]
    intro e
    injection e with e
    have := hk.2
    omega
/-- One block that the statement has just laid. -/
theorem wpList_appB1 {ops : Array Oper} {rest : List Oper} {o : Oper} {a : Act} {Q : Exit → Act → World → Prop} (hgd : o.guard = none) (s x : Operand)
    (ho : o.op = .call { callee := .builtin .append, args := #[s, x], argTypes := #[22, 22] })
    {kd lb : Int} {C : Option Addr} {m c H : Nat} {ks : List PBlk} (hs : a.eval s = v) (hx : a.eval x = .slice (some ⟨H, 0, none⟩) 1 1) (hH : H = w.heap.size)
    (own : OwnB S w B v n l) (src : BX T w C m c ks) (hT : ∀ k, k < w.heap.size → T k → S k ∧ v.ownBlock ≠ some k) (hb : Below B w0 w) (hB : B ≤ w.heap.size) (h63 : (n + 1) * 40 ≤ 140737488355328)
    (K : ∀ v' w', OwnB S w' B v' (n + 1) (l ++ [.mk kd lb ks]) → w.grownBy w' v.ownBlock → Below B w0 w' → (∀ q, v'.ownBlock = some q → v.ownBlock = some q ∨ w.heap.size ≤ q) → wpList Tryd.prog ops Q rest (a.put o.dst v') w') :
    wpList Tryd.prog ops Q (o :: rest) a (w.alloc (.cells #[.int .i64 kd, .int .i64 lb, .slice C m c] 24)) := by
  subst hH
  obtain ⟨i, z, h1, h2, h3, h4, h5⟩ := tyBlk.info
  obtain ⟨cells, o1, o2, o3⟩ := own
  have hlt : ∀ k, v.ownBlock = some k → B ≤ k ∧ k < w.heap.size := o1.lt
  have hnew := Box.new w #[Value.int .i64 kd, .int .i64 lb, .slice C m c] 24
  refine wpList_append_own_at _ hgd s x 22 ho B 24 i z 3 40 tyBlk.und h1 h2 h3 h4 h5 (by omega) v n cells hs (o1.alloc _) ⟨w.heap.size, 0, none⟩ 1 1 [.int .i64 kd, .int .i64 lb, .slice C m c] hx rfl (fun j u hj => ?_) (fun u hu => ?_) (by simp only [maxLen]; omega) h63 (by simp; omega) (fun v' w' h6 h7 _ h8 => ?_)
  · have hz : ((⟨w.heap.size, 0, none⟩ : Addr).add j) = ⟨w.heap.size, j, none⟩ := by unfold Addr.add; split <;> simp_all
    rw [hz, hnew.cell j]
    simpa using hj
  · simp only [List.mem_cons, List.not_mem_nil, or_false] at hu
    rcases hu with rfl | rfl | rfl <;> rfl
  · have hg : w.grownBy w' v.ownBlock := ⟨h7.os, h7.tape, h7.output, Nat.le_trans (by simp) h7.size, fun k hk hne => (h7.block k (by simp; omega) hne).trans (heap_alloc_old w _ hk)⟩
    refine K v' w' ⟨_, h6, ?_, by rw [List.length_append, o3]; rfl⟩ hg (hb.grown hg hB (fun k hk => (hlt k hk).1)) (fun q hq => h8.elim (fun e => .inl (e ▸ hq)) (fun e => .inr (by rw [e] at hq; injection hq with hq; simp at hq; omega)))
    have q1 : Reads (BlkX (fun k => (S k ∧ v.ownBlock ≠ some k) ∧ k < w.heap.size)) 3 w cells l := ⟨o2.1, fun i x hx => by obtain ⟨vs, a, b⟩ := o2.2 i x hx; exact ⟨vs, a, b.mono (fun k hk hs => ⟨hs, hk⟩)⟩⟩
    have q2 : Reads (BlkX (fun k => (S k ∧ v.ownBlock ≠ some k) ∧ k < w.heap.size)) 3 w [.int .i64 kd, .int .i64 lb, .slice C m c] [.mk kd lb ks] :=
      Reads.one (vs := fun j => [Value.int .i64 kd, .int .i64 lb, .slice C m c].getD j undef) (BlkX.mk' (src.mono (fun k hk hs => ⟨hT k hk hs, hk⟩)) rfl rfl rfl) rfl (fun j hj => by
        match j, hj with
        | 0, _ => rfl
        | 1, _ => rfl
        | 2, _ => rfl)
    have := q1.append q2
    refine ⟨this.1, fun i x hx => ?_⟩
    obtain ⟨vs, a, b⟩ := this.2 i x hx
    refine ⟨vs, a, (b.grown hg (fun k hk => hk.1.2)).mono (fun k _ hk => ⟨hk.1.1, ?_⟩)⟩
    rcases h8 with h8 | h8
    · rw [h8]; exact hk.1.2
    · rw [h8]
      intro e
      injection e with e
      have := hk.2
      simp at e
      omega
end
end Go.Proofs.YtniolbbhjibobaaDoor
