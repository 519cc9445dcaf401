/- The beginnings of blocks' words in memory, and how many there are. Conditions: the rows are the call's own. -/
import Derived.Test.YtniolbbhjibobaaDoorBlocksListK32
import Derived.Test.YtniolbbhjibobaaDoorBlocksListK33
import Derived.Test.YtniolbbhjibobaaDoorBlocksListK36
import Derived.Deep.DeepCutAuto
set_option linter.all false
namespace Go.Proofs.YtniolbbhjibobaaDoor
open Go.RowKit Go.Maps
open Classical

def AnsWl (r : List (List Int) × Int) (w : World) (e : Ending) (w' : World) : Prop := ∃ A n c, e = .returned (.tuple #[.slice A n c, .int .i64 r.2]) ∧ Lists w' A n c r.1 ∧ Below w.heap.size w w'
theorem bw_clip {w : World} {A : Option Addr} {k c : Nat} {xs : List Int} (h : Ints w A k c xs) : Ints w A k k xs :=
  ⟨h.len, Nat.le_refl _, Nat.le_trans h.le h.cap, h.small, fun e => by have := h.nul e; have := h.le; omega, h.cells⟩
section
variable {good : List Int → Prop} {letters : List Int}
theorem bw_next {ws : List (List Int)} {v : List Int} : nextW letters good (ws ++ [v]) = nextW letters good ws ++ (letters.filter fun a => decide (good (v ++ [a]))).map fun a => v ++ [a] := by
  unfold nextW
  rw [List.flatMap_append]
  simp
/-- The beginnings that v goes on to, by its first q letters. -/
noncomputable def goB (letters : List Int) (good : List Int → Prop) (v : List Int) (q : Nat) : List (List Int) := ((letters.take q).filter fun a => decide (good (v ++ [a]))).map fun a => v ++ [a]
theorem goB_yes {v : List Int} {q : Nat} {a : Int} (h : letters[q]? = some a) (hg : good (v ++ [a])) : goB letters good v (q + 1) = goB letters good v q ++ [v ++ [a]] := by
  unfold goB
  rw [List.take_add_one, h, List.filter_append, List.map_append]
  simp [hg]
theorem goB_no {v : List Int} {q : Nat} {a : Int} (h : letters[q]? = some a) (hg : ¬ good (v ++ [a])) : goB letters good v (q + 1) = goB letters good v q := by
  unfold goB
  rw [List.take_add_one, h, List.filter_append, List.map_append]
  simp [hg]
end
section
variable {X : List Int → Prop} {letters : List Int} {most : Nat}
theorem moresX_le {K i : Nat} (hl : letters.Pairwise (· < ·)) (hall : ∀ w, X w → ∀ c ∈ w, c ∈ letters) : (nextW letters (GoodX X most) ((lev letters (GoodX X most) K).take i)).length ≤ (wordsX X letters most (most + 1)).length := by
  refine begins_leX (k := K + 1) hall (asc_nextW (k := K) hl ((lev_asc hl K).sublist (List.take_sublist _ _)) (fun w hw => (lev_mem K w (List.mem_of_mem_take hw)).1)).nodup (fun w hw => ?_) (fun w hw => ?_)
  · obtain ⟨v, a, rfl, hv, _⟩ := mem_nextW.1 hw
    simp [(lev_mem K v (List.mem_of_mem_take hv)).1]
  · obtain ⟨v, a, rfl, _, _, hg⟩ := mem_nextW.1 hw
    exact hg
theorem outsX_le {K i : Nat} (hl : letters.Pairwise (· < ·)) (hall : ∀ w, X w → ∀ c ∈ w, c ∈ letters) (hK : K ≤ most) : (wordsX X letters most K ++ ((lev letters (GoodX X most) K).take i).filter (isX X)).length ≤ (wordsX X letters most (most + 1)).length :=
  wordsX_le hl hall hK ((List.take_sublist i _).filter _)
theorem lev_none {K : Nat} (h : lev letters (GoodX X most) K = []) : ∀ j, K ≤ j → lev letters (GoodX X most) j = [] := fun j hj => by
  induction hj with
  | refl => exact h
  | step _ ih => rw [lev, ih]; rfl
theorem wordsX_none {K : Nat} (h : lev letters (GoodX X most) K = []) : ∀ j, K ≤ j → wordsX X letters most j = wordsX X letters most K := fun j hj => by
  induction hj with
  | refl => rfl
  | step hk ih => rw [wordsX_succ, lev_none h _ hk, ih]; simp
theorem lev_good {K : Nat} (hK : 0 < K) : ∀ v ∈ lev letters (GoodX X most) K, GoodX X most v := fun v hv => by
  obtain ⟨k, rfl⟩ : ∃ k, K = k + 1 := ⟨K - 1, by omega⟩
  rw [lev] at hv
  obtain ⟨u, a, rfl, _, _, hg⟩ := mem_nextW.1 hv
  exact hg
end
theorem rowL_other {w w' : World} {B B2 B3 n e sz n3 : Nat} {v v3 : Value} {L : List (List Int)} {cells : List Value} (h : RowL w B B2 v n L) (hown : w.ownsRow B3 e sz v3 n3 cells) (h1 : 32 ≠ e) (h2 : 3 ≠ e) (hg : w.grownBy w' v3.ownBlock) : RowL w' B B2 v n L := by
  obtain ⟨cs, a1, a2, a3⟩ := h
  exact ⟨cs, a1.kept hg (own_ne a1 hown h1), ⟨a2.1, fun i x hx => by obtain ⟨vs, e, r⟩ := a2.2 i x hx; exact ⟨vs, e, OwnListR.grown hown h2 hg r⟩⟩, a3⟩
/-- A beginning: a word of the call's own, and what may be left, in blocks that V names. -/
def StB (b : PBlk) (B : Nat) (V : Nat → Prop) : World → (Nat → Value) → List Int → Prop := fun w vs v =>
  ∃ A c C m d, vs 0 = .slice A v.length c ∧ OwnInts w B (.slice A v.length c) v.length v ∧ v.length ≤ 1000 ∧ vs 1 = .slice C m d ∧ BX V w C m d (restB b v)
theorem tyStartB : SlTy 35 34 2 48 := SlTy.mk' (z := .agg #[.slice none 0 0, .slice none 0 0]) Tryd.underlying35 (by kernel_rfl) rfl (by decide)
section
variable {b : PBlk} {B B2 n : Nat} {V V' : Nat → Prop} {w w' : World} {vs : Nat → Value} {x : List Int} {u : Value} {L : List (List Int)}
theorem StB.kept : Kept (StB b B V) := fun _ _ _ _ hb ⟨A, c, C, m, d, e0, o0, hl, e1, o1⟩ => ⟨A, c, C, m, d, e0, OwnSl.keep IntR.kept o0 hb, hl, e1, o1.keep hb⟩
theorem StB.mono (h : StB b B V w vs x) (hV : ∀ k, k < w.heap.size → V k → V' k) : StB b B V' w vs x := by
  obtain ⟨A, c, C, m, d, e0, o0, hl, e1, o1⟩ := h
  exact ⟨A, c, C, m, d, e0, o0, hl, e1, o1.mono hV⟩
theorem StB.grown {B3 sz m e : Nat} {v : Value} {cells : List Value} (hown : w.ownsRow B3 e sz v m cells) (h1 : 3 ≠ e) (hV : ∀ k, V k → v.ownBlock ≠ some k) (hg : w.grownBy w' v.ownBlock) (h : StB b B V w vs x) : StB b B V w' vs x := by
  obtain ⟨A, c, C, m, d, e0, ⟨c1, a1, a2, a3⟩, hl, e1, o1⟩ := h
  exact ⟨A, c, C, m, d, e0, ⟨c1, a1.kept hg (own_ne a1 hown h1), ⟨a2.1, a2.2⟩, a3⟩, hl, e1, o1.grown hg hV⟩
/-- A row of beginnings that is the call's own: what may be left lies in blocks that V names, and not in the row. -/
def RowT (b : PBlk) (B : Nat) (V : Nat → Prop) (w : World) (B2 : Nat) (u : Value) (n : Nat) (L : List (List Int)) : Prop := OwnSl (StB b B (fun k => V k ∧ u.ownBlock ≠ some k)) 2 w B2 34 u n L
theorem RowT.nil : RowT b B V w B2 (.slice none 0 0) 0 [] := OwnSl.nil
theorem RowT.keep (h : RowT b B V w B2 u n L) (hb : Below w.heap.size w w') : RowT b B V w' B2 u n L := OwnSl.keep StB.kept h hb
theorem RowT.lt (h : RowT b B V w B2 u n L) : ∀ k, u.ownBlock = some k → B2 ≤ k ∧ k < w.heap.size := OwnSl.lt h
theorem RowT.len (h : RowT b B V w B2 u n L) : L.length = n := OwnSl.len h
theorem RowT.base {B3 : Nat} (h : RowT b B V w B2 u n L) (hB : B3 ≤ B2) : RowT b B V w B3 u n L := OwnSl.base h hB
theorem RowT.mono (h : RowT b B V w B2 u n L) (hV : ∀ k, k < w.heap.size → V k → V' k) : RowT b B V' w B2 u n L := by
  obtain ⟨cs, a1, a2, a3⟩ := h
  exact ⟨cs, a1, ⟨a2.1, fun i x hx => by obtain ⟨vs, e, r⟩ := a2.2 i x hx; exact ⟨vs, e, r.mono (fun k hk h => ⟨hV k hk h.1, h.2⟩)⟩⟩, a3⟩
/-- Beside a row of lists. -/
theorem RowT.besideL {B3 B4 m3 : Nat} {o : Value} {M : List (List Int)} (h : RowT b B V w B2 u n L) (hown : RowL w B3 B4 o m3 M) (hV : ∀ k, V k → o.ownBlock ≠ some k) (hg : w.grownBy w' o.ownBlock) : RowT b B V w' B2 u n L := by
  obtain ⟨cs, a1, a2, a3⟩ := h
  obtain ⟨c3, b1, _⟩ := hown
  exact ⟨cs, a1.kept hg (own_ne a1 b1 (by decide)), ⟨a2.1, fun i x hx => by obtain ⟨vs, e, r⟩ := a2.2 i x hx; exact ⟨vs, e, r.grown b1 (by decide) (fun k hk => hV k hk.1) hg⟩⟩, a3⟩
/-- Beside another row of beginnings. -/
theorem RowT.besideT {B3 m3 : Nat} {o : Value} {M : List (List Int)} {V3 : Nat → Prop} (h : RowT b B V w B2 u n L) (hown : RowT b B V3 w B3 o m3 M) (hne : ∀ k, u.ownBlock = some k → o.ownBlock ≠ some k) (hV : ∀ k, V k → o.ownBlock ≠ some k) (hg : w.grownBy w' o.ownBlock) : RowT b B V w' B2 u n L := by
  obtain ⟨cs, a1, a2, a3⟩ := h
  obtain ⟨c3, b1, _⟩ := hown
  refine ⟨cs, a1.kept hg ?_, ⟨a2.1, fun i x hx => by obtain ⟨vs, e, r⟩ := a2.2 i x hx; exact ⟨vs, e, r.grown b1 (by decide) (fun k hk => hV k hk.1) hg⟩⟩, a3⟩
  cases e : u.ownBlock with
  | none => exact .inl rfl
  | some k => exact .inr (fun h => hne k e h.symm)
theorem rowL_besideT {B3 B4 m3 : Nat} {o : Value} {M : List (List Int)} (h : RowL w B B2 u n L) (hown : RowT b B3 V w B4 o m3 M) (hg : w.grownBy w' o.ownBlock) : RowL w' B B2 u n L := by
  obtain ⟨c3, b1, _⟩ := hown
  exact rowL_other h b1 (by decide) (by decide) hg
theorem ownI_besideL {B3 B4 m3 k : Nat} {o : Value} {M : List (List Int)} {xs : List Int} (h : OwnInts w B2 u k xs) (hown : RowL w B3 B4 o m3 M) (hg : w.grownBy w' o.ownBlock) : OwnInts w' B2 u k xs := by
  obtain ⟨c3, b1, _⟩ := hown
  obtain ⟨zs, z1, z2, z3⟩ := h
  exact ⟨zs, z1.kept hg (own_ne z1 b1 (by decide)), z2, z3⟩
theorem ownI_besideT {B4 m3 k : Nat} {o : Value} {M : List (List Int)} {xs : List Int} (h : OwnInts w B2 u k xs) (hown : RowT b B V w B4 o m3 M) (hg : w.grownBy w' o.ownBlock) : OwnInts w' B2 u k xs := by
  obtain ⟨c3, b1, _⟩ := hown
  obtain ⟨zs, z1, z2, z3⟩ := h
  exact ⟨zs, z1.kept hg (own_ne z1 b1 (by decide)), z2, z3⟩
theorem RowT.at {i : Nat} (h : RowT b B V w B2 u n L) (hi : i < n) : ∃ g cap x A c C m d, u = .slice (some ⟨g, 0, none⟩) n cap ∧ Hid (L[i]? = some x) ∧ w.cell? ⟨g, i * 2, none⟩ = some (.slice A x.length c) ∧ w.cell? ⟨g, i * 2 + 1, none⟩ = some (.slice C m d) ∧ Hid (OwnInts w B (.slice A x.length c) x.length x) ∧ Hid (x.length ≤ 1000) ∧ Hid (BX (fun k => V k ∧ u.ownBlock ≠ some k) w C m d (restB b x)) := by
  obtain ⟨cs, a1, a2, a3⟩ := h
  obtain ⟨g, cap, rfl, _, _⟩ := a1.form (by omega)
  obtain ⟨x, hx⟩ : ∃ x, L[i]? = some x := ⟨_, List.getElem?_eq_getElem (by omega)⟩
  obtain ⟨vs, e, A, c, C, m, d, e0, o0, hl, e1, o1⟩ := a2.2 i x hx
  have c0 := e 0 (by omega)
  have c1 := e 1 (by omega)
  rw [e0, Nat.add_zero] at c0
  rw [e1] at c1
  exact ⟨g, cap, x, A, c, C, m, d, rfl, hx, by rw [a1.cellAt _ (by omega)]; exact c0, by rw [a1.cellAt _ (by omega)]; exact c1, o0, hl, o1⟩
theorem Reads.startB {A C : Option Addr} {c m d : Nat} {v : List Int} (h0 : OwnInts w B (.slice A v.length c) v.length v) (hl : v.length ≤ 1000) (h1 : BX V w C m d (restB b v)) : Reads (StB b B V) 2 w [.slice A v.length c, .slice C m d] [v] :=
  Reads.one (vs := fun j => [Value.slice A v.length c, .slice C m d].getD j undef) ⟨A, c, C, m, d, rfl, h0, hl, rfl, h1⟩ rfl (fun j hj => by
    rcases (show j = 0 ∨ j = 1 by omega) with rfl | rfl <;> rfl)
theorem RowT.one {A C : Option Addr} {c m d : Nat} {v : List Int} (h0 : OwnInts w B (.slice A v.length c) v.length v) (hl : v.length ≤ 1000) (h1 : BX V w C m d (restB b v)) (hB : B2 ≤ w.heap.size) : RowT b B V (w.alloc (.cells #[.slice A v.length c, .slice C m d] 34)) B2 (.slice (some ⟨w.heap.size, 0, none⟩) 1 1) 1 [v] :=
  ⟨_, ⟨by simp, .inr ⟨w.heap.size, 1, _, rfl, hB, heap_alloc_new w _, Nat.le_refl _, by simp [maxLen], by simp, by simp⟩⟩, (Reads.startB h0 hl (h1.mono (T := fun k => V k ∧ (Value.slice (some ⟨w.heap.size, 0, none⟩) 1 1).ownBlock ≠ some k) (fun k hk h => ⟨h, fun e => by injection e with e; have e : w.heap.size = k := e; omega⟩))).keep StB.kept ((Below.refl _ _).alloc (Nat.le_refl _) _), rfl⟩
/-- A beginning that has just been laid is appended. -/
theorem wpList_appT {ops : Array Oper} {rest : List Oper} {o : Oper} {a : Act} {Q : Exit → Act → World → Prop} (hgd : o.guard = none) (s y : Operand)
    (ho : o.op = .call { callee := .builtin .append, args := #[s, y], argTypes := #[35, 35] })
    {A C : Option Addr} {c m d H q : Nat} {v : List Int} {T : Nat → Prop} (hs : a.eval s = u) (hx : a.eval y = .slice (some ⟨H, 0, none⟩) 1 1) (hH : H = w.heap.size)
    (own : RowT b B V w B2 u n L) (hq : v.length = q) (h0 : OwnInts w B (.slice A q c) q v) (hl : q ≤ 1000) (h1 : BX T w C m d (restB b v)) (hT : ∀ k, k < w.heap.size → T k → V k ∧ u.ownBlock ≠ some k) (hB : B2 ≤ w.heap.size) (hn : n ≤ 100000)
    (K : ∀ u' w', RowT b B V w' B2 u' (n + 1) (L ++ [v]) → w.grownBy w' u.ownBlock → (∀ k, u'.ownBlock = some k → u.ownBlock = some k ∨ w.heap.size ≤ k) → wpList Tryd.prog ops Q rest (a.put o.dst u') w') :
    wpList Tryd.prog ops Q (o :: rest) a (w.alloc (.cells #[.slice A q c, .slice C m d] 34)) := by
  subst hq
  have own2 : OwnSl (StB b B (fun k => (V k ∧ u.ownBlock ≠ some k) ∧ k < w.heap.size)) 2 w B2 34 u n L := by
    obtain ⟨cs, a1, a2, a3⟩ := own
    exact ⟨cs, a1, ⟨a2.1, fun i x hx => by obtain ⟨vs, e, r⟩ := a2.2 i x hx; exact ⟨vs, e, r.mono (fun k hk h => ⟨h, hk⟩)⟩⟩, a3⟩
  have hrow : ∃ cells, w.ownsRow B2 34 2 u n cells := by obtain ⟨cs, a1, _⟩ := own; exact ⟨cs, a1⟩
  obtain ⟨cells, hrow⟩ := hrow
  refine wpList_appNewAtW (v := u) tyStartB hgd s y ho [v] #[.slice A v.length c, .slice C m d] hs hx hH rfl (by simp [Value.oneCell']) own2 (Reads.startB h0 hl (h1.mono (T := fun k => (V k ∧ u.ownBlock ≠ some k) ∧ k < w.heap.size) (fun k hk h => ⟨hT k hk h, hk⟩))) rfl hB (by omega) (by omega) (fun w' hg vs y hy => hy.grown hrow (by decide) (fun k hk => hk.1.2) hg) (fun u' w' r1 r2 r3 => K u' w' ?_ r2 (fun k hk => r3.elim (fun e => .inl (e ▸ hk)) (fun e => .inr (by rw [e] at hk; injection hk with hk; omega))))
  obtain ⟨cs, a1, a2, a3⟩ := r1
  refine ⟨cs, a1, ⟨a2.1, fun i x hx => ?_⟩, a3⟩
  obtain ⟨vs, e, r⟩ := a2.2 i x hx
  refine ⟨vs, e, r.mono (fun k _ h => ⟨h.1.1, ?_⟩)⟩
  rcases r3 with r3 | r3
  · rw [r3]; exact h.1.2
  · rw [r3]; intro e; injection e with e; have := h.2; omega
end
end Go.Proofs.YtniolbbhjibobaaDoor
