/- The contract of the reference's VOf. Conditions: the log reads as lists. -/
import Derived.Test.YtnfppolgaeibeaaTrkH
import Derived.Test.YtnfppolgaeibeaaTrkJ
import Derived.Maps.AppendAt
import Derived.Deep.DeepCutAuto
import Derived.Deep.LoopGhost
namespace Go.Proofs.Ytnfppolgaeibeaa
open Go.RowKit

set_option maxRecDepth 100000 in
/-- Append of new elements, and where the row lies then. -/
theorem wpList_appNewAt {α : Type} {R : World → (Nat → Value) → α → Prop} {t e size bytes : Nat} (T : SlTy t e size bytes) {ops : Array Oper} {rest : List Oper} {o : Oper} {a : Act} {Q : Exit → Act → World → Prop} (hgd : o.guard = none) (s x : Operand)
    (ho : o.op = .call { callee := .builtin .append, args := #[s, x], argTypes := #[t, t] })
    {w : World} {B : Nat} {v : Value} {n m : Nat} {xs : List α} (ys : List α) (us : Array Value) {H : Nat} (hs : a.eval s = v) (hx : a.eval x = .slice (some ⟨H, 0, none⟩) m m) (hH : H = w.heap.size) (hus : us.size = m * size) (one : ∀ u ∈ us.toList, u.oneCell' = true)
    (own : OwnSl R size w B e v n xs) (hread : Reads R size w us.toList ys) (hy : ys.length = m) (hB : B ≤ w.heap.size) (h63 : n + m ≤ 281474976710656) (hn : (n + m) * bytes ≤ 140737488355328)
    (hkeep : ∀ w', w.grownBy w' v.ownBlock → ∀ vs y, R w vs y → R w' vs y)
    (K : ∀ v' w', OwnSl R size w' B e v' (n + m) (xs ++ ys) → w.grownBy w' v.ownBlock → (v'.ownBlock = v.ownBlock ∨ v'.ownBlock = some (w.heap.size + 1)) → wpList Try.prog ops Q rest (a.put o.dst v') w') :
    wpList Try.prog ops Q (o :: rest) a (w.alloc (.cells us e)) := by
  subst hH
  obtain ⟨i, z, h1, h2, h3, h4, h5⟩ := T.info
  obtain ⟨cells, o1, o2, o3⟩ := own
  refine wpList_append_own_at (P := Try.prog) _ hgd s x t ho B e i z size bytes T.und h1 h2 h3 h4 h5 T.pos v n cells hs (o1.alloc _) ⟨w.heap.size, 0, none⟩ m m us.toList hx (by simpa using hus) (fun j u hj => ?_) one ?_ hn (by simp; omega) (fun v' w' h6 h7 _ h8 => ?_)
  · have hz : ((⟨w.heap.size, 0, none⟩ : Addr).add j) = ⟨w.heap.size, j, none⟩ := by unfold Addr.add; split <;> simp_all
    rw [hz]
    have : (w.alloc (.cells us e)).cell? ⟨w.heap.size, j, none⟩ = us[j]? := cell_of_row _ _ _ _ _ (0, 0) (heap_alloc_new w _)
    rw [this]
    simpa using hj
  · simp only [maxLen]; omega
  · have hg : w.grownBy w' v.ownBlock := ⟨h7.os, h7.tape, h7.output, Nat.le_trans (by simp) h7.size, fun k hk hne => (h7.block k (by simp; omega) hne).trans (heap_alloc_old w _ hk)⟩
    refine K v' w' ⟨_, h6, ?_, by rw [List.length_append, o3, hy]⟩ hg (by rw [World.size_alloc] at h8; exact h8)
    have := o2.append hread
    exact ⟨this.1, fun i x hx => by obtain ⟨vs, a, b⟩ := this.2 i x hx; exact ⟨vs, a, hkeep _ hg _ _ b⟩⟩
theorem wpList_appIntAt {ops : Array Oper} {rest : List Oper} {o : Oper} {a : Act} {Q : Exit → Act → World → Prop} (hgd : o.guard = none) (s x : Operand)
    (ho : o.op = .call { callee := .builtin .append, args := #[s, x], argTypes := #[35, 35] })
    {w : World} {B : Nat} {v : Value} {n : Nat} {xs : List Int} {y : Int} {H : Nat} (hs : a.eval s = v) (hx : a.eval x = .slice (some ⟨H, 0, none⟩) 1 1) (hH : H = w.heap.size)
    (own : OwnInts w B v n xs) (hB : B ≤ w.heap.size) (hn : n ≤ 26)
    (K : ∀ v' w', OwnInts w' B v' (n + 1) (xs ++ [y]) → w.grownBy w' v.ownBlock → (v'.ownBlock = v.ownBlock ∨ v'.ownBlock = some (w.heap.size + 1)) → wpList Try.prog ops Q rest (a.put o.dst v') w') :
    wpList Try.prog ops Q (o :: rest) a (w.alloc (.cells #[.int .i64 y] 3)) :=
  wpList_appNewAt tyInts hgd s x ho [y] #[.int .i64 y] hs hx hH rfl (by simp [Value.oneCell']) own (Reads.one (vs := fun _ => .int .i64 y) rfl rfl (fun j hj => (by obtain rfl : j = 0 := (by omega); rfl))) rfl hB (by omega) (by omega) (fun _ _ _ _ h => h) K
theorem wpList_appPairAt {ops : Array Oper} {rest : List Oper} {o : Oper} {a : Act} {Q : Exit → Act → World → Prop} (hgd : o.guard = none) (s x : Operand)
    (ho : o.op = .call { callee := .builtin .append, args := #[s, x], argTypes := #[55, 55] })
    {w : World} {B : Nat} {v : Value} {n : Nat} {xs : List (Int × Int)} {y z : Int} {H : Nat} (hs : a.eval s = v) (hx : a.eval x = .slice (some ⟨H, 0, none⟩) 1 1) (hH : H = w.heap.size)
    (own : OwnPairs w B v n xs) (hB : B ≤ w.heap.size) (hn : n ≤ 1000)
    (K : ∀ v' w', OwnPairs w' B v' (n + 1) (xs ++ [(y, z)]) → w.grownBy w' v.ownBlock → (v'.ownBlock = v.ownBlock ∨ v'.ownBlock = some (w.heap.size + 1)) → wpList Try.prog ops Q rest (a.put o.dst v') w') :
    wpList Try.prog ops Q (o :: rest) a (w.alloc (.cells #[.int .i64 y, .int .i64 z] 137)) :=
  wpList_appNewAt tyPairs hgd s x ho [(y, z)] #[.int .i64 y, .int .i64 z] hs hx hH rfl (by simp [Value.oneCell']) own (Reads.pair (y, z)) rfl hB (by omega) (by omega) (fun _ _ _ _ h => h) K

/-! ### the memory of VOf -/
abbrev nilS : Value := .slice none 0 0
structure VRw (w : World) (bl bp : Nat) (LA : Value) (g : PPrints) (s1 s2 s3 s4 : Value) (n1 n2 n3 n4 : Nat) : Prop where
  lt : bl + 1 < bp
  xl : Box w bl 54 #[LA]
  xr : Box w (bl + 1) 57 #[nilS, nilS, nilS, nilS]
  o1 : OwnInts w (bp + 1) s1 n1 g.labels
  o2 : OwnInts w (bp + 1) s2 n2 g.first
  o3 : OwnInts w (bp + 1) s3 n3 g.last
  o4 : OwnPairs w (bp + 1) s4 n4 g.behind
  a12 : s1.ownBlock = none ∨ s1.ownBlock ≠ s2.ownBlock
  a13 : s1.ownBlock = none ∨ s1.ownBlock ≠ s3.ownBlock
  a23 : s2.ownBlock = none ∨ s2.ownBlock ≠ s3.ownBlock
structure VSt (w : World) (bl bp : Nat) (LA : Value) (g : PPrints) (s1 s2 s3 s4 : Value) (n1 n2 n3 n4 : Nat) : Prop where
  r : VRw w bl bp LA g s1 s2 s3 s4 n1 n2 n3 n4
  xp : Box w bp 57 #[s1, s2, s3, s4]
/-- A box with a counter, apart from the rows. -/
structure IBx (w : World) (bp b : Nat) (a : Int) (s1 s2 s3 s4 : Value) : Prop where
  box : Box w b 3 #[.int .i64 a]
  ge : bp + 1 ≤ b
  f1 : s1.ownBlock ≠ some b
  f2 : s2.ownBlock ≠ some b
  f3 : s3.ownBlock ≠ some b
  f4 : s4.ownBlock ≠ some b
theorem grown_set1 (w : World) (b i : Nat) (v : Value) : w.grownBy (w.setCell ⟨b, i, none⟩ v) (some b) :=
  ⟨rfl, rfl, rfl, by simp [World.setCell], fun k _ hne => heap_setCell_other _ _ _ _ (fun e => hne (by rw [e]))⟩
theorem grown_none {w w' : World} (hb : Below w.heap.size w w') : w.grownBy w' none := ⟨hb.os, hb.tape, hb.output, hb.size, fun k hk _ => hb.block k hk⟩
theorem ap_symm {x y : Option Nat} (h : x = none ∨ x ≠ y) : y = none ∨ y ≠ x := by
  rcases h with rfl | h
  · cases y <;> simp
  · exact .inr (fun e => h e.symm)
theorem ap_some {x : Option Nat} {k : Nat} (h : x ≠ some k) : x = none ∨ x ≠ some k := .inr h
theorem loc_ap {x x' y : Option Nat} {N : Nat} (hl : x' = x ∨ x' = some (N + 1)) (h : x = none ∨ x ≠ y) (hy : ∀ k, y = some k → k < N) : x' = none ∨ x' ≠ y := by
  rcases hl with rfl | rfl
  · exact h
  · refine .inr (fun e => ?_)
    have := hy _ e.symm
    omega
theorem loc_ne {x x' : Option Nat} {N k : Nat} (hl : x' = x ∨ x' = some (N + 1)) (h : x ≠ some k) (hk : k < N) : x' ≠ some k := by
  rcases hl with rfl | rfl
  · exact h
  · intro e
    injection e with e
    omega
theorem own_far {α : Type} {R : World → (Nat → Value) → α → Prop} {sz : Nat} {w : World} {B e : Nat} {v : Value} {n : Nat} {xs : List α} (h : OwnSl R sz w B e v n xs) {k : Nat} (hk : k < B) : v.ownBlock ≠ some k := fun e => by
  have := (h.lt k e).1
  omega
theorem own_old {α : Type} {R : World → (Nat → Value) → α → Prop} {sz : Nat} {w : World} {B e : Nat} {v : Value} {n : Nat} {xs : List α} (h : OwnSl R sz w B e v n xs) : v.ownBlock ≠ some w.heap.size := fun e => by
  have := (h.lt _ e).2
  omega
section
variable {w w' : World} {bl bp : Nat} {LA : Value} {g : PPrints} {s1 s2 s3 s4 : Value} {n1 n2 n3 n4 : Nat}
theorem own41 (h : VRw w bl bp LA g s1 s2 s3 s4 n1 n2 n3 n4) : s4.ownBlock = none ∨ s4.ownBlock ≠ s1.ownBlock := own_ne (Exists.choose_spec h.o4).1 (OwnInts.row h.o1) (by decide)
theorem own42 (h : VRw w bl bp LA g s1 s2 s3 s4 n1 n2 n3 n4) : s4.ownBlock = none ∨ s4.ownBlock ≠ s2.ownBlock := own_ne (Exists.choose_spec h.o4).1 (OwnInts.row h.o2) (by decide)
theorem own43 (h : VRw w bl bp LA g s1 s2 s3 s4 n1 n2 n3 n4) : s4.ownBlock = none ∨ s4.ownBlock ≠ s3.ownBlock := own_ne (Exists.choose_spec h.o4).1 (OwnInts.row h.o3) (by decide)
/-- Nothing of it is turned: row r is none of its. -/
theorem VRw.grown (h : VRw w bl bp LA g s1 s2 s3 s4 n1 n2 n3 n4) {r : Option Nat} (hg : w.grownBy w' r) (hl : r ≠ some bl) (hr : r ≠ some (bl + 1)) (h1 : s1.ownBlock = none ∨ s1.ownBlock ≠ r) (h2 : s2.ownBlock = none ∨ s2.ownBlock ≠ r) (h3 : s3.ownBlock = none ∨ s3.ownBlock ≠ r) (h4 : s4.ownBlock = none ∨ s4.ownBlock ≠ r) : VRw w' bl bp LA g s1 s2 s3 s4 n1 n2 n3 n4 :=
  ⟨h.lt, h.xl.grown hg hl, h.xr.grown hg hr, h.o1.kept hg h1 (fun _ _ h => h), h.o2.kept hg h2 (fun _ _ h => h), h.o3.kept hg h3 (fun _ _ h => h), h.o4.kept hg h4 (fun _ _ h => h), h.a12, h.a13, h.a23⟩
theorem ap_none {x : Option Nat} : x = none ∨ x ≠ none := by cases x <;> simp
theorem VSt.keep (h : VSt w bl bp LA g s1 s2 s3 s4 n1 n2 n3 n4) (hb : Below w.heap.size w w') : VSt w' bl bp LA g s1 s2 s3 s4 n1 n2 n3 n4 :=
  ⟨h.r.grown (grown_none hb) (by simp) (by simp) ap_none ap_none ap_none ap_none, h.xp.keep hb⟩
theorem IBx.keep {b : Nat} {a : Int} (h : IBx w bp b a s1 s2 s3 s4) (hb : Below w.heap.size w w') : IBx w' bp b a s1 s2 s3 s4 := ⟨h.box.keep hb, h.ge, h.f1, h.f2, h.f3, h.f4⟩
theorem VSt.put {b : Nat} {a : Int} (h : VSt w bl bp LA g s1 s2 s3 s4 n1 n2 n3 n4) (i : IBx w bp b a s1 s2 s3 s4) (v : Value) : VSt (w.setCell ⟨b, 0, none⟩ v) bl bp LA g s1 s2 s3 s4 n1 n2 n3 n4 := by
  have hg := grown_set1 w b 0 v
  have h1 := h.r.lt
  have h2 := i.ge
  exact ⟨h.r.grown hg (by simp; omega) (by simp; omega) (.inr i.f1) (.inr i.f2) (.inr i.f3) (.inr i.f4), h.xp.grown hg (by simp; omega)⟩
theorem IBx.put {b : Nat} {a : Int} (i : IBx w bp b a s1 s2 s3 s4) (x : Int) : IBx (w.setCell ⟨b, 0, none⟩ (.int .i64 x)) bp b x s1 s2 s3 s4 :=
  ⟨by have := i.box.set 0 (.int .i64 x); simpa using this, i.ge, i.f1, i.f2, i.f3, i.f4⟩
theorem IBx.other {b d : Nat} {a : Int} (i : IBx w bp b a s1 s2 s3 s4) (hne : b ≠ d) (v : Value) : IBx (w.setCell ⟨d, 0, none⟩ v) bp b a s1 s2 s3 s4 := ⟨i.box.other v hne, i.ge, i.f1, i.f2, i.f3, i.f4⟩
/-- A new box. -/
theorem VSt.new (h : VSt w bl bp LA g s1 s2 s3 s4 n1 n2 n3 n4) (x : Int) : IBx (w.alloc (.cells #[.int .i64 x] 3)) bp w.heap.size x s1 s2 s3 s4 :=
  ⟨Box.new _ _ _, h.xp.lt, own_old h.r.o1, own_old h.r.o2, own_old h.r.o3, own_old h.r.o4⟩
theorem VSt.alloc (h : VSt w bl bp LA g s1 s2 s3 s4 n1 n2 n3 n4) (o : Obj) : VSt (w.alloc o) bl bp LA g s1 s2 s3 s4 n1 n2 n3 n4 := h.keep ((Below.refl _ w).alloc (Nat.le_refl _) o)
theorem IBx.alloc {b : Nat} {a : Int} (i : IBx w bp b a s1 s2 s3 s4) (o : Obj) : IBx (w.alloc o) bp b a s1 s2 s3 s4 := i.keep ((Below.refl _ w).alloc (Nat.le_refl _) o)
/-- The box of the answer takes a new row. -/
theorem VRw.boxed (h : VRw w bl bp LA g s1 s2 s3 s4 n1 n2 n3 n4) (j : Nat) (v : Value) : VRw (w.setCell ⟨bp, j, none⟩ v) bl bp LA g s1 s2 s3 s4 n1 n2 n3 n4 := by
  have h1 := h.lt
  exact h.grown (grown_set1 w bp j v) (by simp; omega) (by simp; omega) (.inr (own_far h.o1 (Nat.lt_succ_self _))) (.inr (own_far h.o2 (Nat.lt_succ_self _))) (.inr (own_far h.o3 (Nat.lt_succ_self _))) (.inr (own_far h.o4 (Nat.lt_succ_self _)))
theorem VSt.app1 (h : VSt w bl bp LA g s1 s2 s3 s4 n1 n2 n3 n4) {v : Value} {ys : List Int} {m : Nat} (o : OwnInts w' (bp + 1) v m ys) (hg : w.grownBy w' s1.ownBlock) (hl : v.ownBlock = s1.ownBlock ∨ v.ownBlock = some (w.heap.size + 1)) : VSt (w'.setCell ⟨bp, 0, none⟩ v) bl bp LA ⟨ys, g.first, g.last, g.behind⟩ v s2 s3 s4 m n2 n3 n4 := by
  have h1 := h.r.lt
  have hr : VRw w' bl bp LA ⟨ys, g.first, g.last, g.behind⟩ v s2 s3 s4 m n2 n3 n4 :=
    ⟨h1, h.r.xl.grown hg (own_far h.r.o1 (by omega)), h.r.xr.grown hg (own_far h.r.o1 (by omega)), o, h.r.o2.kept hg (ap_symm h.r.a12) (fun _ _ h => h), h.r.o3.kept hg (ap_symm h.r.a13) (fun _ _ h => h), h.r.o4.kept hg (own41 h.r) (fun _ _ h => h), loc_ap hl h.r.a12 (fun k e => (h.r.o2.lt k e).2), loc_ap hl h.r.a13 (fun k e => (h.r.o3.lt k e).2), h.r.a23⟩
  exact ⟨hr.boxed 0 v, by have := (h.xp.grown hg (own_far h.r.o1 (by omega))).set 0 v; simpa using this⟩
theorem VSt.app2 (h : VSt w bl bp LA g s1 s2 s3 s4 n1 n2 n3 n4) {v : Value} {ys : List Int} {m : Nat} (o : OwnInts w' (bp + 1) v m ys) (hg : w.grownBy w' s2.ownBlock) (hl : v.ownBlock = s2.ownBlock ∨ v.ownBlock = some (w.heap.size + 1)) : VSt (w'.setCell ⟨bp, 1, none⟩ v) bl bp LA ⟨g.labels, ys, g.last, g.behind⟩ s1 v s3 s4 n1 m n3 n4 := by
  have h1 := h.r.lt
  have hr : VRw w' bl bp LA ⟨g.labels, ys, g.last, g.behind⟩ s1 v s3 s4 n1 m n3 n4 :=
    ⟨h1, h.r.xl.grown hg (own_far h.r.o2 (by omega)), h.r.xr.grown hg (own_far h.r.o2 (by omega)), h.r.o1.kept hg h.r.a12 (fun _ _ h => h), o, h.r.o3.kept hg (ap_symm h.r.a23) (fun _ _ h => h), h.r.o4.kept hg (own42 h.r) (fun _ _ h => h), ap_symm (loc_ap hl (ap_symm h.r.a12) (fun k e => (h.r.o1.lt k e).2)), h.r.a13, loc_ap hl h.r.a23 (fun k e => (h.r.o3.lt k e).2)⟩
  exact ⟨hr.boxed 1 v, by have := (h.xp.grown hg (own_far h.r.o2 (by omega))).set 1 v; simpa using this⟩
theorem VSt.app3 (h : VSt w bl bp LA g s1 s2 s3 s4 n1 n2 n3 n4) {v : Value} {ys : List Int} {m : Nat} (o : OwnInts w' (bp + 1) v m ys) (hg : w.grownBy w' s3.ownBlock) (hl : v.ownBlock = s3.ownBlock ∨ v.ownBlock = some (w.heap.size + 1)) : VSt (w'.setCell ⟨bp, 2, none⟩ v) bl bp LA ⟨g.labels, g.first, ys, g.behind⟩ s1 s2 v s4 n1 n2 m n4 := by
  have h1 := h.r.lt
  have hr : VRw w' bl bp LA ⟨g.labels, g.first, ys, g.behind⟩ s1 s2 v s4 n1 n2 m n4 :=
    ⟨h1, h.r.xl.grown hg (own_far h.r.o3 (by omega)), h.r.xr.grown hg (own_far h.r.o3 (by omega)), h.r.o1.kept hg h.r.a13 (fun _ _ h => h), h.r.o2.kept hg h.r.a23 (fun _ _ h => h), o, h.r.o4.kept hg (own43 h.r) (fun _ _ h => h), h.r.a12, ap_symm (loc_ap hl (ap_symm h.r.a13) (fun k e => (h.r.o1.lt k e).2)), ap_symm (loc_ap hl (ap_symm h.r.a23) (fun k e => (h.r.o2.lt k e).2))⟩
  exact ⟨hr.boxed 2 v, by have := (h.xp.grown hg (own_far h.r.o3 (by omega))).set 2 v; simpa using this⟩
theorem VSt.app4 (h : VSt w bl bp LA g s1 s2 s3 s4 n1 n2 n3 n4) {v : Value} {ys : List (Int × Int)} {m : Nat} (o : OwnPairs w' (bp + 1) v m ys) (hg : w.grownBy w' s4.ownBlock) : VSt (w'.setCell ⟨bp, 3, none⟩ v) bl bp LA ⟨g.labels, g.first, g.last, ys⟩ s1 s2 s3 v n1 n2 n3 m := by
  have h1 := h.r.lt
  have hr : VRw w' bl bp LA ⟨g.labels, g.first, g.last, ys⟩ s1 s2 s3 v n1 n2 n3 m :=
    ⟨h1, h.r.xl.grown hg (own_far h.r.o4 (by omega)), h.r.xr.grown hg (own_far h.r.o4 (by omega)), h.r.o1.kept hg (ap_symm (own41 h.r)) (fun _ _ h => h), h.r.o2.kept hg (ap_symm (own42 h.r)) (fun _ _ h => h), h.r.o3.kept hg (ap_symm (own43 h.r)) (fun _ _ h => h), o, h.r.a12, h.r.a13, h.r.a23⟩
  exact ⟨hr.boxed 3 v, by have := (h.xp.grown hg (own_far h.r.o4 (by omega))).set 3 v; simpa using this⟩
theorem IBx.app1 {b : Nat} {a : Int} (i : IBx w bp b a s1 s2 s3 s4) {v : Value} (hg : w.grownBy w' s1.ownBlock) (hl : v.ownBlock = s1.ownBlock ∨ v.ownBlock = some (w.heap.size + 1)) : IBx (w'.setCell ⟨bp, 0, none⟩ v) bp b a v s2 s3 s4 :=
  ⟨(i.box.grown hg i.f1).other v (by have := i.ge; simp; omega), i.ge, loc_ne hl i.f1 i.box.lt, i.f2, i.f3, i.f4⟩
theorem IBx.app2 {b : Nat} {a : Int} (i : IBx w bp b a s1 s2 s3 s4) {v : Value} (hg : w.grownBy w' s2.ownBlock) (hl : v.ownBlock = s2.ownBlock ∨ v.ownBlock = some (w.heap.size + 1)) : IBx (w'.setCell ⟨bp, 1, none⟩ v) bp b a s1 v s3 s4 :=
  ⟨(i.box.grown hg i.f2).other v (by have := i.ge; simp; omega), i.ge, i.f1, loc_ne hl i.f2 i.box.lt, i.f3, i.f4⟩
theorem IBx.app3 {b : Nat} {a : Int} (i : IBx w bp b a s1 s2 s3 s4) {v : Value} (hg : w.grownBy w' s3.ownBlock) (hl : v.ownBlock = s3.ownBlock ∨ v.ownBlock = some (w.heap.size + 1)) : IBx (w'.setCell ⟨bp, 2, none⟩ v) bp b a s1 s2 v s4 :=
  ⟨(i.box.grown hg i.f3).other v (by have := i.ge; simp; omega), i.ge, i.f1, i.f2, loc_ne hl i.f3 i.box.lt, i.f4⟩
theorem IBx.app4 {b : Nat} {a : Int} (i : IBx w bp b a s1 s2 s3 s4) {v : Value} (hg : w.grownBy w' s4.ownBlock) (hl : v.ownBlock = s4.ownBlock ∨ v.ownBlock = some (w.heap.size + 1)) : IBx (w'.setCell ⟨bp, 3, none⟩ v) bp b a s1 s2 s3 v :=
  ⟨(i.box.grown hg i.f4).other v (by have := i.ge; simp; omega), i.ge, i.f1, i.f2, i.f3, loc_ne hl i.f4 i.box.lt⟩
theorem below_app {w0 : World} {s : Value} {v : Value} {j : Nat} {α : Type} {R : World → (Nat → Value) → α → Prop} {sz e n : Nat} {xs : List α} (h : Below bp w0 w) (hbp : bp ≤ w.heap.size) (o : OwnSl R sz w (bp + 1) e s n xs) (hg : w.grownBy w' s.ownBlock) : Below bp w0 (w'.setCell ⟨bp, j, none⟩ v) :=
  (h.grown hg hbp (fun k e => by have := (o.lt k e).1; omega)).setCell (p := ⟨bp, j, none⟩) (Nat.le_refl _) v
end
end Go.Proofs.Ytnfppolgaeibeaa
