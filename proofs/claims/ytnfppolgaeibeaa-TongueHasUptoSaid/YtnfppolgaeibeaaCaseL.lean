/- Lists of things to do, as they read; what Play answers. Conditions: none. -/
import Derived.Test.YtnfppolgaeibeaaCaseC
import Derived.Test.YtnfppolgaeibeaaPlainC
import Derived.Deep.AppendLies
namespace Go.Proofs.Ytnfppolgaeibeaa
open Go.RowKit

def COpR : World → (Nat → Value) → (Int × Int) → Prop := fun _ vs o => vs 0 = .int .i64 o.1 ∧ vs 1 = .int .i64 o.2
theorem COpR.kept : Kept COpR := fun _ _ _ _ _ h => h
theorem COpR.good : Good COpR 2 where
  kept := COpR.kept
  one := fun w vs x h j hj => by
    match j, hj with
    | 0, _ => rw [h.1]; rfl
    | 1, _ => rw [h.2]; rfl
  pos := by omega
abbrev COps (w : World) (A : Option Addr) (n c : Nat) (os : List (Int × Int)) : Prop := Sl COpR 2 w A n c os
theorem COps.get {w : World} {A : Option Addr} {n c k : Nat} {os : List (Int × Int)} (h : COps w A n c os) (hk : k < n) :
    ∃ b off x y, A = some ⟨b, off, none⟩ ∧ b < w.heap.size ∧ Hid (os[k]? = some (x, y)) ∧ w.cell? ⟨b, off + k * 2, none⟩ = some (.int .i64 x) ∧ w.cell? ⟨b, off + k * 2 + 1, none⟩ = some (.int .i64 y) := by
  obtain ⟨b, off, o, vs, h1, h2, h3, h4, h5, h6⟩ := Sl.get h hk
  refine ⟨b, off, o.1, o.2, h1, h2, h3, ?_, ?_⟩
  · rw [← h5]; exact h4 0 (by omega)
  · rw [← h6]; exact h4 1 (by omega)

def playL (N : PNet) (i : Int) (os : List (Int × Int)) : PCase × List Int × Int :=
  if (beginL N i).2 = 0 then (playC N (beginL N i).1 os, playE N (beginL N i).1 os, 0) else (PCase.nil, [], (beginL N i).2)
theorem playC_ok (N : PNet) : ∀ (l : List (Int × Int)) (c : PCase), caseOk N c = true → caseOk N (playC N c l) = true
  | [], _, h => h
  | o :: l, c, h => by
    show caseOk N (playC N _ l) = true
    refine playC_ok N l _ ?_
    split
    · exact doL_ok ‹_›
    · exact h
/-- What Play answers. -/
def AnsPlay (p : PCase × List Int × Int) (w : World) (e : Ending) (w' : World) : Prop :=
  ∃ A n c B m d E r s, e = .returned (.tuple #[.agg #[.slice A n c, .slice B m d], .slice E r s, .int .i64 p.2.2]) ∧ Ints w' A n c p.1.mark ∧ Ints w' B m d p.1.busy ∧ Ints w' E r s p.2.1 ∧ Below w.heap.size w w'
/-- A slice of the call's own, beside a box that is turned. -/
theorem OwnSl.besideBox {α : Type} {R : World → (Nat → Value) → α → Prop} {sz : Nat} {w w' : World} {B e : Nat} {v : Value} {n : Nat} {xs : List α} {b : Nat} (h : OwnSl R sz w B e v n xs) (hlt : b < B) (hw : Beside b w w') (hos : w'.os = w.os) (htape : w'.tape = w.tape) (hout : w'.output = w.output) (hk : ∀ vs x, R w vs x → R w' vs x) : OwnSl R sz w' B e v n xs :=
  h.kept (row := some b) ⟨hos, htape, hout, Nat.le_of_eq hw.1.symm, fun k _ hk => hw.2 k (fun e => hk (by rw [e]))⟩ (.inr (fun e => by have := (h.lt b e).1; omega)) hk
/-- Where a slice lies, the row of the slice v does not. -/
def NeRow (A : Option Addr) (n : Nat) (v : Value) : Prop := ∀ b off, A = some ⟨b, off, none⟩ → 0 < n → v.ownBlock ≠ some b
theorem NeRow.fresh {w : World} {A : Option Addr} {n : Nat} {v : Value} (hf : Fresh w A) (hlt : ∀ k, v.ownBlock = some k → k < w.heap.size) : NeRow A n v := fun b off hA _ hv => by
  have h1 := hf _ hA
  have h2 := hlt _ hv
  simp only [] at h1
  omega
theorem NeRow.after {w : World} {A : Option Addr} {n c : Nat} {xs : List Int} {v : Value} {g k cap : Nat} (h : Ints w A n c xs) (ne : NeRow A n v) (hat : v.ownBlock = some g ∨ w.heap.size ≤ g) : NeRow A n (.slice (some ⟨g, 0, none⟩) k cap) := fun b off hA hn hv => by
  have hgb : g = b := by injection hv
  subst hgb
  rcases hat with h1 | h1
  · exact ne _ _ hA hn h1
  · obtain ⟨b', off', e, hlt, _⟩ := h.cells hn
    rw [hA] at e; injection e with e; injection e with e1; omega
theorem Ints.grownNe {w w' : World} {A : Option Addr} {n c : Nat} {xs : List Int} {v : Value} (h : Ints w A n c xs) (ne : NeRow A n v) (hg : w.grownBy w' v.ownBlock) : Ints w' A n c xs :=
  ⟨h.len, h.le, h.cap, h.small, h.nul, fun hn => by
    obtain ⟨b, off, e, hlt, hc⟩ := h.cells hn
    refine ⟨b, off, e, Nat.lt_of_lt_of_le hlt hg.size, fun i x hx => ?_⟩
    obtain ⟨vs, h1, h2⟩ := hc i x hx
    exact ⟨vs, fun j hj => (World.cell?_of_block (hg.block b hlt (fun e2 => ne _ _ e hn e2.symm))).trans (h1 j hj), h2⟩⟩
/-- Append of new elements to a slice of the call's own, and where the new one lies. -/
theorem wpList_appLies {α : Type} {R : World → (Nat → Value) → α → Prop} {t e size bytes : Nat} (T : SlTy t e size bytes) {ops : Array Oper} {rest : List Oper} {o : Oper} {a : Act} {Q : Exit → Act → World → Prop} (hgd : o.guard = none) (s x : Operand)
    (ho : o.op = .call { callee := .builtin .append, args := #[s, x], argTypes := #[t, t] })
    {w0 w : World} {B : Nat} {v : Value} {n m : Nat} {xs : List α} (ys : List α) (us : Array Value) {H : Nat} (hs : a.eval s = v) (hx : a.eval x = .slice (some ⟨H, 0, none⟩) m m) (hH : H = w.heap.size) (hus : us.size = m * size) (hm : 0 < m) (one : ∀ u ∈ us.toList, u.oneCell' = true)
    (own : OwnSl R size w B e v n xs) (hread : Reads R size w us.toList ys) (hy : ys.length = m) (hb : Below B w0 w) (hB : B ≤ w.heap.size) (h63 : n + m ≤ 281474976710656) (hn : (n + m) * bytes ≤ 140737488355328)
    (hkeep : ∀ w', w.grownBy w' v.ownBlock → ∀ vs y, R w vs y → R w' vs y)
    (hK : ∀ g cap w', OwnSl R size w' B e (.slice (some ⟨g, 0, none⟩) (n + m) cap) (n + m) (xs ++ ys) → w.grownBy w' v.ownBlock → Below B w0 w' → (v.ownBlock = some g ∨ w.heap.size ≤ g) → wpList Try.prog ops Q rest (a.put o.dst (.slice (some ⟨g, 0, none⟩) (n + m) cap)) w') :
    wpList Try.prog ops Q (o :: rest) a (w.alloc (.cells us e)) := by
  subst hH
  obtain ⟨i, z, h1, h2, h3, h4, h5⟩ := T.info
  obtain ⟨cells, o1, o2, o3⟩ := own
  have hlt : ∀ k, v.ownBlock = some k → B ≤ k ∧ k < w.heap.size := o1.lt
  refine wpList_append_lies _ hgd s x t ho B e i z size bytes T.und h1 h2 h3 h4 h5 T.pos v n cells hs (o1.alloc _) ⟨w.heap.size, 0, none⟩ m m us.toList hx (by simpa using hus) (fun j u hj => ?_) one hm (by simp only [maxLen]; omega) hn (by simp; omega) _ rfl (fun g cap w' h6 h7 h8 h9 => ?_)
  · have hz : ((⟨w.heap.size, 0, none⟩ : Addr).add j) = ⟨w.heap.size, j, none⟩ := by unfold Addr.add; split <;> simp_all
    rw [hz]
    have : (w.alloc (.cells us e)).cell? ⟨w.heap.size, j, none⟩ = us[j]? := cell_of_row _ _ _ _ _ (0, 0) (heap_alloc_new w _)
    rw [this]
    simpa using hj
  · have hg : w.grownBy w' v.ownBlock := ⟨h7.os, h7.tape, h7.output, Nat.le_trans (by simp) h7.size, fun k hk hne => (h7.block k (by simp; omega) hne).trans (heap_alloc_old w _ hk)⟩
    refine hK g cap w' ⟨_, h6, ?_, by rw [List.length_append, o3, hy]⟩ hg (hb.grown hg hB (fun k hk => (hlt k hk).1)) (h8.imp id (fun e => by rw [e]; simp))
    have := o2.append hread
    exact ⟨this.1, fun i x hx => by obtain ⟨vs, a, b⟩ := this.2 i x hx; exact ⟨vs, a, hkeep _ hg _ _ b⟩⟩
end Go.Proofs.Ytnfppolgaeibeaa
