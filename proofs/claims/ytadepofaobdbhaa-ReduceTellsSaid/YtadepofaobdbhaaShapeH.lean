/- The contract of shape.Close. Conditions: the net reads as a list. -/
import Derived.Test.YtadepofaobdbhaaPlainH
import Derived.Test.YtadepofaobdbhaaHeldB
import Derived.Test.YtadepofaobdbhaaCaseA
namespace Go.Proofs.Ytadepofaobdbhaa
open Go.RowKit

/-- What a call answers that hands back a net and what is wrong. -/
def AnsNS (p : PNet × Int) (w : World) (e : Ending) (w' : World) : Prop :=
  ∃ A n c, e = .returned (.tuple #[.agg #[.int .i64 p.1.places, .slice A n c], .int .i64 p.2]) ∧ Trans w' A n c p.1.trans ∧ Below w.heap.size w w'
theorem AnsNS.no {e : Int} {w w' : World} (hb : Below w.heap.size w w') : AnsNS (⟨0, []⟩, e) w (.returned (.tuple #[.agg #[.int .i64 0, .slice none 0 0], .int .i64 e])) w' :=
  ⟨none, 0, 0, rfl, Sl.nil0, hb⟩

theorem TranR0.good (w0 : World) : Good (TranR0 w0) 3 where
  kept := TranR0.kept w0
  one := fun w vs x h j hj => TranR.good.one w0 vs x h j hj
  pos := by omega
theorem Trans.to0 {w w' : World} {A : Option Addr} {n c : Nat} {ts : List PTran} (h : Trans w A n c ts) (hb : Below w.heap.size w w') : Sl (TranR0 w) 3 w' A n c ts :=
  Sl.keep (TranR0.kept w) (h.imp (R' := TranR0 w) fun _ _ h => h) hb
set_option maxRecDepth 100000 in
theorem cloneTrans_calls {w0 w : World} {A : Option Addr} {n c : Nat} {xs : List PTran} (h : Sl (TranR0 w0) 3 w A n c xs) (hn : n ≤ 1000) :
    Calls Try.prog 117 #[.slice A n c] w (AnsOwn (TranR0 w0) 3 76 n xs w) := by
  have HB := hide2 (show ∀ o, Below w.heap.size w (w.alloc o) from fun o => (Below.refl _ _).alloc (Nat.le_refl _) _)
  rcases A with _ | ad
  · have hc := h.nul rfl
    have hn0 : n = 0 := by have := h.le; omega
    subst hc hn0
    have hx := List.eq_nil_of_length_eq_zero h.len
    subst hx
    clear h
    have he := fun (w : World) => Lib.run_eql_slice_nil (P := Try.prog) w 22 76 none 0 0 0 0 Try.underlying22
    go_enter Try.func117, Try.ntmps117
    go_wp2
    go_ret
    exact ⟨_, rfl, OwnSl.nil, Below.refl _ _⟩
  · have H := hide2 h
    have O := hide2 (OwnSl.empty (R := TranR0 w0) (sz := 3) (w := w) (B := w.heap.size) (e := 76) (Nat.le_refl _))
    clear h
    have he := fun (w : World) => Lib.run_eql_slice_nil (P := Try.prog) w 22 76 (some ad) n c 0 0 Try.underlying22
    go_enter Try.func117, Try.ntmps117
    go_wp2_with (at_builtin; refine wpList_appSl tyTrans (TranR0.good w0) rfl _ _ rfl rfl rfl O.out (Sl.keep (TranR0.kept w0) H.out (HB.out _)) (HB.out _) (by simp) (by omega) (by omega) (fun _ _ _ _ h => h) ?_; intro v1 w1 own1 hg1 hb1)
    go_ret
    exact ⟨_, rfl, by simpa using own1, hb1⟩

/-- What is known of a transition in each world that meets Q. -/
def LateR (Q : World → Prop) : World → (Nat → Value) → PTran → Prop := fun _ vs t => ∀ w', Q w' → TranV w' (vs 0) (vs 1) (vs 2) t
theorem OwnSl.imp {α : Type} {R R' : World → (Nat → Value) → α → Prop} {sz : Nat} {w : World} {B e : Nat} {v : Value} {n : Nat} {xs : List α} (h : OwnSl R sz w B e v n xs) (hR : ∀ vs x, R w vs x → R' w vs x) : OwnSl R' sz w B e v n xs := by
  obtain ⟨cells, h1, h2, h3⟩ := h
  exact ⟨cells, h1, ⟨h2.1, fun i x hx => by obtain ⟨vs, a, b⟩ := h2.2 i x hx; exact ⟨vs, a, hR _ _ b⟩⟩, h3⟩
theorem Ints.far {w w' : World} {A : Option Addr} {n c b : Nat} {xs : List Int} (h : Ints w A n c xs) (hg : w.grownBy w' (some b)) (hb : ∀ a, A = some a → a.block ≠ b) : Ints w' A n c xs :=
  ⟨h.len, h.le, h.cap, h.small, h.nul, fun hn => by
    obtain ⟨b', off, e, hlt, hc⟩ := h.cells hn
    have hne := hb _ e
    refine ⟨b', off, e, Nat.lt_of_lt_of_le hlt hg.size, fun i x hx => ?_⟩
    obtain ⟨vs, h1, h2⟩ := hc i x hx
    exact ⟨vs, fun j hj => (World.cell?_of_block (hg.block b' hlt (by simpa using hne))).trans (h1 j hj), h2⟩⟩
theorem grown_below {a b c : World} {r : Option Nat} (h : a.grownBy b r) (g : Below a.heap.size b c) : a.grownBy c r :=
  ⟨g.os.trans h.os, g.tape.trans h.tape, g.output.trans h.output, Nat.le_trans h.size g.size, fun k hk hne => (g.block k hk).trans (h.block k hk hne)⟩
theorem grown_cell {a b : World} {q j : Nat} {u : Value} (h : a.grownBy b (some q)) : a.grownBy (b.setCell ⟨q, j, none⟩ u) (some q) :=
  ⟨h.os, h.tape, h.output, by simpa [World.setCell] using h.size, fun k hk hne => (Below.heap_setCell _ _ _ _ (fun e => hne (by rw [e]))).trans (h.block k hk hne)⟩
theorem shapeL_zero {N : PNet} {i o : Int} (h : shapeL N i o = 0) : netOk N = true ∧ inB N i o = true := by
  unfold shapeL at h
  by_cases h1 : netOk N = true
  · rw [if_pos h1] at h
    by_cases h2 : inB N i o = true
    · exact ⟨h1, h2⟩
    · rw [if_neg h2] at h; cases h
  · rw [if_neg h1] at h; cases h

end Go.Proofs.Ytadepofaobdbhaa
