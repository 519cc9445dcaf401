/- A loop over a function whose iterator keeps its place in a cell of its own: the contract names that cell's block, and the caller's invariant abides its turn. And drawn regions in a round, by the script. Conditions: of the wide fence. -/
import Derived.RangeFuncNested
import Derived.RangeFuncBound
import Derived.RangeFuncCalls
import Derived.RangeFuncLeaves
import Derived.OrdersIn
import Derived.Test.YtcjjmfppkfmheaaHeldB
namespace Go.Proofs.Ytcjjmfppkfmheaa
open Go.RowKit

def noDefer (ops : Array Oper) : Bool := ops.toList.all fun o => match o.op with | .defer _ => false | _ => true
theorem noDefer_spec {ops : Array Oper} (h : noDefer ops = true) {i : Nat} {o : Oper} (hi : ops[i]? = some o) : ∀ c, o.op ≠ .defer c := by
  intro c hc
  have hm : o ∈ ops.toList := by
    rw [← Array.getElem?_toList] at hi
    exact List.mem_of_getElem? hi
  have := List.all_eq_true.1 h o hm
  rw [hc] at this
  cases this

section
variable {P : Program} {ops : Array Oper} {Q : Exit → Act → World → Prop} {md : Region.Mode}

theorem wpIn_of_wp_op {o : Oper} {l n : Nat} {a : Act} {w : World} {K : Act → World → Prop} (hd : ∀ c, o.op ≠ .defer c) (h : Oper.wp P o a w K Q) : Oper.wpIn (Fence.wide.inRound l) n P o a w K Q := by
  refine ⟨fun f _ => trivial, ?_⟩
  rw [show (Fence.wide.inRound l).round = some l from rfl, Oper.semAt_some l _ _ hd]
  unfold Oper.wp at h
  have hno : (Fence.wide.inRound l).depth.isSome = true → 1 ≤ n := fun h => by simp [Fence.wide] at h
  generalize (execOp a.eval o).run P w = r at *
  cases r with
  | ok x w' =>
    cases x <;> simp only [Oper.upon, Oper.uponIn] at h ⊢ <;> first | exact h | skip
    case enter f args =>
      exact ⟨hno, (CallsIn.inRound l (callsIn_wide.2 h)).mono fun e w'' he => by cases e <;> exact he⟩
    case row row args =>
      exact ⟨hno, fun c cs _ => let ⟨v, w', r, s⟩ := h c cs; ⟨v, w', r, stepsIn_wide.2 s⟩⟩
  | halt x w' => cases x <;> simp only [Oper.upon, Oper.uponIn] at h ⊢ <;> exact h

theorem wpOpIn_of {l n i : Nat} {a : Act} {w : World} {K K' : Act → World → Prop} (hd : noDefer ops = true) (hL : ¬ LetsOut Q) (hK : ∀ a w, K a w → K' a w) (h : wpOp P ops Q i K a w) : wpOpIn (Fence.wide.inRound l) n P ops Q i K' a w := by
  refine wpOpIn_mono hK ?_
  unfold wpOp at h
  unfold wpOpIn
  cases hi : ops[i]? with
  | none => simp only [hi] at h ⊢; exact h
  | some o =>
    simp only [hi] at h ⊢
    split
    · rename_i hw
      simp only [hw, if_true] at h
      rcases h with h | h
      · exact wpIn_of_wp_op (noDefer_spec hd hi) h
      · exact absurd h.2 hL
    · rename_i hw
      simp only [hw] at h
      exact ⟨fun f _ => trivial, h⟩

theorem wpAnyIn_of {l n : Nat} (hd : noDefer ops = true) (hL : ¬ LetsOut Q) : ∀ (fuel : Nat) (listed : Array Bool) (a : Act) (w : World), wpAny P md ops Q fuel listed a w → wpAnyIn (Fence.wide.inRound l) n P md ops Q fuel listed a w
  | 0, _, _, _, h => h
  | fuel + 1, _, _, _, h => ⟨h.1, fun i hi => wpOpIn_of hd hL (wpAnyIn_of hd hL fuel _) (h.2 i hi)⟩

/-- The exit at the end alone. -/
def onlyNormal (Q : Exit → Act → World → Prop) : Exit → Act → World → Prop
  | .normal, a, w => Q .normal a w
  | _, _, _ => False
theorem onlyNormal_le {Q : Exit → Act → World → Prop} : ∀ e a w, onlyNormal Q e a w → Q e a w := fun e a w h => by
  cases e <;> first | exact h | exact h.elim
theorem onlyNormal_put {Q : Exit → Act → World → Prop} : ∀ c a (d : Tmp) v w, onlyNormal Q (.panic c) (a.put (some d) v) w → onlyNormal Q (.panic c) a w := fun _ _ _ _ _ h => h.elim
theorem onlyNormal_lets {Q : Exit → Act → World → Prop} : ¬ LetsOut (onlyNormal Q) := fun ⟨_, _, h⟩ => h
/-- A drawn region in a round, by the script. -/
theorem wpInR_region_scr {l n id : Nat} (m : Nat) (sc : Scr) (S : World → Prop) {a : Act} {w : World} (hm : P.follows .mixedOrders = true) (hs : Region.noSelect ops = true) (hd : noDefer ops = true) (hok : okScr .any ops m sc ops.size (Array.replicate ops.size false) = true)
    (hS : S w.drew) (h : S w.drew → wpScr P ops (onlyNormal Q) S sc a w.drew) : (Code.region id ops true).wpIn (Fence.wide.inRound l) n P Q a w :=
  wpIn_mono (wpIn_region_any hm (wpAnyIn_of hd onlyNormal_lets _ _ _ _ (wpAny_of_L _ _ _ _ (wpAnyL_of_scr (m := m) hs onlyNormal_put sc _ _ _ _ (Closed.start _) hok (h hS))))) onlyNormal_le
/-- The same inside the wide fence. -/
theorem wpInW_region_scr {n id : Nat} (m : Nat) (sc : Scr) (S : World → Prop) {a : Act} {w : World} (hm : P.follows .mixedOrders = true) (hs : Region.noSelect ops = true) (hok : okScr .any ops m sc ops.size (Array.replicate ops.size false) = true)
    (hS : S w.drew) (h : S w.drew → wpScr P ops (onlyNormal Q) S sc a w.drew) : (Code.region id ops true).wpIn Fence.wide n P Q a w :=
  wpIn_mono (wpIn_wide.2 (wp_region_scr m sc S hm hs hok onlyNormal_put hS h)) onlyNormal_le
theorem tkPass {S : World → Prop} {i : Nat} {r : Scr} {a : Act} {w : World} {o : Oper} (ho : nth ops.toList i = some o) (hw : Region.wanted o (yielded ops a.tmps) = false) (hS : S w)
    (h : wpScr P ops Q S r (a.put o.dst undef) w) : wpScr P ops Q S (.take i r) a w :=
  ⟨o, undef, nth_ops ho, .inr ⟨hw, rfl⟩, hS, h⟩
end

/-! ### the iterator with a cell of its own -/
def AbidesAt {β : Type} (b : Nat) (J : β → World → Prop) : Prop := ∀ s W v, J s W → J s (W.setCell ⟨b, 0, none⟩ v)

def SeqStopsAt {α : Type} (n : Nat) (P : Program) (g : Nat) (lb : Array Value) (b : Nat) (encs : α → Array Value) (Kp : World → World → Prop) (S Sp : List α → Prop) (N : Nat) (w : World) : Prop :=
  ∀ (l : Nat) (J Jx : List α → World → Prop) (W : World), Below w.heap.size w W → AbidesFrom W.heap.size J → AbidesFrom W.heap.size Jx → AbidesAt b J →
    (∀ pre x W1, J pre W1 → pre.length < N → YieldAt Fence.wide (n - 1) P l (encs x) W1 fun e W' =>
      (e = .returned (.bool true) ∧ J (pre ++ [x]) W' ∧ Kp W1 W') ∨ (e = .returned (.bool false) ∧ Jx (pre ++ [x]) W')) →
    J [] W →
    CallsIn Fence.wide n P g (#[.func (.yield l) #[] #[]] ++ lb) W fun e W' => (∃ v, e = .returned v) ∧ ((∃ xs, S xs ∧ J xs W') ∨ (∃ pre, Sp pre ∧ Jx pre W'))

variable {n : Nat} {P : Program}
/-- What the law keeps beside the caller's invariant: the loop's record and the block for the rounds' deferred calls. -/
structure RecAt (r : Loop) (D : Nat) (W : World) : Prop where
  rec_ : W.heap[D + 1]? = some (.loop r)
  def_ : W.heap[D]? = some (.deferred (some []))
theorem RecAt.grown {r : Loop} {D : Nat} {A B : World} {row : Option Nat} (h : RecAt r D A) (hg : A.grownBy B row) (hr : ∀ k, row = some k → ∃ o : Obj, A.heap[k]? = some o ∧ o.isWalk = true) : RecAt r D B :=
  ⟨(grownBy_keeps hg hr h.rec_ rfl).trans h.rec_, (grownBy_keeps hg hr h.def_ rfl).trans h.def_⟩
theorem RecAt.others {r : Loop} {D : Nat} {A B : World} (h : RecAt r D A) (hk : KeepsOthers A B) : RecAt r D B := ⟨hk.same _ _ h.rec_ rfl, hk.same _ _ h.def_ rfl⟩
theorem RecAt.put {r r' : Loop} {D : Nat} {A : World} (h : RecAt r D A) : RecAt r' D (A.putObj (D + 1) (.loop r')) :=
  ⟨World.putObj_heap_same (Array.getElem?_eq_some_iff.1 h.rec_).1, (World.putObj_heap_other (by omega)).trans h.def_⟩

/-- The law. -/
theorem wpIn_rangeFunc_at {α : Type} {g : Operand} {ps : Array Tmp} {assign body : Code} {Q : Exit → Act → World → Prop} {a : Act} {w : World}
    {gf : Nat} {lb : Array Value} (hg : a.eval g = .func (.func gf) #[] lb) (eg : ∀ args w, (callFunc gf args).run P w = .ok (.enter gf args) w)
    {b : Nat} {encs : α → Array Value} {Kp : World → World → Prop} {S Sp : List α → Prop} {N : Nat} (hseq : SeqStopsAt (n - 1) P gf lb b encs Kp S Sp N w)
    (hKt : ∀ {A B C : World}, Kp A B → Kp B C → Kp A C) (hKb : ∀ (W : World) (l : Nat) (o o' : Obj), w.heap.size ≤ l → W.heap[l]? = some o → o.isCells = false → o.isWalk = false → Kp W (W.putObj l o')) (hps : ∀ x, (encs x).size = ps.size)
    (I : List α → World → Prop) (Ix : Code → List α → World → Prop) (hI : OwnFrom w.heap.size I) (hIb : AbidesAt b I) (hIx : ∀ c, OwnFrom w.heap.size (Ix c)) (h0 : I [] w) (a₁ : α → Act)
    (hassign : ∀ (l : Nat) (x : α) (W : World) (K : Act → World → Prop), K (a₁ x) W →
      assign.wpIn (Fence.wide.inRound l) (n - 1 - 1) P (Exit.then K (fun _ _ _ => False)) { tmps := (ps.zip (encs x)).foldl (fun t (p, v) => t.setIfInBounds p v) a.tmps, defers := [] } W)
    (hbody : ∀ (l : Nat) (pre : List α) (x : α) (W : World), I pre W → pre.length < N → body.wpIn (Fence.wide.inRound l) (n - 1 - 1) P (ownPostK Kp I Ix (pre ++ [x]) W) (a₁ x) W)
    (hdone : ∀ (D : Nat) (xs : List α) (W : World), w.heap.size ≤ D → S xs → I xs W → W.heap[D]? = some (.deferred (some [])) → Q .normal { a with defers := { target := .collected D, args := #[] } :: a.defers } W)
    (hstop : ∀ (D : Nat) (c : Code) (pre : List α) (W : World), w.heap.size ≤ D → Sp pre → Ix c pre W → W.heap[D]? = some (.deferred (some [])) → c.wpIn Fence.wide n P Q { a with defers := { target := .collected D, args := #[] } :: a.defers } W) :
    (Code.rangeFunc g ps assign body).wpIn Fence.wide n P Q a w := by
  refine wpIn_rangeFunc fun fn hfn => ?_
  generalize hD : w.heap.size = D at *
  let mk : LoopState → Option Code → Loop := fun st pe => { state := st, pending := pe, fn, tmps := a.tmps, params := ps, assign, body, defers := D }
  let W1 : World := (w.alloc (.deferred (some []))).alloc (.loop (mk .ready none))
  have hB1 : Below D w W1 := ((Below.refl D w).alloc (by omega) _).alloc (by simp; omega) _
  have hR1 : RecAt (mk .ready none) D W1 := by
    refine ⟨?_, ?_⟩
    · have := World.alloc_heap_new (w.alloc (.deferred (some []))) (.loop (mk .ready none))
      rwa [World.size_alloc, hD] at this
    · refine (Below.heap_alloc _ _ _ (by simp; omega)).trans ?_
      have := World.alloc_heap_new w (.deferred (some []))
      rwa [hD] at this
  have hs1 : W1.heap.size = D + 2 := by simp [W1]; omega
  have hI1 : I [] W1 := hI.alloc _ (hI.alloc _ h0)
  refine ⟨D + 1, [{ target := .collected D, args := #[] }], W1, { target := .fn (.func gf) lb, args := #[.func (.yield (D + 1)) #[] #[]] }, W1, gf, #[.func (.yield (D + 1)) #[] #[]] ++ lb, W1, ?_, ?_, fun _ _ => trivial, ?_, fun h => by simp [Fence.wide] at h, ?_⟩
  · have := run_enterLoop_outer (P := P) (w := w) fn a.tmps ps assign body
    rw [hD] at this
    exact this
  · simp only [resolve, hg]
    simp [go_sem]
  · simp [invoke, go_sem, eg]
  · have hnw : ∀ {A : World} {row : Option Nat}, (∀ r, row = some r → W1.heap.size ≤ r ∧ ∃ o : Obj, A.heap[r]? = some o ∧ o.isWalk = true) → ∀ r, row = some r → D ≤ r ∧ ∃ o : Obj, A.heap[r]? = some o ∧ o.isCells = false := fun hr r e => by
      obtain ⟨h1, o, ho, hw⟩ := hr r e
      exact ⟨by omega, o, ho, Obj.not_cells_of_walk hw⟩
    refine (hseq (D + 1) (fun pre W => I pre W ∧ RecAt (mk .ready none) D W) (fun pre W => ∃ c, Ix c pre W ∧ RecAt (mk .done (some c)) D W) W1 (by rw [hD]; exact hB1)
      (fun s A B row hs hg' hr => ⟨hI s A B row hs.1 hg' (hnw hr), hs.2.grown hg' fun r e => (hr r e).2⟩)
      (fun s A B row hs hg' hr => by
        obtain ⟨c, hc, hk⟩ := hs
        exact ⟨c, hIx c s A B row hc hg' (hnw hr), hk.grown hg' fun r e => (hr r e).2⟩)
      (fun s A v hs => ⟨hIb s A v hs.1, hs.2.others (KeepsOthers.setCell _ _ _)⟩) ?_ ⟨hI1, hR1⟩).mono ?_
    · rintro pre x W ⟨hi, hr⟩ hlen
      refine ⟨fn, _, assign, body, run_yield (P := P) (args := encs x) hr.rec_ (hps x), roundIn_of_wpIn hfn (hassign _ x W _ ⟨_, run_beginRound hr.rec_ rfl, ?_⟩)⟩
      have hr2 : RecAt (mk .busy none) D (W.putObj (D + 1) (.loop (mk .busy none))) := hr.put
      have hw2 : Kp W (W.putObj (D + 1) (.loop (mk .busy none))) := hKb _ _ _ _ (by omega) hr.rec_ rfl rfl
      refine wpIn_mono (hbody _ pre x _ (hI.putObj _ hi (by omega) hr.rec_ rfl) hlen) ?_
      rintro e a3 W3 hp
      cases e with
      | normal =>
        obtain ⟨hk3, hkp3, hi3⟩ := hp
        have hr3 := hr2.others hk3
        exact ⟨_, _, run_endRound (P := P) none hr3.rec_, .inl ⟨rfl, ⟨hI.putObj _ hi3 (by omega) hr3.rec_ rfl, hr3.put⟩, hKt (hKt hw2 hkp3) (hKb _ _ _ _ (by omega) hr3.rec_ rfl rfl)⟩⟩
      | ret =>
        have hr3 := hr2.others hp.1
        exact ⟨_, _, run_endRound (P := P) (some .ret) hr3.rec_, .inr ⟨rfl, .ret, (hIx _).putObj _ hp.2 (by omega) hr3.rec_ rfl, hr3.put⟩⟩
      | exit id =>
        have hr3 := hr2.others hp.1
        exact ⟨_, _, run_endRound (P := P) (some (.exit id)) hr3.rec_, .inr ⟨rfl, .exit id, (hIx _).putObj _ hp.2 (by omega) hr3.rec_ rfl, hr3.put⟩⟩
      | goto t =>
        have hr3 := hr2.others hp.1
        exact ⟨_, _, run_endRound (P := P) (some (.goto t)) hr3.rec_, .inr ⟨rfl, .goto t, (hIx _).putObj _ hp.2 (by omega) hr3.rec_ rfl, hr3.put⟩⟩
      | panic ch => exact hp.elim
      | outgrown => exact hp.elim
    · rintro e W2 ⟨⟨v, rfl⟩, (⟨xs, hS, hi, hr⟩ | ⟨pre, hSp, c, hi, hr⟩)⟩
      · exact ⟨none, _, run_endLoop (P := P) hr.rec_ (by simp [mk]), hdone _ xs _ (Nat.le_refl _) hS (hI.putObj _ hi (by omega) hr.rec_ rfl) ((World.putObj_heap_other (by omega)).trans hr.def_)⟩
      · exact ⟨some c, _, run_endLoop (P := P) hr.rec_ (by simp [mk]), hstop _ c pre _ (Nat.le_refl _) hSp ((hIx c).putObj _ hi (by omega) hr.rec_ rfl) ((World.putObj_heap_other (by omega)).trans hr.def_)⟩
end Go.Proofs.Ytcjjmfppkfmheaa
