/- The plain law of judging, and the contract of live.Onward. Conditions: the space reads as lists, its arcs are between marks. | The contract of Judge. Conditions: the net reads as a list. -/
import Derived.Test.YtnfppolgaeibeaaLiveA
import Derived.Test.YtnfppolgaeibeaaReachJ
import Derived.Test.YtnfppolgaeibeaaPlainH
import Derived.Test.YtnfppolgaeibeaaBox
namespace Go.Proofs.Ytnfppolgaeibeaa
open Go.RowKit

/-- The numbers of those that p holds of. -/
def posL (p : List Int → Bool) (ms : List (List Int)) (k : Nat) : List Int := ((List.range k).filter fun j => (ms[j]?).any p).map fun (j : Nat) => (j : Int)
theorem posL_succ {p : List Int → Bool} {ms : List (List Int)} {k : Nat} {x : List Int} (h : ms[k]? = some x) : posL p ms (k + 1) = posL p ms k ++ if p x = true then [(k : Int)] else [] := by
  unfold posL
  rw [List.range_succ, List.filter_append, List.map_append]
  cases hp : p x <;> simp [h, hp]
theorem posL_len (p : List Int → Bool) (ms : List (List Int)) (k : Nat) : (posL p ms k).length ≤ k := by
  unfold posL
  rw [List.length_map]
  exact Nat.le_trans (List.length_filter_le _ _) (by simp)
theorem posL_in {p : List Int → Bool} {ms : List (List Int)} {k n : Nat} (hk : k ≤ n) : ∀ s ∈ posL p ms k, Inn n s := by
  intro s hs
  obtain ⟨j, hj, rfl⟩ := List.mem_map.1 hs
  have := List.mem_range.1 (List.mem_filter.1 hj).1
  exact ⟨by omega, by omega⟩
theorem foldS_arcs {N : PNet} {M : Nat} {m : List Int} {f : Int} : ∀ (l : List Int) {s s' : PSp} (_ : foldS N M m f l (some s) = some s'), s'.arcs.length ≤ s.arcs.length + l.length := by
  intro l
  induction l with
  | nil =>
    intro s s' h
    have : s = s' := by simpa [foldS] using h
    subst this
    simp
  | cons t l ih =>
    intro s s' h
    have h' : foldS N M m f l (arcStep N M m f s t) = some s' := h
    cases h1 : arcStep N M m f s t with
    | none => rw [h1, foldS_none] at h'; cases h'
    | some s1 =>
      rw [h1] at h'
      have h2 := ih h'
      have h3 : s1.arcs.length ≤ s.arcs.length + 1 := by
        unfold arcStep at h1
        split at h1
        · simp only [Option.some.injEq] at h1; subst h1; omega
        · split at h1
          · have := meetL_len h1; omega
          · cases h1
      simp only [List.length_cons]
      omega
theorem goM_arcs {N : PNet} {M : Nat} : ∀ (g f : Nat) {s s' : PSp} (_ : goM N M g f s = some s'), s'.arcs.length ≤ s.arcs.length + g * N.trans.length := by
  intro g
  induction g with
  | zero =>
    intro f s s' h
    have : s = s' := by simpa [goM] using h
    subst this
    omega
  | succ g ih =>
    intro f s s' h
    unfold goM at h
    split at h
    · cases h1 : fromL N M f s with
      | none => rw [h1] at h; cases h
      | some s1 =>
        rw [h1] at h
        have h2 := ih (f + 1) h
        have h3 := foldS_arcs _ h1
        have h4 : (allT N.trans.length).length = N.trans.length := by simp [allT]
        rw [Nat.succ_mul]
        omega
    · simp only [Option.some.injEq] at h
      subst h
      omega
theorem graphL_arcs {N : PNet} {m : List Int} {most : Int} (h : (graphL N m most).2 = 0) : (graphL N m most).1.arcs.length ≤ 7200 := by
  unfold graphL at h ⊢
  split at h
  · rename_i h1
    rw [if_pos h1]
    cases hg : goM N most.toNat most.toNat 0 ⟨[m], []⟩ with
    | none => rw [hg] at h; simp at h
    | some s1 =>
      have h2 := goM_arcs _ _ hg
      have h3 : N.trans.length ≤ 24 := ((netOk_iff _).1 ((fitsB_iff _ _).1 h1.2.2).1).2.2.1
      have h4 : most.toNat * N.trans.length ≤ 300 * 24 := Nat.mul_le_mul (by omega) h3
      simp only [List.length_nil] at h2
      show s1.arcs.length ≤ 7200
      omega
  · simp at h
/-- What a call answers that hands back a row of bools. -/
def AnsS (bs : List Bool) (n : Nat) (w : World) (e : Ending) (w' : World) : Prop := ∃ g, e = .returned (.slice (some ⟨g, 0, none⟩) n n) ∧ BoolS w' g n bs ∧ Below w.heap.size w w'

set_option maxRecDepth 100000 in
set_option maxHeartbeats 1000000 in
theorem onward_calls {w : World} {A D : Option Addr} {n c m d : Nat} {ms : List (List Int)} {ars : List PArc} {F : FuncId} {cap : Array Value} {p : List Int → Bool} (h : Lists w A n c ms) (g : Arcs w D m d ars) (hp : IsPredL F cap w p) (hn : n ≤ 300) (hm : m ≤ 7200) (hf : ∀ a ∈ ars, Inn n a.from_) (ht : ∀ a ∈ ars, Inn n a.to_) :
    Calls Try.prog 62 #[.agg #[.slice A n c, .slice D m d], .func (.func F) #[] cap] w (AnsS (spreadL ars n (posL p ms n)) n w) := by
  have HB := hide2 (boxBelow w (.cells #[.slice A n c, .slice D m d] 107))
  have X0 := hide2 (Box.new w #[.slice A n c, .slice D m d] 107)
  have henter := hp.enters
  have H := hide2 h
  have G := hide2 g
  have HP := hide2 hp
  have HF := hide2 hf
  have HT := hide2 ht
  have ham : ars.length = m := g.len
  have HTJ := hide2 (show ∀ (k : Nat) (a : PArc), ars[k]? = some a → 0 ≤ a.to_ ∧ a.to_ < (n : Int) from fun k a hk => ht a (List.mem_of_getElem? hk))
  clear h g hp hf ht
  go_enter Try.func62, Try.ntmps62
  go_upto_region 1 with fail
  generalize w.alloc (.cells #[.slice A n c, .slice D m d] 107) = w0 at *
  obtain ⟨c0, c1⟩ := X0.out.two
  go_wp2
  go_loopw [5, 11] (fun v i wr => ∃ (k l : Nat), k ≤ n ∧ i = .int .i64 k ∧ l ≤ k ∧ Hid (OwnInts wr w0.heap.size v l (posL p ms k)) ∧ Hid (Below w0.heap.size w0 wr)) (fun _ i _ => n - (intOf i).toNat)
  case atStart => exact ⟨0, 0, Nat.zero_le _, rfl, Nat.zero_le _, OwnSl.nil, Below.refl _ _⟩
  case round =>
    obtain ⟨k, l, hk, rfl, hlk, OW, BW⟩ := hrel
    have BW1 := hide2 (HB.out.trans (BW.out.mono HB.out.size))
    clear c0 c1
    by_cases hlt : k < n
    · have hki : (k : Int) < (n : Int) := by omega
      obtain ⟨b, off, x, A1, n1, c1, rfl, hb, hx, q0, i1, hn1⟩ := Lists.get (Sl.keep ListR.kept H.out BW1.out) hlt
      have CL := hide2 (HP.out.calls wr A1 n1 c1 x BW1.out i1)
      have PS := hide2 (posL_succ (p := p) hx.out)
      obtain ⟨q, hq⟩ : ∃ q, p x = q := ⟨_, rfl⟩
      rw [hq] at CL PS
      clear hq i1 hx
      cases q
      · go_wp2_with (refine CL.out.mono ?_; rintro e w' ⟨rfl, hb'⟩; have HB' := hide2 hb'; clear hb')
        go_roundw
        case rel => exact ⟨k + 1, l, by omega, by go_num, by omega, by rw [PS.out]; exact hide2 (by simpa using OW.out.keep IntR.kept HB'.out), hide2 (BW.out.trans (HB'.out.mono BW.out.size))⟩
        case measure => simp [intOf]; omega
      · go_wp2_with (first
          | (at_builtin; refine wpList_appInt rfl _ _ rfl rfl rfl (by first | rfl | simp) (OW.out.keep IntR.kept HB'.out) (BW.out.trans (HB'.out.mono BW.out.size)) (BW.out.trans (HB'.out.mono BW.out.size)).size (by omega) ?_; intro v2 w2 own2 hg2 hb2)
          | (refine CL.out.mono ?_; rintro e w' ⟨rfl, hb'⟩; have HB' := hide2 hb'; clear hb'))
        go_roundw
        case rel => exact ⟨k + 1, l + 1, by omega, by go_num, by omega, by rw [PS.out]; exact own2, hb2⟩
        case measure => simp [intOf]; omega
    · obtain rfl : k = n := by omega
      obtain ⟨A2, c2, hv, i2⟩ := OW.out.sl (by omega)
      subst hv
      have I2 := hide2 i2
      obtain ⟨c0, c1⟩ := (X0.out.keep BW.out).two
      have LB := hide2 (linksBack_calls (Sl.keep ListR.kept H.out BW1.out) (Sl.keep ArcR.kept G.out BW1.out) (by omega) (by omega) HTJ.out)
      have SP := hide2 (fun (w3 : World) (A3 : Option Addr) (c3 : Nat) (hb : Below wr.heap.size wr w3) (hl : Lists w3 A3 k c3 (linkL PArc.to_ PArc.from_ ars k)) => spread_calls hl (Sl.keep IntR.kept I2.out hb) (by omega) (by omega) (by omega) (posL_in (Nat.le_refl _)) HF.out HT.out)
      clear i2 henter
      go_wp2_with (first
        | (go_at_call 111; (with_reducible refine LB.out.mono ?_); rintro e w3 ⟨g3, rfl, lw, b3⟩; have LW := hide2 (lw.lists (by omega) (fun x hx => by have := linkL_small hx; omega)); have B3 := hide2 b3; clear lw b3)
        | (go_at_call 110; (with_reducible refine (SP.out _ _ _ B3.out LW.out).mono ?_); rintro e w4 ⟨g4, rfl, ob, b4⟩; have OB := hide2 ob.s; have B4 := hide2 b4; clear ob b4))
      go_ret
      exact ⟨g4, rfl, OB.out, (BW1.out.trans (B3.out.mono BW1.out.size)).trans (B4.out.mono (BW1.out.trans (B3.out.mono BW1.out.size)).size)⟩
end Go.Proofs.Ytnfppolgaeibeaa
namespace Go.Proofs.Ytnfppolgaeibeaa
open Go.RowKit

theorem find_some {α : Type} {p : α → Bool} {ms : List α} {k : Nat} {x : α} (h : ∀ j, j < k → ∀ y, ms[j]? = some y → p y = false) (hx : ms[k]? = some x) (hp : p x = true) : ms.find? p = some x := by
  obtain ⟨hk, e⟩ := List.getElem?_eq_some_iff.1 hx
  rw [List.find?_eq_some_iff_getElem]
  exact ⟨hp, k, hk, e, fun j hj => by simpa using h j hj _ (List.getElem?_eq_getElem (by omega))⟩
theorem find_none {α : Type} {p : α → Bool} {ms : List α} (h : ∀ j, j < ms.length → ∀ y, ms[j]? = some y → p y = false) : ms.find? p = none := by
  rw [List.find?_eq_none]
  intro x hx
  obtain ⟨j, hj⟩ := List.mem_iff_getElem?.1 hx
  have := h j (List.getElem?_eq_some_iff.1 hj).1 x hj
  simp [this]
theorem idxFirst_at {α : Type} {p : α → Bool} {bs : List α} {ix : Option Nat} (h : bs.findIdx? p = ix) : idxFirst p bs = ix.elim (-1) (fun k => (k : Int)) := by
  unfold idxFirst; rw [h]; cases ix <;> rfl
abbrev PVer := Int × List Int × Int
def extraB (e m : List Int) : Bool := coversB m e && !(m == e)
noncomputable def onL (s : PSp) (e : List Int) : List Bool := spreadL s.arcs s.marks.length (posL (fun m => m == e) s.marks s.marks.length)
noncomputable def judgeS (s : PSp) (e : List Int) (dead : List Int) : PVer :=
  match s.marks.find? (extraB e) with
  | some m => (2, m, 0)
  | none => match (onL s e).findIdx? (fun y => false == y) with
    | some k => (3, s.marks.getD k [], 0)
    | none => match dead with
      | t :: _ => (4, [], t)
      | [] => (1, [], 0)
noncomputable def judgeL (N : PNet) (i o most : Int) : PVer × Int :=
  if shapeL N i o = 0 then (if (graphL N (oneL (min N.places 16).toNat i) most).2 = 0 then (judgeS (graphL N (oneL (min N.places 16).toNat i) most).1 (oneL (min N.places 16).toNat o) (deadL (graphL N (oneL (min N.places 16).toNat i) most).1.arcs (min (N.trans.length : Int) 24).toNat), 0)
    else ((0, [], 0), (graphL N (oneL (min N.places 16).toNat i) most).2)) else ((0, [], 0), shapeL N i o)
theorem judgeL_wrong {N : PNet} {i o most : Int} (h : shapeL N i o ≠ 0) : judgeL N i o most = ((0, [], 0), shapeL N i o) := by rw [judgeL, if_neg h]
theorem judgeL_err {N : PNet} {i o most : Int} {g : PSp × Int} (h : shapeL N i o = 0) (hg : graphL N (oneL (min N.places 16).toNat i) most = g) (he : g.2 ≠ 0) : judgeL N i o most = ((0, [], 0), g.2) := by rw [judgeL, if_pos h, hg, if_neg he]
theorem judgeL_yes {N : PNet} {i o most : Int} {s : PSp} (h : shapeL N i o = 0) (hg : graphL N (oneL (min N.places 16).toNat i) most = (s, 0)) : judgeL N i o most = (judgeS s (oneL (min N.places 16).toNat o) (deadL s.arcs (min (N.trans.length : Int) 24).toNat), 0) := by rw [judgeL, if_pos h, hg, if_pos rfl]
theorem judgeS_extra {s : PSp} {e m d : List Int} (h : s.marks.find? (extraB e) = some m) : judgeS s e d = (2, m, 0) := by unfold judgeS; simp only [h]
theorem judgeS_stuck {s : PSp} {e m d : List Int} {k : Nat} (h : s.marks.find? (extraB e) = none) (hk : (onL s e).findIdx? (fun y => false == y) = some k) (hm : s.marks[k]? = some m) : judgeS s e d = (3, m, 0) := by
  unfold judgeS; simp only [h, hk, List.getD_eq_getElem?_getD, hm, Option.getD_some]
theorem judgeS_dead {s : PSp} {e d : List Int} {t : Int} (h : s.marks.find? (extraB e) = none) (hk : (onL s e).findIdx? (fun y => false == y) = none) : judgeS s e (t :: d) = (4, [], t) := by
  unfold judgeS; simp only [h, hk]
theorem judgeS_sound {s : PSp} {e : List Int} (h : s.marks.find? (extraB e) = none) (hk : (onL s e).findIdx? (fun y => false == y) = none) : judgeS s e [] = (1, [], 0) := by
  unfold judgeS; simp only [h, hk]
theorem shapeL_two {N : PNet} {i o : Int} (h : shapeL N i o = 0) : 2 ≤ N.places ∧ netOk N = true := by
  unfold shapeL at h
  split at h
  · rename_i h1
    split at h
    · rename_i h2
      simp only [inB, Bool.and_eq_true, decide_eq_true_eq] at h2
      exact ⟨by omega, h1⟩
    · simp at h
  · simp at h
/-- A list of two and more does not lie in a verdict's box. -/
theorem Ints.farV {w : World} {A B : Option Addr} {n c m d b ty : Nat} {x y : Int} {xs : List Int} (h : Ints w A n c xs) (hn : 2 ≤ n) (hb : Box w b ty #[.int .i64 x, .slice B m d, .int .i64 y]) : ∀ b' off, A = some ⟨b', off, none⟩ → 0 < n → b' ≠ b := by
  intro b' off e _ hbb
  subst hbb
  obtain ⟨b2, off2, e2, hlt, hc⟩ := h.cells (by omega)
  rw [e] at e2
  injection e2 with e2
  injection e2 with e3 e4
  subst e3 e4
  have key : ∀ j, j < n → ∃ z, w.cell? ⟨b', off + j, none⟩ = some (.int .i64 z) := fun j hj => by
    obtain ⟨vs, a, b⟩ := hc j _ (List.getElem?_eq_getElem (by rw [h.len]; exact hj))
    have := a 0 (by omega)
    rw [b] at this
    exact ⟨_, by simpa using this⟩
  obtain ⟨z0, h0⟩ := key 0 (by omega)
  obtain ⟨z1, h1⟩ := key 1 (by omega)
  have c : ∀ j, w.cell? ⟨b', j, none⟩ = (#[.int .i64 x, .slice B m d, .int .i64 y] : Array Value)[j]? := fun j => hb.cell j
  rw [c] at h0 h1
  match off, h0, h1 with
  | 0, _, h1 => simp at h1
  | 1, h0, _ => simp at h0
  | 2, _, h1 => simp at h1
  | k + 3, h0, _ => simp at h0
theorem Ints.setV {w : World} {A B : Option Addr} {n c m d b ty : Nat} {x y : Int} {xs : List Int} (h : Ints w A n c xs) (hn : 2 ≤ n) (hb : Box w b ty #[.int .i64 x, .slice B m d, .int .i64 y]) (v0 v1 v2 : Value) : Ints (((w.setCell ⟨b, 0, none⟩ v0).setCell ⟨b, 1, none⟩ v1).setCell ⟨b, 2, none⟩ v2) A n c xs := by
  refine h.same (by simp [World.setCell]) (fun b' off e h0 _ => ?_)
  have hne := h.farV hn hb b' off e h0
  rw [heap_setCell_other _ _ _ _ hne, heap_setCell_other _ _ _ _ hne, heap_setCell_other _ _ _ _ hne]
theorem Lists.besideZ {w : World} {b ty : Nat} {A : Option Addr} {n c : Nat} {ms : List (List Int)} (h : Lists w A n c ms) (hm : ∀ x ∈ ms, 2 ≤ x.length) (hb : Box w b ty #[.slice none 0 0, .slice none 0 0]) (u v : Value) : Lists ((w.setCell ⟨b, 0, none⟩ u).setCell ⟨b, 1, none⟩ v) A n c ms :=
  ⟨h.len, h.le, h.cap, h.small, h.nul, fun hn => by
    have hw := Beside.set2 w b 0 1 u v
    obtain ⟨b', off, e, hlt, hc⟩ := h.cells hn
    refine ⟨b', off, e, by rw [hw.1]; exact hlt, fun i x hx => ?_⟩
    obtain ⟨vs, h1, A2, n2, c2, e2, i2, l2⟩ := hc i x hx
    refine ⟨vs, fun j hj => ?_, A2, n2, c2, e2, i2.beside hb noInt2 hw, l2⟩
    by_cases hbb : b' = b
    · subst hbb
      exfalso
      have h3 := h1 0 (by omega)
      have h2 := hm x (List.mem_of_getElem? hx)
      rw [i2.len] at h2
      rw [hb.cell, e2] at h3
      rcases Nat.lt_or_ge (off + i * 1 + 0) 2 with hlt | hge
      · have : off + i * 1 + 0 = 0 ∨ off + i * 1 + 0 = 1 := by omega
        rcases this with e5 | e5 <;> rw [show off + (i * 1 + 0) = off + i * 1 + 0 from rfl, e5] at h3 <;> simp at h3 <;> omega
      · rw [Array.getElem?_eq_none (by simpa using hge)] at h3
        cases h3
    · rw [hw.cell (by simpa using hbb)]; exact h1 j hj⟩
theorem Arcs.besideZ {w : World} {b ty : Nat} {A : Option Addr} {n c : Nat} {ars : List PArc} (h : Arcs w A n c ars) (hb : Box w b ty #[.slice none 0 0, .slice none 0 0]) (u v : Value) : Arcs ((w.setCell ⟨b, 0, none⟩ u).setCell ⟨b, 1, none⟩ v) A n c ars :=
  ⟨h.len, h.le, h.cap, h.small, h.nul, fun hn => by
    have hw := Beside.set2 w b 0 1 u v
    obtain ⟨b', off, e, hlt, hc⟩ := h.cells hn
    refine ⟨b', off, e, by rw [hw.1]; exact hlt, fun i x hx => ?_⟩
    obtain ⟨vs, h1, h2⟩ := hc i x hx
    refine ⟨vs, fun j hj => ?_, h2⟩
    by_cases hbb : b' = b
    · subst hbb
      exfalso
      have h3 := h1 0 (by omega)
      rw [hb.cell, h2.1] at h3
      exact noInt2 _ _ h3
    · rw [hw.cell (by simpa using hbb)]; exact h1 j hj⟩
def AnsV (p : PVer × Int) (w : World) (e : Ending) (w' : World) : Prop :=
  ∃ A n c, e = .returned (.tuple #[.agg #[.int .i64 p.1.1, .slice A n c, .int .i64 p.1.2.2], .int .i64 p.2]) ∧ Ints w' A n c p.1.2.1 ∧ Below w.heap.size w w'

set_option maxRecDepth 100000 in
theorem sound_pred {w : World} {bn n c : Nat} {A : Option Addr} {xs : List Int} (x : Box w bn 35 #[.slice A n c]) (h : Ints w A n c xs) : IsPredL 63 #[.pointer (some ⟨bn, 0, none⟩)] w (fun y => y == xs) where
  enters := fun args w => by kernel_rfl
  calls := fun wr A1 n1 c1 y hb hi => by
    have q := (x.keep hb).cell 0
    simp only [List.getElem?_toArray, List.getElem?_cons_zero] at q
    have H := hide2 (h.keep hb)
    have HI := hide2 hi
    show Calls Try.prog 63 #[.slice A1 n1 c1, .pointer (some ⟨bn, 0, none⟩)] wr _
    clear hb x h hi
    go_enter Try.func63, Try.ntmps63
    go_wp2_with ((with_reducible refine (equalInts_calls HI.out H.out).mono ?_); rintro e w4 ⟨rfl, dr⟩; have BD := hide2 dr.below; clear dr)
    go_ret
    exact ⟨rfl, BD.out⟩

set_option maxRecDepth 100000 in
set_option maxHeartbeats 4000000 in
theorem judge_calls {w : World} {P : Int} {A : Option Addr} {n c : Nat} {ts : List PTran} (i o most : Int) (h : Trans w A n c ts) (hn : n ≤ 2513169434916) :
    Calls Try.prog 21 #[.agg #[.int .i64 P, .slice A n c], .int .i64 i, .int .i64 o, .int .i64 most] w (AnsV (judgeL ⟨P, ts⟩ i o most) w) := by
  generalize hw : ((w.alloc (.cells #[.int .i64 P, .slice A n c] 27)).alloc (.cells #[.int .i64 0, .slice none 0 0, .int .i64 0] 45)) = w0
  have HB := hide2 (show Below w.heap.size w w0 by rw [← hw]; exact ((Below.refl _ _).alloc (Nat.le_refl _) _).alloc (by simp) _)
  have X0 := hide2 (show Box w0 w.heap.size 27 #[.int .i64 P, .slice A n c] by rw [← hw]; exact (Box.new _ _ _).old _)
  have X1 := hide2 (show Box w0 (w.heap.size + 1) 45 #[.int .i64 0, .slice none 0 0, .int .i64 0] by rw [← hw]; exact Box.newAt (by simp) _ _)
  have H := hide2 (h.keep HB.out)
  have CW := hide2 (shapeWrong_calls (P := P) i o H.out hn)
  have JW := hide2 (judgeL_wrong (N := ⟨P, ts⟩) (i := i) (o := o) (most := most))
  have JE := hide2 (fun (g : PSp × Int) => judgeL_err (N := ⟨P, ts⟩) (i := i) (o := o) (most := most) (g := g))
  have JY := hide2 (fun (s : PSp) => judgeL_yes (N := ⟨P, ts⟩) (i := i) (o := o) (most := most) (s := s))
  clear h
  obtain ⟨R, hR⟩ : ∃ R, judgeL ⟨P, ts⟩ i o most = R := ⟨_, rfl⟩
  rw [hR] at JW
  simp only [hR] at JE JY
  rw [hR]
  clear hR
  have S2 := hide2 (fun hs => shapeL_two (N := ⟨P, ts⟩) (i := i) (o := o) hs)
  obtain ⟨sw, hsw⟩ : ∃ sw, shapeL ⟨P, ts⟩ i o = sw := ⟨_, rfl⟩
  rw [hsw] at JW CW S2
  simp only [hsw] at JE JY
  clear hsw
  go_enter Try.func21, Try.ntmps21
  go_upto_region 1 with fail
  clear hw
  obtain ⟨a0, a1⟩ := X0.out.two
  obtain ⟨z0, z1, z2⟩ := X1.out.three
  by_cases hs0 : sw = 0
  · subst hs0
    obtain ⟨p2, hok⟩ := S2.out rfl
    go_upto_region 4 with (go_at_call 17; go_loud ((with_reducible refine CW.out.mono ?_); rintro e w1 ⟨rfl, hb1⟩; have B1 := hide2 hb1; clear hb1))
    have Y0 := hide2 (X0.out.keep B1.out).drew
    have Y1 := hide2 (X1.out.keep B1.out).drew
    have BZ := hide2 (HB.out.trans (B1.out.mono HB.out.size)).drew
    have H1 := hide2 (show Trans w1.drew A n c ts from (H.out.keep B1.out).keep ⟨rfl, rfl, rfl, Nat.le_refl _, fun _ _ => rfl⟩)
    obtain ⟨pn, hpn⟩ : ∃ pn, (min P 16).toNat = pn := ⟨_, rfl⟩
    have HPN := hide2 hpn
    obtain ⟨g, hg⟩ : ∃ g, graphL ⟨P, ts⟩ (oneL pn i) most = g := ⟨_, rfl⟩
    have hp16 : P ≤ 16 := ((netOk_iff _).1 hok).2.1
    have hpn2 : 2 ≤ pn := by omega
    have JE1 := hide2 (fun (he : g.2 ≠ 0) => JE.out g (by first | rfl | trivial) (by rw [hpn]; exact hg) he)
    have JY1 := hide2 (fun (s : PSp) (he : g = (s, 0)) => JY.out s (by first | rfl | trivial) (by rw [hpn, hg]; exact he))
    simp only [hpn] at JY1
    have NIL := hide2 (fun (he : g.2 ≠ 0) => show g.1 = PSp.nil by rw [← hg]; exact graphL_err (by rw [hg]; exact he))
    have SPK := hide2 (fun (he : g.2 = 0) => show (1 ≤ most ∧ most ≤ 300) ∧ SpOk ⟨P, ts⟩ most.toNat g.1 by rw [← hg]; exact graphL_most (by rw [hg]; exact he))
    have ARC := hide2 (fun (he : g.2 = 0) => show g.1.arcs.length ≤ 7200 by rw [← hg]; exact graphL_arcs (by rw [hg]; exact he))
    have CG := hide2 (fun (w' : World) (C : Option Addr) (kc : Nat) (hb : Below w1.drew.heap.size w1.drew w') (hi : Ints w' C pn kc (oneL pn i)) => show Calls _ _ _ _ (AnsSpace g w') by rw [← hg]; exact graph_calls (P := P) most (H1.out.keep hb) hi)
    have BU0 := hide2 (Below.refl w1.drew.heap.size w1.drew)
    have ML := hide2 (show ∀ x ∈ g.1.marks, 2 ≤ x.length from fun x hx => by
      by_cases he : g.2 = 0
      · have := ((fitsB_iff _ _).1 ((SPK.out he).2.fits x hx)).2.1
        simp only at this
        omega
      · rw [NIL.out he] at hx; cases hx)
    clear hg hpn JE JY JW S2 X0 X1 HB H B1 a0 a1 z0 z1 z2
    obtain ⟨s, k⟩ := g
    simp only at NIL SPK ML JE1 ARC
    obtain ⟨a0, a1⟩ := Y0.out.two
    refine wp_region_scr 11 (.takes [0, 1, 2, 4] (.two 3 (.two 5 (.takes [6, 7, 8] (.one 9 (.one 10 (.fin 11 .done)))) 9 (.one 5 (.takes [6, 7, 8] (.one 10 (.fin 11 .done))))) 9 (.one 3 (.one 5 (.takes [6, 7, 8] (.one 10 (.fin 11 .done))))))) (fun w' => w'.cell? ⟨w.heap.size, 0, none⟩ = some (.int .i64 P) ∧ w'.cell? ⟨w.heap.size, 1, none⟩ = some (.slice A n c)) (by kernel_rfl) (by kernel_rfl) (by kernel_rfl) (fun _ _ _ _ _ h => h) ⟨a0, a1⟩ (fun hHeld => ?_)
    simp only [Scr.takes]
    generalize w1.drew = u0 at *
    iterate 4
      refine tkTake (v := ?_) rfl (by rfl) hHeld (fun w' hSw => ?_) ?_
      rotate_left
      · (go_simp; try with_reducible rfl)
      try simp only [Act.put, List.setIfInBounds_toArray, List.set_cons_zero, List.set_cons_succ]
    refine scrEnd (.fin 11 .done) (fun a0 a' w' => ∃ (C : Option Addr) (kc : Nat) (U : Option Addr) (cu : Nat) (V : Option Addr) (cv b11 : Nat), a' = ((((((a0.put (some 31) (.slice C pn kc)).put (some 33) (.tuple #[.agg #[.slice U s.marks.length cu, .slice V s.arcs.length cv], .int .i64 k])).put (some 27) (.tuple #[.agg #[.slice U s.marks.length cu, .slice V s.arcs.length cv], .int .i64 k])).put (some 34) (.agg #[.slice U s.marks.length cu, .slice V s.arcs.length cv])).put (some 35) (.int .i64 k)).put (some 11) (.pointer (some ⟨b11, 0, none⟩))) ∧ Hid (Box w' b11 107 #[.slice U s.marks.length cu, .slice V s.arcs.length cv]) ∧ Hid (Lists w' U s.marks.length cu s.marks) ∧ Hid (Arcs w' V s.arcs.length cv s.arcs) ∧ Hid (Below u0.heap.size u0 w')) ?_ (fun EN => ?_)
    rotate_left
    · refine tkTwo rfl rfl (fun Kf hKf => ?_) (fun Kf hKf => ?_)
      · go_simp; go_at_call 15
        (with_reducible refine (start_calls u0 P i A n c).mono ?_)
        rw [HPN.out]
        rintro e u1 ⟨C, kc, rfl, hi, hb, _⟩
        have Iu1 := hide2 hi
        have Bu1 := hide2 (BU0.out.trans (hb.mono BU0.out.size))
        clear hi hb
        refine hKf.out _ _ ⟨(Y0.out.keep Bu1.out).two.1, (Y0.out.keep Bu1.out).two.2⟩ (fun hHeld => ?_)
        clear hKf
        try simp only [Act.put, List.setIfInBounds_toArray, List.set_cons_zero, List.set_cons_succ]
        refine tkTwo rfl rfl (fun Kf hKf => ?_) (fun Kf hKf => ?_)
        · go_simp; go_at_call 60
          (with_reducible refine (CG.out u1 _ _ Bu1.out Iu1.out).mono ?_)
          rintro e u2 ⟨U, cu, V, cv, rfl, hL, hA, hb⟩
          have Lu2 := hide2 hL
          have Au2 := hide2 hA
          have Bu2 := hide2 (Bu1.out.trans (hb.mono Bu1.out.size))
          clear hL hA hb
          refine hKf.out _ _ ⟨(Y0.out.keep Bu2.out).two.1, (Y0.out.keep Bu2.out).two.2⟩ (fun hHeld => ?_)
          clear hKf
          iterate 3
            refine tkTake (v := ?_) rfl (by rfl) hHeld (fun w' hSw => ?_) ?_
            rotate_left
            · (go_simp; try with_reducible rfl)
            try simp only [Act.put, List.setIfInBounds_toArray, List.set_cons_zero, List.set_cons_succ]
          refine tkOne rfl (fun Kf hKf => ?_)
          go_simp
          have Bu3 := hide2 (show Below u0.heap.size u0 (u2.alloc (.cells #[.slice none 0 0, .slice none 0 0] 107)) from Bu2.out.alloc Bu2.out.size _)
          have Xu3 := hide2 (show Box (u2.alloc (.cells #[.slice none 0 0, .slice none 0 0] 107)) u2.heap.size 107 #[.slice none 0 0, .slice none 0 0] from Box.new _ _ _)
          have Nu3 := hide2 (show u0.heap.size ≤ u2.heap.size from Bu2.out.size)
          have Lu3 := hide2 (Sl.keep ListR.kept Lu2.out ((Below.refl u2.heap.size u2).alloc (Nat.le_refl _) (.cells #[.slice none 0 0, .slice none 0 0] 107)))
          have Au3 := hide2 (Sl.keep ArcR.kept Au2.out ((Below.refl u2.heap.size u2).alloc (Nat.le_refl _) (.cells #[.slice none 0 0, .slice none 0 0] 107)))
          refine hKf.out _ _ ⟨(Y0.out.keep Bu3.out).two.1, (Y0.out.keep Bu3.out).two.2⟩ (fun hHeld => ?_)
          clear hKf
          try simp only [Act.put, List.setIfInBounds_toArray, List.set_cons_zero, List.set_cons_succ]
          generalize u2.alloc (.cells #[.slice none 0 0, .slice none 0 0] 107) = u3 at *
          refine tkOne rfl (fun Kf hKf => ?_)
          obtain ⟨s0, s1⟩ := Xu3.out.two
          have sf0 := Xu3.out.frozen 0
          have sf1 := Xu3.out.frozen 1
          go_simp
          have BE := hide2 (below_set2 Bu3.out (Nat.le_refl _) Nu3.out (.slice U s.marks.length cu) (.slice V s.arcs.length cv))
          refine hKf.out _ _ ⟨(Y0.out.keep BE.out).two.1, (Y0.out.keep BE.out).two.2⟩ (fun hHeld => ?_)
          clear hKf
          try simp only [Act.put, List.setIfInBounds_toArray, List.set_cons_zero, List.set_cons_succ]
          exact EN.out _ _ ⟨C, kc, U, cu, V, cv, u2.heap.size, rfl, hide2 (Xu3.out.set2 _ _), hide2 (Lists.besideZ Lu3.out ML.out Xu3.out _ _), hide2 (Arcs.besideZ Au3.out Xu3.out _ _), BE⟩ hHeld
        · go_simp
          have Bu2 := hide2 (show Below u0.heap.size u0 (u1.alloc (.cells #[.slice none 0 0, .slice none 0 0] 107)) from Bu1.out.alloc Bu1.out.size _)
          have Xu2 := hide2 (show Box (u1.alloc (.cells #[.slice none 0 0, .slice none 0 0] 107)) u1.heap.size 107 #[.slice none 0 0, .slice none 0 0] from Box.new _ _ _)
          have Nu2 := hide2 (show u0.heap.size ≤ u1.heap.size from Bu1.out.size)
          have Iu2 := hide2 (Sl.keep IntR.kept Iu1.out ((Below.refl u1.heap.size u1).alloc (Nat.le_refl _) (.cells #[.slice none 0 0, .slice none 0 0] 107)))
          refine hKf.out _ _ ⟨(Y0.out.keep Bu2.out).two.1, (Y0.out.keep Bu2.out).two.2⟩ (fun hHeld => ?_)
          clear hKf
          try simp only [Act.put, List.setIfInBounds_toArray, List.set_cons_zero, List.set_cons_succ]
          generalize u1.alloc (.cells #[.slice none 0 0, .slice none 0 0] 107) = u2 at *
          refine tkOne rfl (fun Kf hKf => ?_)
          go_simp; go_at_call 60
          (with_reducible refine (CG.out u2 _ _ Bu2.out Iu2.out).mono ?_)
          rintro e u3 ⟨U, cu, V, cv, rfl, hL, hA, hb⟩
          have Lu3 := hide2 hL
          have Au3 := hide2 hA
          have Xu3 := hide2 (Xu2.out.keep hb)
          have Bu3 := hide2 (Bu2.out.trans (hb.mono Bu2.out.size))
          clear hL hA hb
          refine hKf.out _ _ ⟨(Y0.out.keep Bu3.out).two.1, (Y0.out.keep Bu3.out).two.2⟩ (fun hHeld => ?_)
          clear hKf
          iterate 3
            refine tkTake (v := ?_) rfl (by rfl) hHeld (fun w' hSw => ?_) ?_
            rotate_left
            · (go_simp; try with_reducible rfl)
            try simp only [Act.put, List.setIfInBounds_toArray, List.set_cons_zero, List.set_cons_succ]
          refine tkOne rfl (fun Kf hKf => ?_)
          obtain ⟨s0, s1⟩ := Xu3.out.two
          have sf0 := Xu3.out.frozen 0
          have sf1 := Xu3.out.frozen 1
          go_simp
          have BE := hide2 (below_set2 Bu3.out (Nat.le_refl _) Nu2.out (.slice U s.marks.length cu) (.slice V s.arcs.length cv))
          refine hKf.out _ _ ⟨(Y0.out.keep BE.out).two.1, (Y0.out.keep BE.out).two.2⟩ (fun hHeld => ?_)
          clear hKf
          try simp only [Act.put, List.setIfInBounds_toArray, List.set_cons_zero, List.set_cons_succ]
          exact EN.out _ _ ⟨C, kc, U, cu, V, cv, u1.heap.size, rfl, hide2 (Xu3.out.set2 _ _), hide2 (Lists.besideZ Lu3.out ML.out Xu3.out _ _), hide2 (Arcs.besideZ Au3.out Xu3.out _ _), BE⟩ hHeld
      · go_simp
        have Bu1 := hide2 (show Below u0.heap.size u0 (u0.alloc (.cells #[.slice none 0 0, .slice none 0 0] 107)) from BU0.out.alloc BU0.out.size _)
        have Xu1 := hide2 (show Box (u0.alloc (.cells #[.slice none 0 0, .slice none 0 0] 107)) u0.heap.size 107 #[.slice none 0 0, .slice none 0 0] from Box.new _ _ _)
        have Nu1 := hide2 (show u0.heap.size ≤ u0.heap.size from BU0.out.size)
        refine hKf.out _ _ ⟨(Y0.out.keep Bu1.out).two.1, (Y0.out.keep Bu1.out).two.2⟩ (fun hHeld => ?_)
        clear hKf
        try simp only [Act.put, List.setIfInBounds_toArray, List.set_cons_zero, List.set_cons_succ]
        generalize u0.alloc (.cells #[.slice none 0 0, .slice none 0 0] 107) = u1 at *
        refine tkOne rfl (fun Kf hKf => ?_)
        go_simp; go_at_call 15
        (with_reducible refine (start_calls u1 P i A n c).mono ?_)
        rw [HPN.out]
        rintro e u2 ⟨C, kc, rfl, hi, hb, _⟩
        have Iu2 := hide2 hi
        have Xu2 := hide2 (Xu1.out.keep hb)
        have Bu2 := hide2 (Bu1.out.trans (hb.mono Bu1.out.size))
        clear hi hb
        refine hKf.out _ _ ⟨(Y0.out.keep Bu2.out).two.1, (Y0.out.keep Bu2.out).two.2⟩ (fun hHeld => ?_)
        clear hKf
        try simp only [Act.put, List.setIfInBounds_toArray, List.set_cons_zero, List.set_cons_succ]
        refine tkOne rfl (fun Kf hKf => ?_)
        go_simp; go_at_call 60
        (with_reducible refine (CG.out u2 _ _ Bu2.out Iu2.out).mono ?_)
        rintro e u3 ⟨U, cu, V, cv, rfl, hL, hA, hb⟩
        have Lu3 := hide2 hL
        have Au3 := hide2 hA
        have Xu3 := hide2 (Xu2.out.keep hb)
        have Bu3 := hide2 (Bu2.out.trans (hb.mono Bu2.out.size))
        clear hL hA hb
        refine hKf.out _ _ ⟨(Y0.out.keep Bu3.out).two.1, (Y0.out.keep Bu3.out).two.2⟩ (fun hHeld => ?_)
        clear hKf
        iterate 3
          refine tkTake (v := ?_) rfl (by rfl) hHeld (fun w' hSw => ?_) ?_
          rotate_left
          · (go_simp; try with_reducible rfl)
          try simp only [Act.put, List.setIfInBounds_toArray, List.set_cons_zero, List.set_cons_succ]
        refine tkOne rfl (fun Kf hKf => ?_)
        obtain ⟨s0, s1⟩ := Xu3.out.two
        have sf0 := Xu3.out.frozen 0
        have sf1 := Xu3.out.frozen 1
        go_simp
        have BE := hide2 (below_set2 Bu3.out (Nat.le_refl _) Nu1.out (.slice U s.marks.length cu) (.slice V s.arcs.length cv))
        refine hKf.out _ _ ⟨(Y0.out.keep BE.out).two.1, (Y0.out.keep BE.out).two.2⟩ (fun hHeld => ?_)
        clear hKf
        try simp only [Act.put, List.setIfInBounds_toArray, List.set_cons_zero, List.set_cons_succ]
        exact EN.out _ _ ⟨C, kc, U, cu, V, cv, u0.heap.size, rfl, hide2 (Xu3.out.set2 _ _), hide2 (Lists.besideZ Lu3.out ML.out Xu3.out _ _), hide2 (Arcs.besideZ Au3.out Xu3.out _ _), BE⟩ hHeld
    rintro a' w4 ⟨C, kc, U, cu, V, cv, b11, rfl, SX, SL, SA, SB⟩ hHeld
    try simp only [Act.put, List.setIfInBounds_toArray, List.set_cons_zero, List.set_cons_succ]
    refine tkEnd rfl (fun Kf hKf => ?_)
    go_simp
    refine hKf.out _ _ ?_
    clear hKf
    try simp only [Act.put, List.setIfInBounds_toArray, List.set_cons_zero, List.set_cons_succ]
    refine tkDone ?_
    clear hHeld a0 a1
    have Z0 := hide2 (Y0.out.keep SB.out)
    have Z1 := hide2 (Y1.out.keep SB.out)
    have H4 := hide2 (H1.out.keep SB.out)
    have B4 := hide2 (BZ.out.trans (SB.out.mono BZ.out.size))
    have HN := hide2 (show ts.length = n from H4.out.len)
    clear Y0 Y1 H1 BZ SB CG BU0
    obtain ⟨z0, z1, z2⟩ := Z1.out.three
    have f0 := Z1.out.frozen 0
    have f1 := Z1.out.frozen 1
    have f2 := Z1.out.frozen 2
    by_cases hk : k = 0
    · subst hk
      obtain ⟨hmost, hsp⟩ := SPK.out rfl
      have SP := hide2 hsp
      have hms : s.marks.length ≤ 300 := by have := hsp.few; omega
      have RE := hide2 (JY1.out s rfl)
      have harcs : s.arcs.length ≤ 7200 := ARC.out rfl
      clear hsp SPK NIL JE1 JY1 hmost ARC
      obtain ⟨a0, a1⟩ := Z0.out.two
      go_upto_region 8 with (go_at_call 15; go_loud ((with_reducible refine (start_calls w4 P o A n c).mono ?_); rw [HPN.out]; rintro e w5 ⟨CE, kE, rfl, hi, hb, _⟩; have IE := hide2 hi; have B5 := hide2 hb; clear hi hb))
      generalize hw6 : w5.alloc (.cells #[.slice CE pn kE] 35) = w6
      have D6 := hide2 (show Below w4.heap.size w4 w6 by rw [← hw6]; exact B5.out.alloc B5.out.size _)
      have XE := hide2 (show Box w6 w5.heap.size 35 #[.slice CE pn kE] by rw [← hw6]; exact Box.new _ _ _)
      have IE6 := hide2 (show Ints w6 CE pn kE (oneL pn o) by rw [← hw6]; exact Sl.keep IntR.kept IE.out ((Below.refl _ _).alloc (Nat.le_refl _) _))
      have X6 := hide2 (SX.out.keep D6.out)
      have L6 := hide2 (Sl.keep ListR.kept SL.out D6.out)
      have A6 := hide2 (Sl.keep ArcR.kept SA.out D6.out)
      have Y0 := hide2 (Z0.out.keep D6.out)
      have Y1 := hide2 (Z1.out.keep D6.out)
      have B6 := hide2 (B4.out.trans (D6.out.mono B4.out.size))
      clear hw6 SX SL SA Z0 Z1 B4 D6 IE B5 CW H4 z0 z1 z2 f0 f1 f2 a0 a1
      generalize w5.heap.size = b13 at *
      generalize oneL pn o = E at *
      obtain ⟨DL, hDL⟩ : ∃ DL, deadL s.arcs (min (ts.length : Int) 24).toNat = DL := ⟨_, rfl⟩
      rw [hDL] at RE
      rw [HN.out] at hDL
      have HDL := hide2 hDL
      obtain ⟨L1, hL1⟩ : ∃ L1, s.marks.length = L1 := ⟨_, rfl⟩
      have HL1 := hide2 hL1
      rw [hL1] at L6 X6 hms
      have c0 : w6.cell? ⟨b11, 0, none⟩ = some (.slice U L1 cu) := X6.out.cell 0
      clear hL1 hDL
      go_wp2
      go_loopw [46] (fun jv wr => ∃ j : Nat, j ≤ L1 ∧ jv = .int .i64 j ∧ Hid (Below w6.heap.size w6 wr) ∧ Hid (∀ i, i < j → ∀ y, s.marks[i]? = some y → extraB E y = false)) (fun jv _ => L1 - (intOf jv).toNat)
      case atStart => exact ⟨0, Nat.zero_le _, rfl, hide2 (Below.refl _ _), hide2 (fun i hi => absurd hi (by omega))⟩
      case round =>
        obtain ⟨j, hj, rfl, BI, LOW⟩ := hrel
        by_cases hlj : j < L1
        · have hji : (j : Int) < (L1 : Int) := by omega
          obtain ⟨b, off, x, A2, n2, c2, rfl, hb, hx, q0, i2, _⟩ := Lists.get (Sl.keep ListR.kept L6.out BI.out) hlj
          have NXT := hide2 (show extraB E x = false → ∀ i, i < j + 1 → ∀ y, s.marks[i]? = some y → extraB E y = false from fun hf i hi y hy => by
            by_cases hij : i = j
            · subst hij
              rw [hx.out] at hy
              injection hy with hy
              rw [← hy]; exact hf
            · exact LOW.out i (by omega) y hy)
          have hn2 := hide2 (show 2 ≤ n2 by have := ML.out x (List.mem_of_getElem? hx.out); rw [i2.len] at this; exact this)
          have F_ := hide2 (show extraB E x = true → s.marks.find? (extraB E) = some x from fun hf => find_some LOW.out hx.out hf)
          have I2 := hide2 i2
          have IEr := hide2 (Sl.keep IntR.kept IE6.out BI.out)
          have e13 : wr.cell? ⟨b13, 0, none⟩ = some (.slice CE pn kE) := (XE.out.keep BI.out).cell 0
          clear hx i2
          cases hcv : coversB x E
          · have HCV := hide2 hcv
            have NX := hide2 (NXT.out (by unfold extraB; rw [hcv]; rfl))
            clear hcv
            go_wp2_with (go_at_call 61; (with_reducible refine (covers_calls I2.out IEr.out).mono ?_); rw [HCV.out]; rintro e w7 ⟨rfl, rfl⟩)
            go_roundw
            case rel => exact ⟨j + 1, by omega, by go_num, BI, NX⟩
            case measure => simp [intOf]; omega
          · have HCV := hide2 hcv
            cases heq : (x == E)
            · have HEQ := hide2 heq
              have FX := hide2 (F_.out (by unfold extraB; rw [hcv, heq]; rfl))
              clear hcv heq
              go_wp2_with (first
                | (go_at_call 61; (with_reducible refine (covers_calls I2.out IEr.out).mono ?_); rw [HCV.out]; rintro e w7 ⟨rfl, rfl⟩)
                | (go_at_call 14; (with_reducible refine (equalInts_calls I2.out IEr.out).mono ?_); rw [HEQ.out]; rintro e w8 ⟨rfl, dr⟩; have BD := hide2 dr.below; have Z8 := hide2 (Y1.out.keep (BI.out.trans (BD.out.mono BI.out.size))); clear dr; obtain ⟨z0, z1, z2⟩ := Z8.out.three; have f0 := Z8.out.frozen 0; have f1 := Z8.out.frozen 1; have f2 := Z8.out.frozen 2))
              obtain ⟨r0, r1, r2⟩ := (Z8.out.set3 (.int .i64 2) (.slice A2 n2 c2) (.int .i64 0)).three
              have BW := below_set3 (B6.out.trans ((BI.out.trans (BD.out.mono BI.out.size)).mono B6.out.size)) (show w.heap.size ≤ w.heap.size + 1 by omega) (.int .i64 2) (.slice A2 n2 c2) (.int .i64 0)
              exact bodyPost_ret (v := .tuple #[.agg #[.int .i64 2, .slice A2 n2 c2, .int .i64 0], .int .i64 0]) (by simp [results, Try.results21, go_sem, r0, r1, r2]) rfl (by rw [RE.out, judgeS_extra FX.out]; exact ⟨A2, n2, c2, rfl, Ints.setV (Sl.keep IntR.kept I2.out BD.out) hn2.out Z8.out _ _ _, BW⟩)
            · have HEQ := hide2 heq
              have NX := hide2 (NXT.out (by unfold extraB; rw [hcv, heq]; rfl))
              clear hcv heq
              go_wp2_with (first
                | (go_at_call 61; (with_reducible refine (covers_calls I2.out IEr.out).mono ?_); rw [HCV.out]; rintro e w7 ⟨rfl, rfl⟩)
                | (go_at_call 14; (with_reducible refine (equalInts_calls I2.out IEr.out).mono ?_); rw [HEQ.out]; rintro e w8 ⟨rfl, dr⟩; have BD := hide2 dr.below; clear dr))
              go_roundw
              case rel => exact ⟨j + 1, by omega, by go_num, hide2 (BI.out.trans (BD.out.mono BI.out.size)), NX⟩
              case measure => simp [intOf]; omega
        · obtain rfl : j = L1 := by omega
          have NF := hide2 (find_none (p := extraB E) (ms := s.marks) (fun i hi => LOW.out i (by rw [HL1.out] at hi; exact hi)))
          have IN := hide2 (show (∀ a ∈ s.arcs, Inn j a.from_) ∧ (∀ a ∈ s.arcs, Inn j a.to_) from ⟨fun a ha => by have := (SP.out.ends a ha).1; rw [HL1.out] at this; exact this, fun a ha => by have := (SP.out.ends a ha).2.2; rw [HL1.out] at this; exact this⟩)
          have ON := hide2 (onward_calls (Sl.keep ListR.kept L6.out BI.out) (Sl.keep ArcR.kept A6.out BI.out) (sound_pred (XE.out.keep BI.out) (Sl.keep IntR.kept IE6.out BI.out)) hms harcs IN.out.1 IN.out.2)
          obtain ⟨bs, hbs⟩ : ∃ bs, spreadL s.arcs j (posL (fun m => m == E) s.marks j) = bs := ⟨_, rfl⟩
          rw [hbs] at ON
          have OL := hide2 (show onL s E = bs by unfold onL; rw [HL1.out]; exact hbs)
          have BSL := hide2 (show bs.length = j by rw [← hbs]; simp [spreadL])
          clear hbs c0
          obtain ⟨c0, c1⟩ := (X6.out.keep BI.out).two
          obtain ⟨ix, hix⟩ : ∃ ix, bs.findIdx? (fun y => false == y) = ix := ⟨_, rfl⟩
          have HIX := hide2 hix
          have HIF := hide2 (idxFirst_at hix)
          clear hix
          cases ix with
          | some k =>
            have hkl : k < j := by
              have := (List.findIdx?_eq_some_iff_getElem.1 HIX.out).1
              rw [BSL.out] at this; exact this
            have hkli : (k : Int) < (j : Int) := by omega
            obtain ⟨b, off, x, A2, n2, c2, rfl, hb, hx, q0', i2, _⟩ := Lists.get (Sl.keep ListR.kept L6.out BI.out) hkl
            have hn2 := hide2 (show 2 ≤ n2 by have := ML.out x (List.mem_of_getElem? hx.out); rw [i2.len] at this; exact this)
            have I2 := hide2 i2
            have JS := hide2 (judgeS_stuck (d := DL) NF.out (by rw [OL.out]; exact HIX.out) hx.out)
            have Q0 := hide2 q0'
            have HBL := hide2 hb
            clear hx i2 q0' hb
            go_wp2_with (first
              | (go_at_call 62; (with_reducible refine ON.out.mono ?_); rintro e w7 ⟨g7, rfl, bo, hb7⟩; have BO := hide2 bo; have B7 := hide2 hb7; clear bo hb7 c0 c1; obtain ⟨c0, c1⟩ := (X6.out.keep (BI.out.trans (B7.out.mono BI.out.size))).two; have q0 := (B7.out.cell (p := ⟨b, off + k, none⟩) HBL.out).trans Q0.out)
              | (go_at_call 64; (with_reducible refine (indexBool_calls false BO.out (by omega)).mono ?_); rw [HIF.out]; (simp only [Option.elim_some]); rintro e w8 ⟨rfl, rfl⟩; have Z8 := hide2 (Y1.out.keep (BI.out.trans (B7.out.mono BI.out.size))); obtain ⟨z0, z1, z2⟩ := Z8.out.three; have f0 := Z8.out.frozen 0; have f1 := Z8.out.frozen 1; have f2 := Z8.out.frozen 2))
            obtain ⟨r0, r1, r2⟩ := (Z8.out.set3 (.int .i64 3) (.slice A2 n2 c2) (.int .i64 0)).three
            have BW := below_set3 (B6.out.trans ((BI.out.trans (B7.out.mono BI.out.size)).mono B6.out.size)) (show w.heap.size ≤ w.heap.size + 1 by omega) (.int .i64 3) (.slice A2 n2 c2) (.int .i64 0)
            exact bodyPost_ret (v := .tuple #[.agg #[.int .i64 3, .slice A2 n2 c2, .int .i64 0], .int .i64 0]) (by simp [results, Try.results21, go_sem, r0, r1, r2]) rfl (by rw [RE.out, JS.out]; exact ⟨A2, n2, c2, rfl, Ints.setV (Sl.keep IntR.kept I2.out B7.out) hn2.out Z8.out _ _ _, BW⟩)
          | none =>
            have HIX2 := hide2 (show (onL s E).findIdx? (fun y => false == y) = none by rw [OL.out]; exact HIX.out)
            have CD := hide2 (fun (w' : World) (hb : Below wr.heap.size wr w') => show Calls _ _ _ _ (AnsIF DL.length DL w') by rw [← HDL.out]; exact dead_calls (n : Int) (Sl.keep ListR.kept (Sl.keep ListR.kept L6.out BI.out) hb) (Sl.keep ArcR.kept (Sl.keep ArcR.kept A6.out BI.out) hb) (by omega))
            cases DL with
            | nil =>
              have JS := hide2 (judgeS_sound NF.out HIX2.out)
              go_wp2_with (first
                | (go_at_call 62; (with_reducible refine ON.out.mono ?_); rintro e w7 ⟨g7, rfl, bo, hb7⟩; have BO := hide2 bo; have B7 := hide2 hb7; clear bo hb7 c0 c1; obtain ⟨c0, c1⟩ := (X6.out.keep (BI.out.trans (B7.out.mono BI.out.size))).two; obtain ⟨a0, a1⟩ := (Y0.out.keep (BI.out.trans (B7.out.mono BI.out.size))).two)
                | (go_at_call 64; (with_reducible refine (indexBool_calls false BO.out (by omega)).mono ?_); rw [HIF.out]; (simp only [Option.elim_none]); rintro e w8 ⟨rfl, rfl⟩)
                | (go_at_call 65; (with_reducible refine (CD.out _ B7.out).mono ?_); rintro e w8 ⟨CC, kk, rfl, ii, hb8, _⟩; have B8 := hide2 (B7.out.trans (hb8.mono B7.out.size)); clear ii hb8; have Z8 := hide2 (Y1.out.keep (BI.out.trans (B8.out.mono BI.out.size))); obtain ⟨z0, z1, z2⟩ := Z8.out.three; have f0 := Z8.out.frozen 0; have f1 := Z8.out.frozen 1; have f2 := Z8.out.frozen 2))
              obtain ⟨r0, r1, r2⟩ := (Z8.out.set3 (.int .i64 1) (.slice none 0 0) (.int .i64 0)).three
              have BW := below_set3 (B6.out.trans ((BI.out.trans (B8.out.mono BI.out.size)).mono B6.out.size)) (show w.heap.size ≤ w.heap.size + 1 by omega) (.int .i64 1) (.slice none 0 0) (.int .i64 0)
              exact bodyPost_ret (v := .tuple #[.agg #[.int .i64 1, .slice none 0 0, .int .i64 0], .int .i64 0]) (by simp [results, Try.results21, go_sem, r0, r1, r2]) rfl (by rw [RE.out, JS.out]; exact ⟨none, 0, 0, rfl, Sl.nil0, BW⟩)
            | cons t DT =>
              have JS := hide2 (judgeS_dead (d := DT) (t := t) NF.out HIX2.out)
              have hdl : (0 : Int) < ((t :: DT).length : Int) := by simp
              go_wp2_with (first
                | (go_at_call 62; (with_reducible refine ON.out.mono ?_); rintro e w7 ⟨g7, rfl, bo, hb7⟩; have BO := hide2 bo; have B7 := hide2 hb7; clear bo hb7 c0 c1; obtain ⟨c0, c1⟩ := (X6.out.keep (BI.out.trans (B7.out.mono BI.out.size))).two; obtain ⟨a0, a1⟩ := (Y0.out.keep (BI.out.trans (B7.out.mono BI.out.size))).two)
                | (go_at_call 64; (with_reducible refine (indexBool_calls false BO.out (by omega)).mono ?_); rw [HIF.out]; (simp only [Option.elim_none]); rintro e w8 ⟨rfl, rfl⟩)
                | (go_at_call 65; (with_reducible refine (CD.out _ B7.out).mono ?_); rintro e w8 ⟨CC, kk, rfl, ii, hb8, _⟩; have B8 := hide2 (B7.out.trans (hb8.mono B7.out.size)); obtain ⟨b9, off9, y9, rfl, _, hy9, q9⟩ := Ints.get ii (show 0 < (t :: DT).length by simp); obtain rfl : t = y9 := (by have := hy9.out; simpa using this); clear ii hb8 hy9; (simp only [Nat.add_zero] at q9); have Z8 := hide2 (Y1.out.keep (BI.out.trans (B8.out.mono BI.out.size))); obtain ⟨z0, z1, z2⟩ := Z8.out.three; have f0 := Z8.out.frozen 0; have f1 := Z8.out.frozen 1; have f2 := Z8.out.frozen 2))
              obtain ⟨r0, r1, r2⟩ := (Z8.out.set3 (.int .i64 4) (.slice none 0 0) (.int .i64 t)).three
              have BW := below_set3 (B6.out.trans ((BI.out.trans (B8.out.mono BI.out.size)).mono B6.out.size)) (show w.heap.size ≤ w.heap.size + 1 by omega) (.int .i64 4) (.slice none 0 0) (.int .i64 t)
              exact bodyPost_ret (v := .tuple #[.agg #[.int .i64 4, .slice none 0 0, .int .i64 t], .int .i64 0]) (by simp [results, Try.results21, go_sem, r0, r1, r2]) rfl (by rw [RE.out, JS.out]; exact ⟨none, 0, 0, rfl, Sl.nil0, BW⟩)
    · have RE := hide2 (JE1.out hk)
      go_wp2
      obtain ⟨r0, r1, r2⟩ := (Z1.out.set3 (.int .i64 0) (.slice none 0 0) (.int .i64 0)).three
      have BW := below_set3 B4.out (show w.heap.size ≤ w.heap.size + 1 by omega) (.int .i64 0) (.slice none 0 0) (.int .i64 0)
      exact bodyPost_ret (v := .tuple #[.agg #[.int .i64 0, .slice none 0 0, .int .i64 0], .int .i64 k]) (by simp [results, Try.results21, go_sem, r0, r1, r2]) rfl (by rw [RE.out]; exact ⟨none, 0, 0, rfl, Sl.nil0, BW⟩)
  · have JF := hide2 (JW.out hs0)
    have f0 := X1.out.frozen 0
    have f1 := X1.out.frozen 1
    have f2 := X1.out.frozen 2
    go_wp2_with (go_at_call 17; (with_reducible refine CW.out.mono ?_); rintro e w1 ⟨rfl, hb1⟩; have B1 := hide2 hb1; clear hb1 a0 a1 z0 z1 z2 f0 f1 f2; obtain ⟨z0, z1, z2⟩ := (X1.out.keep B1.out).three; have f0 := (X1.out.keep B1.out).frozen 0; have f1 := (X1.out.keep B1.out).frozen 1; have f2 := (X1.out.keep B1.out).frozen 2)
    obtain ⟨r0, r1, r2⟩ := ((X1.out.keep B1.out).set3 (.int .i64 0) (.slice none 0 0) (.int .i64 0)).three
    have BW := below_set3 (HB.out.trans (B1.out.mono HB.out.size)) (show w.heap.size ≤ w.heap.size + 1 by omega) (.int .i64 0) (.slice none 0 0) (.int .i64 0)
    exact bodyPost_ret (v := .tuple #[.agg #[.int .i64 0, .slice none 0 0, .int .i64 0], .int .i64 sw]) (by simp [results, Try.results21, go_sem, r0, r1, r2]) rfl (by rw [JF.out]; exact ⟨none, 0, 0, rfl, Sl.nil0, BW⟩)
end Go.Proofs.Ytnfppolgaeibeaa
