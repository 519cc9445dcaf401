/- The reference's net by rows in memory; the contract of mcut. Conditions: the bounds lie in the list. | The reference's net by rows while it is made: its box, labels and rows. Conditions: none; plain lemmas on memory. | The contract of noPlace of the reference's net by rows. Conditions: the place is one of the rows. -/
import Derived.Test.YtadepofaobdbhaaReduI
import Derived.Test.YtadepofaobdbhaaListW
namespace Go.Proofs.Ytadepofaobdbhaa
open Go.RowKit

/-- A list whose cells are the call's own. -/
def OwnListR (B : Nat) : World → (Nat → Value) → List Int → Prop := fun w vs xs => ∃ n, OwnInts w B (vs 0) n xs ∧ n ≤ 17592186043904
theorem OwnListR.kept (B : Nat) : Kept (OwnListR B) := fun _ _ _ _ hb ⟨n, h, l⟩ => ⟨n, h.keep IntR.kept hb, l⟩
theorem OwnListR.list {B : Nat} {w : World} {vs : Nat → Value} {xs : List Int} (h : OwnListR B w vs xs) : ListR w vs xs := by
  obtain ⟨n, o, l⟩ := h
  obtain ⟨A, c, e, i⟩ := o.sl (by omega)
  exact ⟨A, n, c, e, i, l⟩
theorem OwnListR.good (B : Nat) : Good (OwnListR B) 1 where
  kept := OwnListR.kept B
  one := fun w vs x h j hj => ListR.good.one w vs x h.list j hj
  pos := by omega
theorem OwnListR.base {B B' : Nat} (hB : B' ≤ B) {w : World} {vs : Nat → Value} {xs : List Int} (h : OwnListR B w vs xs) : OwnListR B' w vs xs := by
  obtain ⟨n, o, l⟩ := h
  exact ⟨n, o.base hB, l⟩
theorem OwnListR.grown {B B2 size n e : Nat} {w w' : World} {v : Value} {cells : List Value} (hown : w.ownsRow B2 e size v n cells) (hne : 3 ≠ e) (hg : w.grownBy w' v.ownBlock) {vs : Nat → Value} {xs : List Int} (h : OwnListR B w vs xs) : OwnListR B w' vs xs := by
  obtain ⟨m, ⟨c1, a1, a2, a3⟩, l⟩ := h
  exact ⟨m, ⟨c1, a1.kept hg (own_ne a1 hown hne), ⟨a2.1, a2.2⟩, a3⟩, l⟩
theorem OwnListR.box {B b ty : Nat} {w w' : World} {cs : Array Value} (hb : Box w b ty cs) (hne : 3 ≠ ty) (hg : w.grownBy w' (some b)) {vs : Nat → Value} {xs : List Int} (h : OwnListR B w vs xs) : OwnListR B w' vs xs := by
  obtain ⟨m, o, l⟩ := h
  exact ⟨m, o.kept hg (row_ne_box o hb hne) (fun _ _ h => h), l⟩
theorem tyLists : SlTy 36 41 1 24 := SlTy.mk' (z := .slice none 0 0) Try.underlying36 (by kernel_rfl) rfl (by decide)
abbrev OLists (B : Nat) (w : World) (A : Option Addr) (n c : Nat) (xs : List (List Int)) : Prop := Sl (OwnListR B) 1 w A n c xs
theorem OLists.lists {B : Nat} {w : World} {A : Option Addr} {n c : Nat} {xs : List (List Int)} (h : OLists B w A n c xs) : Lists w A n c xs := h.imp fun _ _ h => h.list
theorem keepLists {B B2 n : Nat} {w : World} {v : Value} {xs : List (List Int)} (h : OwnSl (OwnListR B) 1 w B2 41 v n xs) : ∀ w', w.grownBy w' v.ownBlock → ∀ vs y, OwnListR B w vs y → OwnListR B w' vs y := by
  obtain ⟨cells, h1, _⟩ := h
  exact fun w' hg vs y hy => hy.grown h1 (by decide) hg
theorem ownLists_box {B B2 b n ty : Nat} {w w' : World} {cs : Array Value} {v : Value} {xs : List (List Int)} (hb : Box w b ty cs) (h1 : 41 ≠ ty) (h2 : 3 ≠ ty) (hg : w.grownBy w' (some b)) (h : OwnSl (OwnListR B) 1 w B2 41 v n xs) : OwnSl (OwnListR B) 1 w' B2 41 v n xs :=
  h.kept hg (row_ne_box h hb h1) (fun _ _ hx => hx.box hb h2 hg)
theorem Reads.list1 {R : World → (Nat → Value) → List Int → Prop} {w : World} {v : Value} {xs : List Int} (h : R w (fun _ => v) xs) : Reads R 1 w [v] [xs] :=
  Reads.one h rfl (fun j hj => by cases j with | zero => rfl | succ j => omega)

theorem OwnInts.toInts {w : World} {B n c : Nat} {A : Option Addr} {xs : List Int} (h : OwnInts w B (.slice A n c) n xs) (hn : n ≤ 1000000) : Ints w A n c xs := by
  obtain ⟨A', c', hv, hi⟩ := h.sl (by omega)
  injection hv with e1 e2 e3
  subst e1 e3
  exact hi
theorem toOLists {w : World} {B B2 n c : Nat} {A : Option Addr} {xs : List (List Int)} (h : OwnSl (OwnListR B) 1 w B2 41 (.slice A n c) n xs) (hn : n ≤ 1000000) : OLists B w A n c xs := by
  obtain ⟨A', c', hv, hi⟩ := h.sl (by omega)
  injection hv with e1 e2 e3
  subst e1 e3
  exact hi
/-- What a call answers that hands back a net by rows. -/
def MnR (B : Nat) (w : World) (L : Option Addr) (nl cl : Nat) (R : Option Addr) (nr cr : Nat) (m : PM) : Prop := OwnInts w B (.slice L nl cl) nl m.labels ∧ OwnSl (OwnListR B) 1 w B 41 (.slice R nr cr) nr m.rows ∧ nl ≤ 1000 ∧ nr ≤ 1000
theorem MnR.keep {B : Nat} {w w' : World} {L : Option Addr} {nl cl : Nat} {R : Option Addr} {nr cr : Nat} {m : PM} (h : MnR B w L nl cl R nr cr m) (hb : Below w.heap.size w w') : MnR B w' L nl cl R nr cr m :=
  ⟨OwnSl.keep IntR.kept h.1 hb, OwnSl.keep (OwnListR.kept B) h.2.1 hb, h.2.2⟩
def AnsM1 (B : Nat) (m : PM) (w : World) (e : Ending) (w' : World) : Prop :=
  ∃ L nl cl R nr cr, e = .returned (.agg #[.slice L nl cl, .slice R nr cr, .int .i64 m.i, .int .i64 m.o]) ∧ MnR B w' L nl cl R nr cr m ∧ Below w.heap.size w w'

set_option maxRecDepth 100000 in
set_option maxHeartbeats 4000000 in
theorem mcut_calls {w : World} {A : Option Addr} {n c a b : Nat} {xs : List Int} (h : Ints w A n c xs) (hn : n ≤ 1000000) (h0 : 0 < n) (hab : a ≤ b) (hbn : b ≤ n) {ia ib : Int} (hia : ia = (a : Int)) (hib : ib = (b : Int)) :
    Calls Try.prog 151 #[.slice A n c, .int .i64 ia, .int .i64 ib] w (AnsOwn IntR 1 3 (a + (n - b)) (cutL xs a b) w) := by
  subst hia hib
  obtain ⟨bl, off, rfl, hbl, _⟩ := h.cells h0
  have hcn := h.le
  obtain ⟨A', hA', hs'⟩ := Sl.dropN (k := b) h hbn
  rw [Nat.mul_one] at hA'
  have TK := hide2 (show Ints w (some ⟨bl, off, none⟩) a c (xs.take a) from ⟨by rw [List.length_take, h.len]; omega, by omega, h.cap, by omega, (fun e => nomatch e), fun _ => by
    obtain ⟨b', off', e, hb', hc⟩ := h.cells h0
    exact ⟨b', off', e, hb', fun i x hx => hc i x (by rw [List.getElem?_take] at hx; split at hx; exact hx; cases hx)⟩⟩)
  have DR := hide2 hs'
  have ha1 : a ≤ c := by omega
  have hb1 : b ≤ c := by omega
  have hi1 : (b : Int) ≤ (n : Int) := by omega
  clear h hs'
  go_enter Try.func151, Try.ntmps151
  go_upto_region 1 with fail
  refine wp_region_scr 8 (.takes [1, 2, 3, 5, 6, 7] (.one 0 (.one 4 (.fins [8, 9] .done)))) (fun w' => True) (by kernel_rfl) (by kernel_rfl) (by kernel_rfl) (fun _ _ _ _ _ h => h) trivial (fun hHeld => ?_)
  simp only [Scr.takes, Scr.fins]
  have WD := hide2 (show Below w.heap.size w w.drew from (Below.refl _ _).drew)
  have sz0 : w.drew.heap.size = w.heap.size := rfl
  generalize w.drew = w1 at *
  iterate 6
    refine tkTake (v := ?_) rfl (by rfl) hHeld (fun w' hSw => ?_) ?_
    rotate_left
    · (go_simp; try with_reducible rfl)
    try simp only [Act.put, List.setIfInBounds_toArray, List.set_cons_zero, List.set_cons_succ]
  refine tkOne rfl (fun K hK => ?_)
  go_simp
  have OE := hide2 (show OwnInts (w1.alloc (.cells #[] 3)) w.heap.size (.slice (some ⟨w.heap.size, 0, none⟩) 0 0) 0 [] by
    have h := OwnSl.empty (R := IntR) (sz := 1) (w := w1) (B := w.heap.size) (e := 3) WD.out.size
    rw [sz0] at h
    exact h)
  have D2 := hide2 (show Below w.heap.size w (w1.alloc (.cells #[] 3)) from WD.out.alloc WD.out.size _)
  refine hK.out _ _ trivial (fun hHeld => ?_)
  clear hK
  try simp only [Act.put, List.setIfInBounds_toArray, List.set_cons_zero, List.set_cons_succ]
  generalize w1.alloc (.cells #[] 3) = w2 at *
  refine tkOne rfl (fun K hK => ?_)
  refine step_appOwn rfl (.tmp 7) (.tmp 10) rfl rfl rfl OE.out (Ints.keep TK.out D2.out) D2.out.size (show 0 + a ≤ 17592186044416 by omega) D2.out (Nat.le_refl _) ?_
  intro v3 w3 own3 hg3 hb3 hor3
  have O3 := hide2 own3
  have D3 := hide2 hb3
  clear own3 hg3 hb3 hor3
  refine hK.out _ _ trivial (fun hHeld => ?_)
  clear hK
  try simp only [Act.put, List.setIfInBounds_toArray, List.set_cons_zero, List.set_cons_succ]
  refine tkEnd rfl (fun K hK => ?_)
  refine step_appOwn rfl (.tmp 11) (.tmp 14) rfl rfl rfl O3.out (Ints.keep DR.out D3.out) D3.out.size (show 0 + a + (n - b) ≤ 17592186044416 by omega) D3.out (Nat.le_refl _) ?_
  intro v4 w4 own4 hg4 hb4 hor4
  have O4 := hide2 own4
  have D4 := hide2 hb4
  clear own4 hg4 hb4 hor4
  refine hK.out _ _ ?_
  clear hK
  try simp only [Act.put, List.setIfInBounds_toArray, List.set_cons_zero, List.set_cons_succ]
  refine tkEnd rfl (fun K hK => ?_)
  go_simp
  refine hK.out _ _ ?_
  clear hK
  try simp only [Act.put, List.setIfInBounds_toArray, List.set_cons_zero, List.set_cons_succ]
  refine tkDone ?_
  go_wp2
  go_ret
  refine ⟨_, rfl, ?_, D4.out⟩
  have := O4.out
  simp only [Nat.zero_add, List.nil_append] at this
  exact this
end Go.Proofs.Ytadepofaobdbhaa
namespace Go.Proofs.Ytadepofaobdbhaa
open Go.RowKit

abbrev mn0 : Array Value := #[.slice none 0 0, .slice none 0 0, .int .i64 0, .int .i64 0]
structure MnM (N B tb t1 : Nat) (cs1 : Array Value) (w wr : World) (L : Option Addr) (nl cl : Nat) (ls : List Int) (R : Option Addr) (nr cr : Nat) (rs : List (List Int)) (i o : Int) : Prop where
  arg : Box wr N t1 cs1
  res : Box wr (N + 1) 69 mn0
  own : Box wr tb 69 #[.slice L nl cl, .slice R nr cr, .int .i64 i, .int .i64 o]
  lab : OwnInts wr B (.slice L nl cl) nl ls
  rows : OwnSl (OwnListR B) 1 wr N 41 (.slice R nr cr) nr rs
  bel : Below N w wr
  lo : N + 1 < tb
  ty : t1 ≠ 3 ∧ t1 ≠ 41
  hN : N = w.heap.size
section
variable {N B tb t1 : Nat} {cs1 : Array Value} {w wr w' : World} {L : Option Addr} {nl cl : Nat} {ls : List Int} {R : Option Addr} {nr cr : Nat} {rs : List (List Int)} {i o : Int}
theorem MnM.keep (h : MnM N B tb t1 cs1 w wr L nl cl ls R nr cr rs i o) (hb : Below wr.heap.size wr w') : MnM N B tb t1 cs1 w w' L nl cl ls R nr cr rs i o :=
  ⟨h.arg.keep hb, h.res.keep hb, h.own.keep hb, h.lab.keep IntR.kept hb, h.rows.keep (OwnListR.kept B) hb, h.bel.trans (hb.mono (by rw [h.hN]; exact h.bel.size)), h.lo, h.ty, h.hN⟩
/-- A box that is none of the rows' stays where a row grows. -/
theorem box_row {α : Type} {Q : World → (Nat → Value) → α → Prop} {sz B2 e n b ty : Nat} {v : Value} {xs : List α} {cs : Array Value} (hb : Box wr b ty cs) (h : OwnSl Q sz wr B2 e v n xs) (hne : e ≠ ty) (hg : wr.grownBy w' v.ownBlock) : Box w' b ty cs :=
  hb.grown hg (fun e => by
    rcases row_ne_box h hb hne with h' | h'
    · rw [e] at h'; cases h'
    · exact h' e)
theorem ints_row {α : Type} {Q : World → (Nat → Value) → α → Prop} {sz B1 B2 n n1 e : Nat} {v v1 : Value} {ys : List Int} {xs : List α} (h : OwnInts wr B1 v1 n1 ys) (hr : OwnSl Q sz wr B2 e v n xs) (hne : 3 ≠ e) (hg : wr.grownBy w' v.ownBlock) : OwnInts w' B1 v1 n1 ys := by
  obtain ⟨c2, o2, _⟩ := hr
  obtain ⟨c1, o1, a1, a2⟩ := h
  exact ⟨c1, o1.kept hg (own_ne o1 o2 hne), ⟨a1.1, a1.2⟩, a2⟩
theorem ints_box {b ty B1 n1 : Nat} {v1 : Value} {ys : List Int} {cs : Array Value} (h : OwnInts wr B1 v1 n1 ys) (hb : Box wr b ty cs) (hne : 3 ≠ ty) (hg : wr.grownBy w' (some b)) : OwnInts w' B1 v1 n1 ys :=
  h.kept hg (row_ne_box h hb hne) (fun _ _ h => h)
/-- A row is appended, and the box told. -/
theorem MnM.row (h : MnM N B tb t1 cs1 w wr L nl cl ls R nr cr rs i o) {R' : Option Addr} {nr' cr' : Nat} {rs' : List (List Int)} (hr : OwnSl (OwnListR B) 1 w' N 41 (.slice R' nr' cr') nr' rs') (hg : wr.grownBy w' (Value.slice R nr cr).ownBlock) (hb : Below N w w') :
    MnM N B tb t1 cs1 w (w'.setCell ⟨tb, 1, none⟩ (.slice R' nr' cr')) L nl cl ls R' nr' cr' rs' i o := by
  have hA := box_row h.arg h.rows (Ne.symm h.ty.2) hg
  have hR := box_row h.res h.rows (by decide) hg
  have hO := box_row h.own h.rows (by decide) hg
  have g1 : w'.grownBy (w'.setCell ⟨tb, 1, none⟩ (.slice R' nr' cr')) (some tb) := grown_setB (grown_reflB w' _)
  have lo := h.lo
  refine ⟨hA.other _ (by show N ≠ tb; omega), hR.other _ (by show N + 1 ≠ tb; omega), ?_, ints_box (ints_row h.lab h.rows (by decide) hg) hO (by decide) g1, ownLists_box hO (by decide) (by decide) g1 hr, hb.setCell (by show N ≤ tb; omega) _, h.lo, h.ty, h.hN⟩
  have := hO.set 1 (.slice R' nr' cr')
  simpa using this
theorem MnM.setI (h : MnM N B tb t1 cs1 w wr L nl cl ls R nr cr rs i o) (z : Int) : MnM N B tb t1 cs1 w (wr.setCell ⟨tb, 2, none⟩ (.int .i64 z)) L nl cl ls R nr cr rs z o := by
  have g1 : wr.grownBy (wr.setCell ⟨tb, 2, none⟩ (.int .i64 z)) (some tb) := grown_setB (grown_reflB wr _)
  have lo := h.lo
  refine ⟨h.arg.other _ (by show N ≠ tb; omega), h.res.other _ (by show N + 1 ≠ tb; omega), ?_, ints_box h.lab h.own (by decide) g1, ownLists_box h.own (by decide) (by decide) g1 h.rows, h.bel.setCell (by show N ≤ tb; omega) _, h.lo, h.ty, h.hN⟩
  have := h.own.set 2 (.int .i64 z)
  simpa using this
theorem MnM.setO (h : MnM N B tb t1 cs1 w wr L nl cl ls R nr cr rs i o) (z : Int) : MnM N B tb t1 cs1 w (wr.setCell ⟨tb, 3, none⟩ (.int .i64 z)) L nl cl ls R nr cr rs i z := by
  have g1 : wr.grownBy (wr.setCell ⟨tb, 3, none⟩ (.int .i64 z)) (some tb) := grown_setB (grown_reflB wr _)
  have lo := h.lo
  refine ⟨h.arg.other _ (by show N ≠ tb; omega), h.res.other _ (by show N + 1 ≠ tb; omega), ?_, ints_box h.lab h.own (by decide) g1, ownLists_box h.own (by decide) (by decide) g1 h.rows, h.bel.setCell (by show N ≤ tb; omega) _, h.lo, h.ty, h.hN⟩
  have := h.own.set 3 (.int .i64 z)
  simpa using this
theorem MnM.box4 {ty : Nat} {b : Nat} {u0 u1 u2 u3 : Value} (h : Box wr b ty #[u0, u1, u2, u3]) (v0 v1 v2 v3 : Value) : Box ((((wr.setCell ⟨b, 0, none⟩ v0).setCell ⟨b, 1, none⟩ v1).setCell ⟨b, 2, none⟩ v2).setCell ⟨b, 3, none⟩ v3) b ty #[v0, v1, v2, v3] := by
  have := (((h.set 0 v0).set 1 v1).set 2 v2).set 3 v3
  simpa using this
theorem box4 {ty : Nat} {b : Nat} {u0 u1 u2 u3 : Value} (h : Box wr b ty #[u0, u1, u2, u3]) : wr.cell? ⟨b, 0, none⟩ = some u0 ∧ wr.cell? ⟨b, 1, none⟩ = some u1 ∧ wr.cell? ⟨b, 2, none⟩ = some u2 ∧ wr.cell? ⟨b, 3, none⟩ = some u3 := ⟨h.cell 0, h.cell 1, h.cell 2, h.cell 3⟩
theorem MnR.boxed {m : PM} {b ty : Nat} {cs : Array Value} (h : MnR B wr L nl cl R nr cr m) (hb : Box wr b ty cs) (h1 : 41 ≠ ty) (h2 : 3 ≠ ty) (hg : wr.grownBy w' (some b)) : MnR B w' L nl cl R nr cr m :=
  ⟨ints_box h.1 hb h2 hg, ownLists_box hb h1 h2 hg h.2.1, h.2.2⟩
/-- The box goes into the result. -/
theorem MnM.ret (h : MnM N B tb t1 cs1 w wr L nl cl ls R nr cr rs i o) (hl : nl ≤ 1000) (hr : nr ≤ 1000) (hB : B ≤ N) {w' : World} (hw : w' = (((wr.setCell ⟨N + 1, 0, none⟩ (.slice L nl cl)).setCell ⟨N + 1, 1, none⟩ (.slice R nr cr)).setCell ⟨N + 1, 2, none⟩ (.int .i64 i)).setCell ⟨N + 1, 3, none⟩ (.int .i64 o)) :
    Box w' (N + 1) 69 #[.slice L nl cl, .slice R nr cr, .int .i64 i, .int .i64 o] ∧ MnR B w' L nl cl R nr cr ⟨ls, rs, i, o⟩ ∧ Below w.heap.size w w' := by
  have g1 : wr.grownBy w' (some (N + 1)) := by rw [hw]; exact grown_setB (grown_setB (grown_setB (grown_setB (grown_reflB wr _))))
  have hb : Below N w w' := by
    rw [hw]
    have lo := h.lo
    exact (((h.bel.setCell (p := ⟨N + 1, 0, none⟩) (by simp) _).setCell (p := ⟨N + 1, 1, none⟩) (by simp) _).setCell (p := ⟨N + 1, 2, none⟩) (by simp) _).setCell (p := ⟨N + 1, 3, none⟩) (by simp) _
  refine ⟨by rw [hw]; exact MnM.box4 h.res _ _ _ _, ⟨ints_box h.lab h.res (by decide) g1, (ownLists_box h.res (by decide) (by decide) g1 h.rows).base hB, hl, hr⟩, by rw [← h.hN]; exact hb⟩
end
end Go.Proofs.Ytadepofaobdbhaa
namespace Go.Proofs.Ytadepofaobdbhaa
open Go.RowKit

theorem OLists.get {B : Nat} {w : World} {A : Option Addr} {n c k : Nat} {xs : List (List Int)} (h : OLists B w A n c xs) (hk : k < n) :
    ∃ b off x C m d, A = some ⟨b, off, none⟩ ∧ b < w.heap.size ∧ Hid (xs[k]? = some x) ∧ w.cell? ⟨b, off + k, none⟩ = some (.slice C m d) ∧ Hid (OwnInts w B (.slice C m d) m x) ∧ Ints w C m d x ∧ m ≤ 17592186043904 := by
  obtain ⟨b, off, x, vs, h1, h2, h3, h4, m, o, l⟩ := Sl.get h hk
  obtain ⟨C, d, e, i⟩ := o.sl (by omega)
  refine ⟨b, off, x, C, m, d, h1, h2, h3, ?_, ?_, i, l⟩
  · have := h4 0 (by omega)
    rw [e] at this
    simpa using this
  · rw [e] at o; exact o
/-- The rows so far, but for row p. -/
def butL (xs : List (List Int)) (p k : Nat) : List (List Int) := (xs.take k).eraseIdx p
theorem butL_succ_ne {xs : List (List Int)} {p k : Nat} {x : List Int} (hx : xs[k]? = some x) (h : k ≠ p) : butL xs p (k + 1) = butL xs p k ++ [x] := by
  obtain ⟨hk, rfl⟩ := List.getElem?_eq_some_iff.1 hx
  unfold butL
  rw [List.take_succ_eq_append_getElem hk]
  by_cases hp : p < k
  · rw [List.eraseIdx_append_of_lt_length (by simp; omega)]
  · rw [List.eraseIdx_append_of_length_le (by simp; omega), List.eraseIdx_of_length_le (l := xs.take k) (by simp; omega), List.eraseIdx_of_length_le (by simp; omega)]
theorem butL_succ_eq {xs : List (List Int)} {p : Nat} (hp : p < xs.length) : butL xs p (p + 1) = butL xs p p := by
  unfold butL
  rw [List.take_succ_eq_append_getElem hp, List.eraseIdx_append_of_length_le (by simp; omega), List.eraseIdx_of_length_le (l := xs.take p) (by simp; omega)]
  have : p - (xs.take p).length = 0 := by simp; omega
  rw [this]
  simp

set_option maxRecDepth 100000 in
set_option maxHeartbeats 8000000 in
theorem noPlace_calls {B p : Nat} {w : World} {L : Option Addr} {nl cl : Nat} {R : Option Addr} {nr cr : Nat} {m : PM} (h : MnR B w L nl cl R nr cr m) (hBw : B ≤ w.heap.size) (hp : p < nr) (hi : 0 ≤ m.i ∧ m.i ≤ 1000) (ho : 0 ≤ m.o ∧ m.o ≤ 1000) :
    Calls Try.prog 120 #[.agg #[.slice L nl cl, .slice R nr cr, .int .i64 m.i, .int .i64 m.o], .int .i64 p] w (AnsM1 B (noPlaceM m p) w) := by
  obtain ⟨labels, rows, mi, mo⟩ := m
  obtain ⟨hL, hR, hnl, hnr⟩ := h
  simp only at hL hR hi ho
  have HR := hide2 (toOLists hR (by omega))
  have HLN := hide2 (OwnSl.len hR)
  generalize hw0 : ((w.alloc (.cells #[.slice L nl cl, .slice R nr cr, .int .i64 mi, .int .i64 mo] 69)).alloc (.cells mn0 69)).alloc (.cells #[.slice L nl cl, .slice none 0 0, .int .i64 mi, .int .i64 mo] 69) = w0
  have M0 := hide2 (show MnM w.heap.size B (w.heap.size + 2) 69 #[.slice L nl cl, .slice R nr cr, .int .i64 mi, .int .i64 mo] w w0 L nl cl labels none 0 0 (butL rows p 0) mi mo from by
    rw [← hw0]
    refine ⟨((Box.new _ _ _).old _).old _, (Box.newAt (by simp) _ _).old _, Box.newAt (by simp) _ _, OwnSl.keep IntR.kept hL ((((Below.refl _ _).alloc (Nat.le_refl _) _).alloc (by simp) _).alloc (by simp; omega) _), OwnSl.nil, (((Below.refl _ _).alloc (Nat.le_refl _) _).alloc (by simp) _).alloc (by simp; omega) _, by omega, by decide, rfl⟩)
  clear hL hR
  obtain ⟨a0, a1, a2, a3⟩ := box4 M0.out.arg
  have HI := hide2 hi
  have HO := hide2 ho
  go_enter Try.func120, Try.ntmps120
  go_upto_region 2 with fail
  clear hw0
  go_wp2
  go_loopg [18] nr (fun gk i wr => ∃ (k q : Nat) (C : Option Addr) (e : Nat), k + gk = nr ∧ i = .int .i64 k ∧ Hid (q ≤ k ∧ q = (butL rows p k).length) ∧ Hid (MnM w.heap.size B (w.heap.size + 2) 69 #[.slice L nl cl, .slice R nr cr, .int .i64 mi, .int .i64 mo] w wr L nl cl labels C q e (butL rows p k) mi mo))
  case atStart => exact ⟨0, 0, none, 0, by omega, rfl, ⟨Nat.le_refl _, by simp [butL]⟩, M0.out⟩
  case round =>
    obtain ⟨k, q, C, e, hk, rfl, hq, M⟩ := hrel
    by_cases hlt : k < nr
    · obtain ⟨bl, off, x, D, m, d, rfl, hbl, hx, q0, ox, ix, mx⟩ := OLists.get HR.out hlt
      have q0' := (M.out.bel.cell (p := ⟨bl, off + k, none⟩) (by rw [M.out.hN]; exact hbl)).trans q0
      clear q0 ix hbl
      by_cases hkp : k = p
      · subst hkp
        have NX := hide2 (show MnM w.heap.size B (w.heap.size + 2) 69 #[.slice L nl cl, .slice (some ⟨bl, off, none⟩) nr cr, .int .i64 mi, .int .i64 mo] w wr L nl cl labels C q e (butL rows k (k + 1)) mi mo by rw [butL_succ_eq (by rw [HLN.out]; exact hp)]; exact M.out)
        go_wp2
        go_roundg (gk - 1)
        case measure => omega
        case rel => exact ⟨k + 1, q, C, e, by omega, by simp, ⟨by have := hq.out.1; omega, by rw [butL_succ_eq (by rw [HLN.out]; exact hp)]; exact hq.out.2⟩, NX.out⟩
      · have hkp' : ((k : Int) == (p : Int)) = false := by simpa using (show ¬ (k : Int) = (p : Int) by omega)
        have BS := hide2 (butL_succ_ne hx.out hkp)
        obtain ⟨b0, b1, b2, b3⟩ := box4 M.out.own
        have f1 := M.out.own.frozen 1
        have hqn : q ≤ 1000 := by have := hq.out.1; omega
        have RD := hide2 (show Reads (OwnListR B) 1 wr [.slice D m d] [x] from Reads.list1 ⟨m, OwnSl.keep IntR.kept ox.out M.out.bel, mx⟩)
        have KP := hide2 (keepLists M.out.rows)
        have RW := hide2 M.out.rows
        have HB := hide2 M.out.bel
        have MM := M
        clear M
        go_wp2_with (at_builtin; refine wpList_appNew (v := .slice C q e) tyLists rfl _ _ rfl [x] #[.slice D m d] rfl rfl (by first | rfl | simp) rfl (by simp [Value.oneCell']) RW.out RD.out rfl HB.out HB.out.size (by omega) (by omega) KP.out ?_; intro v1 w1 own1 hg1 hb1; obtain ⟨g, cap, hv1, _⟩ := own1.form (by omega); subst hv1; have XO := box_row MM.out.own RW.out (by decide) hg1; have j1 := XO.cell 1; have jf := XO.frozen 1; simp only [List.getElem?_toArray, List.getElem?_cons_succ, List.getElem?_cons_zero] at j1; have NX := hide2 (MM.out.row own1 hg1 hb1); clear own1 hg1 hb1 XO)
        go_roundg (gk - 1)
        case measure => omega
        case rel => exact ⟨k + 1, q + 1, some ⟨g, 0, none⟩, cap, by omega, by simp, ⟨by have := hq.out.1; omega, by rw [BS.out, List.length_append]; have := hq.out.2; simp; omega⟩, by rw [BS.out]; exact NX.out⟩
    · obtain rfl : k = nr := by omega
      have hqn : q ≤ 1000 := by have := hq.out.1; omega
      obtain ⟨b0, b1, b2, b3⟩ := box4 M.out.own
      have f2 := M.out.own.frozen 2
      have f3 := M.out.own.frozen 3
      have r0 := M.out.res.frozen 0
      have r1 := M.out.res.frozen 1
      have r2 := M.out.res.frozen 2
      have r3 := M.out.res.frozen 3
      obtain ⟨z0, z1, z2, z3⟩ := box4 M.out.res
      have MM := M
      have BE := hide2 (show butL rows p k = rows.eraseIdx p by unfold butL; rw [List.take_of_length_le (by rw [HLN.out]; omega)])
      clear M
      by_cases h1 : (p : Int) < mi
      · by_cases h2 : (p : Int) < mo
        ·
          have DI := hide2 (show down mi p = (mi - 1) by simp [down, h1])
          have DO := hide2 (show down mo p = (mo - 1) by simp [down, h2])
          go_wp2
          obtain ⟨XR, MR, BR⟩ := MnM.ret ((MM.out.setI (mi - 1)).setO (mo - 1)) (by omega) (by omega) hBw rfl
          obtain ⟨y0, y1, y2, y3⟩ := box4 XR
          refine bodyPost_ret (v := .agg #[.slice L nl cl, .slice C q e, .int .i64 (mi - 1), .int .i64 (mo - 1)]) (by simp [results, Try.results120, go_sem, y0, y1, y2, y3]) rfl ?_
          rw [BE.out] at MR
          refine ⟨L, nl, cl, C, q, e, ?_, ⟨MR.1, MR.2.1, hnl, hqn⟩, BR⟩
          show _ = Ending.returned (.agg #[.slice L nl cl, .slice C q e, .int .i64 (down mi p), .int .i64 (down mo p)])
          rw [DI.out, DO.out]
        ·
          have DI := hide2 (show down mi p = (mi - 1) by simp [down, h1])
          have DO := hide2 (show down mo p = mo by simp [down, h2])
          go_wp2
          obtain ⟨XR, MR, BR⟩ := MnM.ret (MM.out.setI (mi - 1)) (by omega) (by omega) hBw rfl
          obtain ⟨y0, y1, y2, y3⟩ := box4 XR
          refine bodyPost_ret (v := .agg #[.slice L nl cl, .slice C q e, .int .i64 (mi - 1), .int .i64 mo]) (by simp [results, Try.results120, go_sem, y0, y1, y2, y3]) rfl ?_
          rw [BE.out] at MR
          refine ⟨L, nl, cl, C, q, e, ?_, ⟨MR.1, MR.2.1, hnl, hqn⟩, BR⟩
          show _ = Ending.returned (.agg #[.slice L nl cl, .slice C q e, .int .i64 (down mi p), .int .i64 (down mo p)])
          rw [DI.out, DO.out]
      · by_cases h2 : (p : Int) < mo
        ·
          have DI := hide2 (show down mi p = mi by simp [down, h1])
          have DO := hide2 (show down mo p = (mo - 1) by simp [down, h2])
          go_wp2
          obtain ⟨XR, MR, BR⟩ := MnM.ret (MM.out.setO (mo - 1)) (by omega) (by omega) hBw rfl
          obtain ⟨y0, y1, y2, y3⟩ := box4 XR
          refine bodyPost_ret (v := .agg #[.slice L nl cl, .slice C q e, .int .i64 mi, .int .i64 (mo - 1)]) (by simp [results, Try.results120, go_sem, y0, y1, y2, y3]) rfl ?_
          rw [BE.out] at MR
          refine ⟨L, nl, cl, C, q, e, ?_, ⟨MR.1, MR.2.1, hnl, hqn⟩, BR⟩
          show _ = Ending.returned (.agg #[.slice L nl cl, .slice C q e, .int .i64 (down mi p), .int .i64 (down mo p)])
          rw [DI.out, DO.out]
        ·
          have DI := hide2 (show down mi p = mi by simp [down, h1])
          have DO := hide2 (show down mo p = mo by simp [down, h2])
          go_wp2
          obtain ⟨XR, MR, BR⟩ := MnM.ret MM.out (by omega) (by omega) hBw rfl
          obtain ⟨y0, y1, y2, y3⟩ := box4 XR
          refine bodyPost_ret (v := .agg #[.slice L nl cl, .slice C q e, .int .i64 mi, .int .i64 mo]) (by simp [results, Try.results120, go_sem, y0, y1, y2, y3]) rfl ?_
          rw [BE.out] at MR
          refine ⟨L, nl, cl, C, q, e, ?_, ⟨MR.1, MR.2.1, hnl, hqn⟩, BR⟩
          show _ = Ending.returned (.agg #[.slice L nl cl, .slice C q e, .int .i64 (down mi p), .int .i64 (down mo p)])
          rw [DI.out, DO.out]
end Go.Proofs.Ytadepofaobdbhaa
