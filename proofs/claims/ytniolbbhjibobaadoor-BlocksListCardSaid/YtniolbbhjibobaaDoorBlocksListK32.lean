/- Texts melted into one: The contract of blocks' letters. Conditions: the block reads as one; its size is at most 100000. | Rows of lists that are the call's own. Conditions: none; plain lemmas on memory. (Cut out of MrefA.) | The speaker as it lies in memory, and the contract of spread. Conditions: the speaker's arcs are between marks. | The contracts of first, hear, ends and hope. Conditions: the speaker's arcs are between marks. | The contract of far. Conditions: the speaker's arcs are between marks. -/
import Derived.Test.YtniolbbhjibobaaDoorBlocksListK31
import Derived.Test.YtniolbbhjibobaaDoorBlocksListK02
import Derived.Test.YtniolbbhjibobaaDoorBlocksListK04
import Derived.Test.YtniolbbhjibobaaDoorBlocksListK09
import Derived.Deep.RegionHeld3
set_option linter.all false
namespace Go.Proofs.YtniolbbhjibobaaDoor
open Go.RowKit Go.Maps

theorem wpList_appAny {α : Type} {R : World → (Nat → Value) → α → Prop} {t e size bytes : Nat} (T : SlTy t e size bytes) (G : Good R size) {ops : Array Oper} {rest : List Oper} {o : Oper} {a : Act} {Q : Exit → Act → World → Prop} (hgd : o.guard = none) (s x : Operand)
    (ho : o.op = .call { callee := .builtin .append, args := #[s, x], argTypes := #[t, t] })
    {w0 w : World} {B : Nat} {v : Value} {n m c : Nat} {A : Option Addr} {xs ys : List α} (hs : a.eval s = v) (hx : a.eval x = .slice A m c) (own : OwnSl R size w B e v n xs) (src : Sl R size w A m c ys) (hb : Below B w0 w) (hB : B ≤ w.heap.size) (h63 : n + m ≤ 281474976710656) (hn : (n + m) * bytes ≤ 140737488355328)
    (hkeep : ∀ w', w.grownBy w' v.ownBlock → ∀ vs y, R w vs y → R w' vs y)
    (K : ∀ v' w', OwnSl R size w' B e v' (n + m) (xs ++ ys) → w.grownBy w' v.ownBlock → Below B w0 w' → wpList Tryd.prog ops Q rest (a.put o.dst v') w') : wpList Tryd.prog ops Q (o :: rest) a w := by
  refine wpList_plain hgd fun K' hK => ?_
  obtain ⟨v', w', hr, h6, h7, _⟩ := run_appAny T G o.type own src hB h63 hn hkeep
  unfold Oper.wp execOp
  simp only [ho, resolve, invoke, builtin, Sem.run_bind, Sem.run_pure, Result.andThen_ok, List.map_toArray, List.map_cons, List.map_nil, hs, hx, hr]
  exact hK _ _ (K v' w' h6 h7 (hb.grown h7 hB (fun k hk => (own.lt k hk).1)))
theorem ints_move (w w' : World) : ∀ vs y, IntR w vs y → IntR w' vs y := fun _ _ h => h
theorem ownInt_one {w : World} {B : Nat} {l : Int} (hB : B ≤ w.heap.size) : OwnInts (w.alloc (.cells #[.int .i64 l] 3)) B (.slice (some ⟨w.heap.size, 0, none⟩) 1 1) 1 [l] :=
  ⟨[.int .i64 l], ⟨rfl, .inr ⟨w.heap.size, 1, #[.int .i64 l], rfl, hB, heap_alloc_new w _, Nat.le_refl _, by simp [maxLen], by simp, by simp⟩⟩, Reads.one (R := IntR) (w := w.alloc (.cells #[.int .i64 l] 3)) (cs := [.int .i64 l]) (vs := fun _ => .int .i64 l) (x := l) rfl rfl (fun j hj => by obtain rfl : j = 0 := (by omega); rfl), rfl⟩
set_option maxRecDepth 100000 in
set_option maxHeartbeats 8000000 in
theorem bwLet_calls {S : Nat → Prop} : ∀ (f : Nat) (k l : Int) (A : Option Addr) (n c : Nat) (ks : List PBlk) (w : World), szB (.mk k l ks) ≤ f → f ≤ 100000 → BX S w A n c ks →
    Calls Tryd.prog 9 #[.agg #[.int .i64 k, .int .i64 l, .slice A n c]] w (fun e w' => ∃ v, e = .returned v ∧ OwnInts w' w.heap.size v (letB (.mk k l ks)).length (letB (.mk k l ks)) ∧ Below w.heap.size w w') := by
  intro f
  induction f with
  | zero =>
    intro k l A n c ks w hf
    have := szB_pos (.mk k l ks)
    exact absurd hf (by omega)
  | succ f ih =>
    intro k l A n c ks w hf hf6 h
    have IH := hide2 ih
    have X0 := hide2 (boxBelow w (.cells #[.int .i64 k, .int .i64 l, .slice A n c] 24))
    have H := hide2 ((h.mono (T := fun k => S k ∧ k < w.heap.size) (fun k hk hs => ⟨hs, hk⟩)).keep X0.out)
    have HL := hide2 (show ks.length = n from h.2.len)
    have hns := h.2.small
    have hsz : szK ks ≤ f := by rw [szB_mk] at hf; omega
    have SZ := hide2 hsz
    have BB := hide2 (Box.new w #[.int .i64 k, .int .i64 l, .slice A n c] 24)
    have LEN := hide2 (show ∀ L : List Int, L ++ letK ([] : List PBlk) = L from fun L => by simp [letK])
    clear ih h hf hsz
    go_enter Tryd.func9, Tryd.ntmps9
    go_upto_region 1 with fail
    generalize w.alloc (.cells #[.int .i64 k, .int .i64 l, .slice A n c] 24) = w1 at *
    obtain ⟨z0, z1, z2⟩ := BB.out.three
    go_upto_if 8 with fail
    go_cut [3] (fun s3 wx => ∃ (v : Value) (m : Nat) (O : List Int), v = s3 ∧ Hid (O = if k = 2 then [l] else []) ∧ m ≤ 1 ∧ Hid (OwnInts wx w.heap.size v m O) ∧ Hid (Below w1.heap.size w1 wx))
    case first =>
      by_cases hk2 : k = 2
      · subst hk2
        go_wp2
        go_meet
        case rel =>
          exact ⟨_, 1, [l], rfl, hide2 (by simp), Nat.le_refl _, hide2 (ownInt_one (Nat.le_of_lt BB.out.lt)), hide2 (boxBelow _ _)⟩
      · have ek2 : (k == 2) = false := by simp [hk2]
        go_wp2
        go_meet
        case rel => exact ⟨_, 0, [], rfl, hide2 (by rw [if_neg hk2]), by omega, hide2 OwnSl.nil, hide2 (Below.refl _ _)⟩
    case rest =>
      obtain ⟨v0, m0, O0, rfl, E0, hm0, OW, BC⟩ := hcut
      clear z0 z1 z2
      obtain ⟨z0, z1, z2⟩ := (BB.out.keep BC.out).three
      have W0 := hide2 (X0.out.trans (BC.out.mono X0.out.size))
      have HW := hide2 (H.out.keep BC.out)
      have LT := hide2 (show w.heap.size < wc.heap.size from Nat.lt_of_lt_of_le BB.out.lt BC.out.size)
      obtain ⟨wd, hwd⟩ : ∃ wd : World, wd = wc := ⟨_, rfl⟩
      subst hwd
      go_wp2
      clear z0 z1 z2
      go_loopw [3, 15] (fun s3 v wr => ∃ (sv : Value) (i nn : Nat) (O : List Int), sv = s3 ∧ i ≤ n ∧ v = .int .i64 i ∧ Hid (O ++ letK (ks.drop i) = O0 ++ letK ks) ∧ nn + szK (ks.drop i) ≤ 100001 ∧ Hid (OwnInts wr w.heap.size sv nn O) ∧ Hid (Below w.heap.size wd wr)) (fun _ v _ => n - (intOf v).toNat)
      case atStart => exact ⟨_, 0, m0, O0, rfl, Nat.zero_le _, rfl, hide2 rfl, by simp; have := SZ.out; omega, OW, hide2 (Below.refl _ _)⟩
      case round =>
        obtain ⟨sv, i, nn, O, rfl, hi, rfl, AC, hnn, OB, BR⟩ := hrel
        by_cases hlt : i < n
        · have hki : (i : Int) < (n : Int) := by omega
          obtain ⟨b4, off4, kd4, lb4, ks4, A4, n4, c4, rfl, hb4, _, hx4, q0, q1, q2, K4⟩ := (HW.out.moveB BR.out.size (fun k _ hk => BR.out.block k hk.2)).get hlt
          have bb4 := boxBelow wr (.cells #[.int .i64 kd4, .int .i64 lb4, .slice A4 n4 c4] 24)
          have DR := hide2 (drop_get hx4.out)
          have sz4 := szK_get hx4.out
          have ll4 := letB_len (.mk kd4 lb4 ks4)
          have CT := hide2 (IH.out kd4 lb4 A4 n4 c4 ks4 (wr.alloc (.cells #[.int .i64 kd4, .int .i64 lb4, .slice A4 n4 c4] 24)) (by have := SZ.out; omega) (by omega) ((K4.keep bb4).mono (fun _ _ h => h.1)))
          obtain ⟨D, hD⟩ : ∃ D, letB (.mk kd4 lb4 ks4) = D := ⟨_, rfl⟩
          have AN := hide2 (show (O ++ D) ++ letK (ks.drop (i + 1)) = O0 ++ letK ks by
            have := AC.out
            rw [DR.out, letK, hD] at this
            rw [List.append_assoc]
            exact this)
          have hn2 : nn + D.length + szK (ks.drop (i + 1)) ≤ 100001 := by rw [DR.out, szK_cons] at hnn; rw [hD] at ll4; omega
          rw [hD] at CT
          have BT := hide2 (BR.out.trans (bb4.mono (Nat.le_trans (Nat.le_of_lt LT.out) BR.out.size)))
          have OT := hide2 (OwnSl.keep IntR.kept OB.out bb4)
          clear bb4 K4 hb4 hD sz4 ll4
          go_wp2_with fail
          refine CT.out.mono ?_
          rintro e w5 ⟨v5, rfl, o5, hb5⟩
          obtain ⟨A5, c5, rfl, s5⟩ := OwnSl.sl o5 (by omega)
          have S5 := hide2 s5
          have B5 := hide2 (BT.out.trans (hb5.mono (Nat.le_trans (Nat.le_of_lt LT.out) BT.out.size)))
          have O5 := hide2 (OwnSl.keep IntR.kept OT.out hb5)
          clear o5 hb5 s5
          go_wp2_with (at_builtin; go_loud (refine wpList_appAny tyInts IntR.good rfl _ _ rfl rfl rfl O5.out S5.out B5.out (Nat.le_trans (Nat.le_of_lt LT.out) B5.out.size) (by omega) (by omega) (fun w' _ => ints_move _ w') ?_; intro v8 w8 own8 hg8 hb8; have O8 := hide2 own8; have B8 := hide2 hb8; clear own8 hg8 hb8))
          go_roundw
          case rel => exact ⟨v8, i + 1, _, _, rfl, by omega, by go_num, AN, hn2, O8, B8⟩
          case measure => simp [intOf]; omega
        · obtain rfl : i = n := by omega
          have EQ := hide2 (show letB (.mk k l ks) = Lib.compact (O.mergeSort fun x y => decide (x ≤ y)) by
            have := AC.out
            rw [← HL.out, List.drop_length, letK, List.append_nil] at this
            rw [letB, this, E0.out])
          have hnn2 : nn ≤ 100001 := by omega
          have LO := hide2 OB.out.len
          have BW := hide2 (BR.out)
          go_wp2_with fail
          refine (sortOwn_calls OB.out (by omega)).mono ?_
          rintro e w2 ⟨rfl, o2, hg2⟩
          have O2 := hide2 o2
          have B2 := hide2 (BW.out.grown hg2 (Nat.le_trans (Nat.le_of_lt LT.out) BR.out.size) (fun k e => (OwnSl.lt OB.out k e).1))
          clear o2 hg2
          go_wp2_with fail
          refine (compactOwn_calls O2.out (by omega)).mono ?_
          rintro e w3 ⟨v3, rfl, o3, hg3⟩
          have O3 := hide2 o3
          have B3 := hide2 (B2.out.grown hg3 (Nat.le_trans (Nat.le_of_lt LT.out) B2.out.size) (fun k e => (OwnSl.lt O2.out k e).1))
          clear o3 hg3
          go_wp2_with fail
          go_ret
          rw [EQ.out]
          exact ⟨v3, rfl, O3.out, W0.out.trans B3.out⟩
end Go.Proofs.YtniolbbhjibobaaDoor
namespace Go.Proofs.YtniolbbhjibobaaDoor
open Go.RowKit

/-- A list whose cells are the call's own. -/
def OwnListR (B : Nat) : World → (Nat → Value) → List Int → Prop := fun w vs xs => ∃ n, OwnInts w B (vs 0) n xs ∧ n ≤ 17592186043904
theorem OwnListR.kept (B : Nat) : Kept (OwnListR B) := fun _ _ _ _ hb ⟨n, h, l⟩ => ⟨n, h.keep IntR.kept hb, l⟩
theorem OwnListR.list {B : Nat} {w : World} {vs : Nat → Value} {xs : List Int} (h : OwnListR B w vs xs) : ListR w vs xs := by
  obtain ⟨n, o, l⟩ := h
  obtain ⟨A, c, e, i⟩ := o.sl (by omega)
  exact ⟨A, n, c, e, i, l⟩
theorem OwnListR.good (B : Nat) : Good (OwnListR B) 1 where
  kept := OwnListR.kept B
  one := fun w vs x h j hj => ListR.good.one w vs x h.list j hj
  pos := by omega
theorem OwnListR.base {B B' : Nat} (hB : B' ≤ B) {w : World} {vs : Nat → Value} {xs : List Int} (h : OwnListR B w vs xs) : OwnListR B' w vs xs := by
  obtain ⟨n, o, l⟩ := h
  exact ⟨n, o.base hB, l⟩
theorem OwnListR.grown {B B2 size n e : Nat} {w w' : World} {v : Value} {cells : List Value} (hown : w.ownsRow B2 e size v n cells) (hne : 3 ≠ e) (hg : w.grownBy w' v.ownBlock) {vs : Nat → Value} {xs : List Int} (h : OwnListR B w vs xs) : OwnListR B w' vs xs := by
  obtain ⟨m, ⟨c1, a1, a2, a3⟩, l⟩ := h
  exact ⟨m, ⟨c1, a1.kept hg (own_ne a1 hown hne), ⟨a2.1, a2.2⟩, a3⟩, l⟩
theorem tyLists : SlTy 25 32 1 24 := SlTy.mk' (z := .slice none 0 0) Tryd.underlying25 (by kernel_rfl) rfl (by decide)
theorem keepLists {B B2 n : Nat} {w : World} {v : Value} {xs : List (List Int)} (h : OwnSl (OwnListR B) 1 w B2 32 v n xs) : ∀ w', w.grownBy w' v.ownBlock → ∀ vs y, OwnListR B w vs y → OwnListR B w' vs y := by
  obtain ⟨cells, h1, _⟩ := h
  exact fun w' hg vs y hy => hy.grown h1 (by decide) hg
theorem Reads.list1 {R : World → (Nat → Value) → List Int → Prop} {w : World} {v : Value} {xs : List Int} (h : R w (fun _ => v) xs) : Reads R 1 w [v] [xs] :=
  Reads.one h rfl (fun j hj => by cases j with | zero => rfl | succ j => omega)
end Go.Proofs.YtniolbbhjibobaaDoor
namespace Go.Proofs.YtniolbbhjibobaaDoor
open Go.RowKit

theorem Box.four {w : World} {b ty : Nat} {u0 u1 u2 u3 : Value} (h : Box w b ty #[u0, u1, u2, u3]) : w.cell? ⟨b, 0, none⟩ = some u0 ∧ w.cell? ⟨b, 1, none⟩ = some u1 ∧ w.cell? ⟨b, 2, none⟩ = some u2 ∧ w.cell? ⟨b, 3, none⟩ = some u3 := ⟨h.cell 0, h.cell 1, h.cell 2, h.cell 3⟩
/-! ### bools -/
def BoolR : World → (Nat → Value) → Bool → Prop := fun _ vs x => vs 0 = .bool x
theorem BoolR.kept : Kept BoolR := fun _ _ _ _ _ h => h
theorem BoolR.good : Good BoolR 1 where
  kept := BoolR.kept
  one := fun w vs x h j hj => by
    obtain rfl : j = 0 := by omega
    rw [h]; rfl
  pos := by omega
abbrev Bools (w : World) (A : Option Addr) (n c : Nat) (xs : List Bool) : Prop := Sl BoolR 1 w A n c xs
theorem Bools.get {w : World} {A : Option Addr} {n c k : Nat} {xs : List Bool} (h : Bools w A n c xs) (hk : k < n) :
    ∃ b off x, A = some ⟨b, off, none⟩ ∧ b < w.heap.size ∧ Hid (xs[k]? = some x) ∧ w.cell? ⟨b, off + k, none⟩ = some (.bool x) := by
  obtain ⟨b, off, x, vs, h1, h2, h3, h4, h5⟩ := Sl.get h hk
  refine ⟨b, off, x, h1, h2, h3, ?_⟩
  have := h4 0 (by omega)
  rw [h5] at this
  simpa using this
/-! ### a row's measure -/
theorem BoolS.uniq {w : World} {g n : Nat} {bs bs' : List Bool} (h : BoolS w g n bs) (h' : BoolS w g n bs') : bs = bs' := by
  apply List.ext_getElem (by rw [h.1, h'.1])
  intro j h1 h2
  have a1 := h.2 j _ (List.getElem?_eq_getElem h1)
  have a2 := h'.2 j _ (List.getElem?_eq_getElem h2)
  rw [a1] at a2
  simpa using a2
open Classical in
noncomputable def rowF (w : World) (g n : Nat) : Nat := if h : ∃ bs, BoolS w g n bs then cntR (Classical.choose h) else 0
/-- Where a round of spread stands. -/
def StQ (ars : List PArc) (lb : Int → Int) (B n g : Nat) (w0 wr : World) (b1 : List Bool) (q : Nat) (b : Bool) : Prop := ∃ b2, (ars.take q).foldl (setQ lb) (b1, false) = (b2, b) ∧ OwnBools wr B g n b2 ∧ Below B w0 wr
theorem StQ.keep {ars : List PArc} {lb : Int → Int} {n g B : Nat} {w0 wr w' : World} {b1 : List Bool} {q : Nat} {b : Bool} (h : StQ ars lb B n g w0 wr b1 q b) (hB : B ≤ wr.heap.size) (hb : Below wr.heap.size wr w') : StQ ars lb B n g w0 w' b1 q b := by
  obtain ⟨b2, h1, h2, h3⟩ := h
  exact ⟨b2, h1, h2.keep hb, h3.trans (hb.mono hB)⟩

end Go.Proofs.YtniolbbhjibobaaDoor
namespace Go.Proofs.YtniolbbhjibobaaDoor
open Go.RowKit

section
variable {w : World} {bp : Nat} {A D Al Ae : Option Addr} {n c m d nl cl ce : Nat} {ars : List PArc} {ls : List Int} {es : List Bool}

end

end Go.Proofs.YtniolbbhjibobaaDoor
namespace Go.Proofs.YtniolbbhjibobaaDoor
open Go.RowKit

/-! ### a row of ints and its measure -/
abbrev IntS (w : World) (g n : Nat) (xs : List Int) : Prop := xs.length = n ∧ ∀ (k : Nat) (x : Int), xs[k]? = some x → w.cell? ⟨g, k, none⟩ = some (.int .i64 x)
theorem IntS.uniq {w : World} {g n : Nat} {xs ys : List Int} (h : IntS w g n xs) (h' : IntS w g n ys) : xs = ys := by
  apply List.ext_getElem (by rw [h.1, h'.1])
  intro j h1 h2
  have a1 := h.2 j _ (List.getElem?_eq_getElem h1)
  have a2 := h'.2 j _ (List.getElem?_eq_getElem h2)
  rw [a1] at a2
  simpa using a2
theorem OwnInts.s {w : World} {B g n cap : Nat} {xs : List Int} (h : OwnInts w B (.slice (some ⟨g, 0, none⟩) n cap) n xs) : IntS w g n xs := ⟨OwnSl.len h, fun _ _ hx => OwnInts.at h hx⟩
open Classical in
noncomputable def rowI (w : World) (g n : Nat) : Nat := if h : ∃ xs, IntS w g n xs then muS n (Classical.choose h) else 0
/-- How far it is, from each. -/
noncomputable def farL (ars : List PArc) (lb : Int → Int) (es : List Bool) (n : Nat) : List Int := (List.range n).map fun (k : Nat) => distI ars lb (fun m => on es m) (k : Int)
theorem farL_at {ars : List PArc} {lb : Int → Int} {es : List Bool} {n k : Nat} (hk : k < n) : atI (farL ars lb es n) (k : Int) = distI ars lb (fun m => on es m) (k : Int) := by
  unfold atI farL
  simp [List.getD_eq_getElem?_getD, hk]
theorem FarI.list {ars : List PArc} {lb : Int → Int} {es : List Bool} {n : Nat} {xs : List Int} (h : FarI ars lb (fun m => on es m) n xs) (ht : ∀ a ∈ ars, Inn n a.to_) (hc : ∀ a ∈ ars, farF lb (xs, false) a = (xs, false)) : xs = farL ars lb es n := by
  apply List.ext_getElem (by rw [h.len]; simp [farL])
  intro j h1 h2
  have hj : j < n := by rw [← h.len]; exact h1
  have h3 := (h.done ht hc hj).eq
  have e1 : xs[j] = atI xs (j : Int) := by
    have := atI_some h1
    rw [List.getElem?_eq_getElem h1] at this
    injection this
  have e2 : (farL ars lb es n)[j] = atI (farL ars lb es n) (j : Int) := by
    have := atI_some h2
    rw [List.getElem?_eq_getElem h2] at this
    injection this
  rw [e1, e2, farL_at hj, h3]
end Go.Proofs.YtniolbbhjibobaaDoor
