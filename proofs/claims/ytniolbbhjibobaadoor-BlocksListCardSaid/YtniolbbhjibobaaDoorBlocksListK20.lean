/- Texts melted into one: The contracts of blocks' silent, then and least. Conditions: the block reads as one; its size bears an int. | The contract of blocks' least. Conditions: the block reads as one and is right; its size bears an int. -/
import Derived.Test.YtniolbbhjibobaaDoorBlocksListK19
import Derived.Lib.MinMax
set_option linter.all false
namespace Go.Proofs.YtniolbbhjibobaaDoor
open Go.RowKit

/-- A block that a call hands back. -/
def AnsB (S : Nat → Prop) (b : PBlk) (w : World) (e : Ending) (w' : World) : Prop := ∃ A n c, e = .returned (.agg #[.int .i64 b.kind, .int .i64 b.label, .slice A n c]) ∧ BX S w' A n c b.kids ∧ Below w.heap.size w w'
theorem BX.nil {S : Nat → Prop} {w : World} : BX S w none 0 0 [] := ⟨fun h => absurd h (by omega), Sl.nil0⟩
set_option maxRecDepth 100000 in
theorem bwSil_calls (S : Nat → Prop) (w : World) : Calls Tryd.prog 31 #[] w (AnsB S silB w) := by
  have B0 := hide2 (boxBelow w (.cells #[.int .i64 1, .int .i64 0, .slice none 0 0] 24))
  go_enter Tryd.func31, Tryd.ntmps31
  go_wp2
  have X0 := hide2 (Box.new w #[.int .i64 1, .int .i64 0, .slice none 0 0] 24)
  generalize w.alloc (.cells #[.int .i64 1, .int .i64 0, .slice none 0 0] 24) = w1 at *
  obtain ⟨z0, z1, z2⟩ := X0.out.three
  exact bodyPost_ret (v := .agg #[.int .i64 1, .int .i64 0, .slice none 0 0]) (by simp [results, Tryd.results31, go_sem, z0, z1, z2]) rfl ⟨none, 0, 0, rfl, BX.nil, B0.out⟩
/-- What a function finds that lays two blocks of three words and one more for its answer. -/
theorem three_boxes (w : World) (x y z x2 y2 z2 x3 y3 z3 : Value) (ty : Nat) {u : World} (hu : u = ((w.alloc (.cells #[x, y, z] ty)).alloc (.cells #[x2, y2, z2] ty)).alloc (.cells #[x3, y3, z3] ty)) :
    Box u w.heap.size ty #[x, y, z] ∧ Box u (w.heap.size + 1) ty #[x2, y2, z2] ∧ Box u (w.heap.size + 1 + 1) ty #[x3, y3, z3] ∧ Below w.heap.size w u := by
  subst hu
  refine ⟨((Box.new w _ _).old _).old _, (Box.newAt (by simp) _ _).old _, Box.newAt (by simp) _ _, ?_⟩
  exact ((boxBelow w _).trans ((boxBelow _ _).mono (by simp))).trans ((boxBelow _ _).mono (by simp; omega))
/-- Two blocks that have just been laid side by side. -/
theorem bx_two {S : Nat → Prop} {w : World} {b ty : Nat} {k l k2 l2 : Int} {A A2 : Option Addr} {n c n2 c2 : Nat} {ks ks2 : List PBlk} (h : Box w b ty #[.int .i64 k, .int .i64 l, .slice A n c, .int .i64 k2, .int .i64 l2, .slice A2 n2 c2]) (hb : S b) (hA : BX S w A n c ks) (hB : BX S w A2 n2 c2 ks2) :
    BX S w (some ⟨b, 0, none⟩) 2 2 [.mk k l ks, .mk k2 l2 ks2] := by
  refine ⟨fun _ a ha => by injection ha with ha; subst ha; exact hb, rfl, by omega, by simp only [maxLen]; omega, by omega, fun ha => (by cases ha), fun _ => ⟨b, 0, rfl, h.lt, fun i x hi => ?_⟩⟩
  match i, hi with
  | 0, hi =>
    injection hi with hi
    subst hi
    exact ⟨fun j => [Value.int .i64 k, .int .i64 l, .slice A n c].getD j undef, fun j hj => by
      match j, hj with
      | 0, _ => exact h.cell 0
      | 1, _ => exact h.cell 1
      | 2, _ => exact h.cell 2, BlkX.mk' hA rfl rfl rfl⟩
  | 1, hi =>
    injection hi with hi
    subst hi
    exact ⟨fun j => [Value.int .i64 k2, .int .i64 l2, .slice A2 n2 c2].getD j undef, fun j hj => by
      match j, hj with
      | 0, _ => exact h.cell 3
      | 1, _ => exact h.cell 4
      | 2, _ => exact h.cell 5, BlkX.mk' hB rfl rfl rfl⟩
  | i + 2, hi => simp at hi
set_option maxRecDepth 100000 in
theorem bwThn_calls {S : Nat → Prop} {w : World} {k l k2 l2 : Int} {A A2 : Option Addr} {n c n2 c2 : Nat} {ks ks2 : List PBlk} (h : BX S w A n c ks) (g : BX S w A2 n2 c2 ks2) :
    Calls Tryd.prog 34 #[.agg #[.int .i64 k, .int .i64 l, .slice A n c], .agg #[.int .i64 k2, .int .i64 l2, .slice A2 n2 c2]] w (AnsB (fun q => S q ∨ w.heap.size ≤ q) (thnB (.mk k l ks) (.mk k2 l2 ks2)) w) := by
  have H := hide2 h
  have G := hide2 g
  obtain ⟨u, hu⟩ : ∃ u, u = ((w.alloc (.cells #[.int .i64 k, .int .i64 l, .slice A n c] 24)).alloc (.cells #[.int .i64 k2, .int .i64 l2, .slice A2 n2 c2] 24)).alloc (.cells #[.int .i64 0, .int .i64 0, .slice none 0 0] 24) := ⟨_, rfl⟩
  obtain ⟨b1, b2, b3, bb⟩ := three_boxes w _ _ _ _ _ _ _ _ _ _ hu
  obtain ⟨p0, p1, p2⟩ := b1.three
  obtain ⟨q0, q1, q2⟩ := b2.three
  obtain ⟨r0, r1, r2⟩ := b3.three
  have f3 := b3.frozen
  have H := hide2 h
  have G := hide2 g
  have BB := hide2 bb
  have B3 := hide2 b3
  have hsz := b3.lt
  clear h g b1 b2 b3 bb
  by_cases h1 : k = 1
  · have e := hide2 (show thnB (.mk k l ks) (.mk k2 l2 ks2) = .mk k2 l2 ks2 from if_pos h1)
    have hk : (k == 1) = true := by simp [h1]
    clear h1
    go_enter Tryd.func34, Tryd.ntmps34
    go_upto_region 1 with fail
    rw [← hu]
    clear hu
    go_wp2
    have X := hide2 (B3.out.set3 (.int .i64 k2) (.int .i64 l2) (.slice A2 n2 c2))
    have Y := hide2 (below_set3 (b := w.heap.size + 1 + 1) BB.out (by omega) (.int .i64 k2) (.int .i64 l2) (.slice A2 n2 c2))
    generalize ((u.setCell ⟨w.heap.size + 1 + 1, 0, none⟩ (.int .i64 k2)).setCell ⟨w.heap.size + 1 + 1, 1, none⟩ (.int .i64 l2)).setCell ⟨w.heap.size + 1 + 1, 2, none⟩ (.slice A2 n2 c2) = u2 at *
    obtain ⟨z0, z1, z2⟩ := X.out.three
    rw [e.out]
    exact bodyPost_ret (v := .agg #[.int .i64 k2, .int .i64 l2, .slice A2 n2 c2]) (by simp [results, Tryd.results34, go_sem, z0, z1, z2]) rfl ⟨A2, n2, c2, rfl, (G.out.keep Y.out).mono (fun q _ hq => .inl hq), Y.out⟩
  · have hk : (k == 1) = false := by simp [h1]
    by_cases h2 : k2 = 1
    · have e := hide2 (show thnB (.mk k l ks) (.mk k2 l2 ks2) = .mk k l ks from (if_neg h1).trans (if_pos h2))
      have hk2 : (k2 == 1) = true := by simp [h2]
      clear h1 h2
      go_enter Tryd.func34, Tryd.ntmps34
      go_upto_region 1 with fail
      rw [← hu]
      clear hu
      go_wp2
      have X := hide2 (B3.out.set3 (.int .i64 k) (.int .i64 l) (.slice A n c))
      have Y := hide2 (below_set3 (b := w.heap.size + 1 + 1) BB.out (by omega) (.int .i64 k) (.int .i64 l) (.slice A n c))
      generalize ((u.setCell ⟨w.heap.size + 1 + 1, 0, none⟩ (.int .i64 k)).setCell ⟨w.heap.size + 1 + 1, 1, none⟩ (.int .i64 l)).setCell ⟨w.heap.size + 1 + 1, 2, none⟩ (.slice A n c) = u2 at *
      obtain ⟨z0, z1, z2⟩ := X.out.three
      rw [e.out]
      exact bodyPost_ret (v := .agg #[.int .i64 k, .int .i64 l, .slice A n c]) (by simp [results, Tryd.results34, go_sem, z0, z1, z2]) rfl ⟨A, n, c, rfl, (H.out.keep Y.out).mono (fun q _ hq => .inl hq), Y.out⟩
    · have e := hide2 (show thnB (.mk k l ks) (.mk k2 l2 ks2) = .mk 3 0 [.mk k l ks, .mk k2 l2 ks2] from (if_neg h1).trans (if_neg h2))
      have hk2 : (k2 == 1) = false := by simp [h2]
      clear h1 h2
      go_enter Tryd.func34, Tryd.ntmps34
      go_upto_region 1 with fail
      rw [← hu]
      clear hu
      go_wp2
      clear r0 r1 r2 p0 p1 p2 q0 q1 q2 f3
      have X3 := hide2 (B3.out.set3 (.int .i64 3) (.int .i64 0) (.slice (some ⟨u.heap.size, 0, none⟩) 2 2))
      have Y3 := hide2 (below_set3 (b := w.heap.size + 1 + 1) BB.out (by omega) (.int .i64 3) (.int .i64 0) (.slice (some ⟨u.heap.size, 0, none⟩) 2 2))
      have hs3 : (((u.setCell ⟨w.heap.size + 1 + 1, 0, none⟩ (.int .i64 3)).setCell ⟨w.heap.size + 1 + 1, 1, none⟩ (.int .i64 0)).setCell ⟨w.heap.size + 1 + 1, 2, none⟩ (.slice (some ⟨u.heap.size, 0, none⟩) 2 2)).heap.size = u.heap.size := by simp [World.setCell]
      generalize ((u.setCell ⟨w.heap.size + 1 + 1, 0, none⟩ (.int .i64 3)).setCell ⟨w.heap.size + 1 + 1, 1, none⟩ (.int .i64 0)).setCell ⟨w.heap.size + 1 + 1, 2, none⟩ (.slice (some ⟨u.heap.size, 0, none⟩) 2 2) = u3 at *
      have NX := hide2 (Box.newAt hs3 #[.int .i64 k, .int .i64 l, .slice A n c, .int .i64 k2, .int .i64 l2, .slice A2 n2 c2] 24)
      have X := hide2 (X3.out.old (.cells #[.int .i64 k, .int .i64 l, .slice A n c, .int .i64 k2, .int .i64 l2, .slice A2 n2 c2] 24))
      have Y := hide2 (Y3.out.trans ((boxBelow u3 (.cells #[.int .i64 k, .int .i64 l, .slice A n c, .int .i64 k2, .int .i64 l2, .slice A2 n2 c2] 24)).mono Y3.out.size))
      generalize u3.alloc (.cells #[.int .i64 k, .int .i64 l, .slice A n c, .int .i64 k2, .int .i64 l2, .slice A2 n2 c2] 24) = u2 at *
      obtain ⟨z0, z1, z2⟩ := X.out.three
      rw [e.out]
      exact bodyPost_ret (v := .agg #[.int .i64 3, .int .i64 0, .slice (some ⟨u.heap.size, 0, none⟩) 2 2]) (by simp [results, Tryd.results34, go_sem, z0, z1, z2]) rfl ⟨_, 2, 2, rfl, bx_two NX.out (by omega) ((H.out.keep Y.out).mono (fun q _ hq => .inl hq)) ((G.out.keep Y.out).mono (fun q _ hq => .inl hq)), Y.out⟩
end Go.Proofs.YtniolbbhjibobaaDoor
namespace Go.Proofs.YtniolbbhjibobaaDoor
open Go.RowKit

theorem drop_get {α : Type} : ∀ {l : List α} {i : Nat} {x : α}, l[i]? = some x → l.drop i = x :: l.drop (i + 1)
  | a :: l, 0, x, h => by injection h with h; subst h; rfl
  | a :: l, i + 1, x, h => by
    have := drop_get (l := l) (i := i) (x := x) (by simpa using h)
    simpa using this
theorem wfB.kids {k l : Int} {ks : List PBlk} (h : wfB (.mk k l ks)) : wfK ks := by
  rcases h.shp with ⟨⟩ | ⟨⟩ | ⟨_, _, _, h⟩ | ⟨_, _, _, h⟩ | ⟨_, _, _, h⟩ | ⟨_, _, _, hx, hy⟩
  · trivial
  · trivial
  · exact h
  · exact h
  · exact h
  · exact ⟨hx, hy, trivial⟩
theorem wfK.get {ks : List PBlk} {i : Nat} {b : PBlk} (h : wfK ks) (hx : ks[i]? = some b) : wfB b := wfK_iff.1 h b (List.mem_of_getElem? hx)
theorem szK_get {ks : List PBlk} {i : Nat} {b : PBlk} (hx : ks[i]? = some b) : szB b ≤ szK ks := szK_mem (List.mem_of_getElem? hx)
/-- Where the loop stands. -/
def LstI (k : Int) (ks : List PBlk) (R : Nat) (F i nn : Nat) : Prop := leastK k (decide (i = 0)) nn (ks.drop i) = R ∧ nn + szK (ks.drop i) ≤ F
theorem LstI.one {k : Int} {ks : List PBlk} {R F nn : Nat} {b : PBlk} (h : LstI k ks R F 0 nn) (hx : ks[0]? = some b) (hw : wfB b) : LstI k ks R F 1 (leastB b) := by
  obtain ⟨h1, h2⟩ := h
  rw [drop_get hx] at h1 h2
  rw [szK_cons] at h2
  have := least_sz b hw
  exact ⟨by simpa [leastK] using h1, show leastB b + szK (ks.drop (0 + 1)) ≤ F by omega⟩
theorem LstI.four {ks : List PBlk} {R F i nn : Nat} {b : PBlk} (h : LstI 4 ks R F i nn) (hi : i ≠ 0) (hx : ks[i]? = some b) : LstI 4 ks R F (i + 1) (min nn (leastB b)) := by
  obtain ⟨h1, h2⟩ := h
  rw [drop_get hx] at h1 h2
  rw [szK_cons] at h2
  exact ⟨by simpa [leastK, hi] using h1, by have := Nat.min_le_left nn (leastB b); omega⟩
theorem LstI.six {ks : List PBlk} {R F i nn : Nat} {b : PBlk} (h : LstI 6 ks R F i nn) (hi : i ≠ 0) (hx : ks[i]? = some b) : LstI 6 ks R F (i + 1) nn := by
  obtain ⟨h1, h2⟩ := h
  rw [drop_get hx] at h1 h2
  rw [szK_cons] at h2
  exact ⟨by simpa [leastK, hi] using h1, by omega⟩
theorem LstI.sum {k : Int} {ks : List PBlk} {R F i nn : Nat} {b : PBlk} (h : LstI k ks R F i nn) (h4 : k ≠ 4) (h6 : k ≠ 6) (hi : i ≠ 0) (hx : ks[i]? = some b) (hw : wfB b) : LstI k ks R F (i + 1) (nn + leastB b) := by
  obtain ⟨h1, h2⟩ := h
  rw [drop_get hx] at h1 h2
  rw [szK_cons] at h2
  have := least_sz b hw
  exact ⟨by simpa [leastK, hi, h4, h6] using h1, by omega⟩
set_option maxRecDepth 100000 in
set_option maxHeartbeats 4000000 in
theorem bwLeast_calls {S : Nat → Prop} : ∀ (f : Nat) (k l : Int) (A : Option Addr) (n c : Nat) (ks : List PBlk) (w : World), szB (.mk k l ks) ≤ f → f ≤ 1000000 → wfB (.mk k l ks) → BX S w A n c ks →
    Calls Tryd.prog 18 #[.agg #[.int .i64 k, .int .i64 l, .slice A n c]] w (fun e w' => e = .returned (.int .i64 (leastB (.mk k l ks) : Nat)) ∧ Below w.heap.size w w') := by
  intro f
  induction f with
  | zero =>
    intro k l A n c ks w hf
    have := szB_pos (.mk k l ks)
    exact absurd hf (by omega)
  | succ f ih =>
    intro k l A n c ks w hf hf6 hw h
    have IH := hide2 ih
    have hb := boxBelow w (.cells #[.int .i64 k, .int .i64 l, .slice A n c] 24)
    have H := hide2 (h.keep hb)
    have HL := hide2 (show ks.length = n from h.2.len)
    have hns := h.2.small
    have X0 := hide2 hb
    have W := hide2 hw.kids
    have hsz : szK ks ≤ f := by rw [szB_mk] at hf; omega
    have SZ := hide2 hsz
    have BB := hide2 (Box.new w #[.int .i64 k, .int .i64 l, .slice A n c] 24)
    clear ih hw h hb hf hsz
    by_cases hk2 : k = 2
    · subst hk2
      have e := hide2 (show leastB (.mk 2 l ks) = 1 from least_step)
      go_enter Tryd.func18, Tryd.ntmps18
      go_upto_region 1 with fail
      generalize w.alloc (.cells #[.int .i64 2, .int .i64 l, .slice A n c] 24) = u2 at *
      obtain ⟨b0, b1, b2⟩ := BB.out.three
      go_wp2
      go_ret
      rw [e.out]
      exact ⟨rfl, X0.out⟩
    · have ek2 : (k == 2) = false := by simp [hk2]
      have e := hide2 (show LstI k ks (leastB (.mk k l ks)) (f + 1) 0 0 from ⟨by rw [leastB, if_neg hk2]; rfl, by have := SZ.out; simp; omega⟩)
      go_enter Tryd.func18, Tryd.ntmps18
      go_upto_region 1 with fail
      generalize w.alloc (.cells #[.int .i64 k, .int .i64 l, .slice A n c] 24) = u2 at *
      obtain ⟨b0, b1, b2⟩ := BB.out.three
      go_upto_region 4 with fail
      obtain ⟨wo, hwo⟩ : ∃ wo : World, wo = u2 := ⟨_, rfl⟩
      subst hwo
      go_wp2
      clear b0 b1 b2
      go_loopw [3, 13] (fun hv v wr => ∃ (i nn : Nat), i ≤ n ∧ v = .int .i64 i ∧ hv = .int .i64 nn ∧ nn ≤ 1000001 ∧ Hid (LstI k ks (leastB (.mk k l ks)) (f + 1) i nn) ∧ Hid (Below wo.heap.size wo wr)) (fun _ v _ => n - (intOf v).toNat)
      case atStart => exact ⟨0, 0, Nat.zero_le _, rfl, rfl, by omega, e, Below.refl _ _⟩
      case round =>
        obtain ⟨i, nn, hi, rfl, rfl, hnn, FO, X2⟩ := hrel
        by_cases hlt : i < n
        · have hki : (i : Int) < (n : Int) := by omega
          obtain ⟨bl, off, kd', lb', ks', B', m', e', rfl, hbl, _, hx, q0, q1, q2, K'⟩ := (H.out.keep X2.out).get hlt
          have wb := W.out.get hx.out
          have sb := szK_get hx.out
          have bb2 := boxBelow wr (.cells #[.int .i64 kd', .int .i64 lb', .slice B' m' e'] 24)
          have X3 := hide2 (X2.out.trans (bb2.mono X2.out.size))
          obtain ⟨m, hm⟩ : ∃ m, leastB (.mk kd' lb' ks') = m := ⟨_, rfl⟩
          have hmm : m ≤ 1000000 := by have := least_sz _ wb; have := SZ.out; omega
          have CI := hide2 (IH.out kd' lb' B' m' e' ks' (wr.alloc (.cells #[.int .i64 kd', .int .i64 lb', .slice B' m' e'] 24)) (by have := SZ.out; omega) (by omega) wb (K'.keep bb2))
          have bz := hide2 ((BB.out.keep X2.out).old (.cells #[.int .i64 kd', .int .i64 lb', .slice B' m' e'] 24))
          have F1 := hide2 (fun (h : i = 0) => LstI.one (by subst h; exact FO.out) (by subst h; exact hx.out) wb)
          have F4 := hide2 (fun (h : k = 4) (hi : i ≠ 0) => LstI.four (by subst h; exact FO.out) hi hx.out)
          have F6 := hide2 (fun (h : k = 6) (hi : i ≠ 0) => LstI.six (by subst h; exact FO.out) hi hx.out)
          have F0 := hide2 (fun (h4 : k ≠ 4) (h6 : k ≠ 6) (hi : i ≠ 0) => LstI.sum FO.out h4 h6 hi hx.out wb)
          rw [hm] at F1 F4 F0
          clear bb2 hx wb sb
          by_cases hi0 : i = 0
          · subst hi0
            have G1 := hide2 (F1.out rfl)
            simp only [Nat.zero_mul, Nat.add_zero] at q0 q1 q2
            clear F1 F4 F6 F0
            go_wp2_with (go_at_call 18; (with_reducible refine CI.out.mono ?_); rintro e w4 ⟨rfl, hb4⟩; rw [hm]; obtain ⟨b0, b1, b2⟩ := (bz.out.keep hb4).three; have X4 := hide2 (X3.out.trans (hb4.mono X3.out.size)); clear hb4)
            go_roundw
            case rel => exact ⟨0 + 1, m, by omega, by go_num, rfl, by omega, hide2 G1.out, X4⟩
            case measure => simp [intOf]; omega
          · have hi0i : ((i : Int) == 0) = false := by simp; omega
            by_cases h4 : k = 4
            · subst h4
              obtain ⟨M, hM⟩ : ∃ M, min nn m = M := ⟨_, rfl⟩
              have hMi : min (nn : Int) (m : Int) = (M : Int) := by omega
              have G1 := hide2 (F4.out rfl hi0)
              rw [hM] at G1
              have hM6 : M ≤ 1000001 := by omega
              clear F1 F4 F6 F0 hM
              go_wp2_with (go_at_call 18; (with_reducible refine CI.out.mono ?_); rintro e w4 ⟨rfl, hb4⟩; rw [hm]; obtain ⟨b0, b1, b2⟩ := (bz.out.keep hb4).three; have X4 := hide2 (X3.out.trans (hb4.mono X3.out.size)); clear hb4)
              go_roundw
              case rel => exact ⟨i + 1, M, by omega, by go_num, rfl, by omega, hide2 G1.out, X4⟩
              case measure => simp [intOf]; omega
            · have e4 : (k == 4) = false := by simp [h4]
              by_cases h6 : k = 6
              · subst h6
                have G1 := hide2 (F6.out rfl hi0)
                clear F1 F4 F6 F0
                go_wp2_with (go_at_call 18; (with_reducible refine CI.out.mono ?_); rintro e w4 ⟨rfl, hb4⟩; rw [hm]; obtain ⟨b0, b1, b2⟩ := (bz.out.keep hb4).three; have X4 := hide2 (X3.out.trans (hb4.mono X3.out.size)); clear hb4)
                go_roundw
                case rel => exact ⟨i + 1, nn, by omega, by go_num, rfl, by omega, hide2 G1.out, X4⟩
                case measure => simp [intOf]; omega
              · have e6 : (k != 6) = true := by simp [h6]
                have G1 := hide2 (F0.out h4 h6 hi0)
                have hs := G1.out.2
                have hs6 : nn + m ≤ 1000001 := by omega
                clear F1 F4 F6 F0 hs
                go_wp2_with (go_at_call 18; (with_reducible refine CI.out.mono ?_); rintro e w4 ⟨rfl, hb4⟩; rw [hm]; obtain ⟨b0, b1, b2⟩ := (bz.out.keep hb4).three; have X4 := hide2 (X3.out.trans (hb4.mono X3.out.size)); clear hb4)
                go_roundw
                case rel => exact ⟨i + 1, nn + m, by omega, by go_num, by go_num, by omega, hide2 G1.out, X4⟩
                case measure => simp [intOf]; omega
        · obtain rfl : i = n := by omega
          have FE := hide2 (show leastB (.mk k l ks) = nn by have := FO.out.1; rw [← HL.out, List.drop_length, leastK] at this; exact this.symm)
          go_wp2
          go_ret
          rw [FE.out]
          exact ⟨rfl, X0.out.trans (X2.out.mono X0.out.size)⟩
end Go.Proofs.YtniolbbhjibobaaDoor
