/- The contract of the reference's FMost: the same places as Most. Conditions: the net and the places read as lists. -/
import Derived.Test.YtldljjmibaaokaaSipD
import Derived.Test.YtldljjmibaaokaaSipE
import Derived.Test.YtldljjmibaaokaaSipF
import Derived.Test.YtldljjmibaaokaaDelF
import Derived.Test.YtldljjmibaaokaaLayS
import Derived.Sort.OwnSortedInts
namespace Go.Proofs.Ytldljjmibaaokaa
open Go.RowKit

set_option maxRecDepth 100000 in
set_option maxHeartbeats 1000000 in
/-- slices.Sort on a slice of the call's own. -/
theorem sortOwn_calls {w : World} {B n : Nat} {v : Value} {xs : List Int} (h : OwnInts w B v n xs) (hn : n ≤ 17592186044416) :
    Calls Try.prog 80 #[v] w fun e w' => e = .returned (.tuple #[]) ∧ OwnInts w' B v n (xs.mergeSort fun x y => decide (x ≤ y)) ∧ w.grownBy w' v.ownBlock := by
  have hl := h.len
  subst hl
  rcases h.row.2 with ⟨rfl, h0⟩ | ⟨g, cap, cur, rfl, hg, hb, h1, h2, h3, h4⟩
  · have hx : xs = [] := List.eq_nil_of_length_eq_zero h0
    subst hx
    refine (slices_Sort_int_none none 0 w).mono ?_
    rintro e w' ⟨rfl, rfl⟩
    exact ⟨rfl, by simpa using h, World.grownBy.refl _ _⟩
  · refine (slices_Sort_int g 0 cap xs w (holds_of_blockI hb (by simpa using h4)) (Array.getElem?_eq_some_iff.1 hb).1 (by omega)).mono ?_
    rintro e w' ⟨rfl, q, os, rfl⟩
    exact ⟨rfl, OwnInts.of_row (ownsRow_sortedI (by simp) hg hb h1 h2 h3), grownBy_sortedI _⟩
theorem own_cut {w : World} {B e n k g cap : Nat} {cells : List Value} (h : w.ownsRow B e 1 (.slice (some ⟨g, 0, none⟩) n cap) n cells) (hk : k ≤ n) : w.ownsRow B e 1 (.slice (some ⟨g, 0, none⟩) k cap) k (cells.take k) := by
  obtain ⟨h0, h1⟩ := h
  refine ⟨by rw [List.length_take]; omega, ?_⟩
  rcases h1 with ⟨hv, _⟩ | ⟨g', cap', cur, hv, hg, hb, a1, a2, a3, a4⟩
  · cases hv
  · injection hv with e1 e2 e3
    subst e3
    injection e1 with e1
    injection e1 with e1
    subst e1
    refine .inr ⟨g, cap, cur, rfl, hg, hb, by omega, a2, a3, ?_⟩
    rw [← a4, List.take_take]
    congr 1
    omega
theorem compact_len (xs : List Int) : (Lib.compact xs).length ≤ xs.length := by
  unfold Lib.compact Lib.compactUpTo
  rw [List.length_map]
  exact Nat.le_trans (List.length_filter_le _ _) (by simp)
set_option maxRecDepth 100000 in
set_option maxHeartbeats 1000000 in
/-- slices.Compact on a slice of the call's own. -/
theorem compactOwn_calls {w : World} {B n : Nat} {v : Value} {xs : List Int} (h : OwnInts w B v n xs) (hn : n ≤ 17592186044416) :
    Calls Try.prog 70 #[v] w fun e w' => ∃ v', e = .returned v' ∧ OwnInts w' B v' (Lib.compact xs).length (Lib.compact xs) ∧ w.grownBy w' v.ownBlock := by
  have hl := h.len
  subst hl
  rcases h.row.2 with ⟨rfl, h0⟩ | ⟨g, cap, cur, rfl, hg, hb, h1, h2, h3, h4⟩
  · have hx : xs = [] := List.eq_nil_of_length_eq_zero h0
    subst hx
    refine (slices_Compact_int_empty none 0 w).mono ?_
    rintro e w' ⟨rfl, rfl⟩
    exact ⟨_, rfl, OwnSl.nil, World.grownBy.refl _ _⟩
  · have hlen := compact_len xs
    refine (slices_Compact_int g 0 cap xs w (holds_of_blockI hb (by simpa using h4)) (by omega) h1).mono ?_
    rintro e w' ⟨rfl, q, rfl⟩
    refine ⟨_, rfl, ?_, ?_⟩
    · have key := ownsRow_sortedI (w := w) (n := q) (os := #[]) (ss := xs) (ts := Lib.compact xs ++ List.replicate (xs.length - (Lib.compact xs).length) 0) (by simp; omega) hg hb h1 h2 h3
      rw [Sort.grow_empty] at key
      have := own_cut key hlen
      rw [List.map_append, List.take_left' (by simp)] at this
      exact OwnInts.of_row this
    · have := grownBy_sortedI (w := w) (g := g) (n := q) (os := #[]) (Lib.compact xs ++ List.replicate (xs.length - (Lib.compact xs).length) 0).toArray
      rwa [Sort.grow_empty] at this

set_option maxRecDepth 100000 in
set_option maxHeartbeats 1000000 in
theorem sorted_calls {w : World} {bx m c : Nat} {A : Option Addr} {xs : List Int} (hb : bx < w.heap.size) (hc : w.cell? ⟨bx, 0, none⟩ = some (.slice A m c)) (h : Ints w A m c xs) (hm : m ≤ 17592186044416) :
    Calls Try.prog 71 #[.func (.func 98) #[] #[.pointer (some ⟨bx, 0, none⟩)]] w fun e w' => ∃ v, e = .returned v ∧ OwnInts w' w.heap.size v m (xs.mergeSort fun x y => decide (x ≤ y)) ∧ Below w.heap.size w w' := by
  have H := hide2 h
  have HC := hide2 hc
  clear h hc
  go_enter Try.func71, Try.ntmps71
  go_wp2_with fail
  refine (collect_calls hb HC.out H.out hm).mono ?_
  rintro e w1 ⟨v, rfl, own, hb1⟩
  have OW := hide2 own
  have B1 := hide2 hb1
  clear own hb1
  go_wp2_with fail
  refine (sortOwn_calls OW.out hm).mono ?_
  rintro e w2 ⟨rfl, own2, hg⟩
  have O2 := hide2 own2
  have B2 := hide2 (B1.out.grown hg B1.out.size (fun k e => (OW.out.lt k e).1))
  clear own2 hg
  go_wp2
  go_ret
  exact ⟨v, rfl, O2.out, B2.out⟩

/-! ### who cannot be in -/
set_option maxRecDepth 100000 in
set_option maxHeartbeats 1000000 in
theorem out_predT {w : World} {ts : List PTran} {bp bi q : Nat} {A : Option Addr} {m c : Nat} {xs : List Int} (cp : Box w bp 3 #[.int .i64 (q : Int)]) (ci : Box w bi 25 #[.slice A m c]) (h : Ints w A m c xs) (hq : ∀ t ∈ ts, q < t.post.length) :
    IsPredT 74 #[.pointer (some ⟨bp, 0, none⟩), .pointer (some ⟨bi, 0, none⟩)] w ts (fun t => decide (0 < t.post.getD q 0) && !fanyW t.pre xs) where
  enters := fun args w => by kernel_rfl
  calls := fun wr t A1 n1 d1 A2 n2 d2 hb ht i1 i2 => by
    have bb := boxBelow wr (.cells #[.int .i64 t.label, .slice A1 n1 d1, .slice A2 n2 d2] 79)
    have hqn : q < n2 := by rw [← i2.len]; exact hq t ht
    have X1 := hide2 (Box.new wr #[.int .i64 t.label, .slice A1 n1 d1, .slice A2 n2 d2] 79)
    have XP := hide2 ((cp.keep hb).old (.cells #[.int .i64 t.label, .slice A1 n1 d1, .slice A2 n2 d2] 79))
    have XI := hide2 ((ci.keep hb).old (.cells #[.int .i64 t.label, .slice A1 n1 d1, .slice A2 n2 d2] 79))
    have J1 := hide2 (Ints.keep i1 bb)
    have G := hide2 ((h.keep hb).keep bb)
    have BB := hide2 bb
    obtain ⟨b2, o2, y, rfl, hb2, hy, q2⟩ := Ints.get (k := q) (Ints.keep i2 bb) hqn
    have hq2 : (q : Int) < (n2 : Int) := by omega
    have GY := hide2 (show t.post.getD q 0 = y by rw [List.getD_eq_getElem?_getD, hy.out]; rfl)
    clear hb ht i1 i2 cp ci h hq bb
    show Calls Try.prog 74 #[.agg #[.int .i64 t.label, .slice A1 n1 d1, .slice (some ⟨b2, o2, none⟩) n2 d2], .pointer (some ⟨bp, 0, none⟩), .pointer (some ⟨bi, 0, none⟩)] wr _
    rw [GY.out]
    go_enter Try.func74, Try.ntmps74
    go_upto_region 1 with fail
    generalize wr.alloc (.cells #[.int .i64 t.label, .slice A1 n1 d1, .slice (some ⟨b2, o2, none⟩) n2 d2] 79) = w0 at *
    obtain ⟨c0, c1, c2⟩ := X1.out.three
    have cp := XP.out.cell 0
    have ci := XI.out.cell 0
    simp only [List.getElem?_toArray, List.getElem?_cons_zero] at cp ci
    by_cases h1 : 0 < y
    · go_wp2_with (refine (fany_calls J1.out G.out).mono ?_; rintro e w4 ⟨rfl, rfl⟩)
      go_ret
      exact ⟨ret_bool (by simp [h1]), BB.out⟩
    · go_wp2
      go_ret
      exact ⟨ret_bool (by rw [show decide (0 < y) = false from decide_eq_false (by omega)]; rfl), BB.out⟩

set_option maxRecDepth 100000 in
set_option maxHeartbeats 1000000 in
theorem out_predB {w : World} {P : Nat} {B : Option Addr} {n d : Nat} {ts : List PTran} {bn bi : Nat} {A : Option Addr} {m c : Nat} {xs : List Int} (cn : Box w bn 24 #[.int .i64 (P : Int), .slice B n d]) (ci : Box w bi 25 #[.slice A m c]) (ht : Trans w B n d ts) (h : Ints w A m c xs)
    (hx : ∀ x ∈ xs, 0 ≤ x ∧ x < (P : Int)) (hq : ∀ t ∈ ts, t.post.length = P) :
    IsPredB 73 #[.pointer (some ⟨bn, 0, none⟩), .pointer (some ⟨bi, 0, none⟩)] w xs (outF ts xs) where
  enters := fun args w => by kernel_rfl
  calls := fun wr x hb hm => by
    obtain ⟨h0, h1⟩ := hx x hm
    obtain ⟨q, rfl⟩ : ∃ q : Nat, x = (q : Int) := ⟨x.toNat, by omega⟩
    have bb := boxBelow wr (.cells #[.int .i64 (q : Int)] 3)
    have XP := hide2 (Box.new wr #[.int .i64 (q : Int)] 3)
    have XN := hide2 ((cn.keep hb).old (.cells #[.int .i64 (q : Int)] 3))
    have XI := hide2 ((ci.keep hb).old (.cells #[.int .i64 (q : Int)] 3))
    have T := hide2 ((ht.keep hb).keep bb)
    have G := hide2 ((h.keep hb).keep bb)
    have BB := hide2 bb
    have HQ := hide2 (show ∀ t ∈ ts, q < t.post.length from fun t hk => by rw [hq t hk]; omega)
    clear hb hm cn ci ht h hx hq bb
    show Calls Try.prog 73 #[.int .i64 (q : Int), .pointer (some ⟨bn, 0, none⟩), .pointer (some ⟨bi, 0, none⟩)] wr _
    go_enter Try.func73, Try.ntmps73
    go_upto_region 1 with fail
    generalize wr.alloc (.cells #[.int .i64 (q : Int)] 3) = w0 at *
    obtain ⟨c0, c1⟩ := XN.out.two
    go_wp2_with fail
    refine (containsTrans_calls T.out (out_predT XP.out XI.out G.out HQ.out)).mono ?_
    rintro e w4 ⟨rfl, hb⟩
    go_wp2
    go_ret
    exact ⟨ret_bool rfl, BB.out.trans (hb.mono BB.out.size)⟩

def lenAt (b : Nat) (w : World) : Nat := match w.cell? ⟨b, 0, none⟩ with
  | some (.slice _ n _) => n
  | _ => 0
theorem lenAt_eq {b : Nat} {w : World} {A : Option Addr} {n c : Nat} (h : w.cell? ⟨b, 0, none⟩ = some (.slice A n c)) : lenAt b w = n := by simp [lenAt, h]
/-- Between two rounds of FMost. -/
def FmW (w : World) (b5 : Nat) (ts : List PTran) (l : List Int) (wr : World) : Prop :=
  ∃ A m c xs, Box wr b5 25 #[.slice A m c] ∧ Ints wr A m c xs ∧ RefS ts l xs ∧ m ≤ 16 ∧ Below w.heap.size w wr

set_option maxRecDepth 100000 in
set_option maxHeartbeats 4000000 in
theorem fmost_calls {w : World} {P : Int} {A B : Option Addr} {n c m d : Nat} {ts : List PTran} {l : List Int} (h : Trans w A n c ts) (g : Ints w B m d l) (hm : m ≤ 17592186044416) :
    Calls Try.prog 23 #[.agg #[.int .i64 P, .slice A n c], .slice B m d] w (AnsMost ⟨P, ts⟩ l w) := by
  have X0 := hide2 (Box.new w #[.int .i64 P, .slice A n c] 24)
  have B0 := hide2 (boxBelow w (.cells #[.int .i64 P, .slice A n c] 24))
  have H := hide2 h
  have G := hide2 g
  clear h g
  obtain ⟨r, hr⟩ : ∃ r, wholeB ⟨P, ts⟩ l = r := ⟨_, rfl⟩
  have HR := hide2 hr
  clear hr
  go_enter Try.func23, Try.ntmps23
  go_upto_region 1 with fail
  generalize w.alloc (.cells #[.int .i64 P, .slice A n c] 24) = w0 at *
  obtain ⟨c0, c1⟩ := X0.out.two
  cases r
  · go_wp2_with fail
    refine (fplaces_calls (P := P) (H.out.keep B0.out) (G.out.keep B0.out)).mono ?_
    rw [HR.out]
    rintro e w1 ⟨rfl, hb⟩
    have B1 := hide2 (B0.out.trans (hb.mono B0.out.size))
    clear hb
    go_wp2
    go_ret
    exact ⟨none, 0, 0, [], rfl, Sl.nil0, by rw [MostP, HR.out]; rfl, B1.out⟩
  · go_wp2_with fail
    refine (fplaces_calls (P := P) (H.out.keep B0.out) (G.out.keep B0.out)).mono ?_
    rw [HR.out]
    rintro e w1 ⟨rfl, hb⟩
    have X1 := hide2 (X0.out.keep hb)
    have B1 := hide2 (B0.out.trans (hb.mono B0.out.size))
    clear hb c0 c1
    obtain ⟨k1, k2⟩ := whole_in HR.out
    have k3 := (netOk_iff _).1 k1
    try simp only [] at k3 k2
    obtain ⟨p, rfl⟩ : ∃ p : Nat, P = (p : Int) := ⟨P.toNat, by omega⟩
    have hp16 : p ≤ 16 := by omega
    have K2 := hide2 k2
    have TK := hide2 (tok_of (N := ⟨(p : Int), ts⟩) k1)
    have TL := hide2 (show ∀ t ∈ ts, t.post.length = p from fun t ht => by
      have := ((tranOk_iff _ _).1 (k3.2.2.2 t ht)).2.2.2.1
      try simp only [] at this
      omega)
    have RS := hide2 (RefS.start (ts := ts) (l := l) (fun x hx => (K2.out x hx).1))
    clear k1 k2 k3
    go_wp2_with fail
    refine (values_calls w1 B m d).mono ?_
    rintro e w2 ⟨rfl, hw2⟩
    have bb : Below w1.heap.size w1 w2 := by rw [hw2]; exact boxBelow _ _
    have XV := hide2 (show Box w2 w1.heap.size 25 #[.slice B m d] by rw [hw2]; exact Box.new w1 _ _)
    have X2 := hide2 (X1.out.keep bb)
    have B2 := hide2 (B1.out.trans (bb.mono B1.out.size))
    clear hw2 bb
    go_wp2_with fail
    refine (sorted_calls XV.out.lt (XV.out.cell 0) (G.out.keep B2.out) hm).mono ?_
    rintro e w3 ⟨v3, rfl, own3, hb⟩
    have O3 := hide2 own3
    have X3 := hide2 (X2.out.keep hb)
    have B3 := hide2 (B2.out.trans (hb.mono B2.out.size))
    have NB := hide2 X2.out.lt
    clear own3 hb
    go_wp2_with fail
    refine (compactOwn_calls O3.out hm).mono ?_
    rintro e w4 ⟨v4, rfl, own4, hg⟩
    have X4 := hide2 (X3.out.grown hg (fun e => by have := (O3.out.lt _ e).1; have := NB.out; omega))
    have B4 := hide2 (B3.out.grown hg B3.out.size (fun k e => Nat.le_trans B2.out.size (O3.out.lt k e).1))
    have LE := hide2 (asc_len (P := p) RS.out.1 (fun x hx => K2.out x (RS.out.2.1 x hx).2))
    obtain ⟨A4, c4, rfl, i4⟩ := own4.sl (by have := LE.out; omega)
    have I4 := hide2 i4
    clear own4 hg i4
    generalize Lib.compact (l.mergeSort fun x y => decide (x ≤ y)) = xs0 at *
    generalize hm0 : xs0.length = m0 at *
    have bb := boxBelow w4 (.cells #[.slice A4 m0 c4] 25)
    have XB := hide2 (Box.new w4 #[.slice A4 m0 c4] 25)
    have X5 := hide2 (X4.out.keep bb)
    have B5 := hide2 (B4.out.trans (bb.mono B4.out.size))
    have I5 := hide2 (Ints.keep I4.out bb)
    have HM0 := hide2 hm0
    have NE := hide2 (show w.heap.size < w4.heap.size from Nat.lt_of_lt_of_le X4.out.lt (Nat.le_refl _))
    clear bb hm0
    go_upto_region 4 with fail
    generalize w4.alloc (.cells #[.slice A4 m0 c4] 25) = w5 at *
    generalize w4.heap.size = b5 at *
    clear X0 X1 X2 X3 X4 XV O3 B0 B1 B2 B3 B4 I4 NB
    go_loopw [6] (fun _ wr => ∃ (A' : Option Addr) (m' c' : Nat) (xs : List Int), Hid (Box wr b5 25 #[.slice A' m' c']) ∧ Hid (Ints wr A' m' c' xs) ∧ Hid (RefS ts l xs) ∧ Hid (Box wr w.heap.size 24 #[.int .i64 (p : Int), .slice A n c]) ∧ Hid (Below w.heap.size w wr)) (fun _ wr => lenAt b5 wr)
    case atStart => exact ⟨A4, m0, c4, xs0, XB, I5, RS, X5, B5⟩
    case round =>
      obtain ⟨A', m', c', xs, XR, IX, RX, XN, BR⟩ := hrel
      have XL := hide2 IX.out.len
      have hm16 : m' ≤ 16 := by
        rw [← XL.out]
        exact Nat.le_trans (asc_len (P := p) RX.out.1 (fun x hx => K2.out x (RX.out.2.1 x hx).2)) hp16
      have c0 := XR.out.cell 0
      simp only [List.getElem?_toArray, List.getElem?_cons_zero] at c0
      have LN := hide2 (lenAt_eq c0)
      have PB := hide2 (out_predB XN.out XR.out (H.out.keep BR.out) IX.out (fun x hx => K2.out x (RX.out.2.1 x hx).2) TL.out)
      go_wp2_with fail
      refine (cloneInts_calls IX.out (by omega)).mono ?_
      rintro e w6 ⟨v6, rfl, own6, hb6⟩
      have O6 := hide2 own6
      have B6 := hide2 hb6
      clear own6 hb6
      go_wp2_with fail
      refine (deleteB_any O6.out (by omega) B6.out PB.out).mono ?_
      rintro e w7 ⟨A7, k7, c7, rfl, i7, hb7⟩
      have I7 := hide2 i7
      have B7 := hide2 hb7
      have XR7 := hide2 (XR.out.keep hb7)
      have L7 := hide2 i7.len
      have KL := hide2 (show k7 ≤ m' by rw [← i7.len, ← XL.out]; exact List.length_filter_le _ _)
      clear i7 hb7 c0
      have c0 := XR7.out.cell 0
      have f0 := XR7.out.frozen 0
      simp only [List.getElem?_toArray, List.getElem?_cons_zero] at c0
      by_cases hk : k7 = m'
      · subst hk
        have FN := hide2 (RX.out.fin TK.out (by rw [XL.out]; exact L7.out))
        go_wp2
        go_ret
        exact ⟨A', k7, c', xs, rfl, IX.out.keep B7.out, by rw [MostP, HR.out]; exact FN.out, BR.out.trans (B7.out.mono BR.out.size)⟩
      · have hkb : ((k7 : Int) == (m' : Int)) = false := by simp; omega
        have hkl : k7 < m' := by have := KL.out; omega
        have XN7 := hide2 (XN.out.keep B7.out)
        have BB7 := hide2 (BR.out.trans (B7.out.mono BR.out.size))
        go_wp2
        have XS := XR7.out.set 0 (.slice A7 k7 c7)
        have XS' : Box (w7.setCell ⟨b5, 0, none⟩ (.slice A7 k7 c7)) b5 25 #[.slice A7 k7 c7] := by simpa using XS
        go_roundw
        case rel => exact ⟨A7, k7, c7, _, hide2 XS', hide2 (Ints.beside I7.out XR7.out (fun j x => by match j with | 0 => simp | _ + 1 => simp) (Beside.set _ _ _ _)), hide2 (RX.out.step TK.out), hide2 (XN7.out.other (a := ⟨b5, 0, none⟩) _ (by have := NE.out; simp; omega)), hide2 (BB7.out.setCell (p := ⟨b5, 0, none⟩) (Nat.le_of_lt NE.out) _)⟩
        case measure =>
          have e1 := lenAt_eq (XS'.cell 0)
          have e2 := LN.out
          exact Nat.lt_of_le_of_lt (Nat.le_of_eq e1) (Nat.lt_of_lt_of_le hkl (Nat.le_of_eq e2.symm))
end Go.Proofs.Ytldljjmibaaokaa
