/- The memory of DGraph: a space in a box, its two rows. Conditions: none. | The contract of DGraph. Conditions: the net and the mark read as lists. -/
import Derived.Test.YtnfppolgaeibeaaReachA
import Derived.Test.YtnfppolgaeibeaaEnabF
import Derived.Deep.RegionHeld3
namespace Go.Proofs.Ytnfppolgaeibeaa
open Go.RowKit

abbrev Z0 : Value := .slice none 0 0
structure GraW (w : World) (B b8 : Nat) (u v : Value) (ms : List (List Int)) (ars : List PArc) : Prop where
  lo : B ≤ b8
  box : Box w b8 107 #[u, v]
  marks : OwnSl (MarkR b8 u v Z0) 1 w B 35 u ms.length ms
  arcs : OwnSl ArcR 3 w B 130 v ars.length ars
section
variable {w w' : World} {B b8 : Nat} {u v : Value} {ms : List (List Int)} {ars : List PArc}
theorem GraW.keep (h : GraW w B b8 u v ms ars) (hb : Below w.heap.size w w') : GraW w' B b8 u v ms ars :=
  ⟨h.lo, h.box.keep hb, h.marks.keep (MarkR.kept _ _ _ _) hb, h.arcs.keep ArcR.kept hb⟩
theorem GraW.apart (h : GraW w B b8 u v ms ars) {C : Option Addr} {l : Nat} (hf : Fresh w C) : Apart4 b8 u v Z0 C l := by
  intro b off e _
  have hb : w.heap.size ≤ b := hf _ e
  have h0 := h.box.lt
  exact ⟨by omega, fun e2 => (by have := (h.marks.lt b e2).2; omega), fun e2 => (by have := (h.arcs.lt b e2).2; omega), fun e2 => (by cases e2)⟩
theorem GraW.mark (h : GraW w B b8 u v ms ars) {g k cap : Nat} {ms' : List (List Int)} (hk : k = ms'.length) (own : OwnSl (fun _ vs x => MarkR b8 u v Z0 w vs x) 1 w' B 35 (.slice (some ⟨g, 0, none⟩) k cap) k ms') (hg : w.grownBy w' u.ownBlock) (hat : u.ownBlock = some g ∨ w.heap.size ≤ g) :
    GraW (w'.setCell ⟨b8, 0, none⟩ (.slice (some ⟨g, 0, none⟩) k cap)) B b8 (.slice (some ⟨g, 0, none⟩) k cap) v ms' ars ∧ Keep4 b8 w u v Z0 (w'.setCell ⟨b8, 0, none⟩ (.slice (some ⟨g, 0, none⟩) k cap)) (.slice (some ⟨g, 0, none⟩) k cap) v Z0 := by
  subst hk
  have KK := keep4_row (i := 0) (k := ms'.length) (cap := cap) hg hat (u := u) (v := v) (z := Z0) (bf := b8) (.inl rfl) (.inr ⟨rfl, rfl⟩) (.inl rfl) (.inl rfl) (.slice (some ⟨g, 0, none⟩) ms'.length cap)
  obtain ⟨_, o1, _⟩ := id h.marks
  obtain ⟨_, o2, _⟩ := id h.arcs
  have b1 : Box w' b8 107 #[u, v] := h.box.grown hg (own_neBox o1 h.box (by decide))
  have a1 : OwnSl ArcR 3 w' B 130 v ars.length ars := h.arcs.turn hg (own_ne o2 o1 (by decide)) (fun _ _ hx => hx)
  obtain ⟨_, q1, _⟩ := id own
  obtain ⟨_, q2, _⟩ := id a1
  have gs := grown_setCell w' b8 0 (.slice (some ⟨g, 0, none⟩) ms'.length cap)
  exact ⟨⟨h.lo, by simpa using b1.set 0 (.slice (some ⟨g, 0, none⟩) ms'.length cap), own.turn gs (.inr (own_neBox q1 b1 (by decide))) (fun vs x hx => KK.mark hx), a1.turn gs (.inr (own_neBox q2 b1 (by decide))) (fun _ _ hx => hx)⟩, KK⟩
theorem GraW.arc (h : GraW w B b8 u v ms ars) {g k cap : Nat} {ars' : List PArc} (hk : k = ars'.length) (own : OwnSl ArcR 3 w' B 130 (.slice (some ⟨g, 0, none⟩) k cap) k ars') (hg : w.grownBy w' v.ownBlock) (hat : v.ownBlock = some g ∨ w.heap.size ≤ g) :
    GraW (w'.setCell ⟨b8, 1, none⟩ (.slice (some ⟨g, 0, none⟩) k cap)) B b8 u (.slice (some ⟨g, 0, none⟩) k cap) ms ars' ∧ Keep4 b8 w u v Z0 (w'.setCell ⟨b8, 1, none⟩ (.slice (some ⟨g, 0, none⟩) k cap)) u (.slice (some ⟨g, 0, none⟩) k cap) Z0 := by
  subst hk
  have KK := keep4_row (i := 1) (k := ars'.length) (cap := cap) hg hat (u := u) (v := v) (z := Z0) (bf := b8) (.inr (.inl rfl)) (.inl rfl) (.inr ⟨rfl, rfl⟩) (.inl rfl) (.slice (some ⟨g, 0, none⟩) ars'.length cap)
  obtain ⟨_, o1, _⟩ := id h.marks
  obtain ⟨_, o2, _⟩ := id h.arcs
  have b1 : Box w' b8 107 #[u, v] := h.box.grown hg (own_neBox o2 h.box (by decide))
  have k1 : OwnSl (fun _ vs x => MarkR b8 u v Z0 w vs x) 1 w' B 35 u ms.length ms := h.marks.turn hg (own_ne o1 o2 (by decide)) (fun _ _ hx => hx)
  obtain ⟨_, q1, _⟩ := id k1
  obtain ⟨_, q2, _⟩ := id own
  have gs := grown_setCell w' b8 1 (.slice (some ⟨g, 0, none⟩) ars'.length cap)
  exact ⟨⟨h.lo, by simpa using b1.set 1 (.slice (some ⟨g, 0, none⟩) ars'.length cap), k1.turn gs (.inr (own_neBox q1 b1 (by decide))) (fun vs x hx => KK.mark hx), own.turn gs (.inr (own_neBox q2 b1 (by decide))) (fun _ _ hx => hx)⟩, KK⟩
theorem GraW.space {b ty : Nat} {cs : Array Value} (h : GraW w B b8 u v ms ars) (hx : Box w b ty cs) (hcs : ∀ (j : Nat) (x : Int), cs[j]? ≠ some (.int .i64 x)) (hb : b < B) (hw : Beside b w w') (hos : w'.os = w.os) (htape : w'.tape = w.tape) (hout : w'.output = w.output) (hl : ms.length ≤ 7200) (ha : ars.length ≤ 7200) :
    ∃ U cu V cv, u = .slice U ms.length cu ∧ v = .slice V ars.length cv ∧ Lists w' U ms.length cu ms ∧ Arcs w' V ars.length cv ars := by
  have hg : w.grownBy w' (some b) := ⟨hos, htape, hout, Nat.le_of_eq hw.1.symm, fun k _ hk => hw.2 k (fun e => hk (by rw [e]))⟩
  have o1 : OwnSl ListR 1 w' B 35 u ms.length ms := h.marks.turn hg (.inr (fun e => by have := (h.marks.lt b e).1; omega)) (fun vs x hx' => by
    obtain ⟨A, n, c, e, i, l, _⟩ := hx'
    exact ⟨A, n, c, e, i.beside hx hcs hw, by omega⟩)
  have o2 : OwnSl ArcR 3 w' B 130 v ars.length ars := h.arcs.turn hg (.inr (fun e => by have := (h.arcs.lt b e).1; omega)) (fun vs x hx' => hx')
  obtain ⟨U, cu, e1, s1⟩ := o1.sl (by omega)
  obtain ⟨V, cv, e2, s2⟩ := o2.sl (by omega)
  exact ⟨U, cu, V, cv, e1, e2, s1, s2⟩
end
/-- The start: the given mark alone. -/
theorem GraW.start {w W : World} {A : Option Addr} {n c r : Nat} {xs : List Int} (h : Ints w A n c xs) (hn : n ≤ 16) (hr : w.heap.size ≤ r) (hb : Below w.heap.size w W) (hx : Box W (r + 1) 107 #[.slice (some ⟨r, 0, none⟩) 1 1, Z0]) (ho : W.heap[r]? = some (.cells #[.slice A n c] 35)) :
    GraW W r (r + 1) (.slice (some ⟨r, 0, none⟩) 1 1) Z0 [xs] [] := by
  refine ⟨by omega, hx, ⟨[.slice A n c], ⟨by simp, .inr ⟨r, 1, #[.slice A n c], rfl, Nat.le_refl _, ho, Nat.le_refl _, by simp [maxLen], by simp, by simp⟩⟩, Reads.one (vs := fun _ => .slice A n c) ⟨A, n, c, rfl, h.keep hb, hn, fun b off e h0 => ?_⟩ rfl (fun j hj => (by obtain rfl : j = 0 := (by omega); rfl)), rfl⟩, OwnSl.nil⟩
  obtain ⟨b', off', e', hlt, _⟩ := h.cells h0
  rw [e] at e'
  injection e' with e'
  injection e' with e1 _
  subst e1
  refine ⟨by omega, fun e2 => ?_, fun e2 => (by cases e2), fun e2 => (by cases e2)⟩
  have : r = b := by injection e2
  omega
theorem GraW.start2 {w0 : World} {A : Option Addr} {n c : Nat} {xs : List Int} (h : Ints w0 A n c xs) (hn : n ≤ 16) :
    GraW ((w0.alloc (.cells #[.slice A n c] 35)).alloc (.cells #[.slice (some ⟨w0.heap.size, 0, none⟩) 1 1, .slice none 0 0] 107)) w0.heap.size (w0.heap.size + 1) (.slice (some ⟨w0.heap.size, 0, none⟩) 1 1) (.slice none 0 0) [xs] [] ∧
    Below w0.heap.size w0 ((w0.alloc (.cells #[.slice A n c] 35)).alloc (.cells #[.slice (some ⟨w0.heap.size, 0, none⟩) 1 1, .slice none 0 0] 107)) := by
  have hb2 : Below w0.heap.size w0 ((w0.alloc (.cells #[.slice A n c] 35)).alloc (.cells #[.slice (some ⟨w0.heap.size, 0, none⟩) 1 1, .slice none 0 0] 107)) := ((Below.refl _ _).alloc (Nat.le_refl _) _).alloc (by simp) _
  refine ⟨GraW.start h hn (Nat.le_refl _) hb2 (Box.newAt (by simp) _ _) ?_, hb2⟩
  rw [heap_alloc_old _ _ (by simp)]
  exact heap_alloc_new w0 _
end Go.Proofs.Ytnfppolgaeibeaa
namespace Go.Proofs.Ytnfppolgaeibeaa
open Go.RowKit

theorem prefix_at {a b : List (List Int)} {f : Nat} {m : List Int} (h : a <+: b) (hf : a[f]? = some m) : b[f]? = some m := by
  obtain ⟨c, rfl⟩ := h
  rw [List.getElem?_append_left (List.getElem?_eq_some_iff.1 hf).1]
  exact hf
def toV : Option Nat → Int
  | some k => (k : Int)
  | none => -1
theorem toV_succ {ms : List (List Int)} {x y : List Int} {j : Nat} (hn : ms.Nodup) (hy : ms[j]? = some y) : toV (findL (ms.take (j + 1)) x) = if (x == y) = true then (j : Int) else toV (findL (ms.take j) x) := by
  rw [take_snoc hy, findL_snoc]
  have hj := (List.getElem?_eq_some_iff.1 hy).1
  by_cases e : x = y
  · subst e
    cases hf : findL (ms.take j) x with
    | some k =>
      exfalso
      have h1 := findL_some hf
      have hk := (List.getElem?_eq_some_iff.1 h1).1
      rw [List.length_take] at hk
      rw [List.getElem?_take_of_lt (by omega)] at h1
      have h2 := findL_at hn h1
      rw [findL_at hn hy] at h2
      injection h2 with h2
      omega
    | none => simp [toV]; omega
  · have : (x == y) = false := by simpa using e
    rw [this]
    cases hf : findL (ms.take j) x with
    | some k => simp
    | none => simp [e, toV]
theorem fireL_kinds {N : PNet} {m : List Int} {k : Nat} (hf : fitsB N m = true) (hk : k < N.trans.length) : (fireL N m (k : Int)).2 = 0 ∨ (fireL N m (k : Int)).2 = 3 ∨ (fireL N m (k : Int)).2 = 4 := by
  rw [fireL, if_pos hf, if_pos ⟨by omega, by omega⟩, fireT]
  split
  · split
    · exact .inl rfl
    · exact .inr (.inr rfl)
  · exact .inr (.inl rfl)
theorem foldS_allT (N : PNet) (M : Nat) (m : List Int) (f : Int) (k : Nat) (o : Option PSp) : foldS N M m f (allT (k + 1)) o = (foldS N M m f (allT k) o).bind fun s => arcStep N M m f s (k : Int) := by
  rw [allT, List.range_succ, List.map_append, List.map_cons, List.map_nil, foldS_snoc, ← allT]
theorem foldS_allT_none {N : PNet} {M : Nat} {m : List Int} {f : Int} {k n : Nat} {o : Option PSp} (hk : k ≤ n) (h : foldS N M m f (allT k) o = none) : foldS N M m f (allT n) o = none := by
  refine foldS_ended k ?_
  rw [show (allT n).take k = allT k by unfold allT; rw [← List.map_take, List.take_range, Nat.min_eq_left hk]]
  exact h

set_option maxRecDepth 100000 in
set_option maxHeartbeats 4000000 in
theorem refGraph_calls {w : World} {P : Int} {A B : Option Addr} {n c m d : Nat} {ts : List PTran} {xs : List Int} (most : Int) (h : Trans w A n c ts) (g : Ints w B m d xs) :
    Calls Try.prog 66 #[.agg #[.int .i64 P, .slice A n c], .slice B m d, .int .i64 most] w (AnsSpace (graphL ⟨P, ts⟩ xs most) w) := by
  generalize hw : ((w.alloc (.cells #[.int .i64 P, .slice A n c] 27)).alloc (.cells #[.slice none 0 0, .slice none 0 0] 107)) = w0
  have HB := hide2 (show Below w.heap.size w w0 by rw [← hw]; exact ((Below.refl _ _).alloc (Nat.le_refl _) _).alloc (by simp) _)
  have X0 := hide2 (show Box w0 w.heap.size 27 #[.int .i64 P, .slice A n c] by rw [← hw]; exact (Box.new _ _ _).old _)
  have X1 := hide2 (show Box w0 (w.heap.size + 1) 107 #[.slice none 0 0, .slice none 0 0] by rw [← hw]; exact Box.newAt (by simp) _ _)
  have H := hide2 (h.keep HB.out)
  have G := hide2 (g.keep HB.out)
  have G0 := hide2 g
  have CF := hide2 (refFits_calls (P := P) H.out G.out)
  clear h g
  go_enter Try.func66, Try.ntmps66
  go_upto_region 1 with fail
  clear hw
  obtain ⟨a0, a1⟩ := X0.out.two
  obtain ⟨z0, z1⟩ := X1.out.two
  have f0 := X1.out.frozen 0
  have f1 := X1.out.frozen 1
  by_cases hall : 1 ≤ most ∧ most ≤ 300 ∧ fitsB ⟨P, ts⟩ xs = true
  · obtain ⟨hm1, hm2, hfit⟩ := hall
    obtain ⟨M, rfl⟩ : ∃ M : Nat, most = (M : Int) := ⟨most.toNat, by omega⟩
    have GE := hide2 (show graphL ⟨P, ts⟩ xs (M : Int) = (match goM ⟨P, ts⟩ M M 0 ⟨[xs], []⟩ with | some s => (s, 0) | none => (PSp.nil, 4)) by
      rw [graphL, if_pos ⟨hm1, hm2, hfit⟩]; rfl)
    have MM := hide2 (show 1 ≤ M ∧ M ≤ 300 by omega)
    have FT := hide2 hfit
    have hf1 : ¬ (M : Int) < 1 := by omega
    have hf2 : ¬ (M : Int) > 300 := by omega
    rw [hfit] at CF
    clear hm1 hm2 hfit
    go_upto_region 3 with (go_at_call 112; go_loud ((with_reducible refine CF.out.mono ?_); rintro e w1 ⟨rfl, hb1⟩; have B1 := hide2 hb1; clear hb1))
    have Y0 := hide2 (X0.out.keep B1.out)
    have Y1 := hide2 (X1.out.keep B1.out)
    have BZ := hide2 (HB.out.trans (B1.out.mono HB.out.size))
    clear a0 a1 z0 z1 f0 f1 X0 X1 CF
    go_upto_region 4 with fail
    have hm16 : m ≤ 16 := by
      obtain ⟨h1, h2, _⟩ := (fitsB_iff _ _).1 FT.out
      have h3 := ((netOk_iff _).1 h1).2.1
      rw [G0.out.len] at h2
      simp only at h2 h3
      omega
    obtain ⟨g0, g1⟩ := GraW.start2 (G.out.keep B1.out) hm16
    have GS := hide2 g0
    have BS := hide2 g1
    clear g0 g1
    generalize (w1.alloc (.cells #[.slice B m d] 35)).alloc (.cells #[.slice (some ⟨w1.heap.size, 0, none⟩) 1 1, .slice none 0 0] 107) = w2 at *
    generalize hb8 : w1.heap.size + 1 = b8 at *
    have HW := hide2 (H.out.keep B1.out)
    obtain ⟨R, hR⟩ : ∃ R, goM ⟨P, ts⟩ M M 0 ⟨[xs], []⟩ = R := ⟨_, rfl⟩
    rw [hR] at GE
    have HR := hide2 hR
    have ST := hide2 (SpOk.start FT.out MM.out.1 (m := xs))
    have HLt := hide2 (show w.heap.size < w1.heap.size ∧ w.heap.size + 1 < w1.heap.size from ⟨Y0.out.lt, Y1.out.lt⟩)
    have hn24 : n ≤ 24 := by
      have h3 : ts.length ≤ 24 := ((netOk_iff _).1 ((fitsB_iff _ _).1 FT.out).1).2.2.1
      have h4 := H.out.len
      omega
    clear hR hb8 H G G0 HB B1
    have c1 : w2.cell? ⟨w.heap.size, 1, none⟩ = some (.slice A n c) := (Y0.out.keep BS.out).cell 1
    go_wp2
    go_loopw [9] (fun fv wr => ∃ (f : Nat) (u v : Value) (s : PSp), fv = .int .i64 f ∧ f ≤ s.marks.length ∧ f ≤ M ∧ Hid (GraW wr w1.heap.size b8 u v s.marks s.arcs) ∧ Hid (Below w1.heap.size w1 wr) ∧ Hid (SpOk ⟨P, ts⟩ M s ∧ s.arcs.length ≤ 24 * f) ∧ Hid (goM ⟨P, ts⟩ M (M - f) f s = R)) (fun fv _ => M - (intOf fv).toNat)
    case atStart => exact ⟨0, _, _, ⟨[xs], []⟩, rfl, Nat.zero_le _, Nat.zero_le _, GS, BS, hide2 ⟨ST.out, Nat.le_refl _⟩, HR⟩
    case round =>
      clear c1 GS BS ST HR
      obtain ⟨f, u, v, s, rfl, hfl, hfM, GR, BR, SR, HR⟩ := hrel
      have hM3 : M ≤ 300 := MM.out.2
      have hL3 : s.marks.length ≤ 300 := Nat.le_trans SR.out.1.few MM.out.2
      obtain ⟨U, cu, hu, su⟩ := GR.out.marks.sl (by omega)
      subst hu
      obtain ⟨L, hL⟩ : ∃ L, s.marks.length = L := ⟨_, rfl⟩
      have HLL := hide2 hL
      have c4 : wr.cell? ⟨b8, 0, none⟩ = some (.slice U s.marks.length cu) := GR.out.box.cell 0
      rw [hL] at c4
      have c1 : wr.cell? ⟨w.heap.size, 1, none⟩ = some (.slice A n c) := (Y0.out.keep BR.out).cell 1
      clear su
      by_cases hlt : f < s.marks.length
      · have hU2 : f < L := by omega
        have hfLi : (f : Int) < (L : Int) := by omega
        obtain ⟨m0, hm0⟩ : ∃ m0, s.marks[f]? = some m0 := ⟨_, List.getElem?_eq_getElem hlt⟩
        have HM0 := hide2 hm0
        have MF := hide2 (SR.out.1.fits m0 (List.mem_of_getElem? hm0))
        have FD := hide2 (show fromL ⟨P, ts⟩ M f s = foldS ⟨P, ts⟩ M m0 (f : Int) (allT ts.length) (some s) by
          rw [fromL, show s.marks.getD f [] = m0 by rw [List.getD_eq_getElem?_getD, hm0]; rfl])
        obtain ⟨wo, hwo⟩ : ∃ wo : World, wo = wr := ⟨_, rfl⟩
        subst hwo
        clear hL hlt hm0
        go_wp2
        go_loopw [42] (fun kv wr => ∃ (k : Nat) (u v : Value) (s1 : PSp), kv = .int .i64 k ∧ k ≤ n ∧ Hid (GraW wr w1.heap.size b8 u v s1.marks s1.arcs) ∧ Hid (Below w1.heap.size w1 wr) ∧ Hid (SpOk ⟨P, ts⟩ M s1 ∧ s1.arcs.length ≤ 24 * f + k) ∧ Hid (foldS ⟨P, ts⟩ M m0 (f : Int) (allT k) (some s) = some s1) ∧ Hid (s1.marks[f]? = some m0)) (fun kv _ => n - (intOf kv).toNat)
        case atStart => exact ⟨0, _, v, s, rfl, Nat.zero_le _, GR, BR, SR, rfl, HM0⟩
        case round =>
          clear c4 c1 GR BR
          obtain ⟨k, u1, v1, s1, rfl, hk, GR, BR, S1, FO, FM⟩ := hrel
          by_cases hlt : k < n
          · have hki : (k : Int) < (n : Int) := by omega
            have hm300 : s1.marks.length ≤ 300 := Nat.le_trans S1.out.1.few MM.out.2
            obtain ⟨U1, cu1, hu1, su1⟩ := GR.out.marks.sl (by omega)
            subst hu1
            have hfl1 := (List.getElem?_eq_some_iff.1 FM.out).1
            obtain ⟨b, off, m, vs, hU, hbl, hm, hc, A1, n1, c1', e1, i1, hn1, ap1⟩ := Sl.get su1 hfl1
            subst hU
            obtain rfl : m0 = m := by have := FM.out; rw [hm] at this; injection this with this; exact this.symm
            have q0 : wr.cell? ⟨b, off + f, none⟩ = some (.slice A1 n1 c1') := by have := hc 0 (by omega); rw [e1] at this; simpa using this
            have QK := hide2 (show ∀ w', Below wr.heap.size wr w' → w'.cell? ⟨b, off + f, none⟩ = some (.slice A1 n1 c1') from fun w' hb => (hb.cell (p := ⟨b, off + f, none⟩) hbl).trans q0)
            have I1 := hide2 i1
            have HTr := hide2 (HW.out.keep BR.out)
            obtain ⟨p0, p1⟩ := (Y0.out.keep BR.out).two
            obtain ⟨g0, g1⟩ := GR.out.box.two
            obtain ⟨L1, hL1⟩ : ∃ L1, s1.marks.length = L1 := ⟨_, rfl⟩
            have HL1 := hide2 hL1
            rw [hL1] at g0
            have hfL1 : (f : Int) < (L1 : Int) := by omega
            have KEEP := hide2 (show ∀ w', Below wr.heap.size wr w' → w'.cell? ⟨w.heap.size, 0, none⟩ = some (.int .i64 P) ∧ w'.cell? ⟨w.heap.size, 1, none⟩ = some (.slice A n c) ∧ w'.cell? ⟨b8, 0, none⟩ = some (.slice (some ⟨b, off, none⟩) L1 cu1) ∧ w'.cell? ⟨b, off + f, none⟩ = some (.slice A1 n1 c1') from fun w' hb => by
              obtain ⟨p0, p1⟩ := ((Y0.out.keep BR.out).keep hb).two
              have g0 := (GR.out.box.keep hb).cell 0
              exact ⟨p0, p1, by rw [← HL1.out]; exact g0, QK.out w' hb⟩)
            have CB := hide2 (fun (w' : World) (hb : Below wr.heap.size wr w') => refFireF_calls (P := P) (HTr.out.keep hb) (I1.out.keep hb) (k : Int))
            obtain ⟨p, hp⟩ : ∃ p, fireL ⟨P, ts⟩ m0 (k : Int) = p := ⟨_, rfl⟩
            obtain ⟨x, fe⟩ := p
            rw [hp] at CB
            have HP := hide2 hp
            have DR := hide2 ((Below.refl wr.heap.size wr).drew)
            clear hp su1 hm hc e1 i1 ap1 hL1 hbl hfl1 g1
            go_upto_region 10 with fail
            go_region_held3 (fun w' => w'.cell? ⟨w.heap.size, 0, none⟩ = some (.int .i64 P) ∧ w'.cell? ⟨w.heap.size, 1, none⟩ = some (.slice A n c) ∧ w'.cell? ⟨b8, 0, none⟩ = some (.slice (some ⟨b, off, none⟩) L1 cu1) ∧ w'.cell? ⟨b, off + f, none⟩ = some (.slice A1 n1 c1'))
              (first | go_keep)
              (first | (go_at_call 113; (with_reducible refine (CB.out _ DR.out).mono ?_); rintro e w3 ⟨C, l, lc, rfl, hi, hb3, hfr⟩; have F3 := hide2 (DR.out.trans (hb3.mono DR.out.size)); have IX := hide2 hi; have FR := hide2 hfr; clear hi hb3 hfr p0 p1 g0 q0; obtain ⟨p0, p1, g0, q0⟩ := KEEP.out w3 F3.out))
            all_goals
              clear p0 p1 g0 q0
              have STEP := hide2 (show foldS ⟨P, ts⟩ M m0 (f : Int) (allT (k + 1)) (some s) = arcStep ⟨P, ts⟩ M m0 (f : Int) s1 (k : Int) by rw [foldS_allT, FO.out]; rfl)
              have htl : k < ts.length := by rw [HW.out.len]; exact hlt
              have NONE := hide2 (fun (h0 : arcStep ⟨P, ts⟩ M m0 (f : Int) s1 (k : Int) = none) => show R = none by
                rw [← HR.out]
                obtain ⟨g, hg⟩ : ∃ g, M - f = g + 1 := ⟨M - f - 1, by have := SR.out.1.few; rw [HLL.out] at this; omega⟩
                rw [hg, goM, if_pos (by rw [HLL.out]; exact hU2), FD.out, foldS_allT_none (k := k + 1) (by omega) (by rw [STEP.out]; exact h0)]
                rfl)
              have hkinds := fireL_kinds MF.out htl
              rw [HP.out] at hkinds
              have GR3 := hide2 (GR.out.keep F3.out)
              have BR3 := hide2 (BR.out.trans (F3.out.mono BR.out.size))
              have AP := hide2 (GR.out.apart (l := l) (FR.out.mono DR.out.size))
              clear htl CB KEEP QK I1 HTr GR BR FR DR F3
              by_cases h3 : fe = 3
              · subst h3
                have SS := hide2 (STEP.out.trans (show arcStep ⟨P, ts⟩ M m0 (f : Int) s1 (k : Int) = some s1 by unfold arcStep; rw [HP.out]; rfl))
                clear hkinds
                go_wp2
                go_roundw
                case rel => exact ⟨k + 1, _, v1, s1, by go_num, by omega, GR3, BR3, hide2 ⟨S1.out.1, by have := S1.out.2; omega⟩, SS, FM⟩
                case measure => simp [intOf]; omega
              · have h3i : ¬ (fe : Int) = 3 := h3
                have hL1b : L1 ≤ 300 := by have := HL1.out; omega
                have g0 : w3.cell? ⟨b8, 0, none⟩ = some (.slice (some ⟨b, off, none⟩) L1 cu1) := by rw [← HL1.out]; exact GR3.out.box.cell 0
                go_upto_region 14 with fail
                clear g0
                obtain ⟨wi, hwi⟩ : ∃ wi : World, wi = w3 := ⟨_, rfl⟩
                subst hwi
                go_loopw [13, 61] (fun tv jv wr => ∃ j : Nat, j ≤ L1 ∧ jv = .int .i64 j ∧ tv = .int .i64 (toV (findL (s1.marks.take j) x)) ∧ Hid (Below wi.heap.size wi wr)) (fun _ jv _ => L1 - (intOf jv).toNat)
                case atStart => exact ⟨0, Nat.zero_le _, rfl, rfl, hide2 (Below.refl _ _)⟩
                case round =>
                  obtain ⟨j, hj, rfl, rfl, BI⟩ := hrel
                  by_cases hlj : j < L1
                  · have hji : (j : Int) < (L1 : Int) := by omega
                    obtain ⟨U2, cu2, hu2, su2⟩ := (GR3.out.keep BI.out).marks.sl (by omega)
                    injection hu2 with e1 _ e2
                    subst e1 e2
                    obtain ⟨b2, off2, y, vs2, hU, hbl2, hy, hc2, A2, n2, c2, e1, i2, hn2, ap2⟩ := Sl.get su2 (k := j) (by rw [HL1.out]; exact hlj)
                    injection hU with hU
                    injection hU with e3 e4
                    subst e3 e4
                    have q0 : wr.cell? ⟨b, off + j, none⟩ = some (.slice A2 n2 c2) := by have := hc2 0 (by omega); rw [e1] at this; simpa using this
                    have TS := hide2 (toV_succ (x := x) S1.out.1.nodup hy)
                    have I2 := hide2 i2
                    have IXr := hide2 (IX.out.keep BI.out)
                    clear su2 hc2 e1 i2 ap2 hn2 hbl2
                    cases hxy : (x == y)
                    · have HXY := hide2 hxy
                      rw [hxy] at TS
                      clear hxy
                      go_wp2_with ((with_reducible refine (equalInts_calls IXr.out I2.out).mono ?_); rw [HXY.out]; rintro e w4 ⟨rfl, dr⟩; have BD := hide2 dr.below; clear dr)
                      go_roundw
                      case rel => exact ⟨j + 1, by omega, by go_num, by rw [TS.out]; rfl, hide2 (BI.out.trans (BD.out.mono BI.out.size))⟩
                      case measure => simp [intOf]; omega
                    · have HXY := hide2 hxy
                      rw [hxy] at TS
                      clear hxy
                      go_wp2_with ((with_reducible refine (equalInts_calls IXr.out I2.out).mono ?_); rw [HXY.out]; rintro e w4 ⟨rfl, dr⟩; have BD := hide2 dr.below; clear dr)
                      go_roundw
                      case rel => exact ⟨j + 1, by omega, by go_num, by rw [TS.out]; rfl, hide2 (BI.out.trans (BD.out.mono BI.out.size))⟩
                      case measure => simp [intOf]; omega
                  · obtain rfl : j = L1 := by omega
                    have hfull : s1.marks.take j = s1.marks := List.take_of_length_le (by rw [HL1.out]; exact Nat.le_refl _)
                    rw [hfull]
                    have G5 := hide2 (GR3.out.keep BI.out)
                    have B5 := hide2 (BR3.out.trans (BI.out.mono BR3.out.size))
                    have IX5 := hide2 (IX.out.keep BI.out)
                    clear hfull GR3 BR3 BI IX
                    by_cases h4 : fe = 4
                    · subst h4
                      have RN := hide2 (NONE.out (by unfold arcStep; rw [HP.out]; rfl))
                      obtain ⟨tv, htv⟩ : ∃ tv, toV (findL s1.marks x) = tv := ⟨_, rfl⟩
                      rw [htv]
                      clear htv hkinds
                      obtain ⟨z0, z1⟩ := (Y1.out.keep B5.out).two
                      have f0 := (Y1.out.keep B5.out).frozen 0
                      have f1 := (Y1.out.keep B5.out).frozen 1
                      go_wp2
                      obtain ⟨r0, r1⟩ := ((Y1.out.keep B5.out).set2 (.slice none 0 0) (.slice none 0 0)).two
                      have BW := below_set2 (BZ.out.trans (B5.out.mono BZ.out.size)) (Nat.le_refl _) (show w.heap.size ≤ w.heap.size + 1 by omega) (.slice none 0 0) (.slice none 0 0)
                      exact bodyPost_ret (v := .tuple #[.agg #[.slice none 0 0, .slice none 0 0], .int .i64 4]) (by simp [results, Try.results66, go_sem, r0, r1]) rfl (by rw [GE.out, RN.out]; exact ans_space0 BW)
                    · obtain rfl : fe = 0 := by omega
                      clear hkinds h4 h3
                      have XF := hide2 (fire_fits (t := (k : Int)) MF.out (by rw [HP.out]))
                      simp only [HP.out] at XF
                      have XR := hide2 ((fitsB_iff _ _).1 XF.out.1).2.2
                      have XL := hide2 (show x.length ≤ 16 by
                        obtain ⟨h1, h2, _⟩ := (fitsB_iff _ _).1 XF.out.1
                        have h3 := ((netOk_iff _).1 h1).2.1
                        simp only at h2 h3
                        omega)
                      have AST := hide2 (show arcStep ⟨P, ts⟩ M m0 (f : Int) s1 (k : Int) = meetL M s1 (f : Int) (k : Int) x by unfold arcStep; rw [HP.out]; rfl)
                      have SPS := hide2 (fun (s' : PSp) (h : meetL M s1 (f : Int) (k : Int) x = some s') => S1.out.1.step (List.getElem?_eq_some_iff.1 FM.out).1 MF.out (AST.out.trans h))
                      have WK := hide2 (show (Lit.int .i64 (k : Int)).wf = true from WalkArith.wf_i64 (by omega))
                      have ha72 : s1.arcs.length ≤ 7224 := by have := S1.out.2; omega
                      obtain ⟨V, cv, hv, _⟩ := G5.out.arcs.sl (by omega)
                      subst hv
                      obtain ⟨o, ho⟩ : ∃ o, findL s1.marks x = o := ⟨_, rfl⟩
                      have HO := hide2 ho
                      rw [ho]
                      clear ho
                      cases o with
                      | some kk =>
                        have ME := hide2 (show meetL M s1 (f : Int) (k : Int) x = some ⟨s1.marks, s1.arcs ++ [⟨(f : Int), (k : Int), (kk : Int)⟩]⟩ by unfold meetL; rw [HO.out])
                        have SP := hide2 (SPS.out _ ME.out)
                        have ST2 := hide2 (STEP.out.trans (AST.out.trans ME.out))
                        have hk0 : ¬ (kk : Int) < 0 := by omega
                        rw [show toV (some kk) = (kk : Int) from rfl]
                        have NB := hide2 (show (Value.slice V s1.arcs.length cv).ownBlock ≠ some b8 by obtain ⟨_, o1, _⟩ := id G5.out.arcs; exact own_neBox o1 G5.out.box (by decide))
                        have g1 : wr.cell? ⟨b8, 1, none⟩ = some (.slice V s1.arcs.length cv) := G5.out.box.cell 1
                        go_wp2_with (at_builtin; go_loud (refine wpList_appLies tyArcs rfl _ _ rfl [(⟨(f : Int), (k : Int), (kk : Int)⟩ : PArc)] #[.int .i64 (f : Int), .int .i64 (k : Int), .int .i64 (kk : Int)] rfl rfl (by first | rfl | simp) rfl (by omega) (by simp [Value.oneCell']) G5.out.arcs (Reads.one (vs := fun j => #[Value.int .i64 (f : Int), .int .i64 (k : Int), .int .i64 (kk : Int)].getD j (.int .i64 0)) ⟨rfl, rfl, rfl, WK.out⟩ rfl (fun j hj => (by match j, hj with | 0, _ => rfl | 1, _ => rfl | 2, _ => rfl))) rfl B5.out B5.out.size (by omega) (by omega) (fun _ _ _ _ h => h) ?_; intro g6 cap6 w6 own6' hg6' hb6' hat6'; have own6 := hide2 own6'; have hg6 := hide2 hg6'; have hb6 := hide2 hb6'; have hat6 := hide2 hat6'; clear own6' hg6' hb6' hat6' g1; have g1 : w6.cell? ⟨b8, 1, none⟩ = some (.slice V s1.arcs.length cv) := (G5.out.box.grown hg6.out NB.out).cell 1; have f1 := (G5.out.box.grown hg6.out NB.out).frozen 1))
                        go_roundw
                        case rel =>
                          have FK := G5.out.arc (by simp) own6.out hg6.out hat6.out
                          exact ⟨k + 1, _, _, ⟨s1.marks, s1.arcs ++ [⟨(f : Int), (k : Int), (kk : Int)⟩]⟩, by go_num, by omega, hide2 FK.1, hide2 (hb6.out.grown (grown_setCell _ _ _ _) hb6.out.size (fun k hk => by cases hk; exact G5.out.lo)), hide2 ⟨SP.out.1, by have := S1.out.2; simp; omega⟩, ST2, hide2 (prefix_at SP.out.2 FM.out)⟩
                        case measure => simp [intOf]; omega
                      | none =>
                        rw [show toV none = (-1 : Int) from rfl]
                        have g0 : wr.cell? ⟨b8, 0, none⟩ = some (.slice (some ⟨b, off, none⟩) j cu1) := by rw [← HL1.out]; exact G5.out.box.cell 0
                        by_cases hjM : j = M
                        · have hjMi : (j : Int) = (M : Int) := by omega
                          have RN := hide2 (NONE.out (AST.out.trans (by unfold meetL; rw [HO.out]; simp only [HL1.out, hjM, if_true])))
                          clear hjM
                          obtain ⟨z0, z1⟩ := (Y1.out.keep B5.out).two
                          have f0 := (Y1.out.keep B5.out).frozen 0
                          have f1 := (Y1.out.keep B5.out).frozen 1
                          go_wp2
                          obtain ⟨r0, r1⟩ := ((Y1.out.keep B5.out).set2 (.slice none 0 0) (.slice none 0 0)).two
                          have BW := below_set2 (BZ.out.trans (B5.out.mono BZ.out.size)) (Nat.le_refl _) (show w.heap.size ≤ w.heap.size + 1 by omega) (.slice none 0 0) (.slice none 0 0)
                          exact bodyPost_ret (v := .tuple #[.agg #[.slice none 0 0, .slice none 0 0], .int .i64 4]) (by simp [results, Try.results66, go_sem, r0, r1]) rfl (by rw [GE.out, RN.out]; exact ans_space0 BW)
                        · have hjMi : ¬ (j : Int) = (M : Int) := by omega
                          have ME := hide2 (show meetL M s1 (f : Int) (k : Int) x = some ⟨s1.marks ++ [x], s1.arcs ++ [⟨(f : Int), (k : Int), (j : Int)⟩]⟩ by unfold meetL; rw [HO.out]; simp only [HL1.out, hjM, if_false])
                          have SP := hide2 (SPS.out _ ME.out)
                          have ST2 := hide2 (STEP.out.trans (AST.out.trans ME.out))
                          have hx16 : l ≤ 16 := by rw [← IX5.out.len]; exact XL.out
                          have U0 := hide2 (show GraW wr w1.heap.size b8 (.slice (some ⟨b, off, none⟩) j cu1) (.slice V s1.arcs.length cv) s1.marks s1.arcs by have := G5.out; rw [HL1.out] at this; exact this)
                          have AP0 := hide2 (show Apart4 b8 (.slice (some ⟨b, off, none⟩) j cu1) (.slice V s1.arcs.length cv) Z0 C l by have := AP.out; rw [HL1.out] at this; exact this)
                          have MK := hide2 (show MarkR b8 (.slice (some ⟨b, off, none⟩) j cu1) (.slice V s1.arcs.length cv) Z0 wr (fun _ => .slice C l lc) x from ⟨C, l, lc, rfl, IX5.out, hx16, AP0.out⟩)
                          have NM := hide2 (show (Value.slice (some ⟨b, off, none⟩) j cu1).ownBlock ≠ some b8 by obtain ⟨_, o1, _⟩ := id U0.out.marks; exact own_neBox o1 U0.out.box (by decide))
                          have OM := hide2 (show OwnSl (fun _ vs y => MarkR b8 (.slice (some ⟨b, off, none⟩) j cu1) (.slice V s1.arcs.length cv) Z0 wr vs y) 1 wr w1.heap.size 35 (.slice (some ⟨b, off, none⟩) j cu1) j s1.marks by have := U0.out.marks.reread (R' := fun _ vs y => MarkR b8 (.slice (some ⟨b, off, none⟩) j cu1) (.slice V s1.arcs.length cv) Z0 wr vs y) (fun _ _ hy => hy); rw [HL1.out] at this; exact this)
                          go_upto_region 24 with (at_builtin; go_loud (refine wpList_appLies (R := fun _ vs y => MarkR b8 (.slice (some ⟨b, off, none⟩) j cu1) (.slice V s1.arcs.length cv) Z0 wr vs y) tyLists rfl _ _ rfl [x] #[.slice C l lc] rfl rfl (by first | rfl | simp) rfl (by omega) (by simp [Value.oneCell']) OM.out (Reads.one (vs := fun _ => .slice C l lc) MK.out rfl (fun j hj => (by obtain rfl : j = 0 := (by omega); rfl))) rfl B5.out B5.out.size (by omega) (by omega) (fun _ _ _ _ h => h) ?_; intro g4 cap4 w4 own4' hg4' hb4' hat4'; have own4 := hide2 own4'; have hg4 := hide2 hg4'; have hb4 := hide2 hb4'; have hat4 := hide2 hat4'; clear own4' hg4' hb4' hat4' g0; have g0 : w4.cell? ⟨b8, 0, none⟩ = some (.slice (some ⟨b, off, none⟩) j cu1) := (U0.out.box.grown hg4.out NM.out).cell 0; have f0 := (U0.out.box.grown hg4.out NM.out).frozen 0))
                          clear g0 f0
                          have FQ := hide2 (U0.out.mark (by simp [HL1.out]) own4.out hg4.out hat4.out)
                          have B7 := hide2 (show Below w1.heap.size w1 (w4.setCell ⟨b8, 0, none⟩ (.slice (some ⟨g4, 0, none⟩) (j + 1) cap4)) from hb4.out.grown (grown_setCell _ _ _ _) hb4.out.size (fun k hk => by cases hk; exact U0.out.lo))
                          clear OM NM MK hb4 hat4 hg4 own4
                          generalize w4.setCell ⟨b8, 0, none⟩ (.slice (some ⟨g4, 0, none⟩) (j + 1) cap4) = w5 at *
                          have G7 := hide2 FQ.out.1
                          clear FQ
                          have NB := hide2 (show (Value.slice V s1.arcs.length cv).ownBlock ≠ some b8 by obtain ⟨_, o1, _⟩ := id G7.out.arcs; exact own_neBox o1 G7.out.box (by decide))
                          have g1 : w5.cell? ⟨b8, 1, none⟩ = some (.slice V s1.arcs.length cv) := G7.out.box.cell 1
                          go_wp2_with (at_builtin; go_loud (refine wpList_appLies tyArcs rfl _ _ rfl [(⟨(f : Int), (k : Int), (j : Int)⟩ : PArc)] #[.int .i64 (f : Int), .int .i64 (k : Int), .int .i64 (j : Int)] rfl rfl (by first | rfl | simp) rfl (by omega) (by simp [Value.oneCell']) G7.out.arcs (Reads.one (vs := fun q => #[Value.int .i64 (f : Int), .int .i64 (k : Int), .int .i64 (j : Int)].getD q (.int .i64 0)) ⟨rfl, rfl, rfl, WK.out⟩ rfl (fun j hj => (by match j, hj with | 0, _ => rfl | 1, _ => rfl | 2, _ => rfl))) rfl B7.out B7.out.size (by omega) (by omega) (fun _ _ _ _ h => h) ?_; intro g6 cap6 w6 own6' hg6' hb6' hat6'; have own6 := hide2 own6'; have hg6 := hide2 hg6'; have hb6 := hide2 hb6'; have hat6 := hide2 hat6'; clear own6' hg6' hb6' hat6' g1; have g1 : w6.cell? ⟨b8, 1, none⟩ = some (.slice V s1.arcs.length cv) := (G7.out.box.grown hg6.out NB.out).cell 1; have f1 := (G7.out.box.grown hg6.out NB.out).frozen 1))
                          go_roundw
                          case rel =>
                            have FK := G7.out.arc (by simp) own6.out hg6.out hat6.out
                            exact ⟨k + 1, _, _, ⟨s1.marks ++ [x], s1.arcs ++ [⟨(f : Int), (k : Int), (j : Int)⟩]⟩, by go_num, by omega, hide2 FK.1, hide2 (hb6.out.grown (grown_setCell _ _ _ _) hb6.out.size (fun k hk => by cases hk; exact G7.out.lo)), hide2 ⟨SP.out.1, by have := S1.out.2; simp; omega⟩, ST2, hide2 (prefix_at SP.out.2 FM.out)⟩
                          case measure => simp [intOf]; omega
          · obtain rfl : k = n := by omega
            have FA := hide2 (show foldS ⟨P, ts⟩ M m0 (f : Int) (allT ts.length) (some s) = some s1 by
              have := FO.out
              rwa [show k = ts.length from HW.out.len.symm] at this)
            have NX := hide2 (show goM ⟨P, ts⟩ M (M - (f + 1)) (f + 1) s1 = R by
              rw [← HR.out]
              obtain ⟨g, hg⟩ : ∃ g, M - f = g + 1 := ⟨M - f - 1, by have := SR.out.1.few; rw [HLL.out] at this; omega⟩
              rw [hg, goM, if_pos (by rw [HLL.out]; exact hU2), FD.out, FA.out, show M - (f + 1) = g by omega]
              rfl)
            have fM : f + 1 ≤ M := by have := SR.out.1.few; rw [HLL.out] at this; omega
            go_wp2
            go_roundw
            case rel => exact ⟨f + 1, u1, v1, s1, by go_num, by have := (List.getElem?_eq_some_iff.1 FM.out).1; omega, fM, GR, BR, hide2 ⟨S1.out.1, by have := S1.out.2; omega⟩, NX⟩
            case measure => simp [intOf]; omega
      · have FE := hide2 (show R = some s by
          rw [← HR.out]
          cases M - f with
          | zero => rfl
          | succ g => rw [goM, if_neg hlt])
        obtain rfl : f = L := by omega
        obtain ⟨U2, cu2, V, cv, eu, ev, hL2, hA2⟩ := GR.out.space (Y1.out.keep BR.out) noInt2 HLt.out.2 (Beside.set2 wr (w.heap.size + 1) 0 1 (.slice U s.marks.length cu) v) rfl rfl rfl (by omega) (by have := SR.out.2; omega)
        injection eu with e1 _ e2
        subst e1 e2 ev
        have LL := hide2 hL2
        have LA := hide2 hA2
        have c5 : wr.cell? ⟨b8, 1, none⟩ = some (.slice V s.arcs.length cv) := GR.out.box.cell 1
        rw [hL] at LL LA
        have MML := hide2 hL
        clear hL2 hA2 hL hlt
        obtain ⟨z0, z1⟩ := (Y1.out.keep BR.out).two
        have f0 := (Y1.out.keep BR.out).frozen 0
        have f1 := (Y1.out.keep BR.out).frozen 1
        go_wp2
        obtain ⟨r0, r1⟩ := ((Y1.out.keep BR.out).set2 (.slice U f cu) (.slice V s.arcs.length cv)).two
        have BW := below_set2 (BZ.out.trans (BR.out.mono BZ.out.size)) (Nat.le_refl _) (show w.heap.size ≤ w.heap.size + 1 by omega) (.slice U f cu) (.slice V s.arcs.length cv)
        exact bodyPost_ret (v := .tuple #[.agg #[.slice U f cu, .slice V s.arcs.length cv], .int .i64 0]) (by simp [results, Try.results66, go_sem, r0, r1]) rfl (by rw [GE.out, FE.out]; exact ⟨U, cu, V, cv, by rw [MML.out], by rw [MML.out]; exact LL.out, LA.out, BW⟩)
  · have FE := hide2 (show graphL ⟨P, ts⟩ xs most = (PSp.nil, 2) by rw [graphL, if_neg hall])
    by_cases hm1 : most < 1
    · clear hall
      go_wp2
      obtain ⟨r0, r1⟩ := (X1.out.set2 (.slice none 0 0) (.slice none 0 0)).two
      have BW := below_set2 HB.out (Nat.le_refl _) (show w.heap.size ≤ w.heap.size + 1 by omega) (.slice none 0 0) (.slice none 0 0)
      exact bodyPost_ret (v := .tuple #[.agg #[.slice none 0 0, .slice none 0 0], .int .i64 2]) (by simp [results, Try.results66, go_sem, r0, r1]) rfl (by rw [FE.out]; exact ans_space0 BW)
    · by_cases hm2 : most > 300
      · clear hall
        go_wp2
        obtain ⟨r0, r1⟩ := (X1.out.set2 (.slice none 0 0) (.slice none 0 0)).two
        have BW := below_set2 HB.out (Nat.le_refl _) (show w.heap.size ≤ w.heap.size + 1 by omega) (.slice none 0 0) (.slice none 0 0)
        exact bodyPost_ret (v := .tuple #[.agg #[.slice none 0 0, .slice none 0 0], .int .i64 2]) (by simp [results, Try.results66, go_sem, r0, r1]) rfl (by rw [FE.out]; exact ans_space0 BW)
      · have hft : fitsB ⟨P, ts⟩ xs = false := by
          cases hf : fitsB ⟨P, ts⟩ xs
          · rfl
          · exact absurd ⟨by omega, by omega, hf⟩ hall
        rw [hft] at CF
        clear hall hft
        go_wp2_with (go_at_call 112; (with_reducible refine CF.out.mono ?_); rintro e w1 ⟨rfl, hb1⟩; have B1 := hide2 hb1; clear hb1 a0 a1 z0 z1 f0 f1; obtain ⟨z0, z1⟩ := (X1.out.keep B1.out).two; have f0 := (X1.out.keep B1.out).frozen 0; have f1 := (X1.out.keep B1.out).frozen 1)
        obtain ⟨r0, r1⟩ := ((X1.out.keep B1.out).set2 (.slice none 0 0) (.slice none 0 0)).two
        have BW := below_set2 (HB.out.trans (B1.out.mono HB.out.size)) (Nat.le_refl _) (show w.heap.size ≤ w.heap.size + 1 by omega) (.slice none 0 0) (.slice none 0 0)
        exact bodyPost_ret (v := .tuple #[.agg #[.slice none 0 0, .slice none 0 0], .int .i64 2]) (by simp [results, Try.results66, go_sem, r0, r1]) rfl (by rw [FE.out]; exact ans_space0 BW)
end Go.Proofs.Ytnfppolgaeibeaa
