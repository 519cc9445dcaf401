/- Texts melted into one: A region that draws its order, with a list of pure operations taken ahead of all. | slices.SortStableFunc on rows of lists: swapRange and rotate. Conditions: the row is the call's own, as its lists are. | slices.SortStableFunc on rows of lists: rotate. Conditions: the row is the call's own, as its lists are. -/
import Derived.Test.YtcopnfdknclhnaaGreatMineTellsK03
import Derived.Test.YtcopnfdknclhnaaGreatMineTellsK29
import Derived.Test.YtcopnfdknclhnaaGreatMineTellsK13
namespace Go.Proofs.YtcopnfdknclhnaaGreat
open Go.RowKit

section
variable {P : Program} {ops : Array Oper} {Q : Exit → Act → World → Prop} {S : World → Prop} {m : Nat}
def setAllB : List Nat → Array Bool → Array Bool
  | [], l => l
  | i :: r, l => setAllB r (l.setIfInBounds i true)
def okPures (ops : Array Oper) (m : Nat) : List Nat → Array Bool → Bool
  | [], _ => true
  | i :: r, l => Region.free .any ops l i && (Region.ready .any ops l).contains i && i != m && okPures ops m r (l.setIfInBounds i true)
def wpPures (P : Program) (ops : Array Oper) (R : Act → World → Prop) : List Nat → Act → World → Prop
  | [], a, w => R a w
  | i :: r, a, w => ∃ (v : Value) (oi : Oper), nth ops.toList i = some oi ∧ Region.wanted oi (yielded ops a.tmps) = true ∧ (∀ w', (execOp a.eval oi).run P w' = .ok (.value v) w') ∧ wpPures P ops R r (a.put oi.dst v) w
theorem wpAnyL_pures (hs : Region.noSelect ops = true) (hQ : ∀ c a (d : Tmp) v w, Q (.panic c) (a.put (some d) v) w → Q (.panic c) a w) {f : Nat} {l : Scr} : ∀ (is : List Nat) (listed : Array Bool) (a : Act) (w : World), okPures ops m is listed = true → Closed .any ops listed → okScr .any ops m l f (setAllB is listed) = true → S w →
    wpPures P ops (wpScr P ops Q S l) is a w → wpAnyL P .any ops Q S m (f + is.length) listed a w
  | [], listed, a, w, _, hc, hok, _, h => wpAnyL_of_scr (m := m) hs hQ l _ _ _ _ hc hok h
  | i :: r, listed, a, w, hp, hc, hok, hS, h => by
    obtain ⟨v, oi, ho, hw, hy, hrest⟩ := h
    simp only [okPures, Bool.and_eq_true, bne_iff_ne, ne_eq] at hp
    obtain ⟨⟨⟨h1, h2⟩, h3⟩, h4⟩ := hp
    have hr : i ∈ Region.ready .any ops listed := by simpa using h2
    refine wpAnyL_pure (nth_ops ho) (Region.noSelect_spec hs) (fun c a w h => by cases hd : oi.dst with | none => rw [hd] at h; exact h | some d => rw [hd] at h; exact hQ c a d _ w h) h3 (f + r.length) listed a w (Region.free_spec (nth_ops ho) h1) hr (fun _ => hS) (.inl ⟨hw, fun w' _ => hy w'⟩) ?_
    exact wpAnyL_pures hs hQ r _ _ _ h4 (hc.set hr) hok hS hrest
theorem wp_region_scrL {id : Nat} (m : Nat) (is : List Nat) (f : Nat) (l : Scr) (S : World → Prop) {a : Act} {w : World} (hm : P.follows .mixedOrders = true) (hs : Region.noSelect ops = true)
    (hp : okPures ops m is (Array.replicate ops.size false) = true) (hf : ops.size = f + is.length) (hok : okScr .any ops m l f (setAllB is (Array.replicate ops.size false)) = true)
    (hQ : ∀ c a (d : Tmp) v w, Q (.panic c) (a.put (some d) v) w → Q (.panic c) a w) (hS : S w.drew) (h : S w.drew → wpPures P ops (wpScr P ops Q S l) is a w.drew) : (Code.region id ops true).wp P Q a w := by
  refine wp_region_any hm (wpAny_of_L (S := S) (m := m) _ _ _ _ ?_)
  have key := wpAnyL_pures (P := P) (Q := Q) (S := S) (m := m) (f := f) (l := l) hs hQ is (Array.replicate ops.size false) a w.drew hp (Closed.start _) hok hS (h hS)
  rw [← hf] at key
  exact key
theorem tkPure {R : Act → World → Prop} {i : Nat} {r : List Nat} {a : Act} {w : World} {oi : Oper} {v : Value} (ho : nth ops.toList i = some oi) (hw : Region.wanted oi (yielded ops a.tmps) = true) (hy : ∀ w', (execOp a.eval oi).run P w' = .ok (.value v) w') (h : wpPures P ops R r (a.put oi.dst v) w) : wpPures P ops R (i :: r) a w := ⟨v, oi, ho, hw, hy, h⟩
end
end Go.Proofs.YtcopnfdknclhnaaGreat
namespace Go.Proofs.YtcopnfdknclhnaaGreat
open Go.RowKit

/-- The first n places as a list. -/
def tabF (f : Nat → List Int) (n : Nat) : List (List Int) := (List.range n).map f
theorem tabF_at {f : Nat → List Int} {n k : Nat} (h : k < n) : (tabF f n)[k]? = some (f k) := by simp [tabF, h]
theorem tabF_len (f : Nat → List Int) (n : Nat) : (tabF f n).length = n := by simp [tabF]
theorem tabF_swap {f : Nat → List Int} {n i j : Nat} (hi : i < n) (hj : j < n) : ((tabF f n).set i (f j)).set j (f i) = tabF (swapF f i j) n := by
  apply List.ext_getElem?
  intro k
  by_cases hk : k < n
  · rw [tabF_at hk, List.getElem?_set, List.length_set, tabF_len, List.getElem?_set, tabF_len, tabF_at hk]
    unfold swapF
    by_cases h1 : j = k
    · subst h1
      rw [if_pos rfl, if_pos hj]
      by_cases h2 : j = i
      · subst h2; rw [if_pos rfl]
      · rw [if_neg h2, if_pos rfl]
    · rw [if_neg h1]
      by_cases h2 : i = k
      · subst h2; rw [if_pos rfl, if_pos hi, if_pos rfl]
      · rw [if_neg h2, if_neg (fun e => h2 e.symm), if_neg (fun e => h1 e.symm)]
  · rw [List.getElem?_eq_none (by simp [tabF_len]; omega), List.getElem?_eq_none (by rw [tabF_len]; omega)]
/-- A row whose places f tells. -/
abbrev RowF (w : World) (B B2 g n cap : Nat) (f : Nat → List Int) : Prop := RowG w B B2 (.slice (some ⟨g, 0, none⟩) n cap) n (tabF f n)

set_option maxRecDepth 100000 in
set_option maxHeartbeats 4000000 in
theorem swapRange_calls {w : World} {B B2 g n cap : Nat} {f : Nat → List Int} (own : RowF w B B2 g n cap f) (a b k : Nat) (ha : a + k ≤ n) (hb : b + k ≤ n) (hd : a + k ≤ b ∨ b + k ≤ a) (hn : n ≤ 1000) (fv : Value) :
    Calls Tryz.prog 127 #[.slice (some ⟨g, 0, none⟩) n cap, .int .i64 a, .int .i64 b, .int .i64 k, fv] w fun e w' => (∃ y, e = .returned y) ∧ RowF w' B B2 g n cap (swrF f a b k) ∧ w.grownBy w' (some g) := by
  have OW := hide2 own
  clear own
  go_enter Tryz.func127, Tryz.ntmps127
  go_wp2
  go_loopg [10] k (fun gk u wr => ∃ i : Nat, i + gk = k ∧ u = .int .i64 i ∧ Hid (RowF wr B B2 g n cap (swrF f a b i)) ∧ Hid (w.grownBy wr (some g)))
  case atStart => exact ⟨0, by omega, rfl, hide2 (by rw [swrF_zero]; exact OW.out), hide2 (World.grownBy.refl _ _)⟩
  case round =>
    clear OW
    obtain ⟨i, hi, rfl, OL, GR⟩ := hrel
    by_cases hlt : i < k
    · have hki : (i : Int) < (k : Int) := by omega
      have hwa : IntKind.i64.wrap ((a : Int) + (i : Int)) = (a : Int) + (i : Int) := by simp [IntKind.wrap, IntKind.bits, IntKind.signed]; omega
      have hwb : IntKind.i64.wrap ((b : Int) + (i : Int)) = (b : Int) + (i : Int) := by simp [IntKind.wrap, IntKind.bits, IntKind.signed]; omega
      have hai : 0 ≤ (a : Int) + (i : Int) ∧ (a : Int) + (i : Int) < (n : Int) := by omega
      have hbi : 0 ≤ (b : Int) + (i : Int) ∧ (b : Int) + (i : Int) < (n : Int) := by omega
      obtain ⟨ha0, ha1⟩ := hai
      obtain ⟨hb0, hb1⟩ := hbi
      have hna : ((a : Int) + (i : Int)).toNat = a + i := by omega
      have hnb : ((b : Int) + (i : Int)).toNat = b + i := by omega
      have OD := hide2 (OL.out.keep ((Below.refl wr.heap.size wr).drew))
      have GD := hide2 (GR.out.trans (gnone2 ((Below.refl wr.heap.size wr).drew) (some g)))
      obtain ⟨Ax, mx, cx, q1, ix, hmx⟩ := OD.out.at (tabF_at (f := swrF f a b i) (show a + i < n by omega))
      obtain ⟨Ay, my, cy, q2, iy, hmy⟩ := OD.out.at (tabF_at (f := swrF f a b i) (show b + i < n by omega))
      have IX := hide2 ix
      have IY := hide2 iy
      have HGK := hide2 (show gk = (gk - 1) + 1 ∧ i + 1 + (gk - 1) = k by omega)
      clear ix iy OL GR
      go_upto_region 3 with fail
      refine wp_region_scrL 20 [4, 5, 6, 7] 20 (.takes [0, 1, 2, 3, 8, 9, 10, 11, 12, 13, 14, 15, 16, 17, 18, 19] (.fin 20 (.fin 21 (.fin 22 (.fin 23 .done))))) (fun w' => w'.cell? ⟨g, a + i, none⟩ = some (.slice Ax mx cx) ∧ w'.cell? ⟨g, b + i, none⟩ = some (.slice Ay my cy)) (by kernel_rfl) (by kernel_rfl) (by kernel_rfl) rfl (by kernel_rfl) (fun _ _ _ _ _ h => h) ⟨q1, q2⟩ (fun hHeld => ?_)
      generalize wr.drew = y1 at *
      iterate 4
        refine tkPure (v := ?_) rfl (by rfl) (fun w' => ?_) ?_
        rotate_left
        · (go_simp; try with_reducible rfl)
        try simp only [Act.put, List.setIfInBounds_toArray, List.set_cons_zero, List.set_cons_succ]
      simp only [wpPures, Scr.takes]
      iterate 16
        refine tkTake (v := ?_) rfl (by rfl) hHeld (fun w' hSw => ?_) ?_
        rotate_left
        · (go_simp; try with_reducible rfl)
        try simp only [Act.put, List.setIfInBounds_toArray, List.set_cons_zero, List.set_cons_succ]
      clear q1 q2 hHeld
      have z1 := OD.out.frozen (a + i)
      obtain ⟨v1, y10⟩ := Option.isSome_iff_exists.1 (RowG.anyCell OD.out (j := a + i) (by omega))
      refine tkEnd rfl (fun Kf hKf => ?_)
      go_simp
      refine hKf.out _ _ ?_
      clear hKf
      try simp only [Act.put, List.setIfInBounds_toArray, List.set_cons_zero, List.set_cons_succ]
      refine tkEnd rfl (fun Kf hKf => ?_)
      go_simp
      refine hKf.out _ _ ?_
      clear hKf z1 y10
      try simp only [Act.put, List.setIfInBounds_toArray, List.set_cons_zero, List.set_cons_succ]
      have O2 := hide2 (RowG.put OD.out (a + i) IY.out hmy)
      have G2 := hide2 (GD.out.trans (grownG y1 g (a + i) (.slice Ay my cy)))
      have IX2 := hide2 (intsAt_put OD.out IX.out (a + i) (.slice Ay my cy))
      generalize y1.setCell ⟨g, a + i, none⟩ (.slice Ay my cy) = y2 at *
      have z2 := O2.out.frozen (b + i)
      obtain ⟨v2, y20⟩ := Option.isSome_iff_exists.1 (RowG.anyCell O2.out (j := b + i) (by omega))
      refine tkEnd rfl (fun Kf hKf => ?_)
      go_simp
      refine hKf.out _ _ ?_
      clear hKf
      try simp only [Act.put, List.setIfInBounds_toArray, List.set_cons_zero, List.set_cons_succ]
      refine tkEnd rfl (fun Kf hKf => ?_)
      go_simp
      refine hKf.out _ _ ?_
      clear hKf z2 y20
      try simp only [Act.put, List.setIfInBounds_toArray, List.set_cons_zero, List.set_cons_succ]
      have O3 := hide2 (RowG.put O2.out (b + i) IX2.out hmx)
      have G3 := hide2 (G2.out.trans (grownG y2 g (b + i) (.slice Ax mx cx)))
      refine tkDone ?_
      generalize y2.setCell ⟨g, b + i, none⟩ (.slice Ax mx cx) = y3 at *
      have O4 := hide2 (show RowF y3 B B2 g n cap (swrF f a b (i + 1)) by
        have := O3.out
        rw [tabF_swap (f := swrF f a b i) (show a + i < n by omega) (show b + i < n by omega), swrF_succ (by omega)] at this
        exact this)
      clear O2 O3 OD
      go_wp2
      go_roundg (gk - 1)
      case measure => have := HGK.out.1; omega
      case rel => exact ⟨i + 1, HGK.out.2, by go_num, O4, G3⟩
    · obtain rfl : i = k := by omega
      go_wp2
      exact bodyPost_end (v := .tuple #[]) (by simp [results, Tryz.results127, go_sem]) rfl ⟨⟨_, rfl⟩, OL.out, GR.out⟩
end Go.Proofs.YtcopnfdknclhnaaGreat
namespace Go.Proofs.YtcopnfdknclhnaaGreat
open Go.RowKit

set_option maxRecDepth 100000 in
set_option maxHeartbeats 4000000 in
theorem rotateL_calls {w : World} {B B2 g n cap : Nat} {f : Nat → List Int} (own : RowF w B B2 g n cap f) (a m b : Nat) (h1 : a < m) (h2 : m < b) (hb : b ≤ n) (hn : n ≤ 1000) (fv : Value) :
    Calls Tryz.prog 104 #[.slice (some ⟨g, 0, none⟩) n cap, .int .i64 a, .int .i64 m, .int .i64 b, fv] w fun e w' => (∃ y, e = .returned y) ∧ RowF w' B B2 g n cap (rotF f a m b) ∧ w.grownBy w' (some g) := by
  have OW := hide2 own
  clear own
  have hw1 : IntKind.i64.wrap ((m : Int) - (a : Int)) = (m : Int) - (a : Int) := by simp [IntKind.wrap, IntKind.bits, IntKind.signed]; omega
  have hw2 : IntKind.i64.wrap ((b : Int) - (m : Int)) = (b : Int) - (m : Int) := by simp [IntKind.wrap, IntKind.bits, IntKind.signed]; omega
  go_enter Tryz.func104, Tryz.ntmps104
  go_wp2
  clear hw1 hw2
  go_loopg [10, 11] (b - a) (fun gk u v wr => ∃ (i j : Nat) (q : Nat → List Int), u = .int .i64 i ∧ v = .int .i64 j ∧ i + j ≤ gk ∧ Hid (RotI f q a m b i j) ∧ Hid (RowF wr B B2 g n cap q) ∧ Hid (w.grownBy wr (some g)))
  case atStart => exact ⟨m - a, b - m, f, by rw [show ((m - a : Nat) : Int) = (m : Int) - a by omega], by rw [show ((b - m : Nat) : Int) = (b : Int) - m by omega], by omega, RotI.start h1 h2, OW, hide2 (World.grownBy.refl _ _)⟩
  case round =>
    clear OW
    obtain ⟨i, j, q, rfl, rfl, hij, RI, OL, GR⟩ := hrel
    have ri := RI.out
    obtain ⟨r1, r2, r3, r4, _⟩ := ri
    have ei : ((m - i : Nat) : Int) = (m : Int) - (i : Int) := by omega
    have hwi : IntKind.i64.wrap ((m : Int) - (i : Int)) = (m : Int) - (i : Int) := by simp [IntKind.wrap, IntKind.bits, IntKind.signed]; omega
    by_cases hne : i = j
    · subst hne
      have CS := hide2 (show Calls Tryz.prog 127 #[.slice (some ⟨g, 0, none⟩) n cap, .int .i64 ((m : Int) - (i : Int)), .int .i64 m, .int .i64 i, fv] wr (fun e w' => (∃ y, e = .returned y) ∧ RowF w' B B2 g n cap (rotF f a m b) ∧ wr.grownBy w' (some g)) from by
        have := swapRange_calls OL.out (m - i) m i (by omega) (by omega) (by omega) hn fv
        rw [ei, RI.out.fin h1] at this
        exact this)
      go_wp2_with fail
      refine CS.out.mono ?_
      rintro e w1 ⟨⟨y, rfl⟩, o1, g1⟩
      have O1 := hide2 o1
      have G1 := hide2 (GR.out.trans g1)
      clear o1 g1
      go_wp2
      exact bodyPost_end (v := .tuple #[]) (by simp [results, Tryz.results104, go_sem]) rfl ⟨⟨_, rfl⟩, O1.out, G1.out⟩
    · have hneb : ((i : Int) != (j : Int)) = true := by simp; omega
      by_cases hgt : j < i
      · have hgti : (j : Int) < (i : Int) := by omega
        have hwj : IntKind.i64.wrap ((i : Int) - (j : Int)) = (i : Int) - (j : Int) := by simp [IntKind.wrap, IntKind.bits, IntKind.signed]; omega
        have CS := hide2 (show Calls Tryz.prog 127 #[.slice (some ⟨g, 0, none⟩) n cap, .int .i64 ((m : Int) - (i : Int)), .int .i64 m, .int .i64 j, fv] wr (fun e w' => (∃ y, e = .returned y) ∧ RowF w' B B2 g n cap (swrF q (m - i) m j) ∧ wr.grownBy w' (some g)) from by
          have := swapRange_calls OL.out (m - i) m j (by omega) (by omega) (by omega) hn fv
          rw [ei] at this
          exact this)
        have RN := hide2 (RI.out.left h1 hgt)
        have HM := hide2 (show gk - j < gk ∧ (i - j) + j ≤ gk - j by omega)
        go_wp2_with fail
        refine CS.out.mono ?_
        rintro e w1 ⟨⟨y, rfl⟩, o1, g1⟩
        have O1 := hide2 o1
        have G1 := hide2 (GR.out.trans g1)
        clear o1 g1
        go_wp2
        go_roundg (gk - j)
        case measure => exact HM.out.1
        case rel => exact ⟨i - j, j, _, by rw [show ((i - j : Nat) : Int) = (i : Int) - j by omega], rfl, HM.out.2, RN, O1, G1⟩
      · have hlt : i < j := by omega
        have hgti : ¬ (j : Int) < (i : Int) := by omega
        have hwj : IntKind.i64.wrap ((j : Int) - (i : Int)) = (j : Int) - (i : Int) := by simp [IntKind.wrap, IntKind.bits, IntKind.signed]; omega
        have hwm : IntKind.i64.wrap ((m : Int) + (j : Int)) = (m : Int) + (j : Int) := by simp [IntKind.wrap, IntKind.bits, IntKind.signed]; omega
        have hwx : IntKind.i64.wrap ((m : Int) + (j : Int) - (i : Int)) = (m : Int) + (j : Int) - (i : Int) := by simp [IntKind.wrap, IntKind.bits, IntKind.signed]; omega
        have CS := hide2 (show Calls Tryz.prog 127 #[.slice (some ⟨g, 0, none⟩) n cap, .int .i64 ((m : Int) - (i : Int)), .int .i64 ((m : Int) + (j : Int) - (i : Int)), .int .i64 i, fv] wr (fun e w' => (∃ y, e = .returned y) ∧ RowF w' B B2 g n cap (swrF q (m - i) (m + j - i) i) ∧ wr.grownBy w' (some g)) from by
          have := swapRange_calls OL.out (m - i) (m + j - i) i (by omega) (by omega) (by omega) hn fv
          rw [ei, show ((m + j - i : Nat) : Int) = (m : Int) + (j : Int) - (i : Int) by omega] at this
          exact this)
        have RN := hide2 (RI.out.right h1 hlt)
        have HM := hide2 (show gk - i < gk ∧ i + (j - i) ≤ gk - i by omega)
        go_wp2_with fail
        refine CS.out.mono ?_
        rintro e w1 ⟨⟨y, rfl⟩, o1, g1⟩
        have O1 := hide2 o1
        have G1 := hide2 (GR.out.trans g1)
        clear o1 g1
        go_wp2
        go_roundg (gk - i)
        case measure => exact HM.out.1
        case rel => exact ⟨i, j - i, _, rfl, by rw [show ((j - i : Nat) : Int) = (j : Int) - i by omega], HM.out.2, RN, O1, G1⟩
end Go.Proofs.YtcopnfdknclhnaaGreat
