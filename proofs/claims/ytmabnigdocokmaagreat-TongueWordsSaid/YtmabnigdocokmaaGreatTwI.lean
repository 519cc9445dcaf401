/- The contract of Words. Conditions: the net reads as a list of transitions. -/
import Derived.Test.YtmabnigdocokmaaGreatTwH
import Derived.Test.YtmabnigdocokmaaGreatTwG
import Derived.Lib.MinMax
import Derived.Deep.DeepCutAuto
namespace Go.Proofs.YtmabnigdocokmaaGreat
open Go.RowKit
open Classical

/-- The letters of a net, rising, each once. -/
def letL (N : PNet) : List Int := Lib.compact ((labL N).mergeSort fun x y => decide (x ≤ y))
theorem letL_spec (N : PNet) : (letL N).Pairwise (· < ·) ∧ ∀ x, x ∈ letL N ↔ x ∈ labL N := by
  have hs : ((labL N).mergeSort fun x y => decide (x ≤ y)).Pairwise (· ≤ ·) := by
    have := List.pairwise_mergeSort (le := fun x y : Int => decide (x ≤ y)) (fun a b c h1 h2 => by simp at *; omega) (fun a b => by simp; omega) (labL N)
    exact this.imp (fun {a b} h => by simpa using h)
  obtain ⟨h1, h2⟩ := compact_asc hs
  exact ⟨h1, fun x => by unfold letL; rw [h2, List.mem_mergeSort]⟩
theorem letL_len (N : PNet) : (letL N).length ≤ N.trans.length := by
  have h := letL_spec N
  have hn : (letL N).Nodup := h.1.imp (fun {a b} hab e => by omega)
  have := hn.length_le_of_subset (fun x hx => (h.2 x).1 hx)
  simpa [labL] using this
section
variable {ars : List PArc} {lb : Int → Int} {es : List Bool} {n : Nat}
theorem told_snoc (v : List Int) (a : Int) : toldL ars lb v n v.length = toldL ars lb (v ++ [a]) n v.length :=
  listOf_congr (fun m _ => ⟨fun h => h.congr (fun i hi => by rw [List.getElem?_append_left hi]), fun h => h.congr (fun i hi => by rw [List.getElem?_append_left hi])⟩)
theorem on_nat {bs : List Bool} {k : Nat} : on bs (k : Int) ↔ bs.getD k false = true := by
  show bs.getD ((k : Nat) : Int).toNat false = true ↔ _
  rw [Int.toNat_natCast]
theorem meet_word {v : List Int} (hn : 0 < n) (ht : ∀ a ∈ ars, Inn n a.to_) : meetB (toldL ars lb v n v.length) es n = isW ars lb (fun m => on es m) v := by
  have key : meetB (toldL ars lb v n v.length) es n = true ↔ Lead ars lb (fun m => on es m) 0 v := by
    rw [← word_iff]
    unfold meetB
    rw [List.any_eq_true]
    constructor
    · rintro ⟨j, hj, h⟩
      rw [Bool.and_eq_true] at h
      have hjn := List.mem_range.1 hj
      exact ⟨(j : Int), (told_on ⟨by omega, by omega⟩).1 (on_nat.2 h.1), on_nat.2 h.2⟩
    · rintro ⟨m, h1, h2⟩
      obtain ⟨k, rfl, hk⟩ := natOf (h1.inn hn ht)
      refine ⟨k, List.mem_range.2 hk, ?_⟩
      rw [Bool.and_eq_true]
      exact ⟨on_nat.1 ((told_on ⟨by omega, by omega⟩).2 h1), on_nat.1 h2⟩
  unfold isW
  cases hm : meetB (toldL ars lb v n v.length) es n
  · exact (decide_eq_false (fun h => by rw [key.2 h] at hm; cases hm)).symm
  · exact (decide_eq_true (key.1 hm)).symm
theorem hope_lt (hn : 0 < n) (hf : ∀ a ∈ ars, Inn n a.from_) (ht : ∀ a ∈ ars, Inn n a.to_) (s : List Bool) : hopeTo s (farL ars lb es n) n < (n : Int) := by
  rcases hope_spec s (farL ars lb es n) n with ⟨h, _⟩ | ⟨_, ⟨j, hj, _, e⟩, _⟩
  · rw [h]; omega
  · rw [← e, farL_at hj]
    exact (far_short hf ht hj).2
end
section
variable {ars : List PArc} {lb : Int → Int} {E : Int → Prop} {letters : List Int} {most : Nat}
theorem wordsTo_le {K K' : Nat} (h : K ≤ K') : (wordsTo ars lb E letters most K).length ≤ (wordsTo ars lb E letters most K').length := by
  induction h with
  | refl => exact Nat.le_refl _
  | step _ ih =>
    rw [wordsTo_succ, List.length_append]
    omega
theorem outs_le {K i : Nat} (hK : K ≤ most) : (wordsTo ars lb E letters most K ++ ((lev letters (GoodW ars lb E most) K).take i).filter (isW ars lb E)).length ≤ (allW ars lb E letters most).length := by
  have h1 := wordsTo_le (ars := ars) (lb := lb) (E := E) (letters := letters) (most := most) (show K + 1 ≤ most + 1 by omega)
  rw [wordsTo_succ, List.length_append] at h1
  have h2 := ((List.take_sublist i (lev letters (GoodW ars lb E most) K)).filter (isW ars lb E)).length_le
  rw [List.length_append]
  unfold allW
  omega
theorem mores_le {K i : Nat} (hl : letters.Pairwise (· < ·)) (hall : ∀ a ∈ ars, lb a.tran ∈ letters) : (nextW letters (GoodW ars lb E most) ((lev letters (GoodW ars lb E most) K).take i)).length ≤ (allW ars lb E letters most).length := by
  refine begins_le (k := K + 1) hall (asc_nextW (k := K) hl ((lev_asc hl K).sublist (List.take_sublist _ _)) (fun w hw => (lev_mem K w (List.mem_of_mem_take hw)).1)).nodup (fun w hw => ?_) (fun w hw => ?_)
  · obtain ⟨v, a, rfl, hv, _⟩ := mem_nextW.1 hw
    simp [(lev_mem K v (List.mem_of_mem_take hv)).1]
  · obtain ⟨v, a, rfl, _, _, hg⟩ := mem_nextW.1 hw
    exact hg
theorem nextW_snoc {good : List Int → Prop} {ws : List (List Int)} {v : List Int} : nextW letters good (ws ++ [v]) = nextW letters good ws ++ (letters.filter fun a => decide (good (v ++ [a]))).map fun a => v ++ [a] := by
  unfold nextW
  rw [List.flatMap_append]
  simp
/-- The beginnings that v goes on to, by its first q letters. -/
noncomputable def goOn (letters : List Int) (good : List Int → Prop) (v : List Int) (q : Nat) : List (List Int) := ((letters.take q).filter fun a => decide (good (v ++ [a]))).map fun a => v ++ [a]
theorem goOn_yes {good : List Int → Prop} {v : List Int} {q : Nat} {a : Int} (h : letters[q]? = some a) (hg : good (v ++ [a])) : goOn letters good v (q + 1) = goOn letters good v q ++ [v ++ [a]] := by
  unfold goOn
  rw [take_snoc h, List.filter_append, List.map_append]
  simp [hg]
theorem goOn_no {good : List Int → Prop} {v : List Int} {q : Nat} {a : Int} (h : letters[q]? = some a) (hg : ¬ good (v ++ [a])) : goOn letters good v (q + 1) = goOn letters good v q := by
  unfold goOn
  rw [take_snoc h, List.filter_append, List.map_append]
  simp [hg]
end

section
variable {ars : List PArc} {lb : Int → Int} {n B B2 B3 B4 m m3 : Nat} {w w' : World} {v u : Value} {L M : List (List Int)}
theorem RowS.besideL (h : RowS ars lb n B w B2 v m L) (o : RowL w B3 B4 u m3 M) (hg : w.grownBy w' u.ownBlock) : RowS ars lb n B w' B2 v m L := by
  obtain ⟨cs, a1, _⟩ := o
  exact h.other a1 (by decide) (by decide) (by decide) hg
theorem OwnInts.besideL {k : Nat} {xs : List Int} (h : OwnInts w B v k xs) (o : RowL w B3 B4 u m3 M) (hg : w.grownBy w' u.ownBlock) : OwnInts w' B v k xs := by
  obtain ⟨cs, a1, _⟩ := o
  obtain ⟨zs, z1, z2, z3⟩ := h
  exact ⟨zs, z1.kept hg (own_ne z1 a1 (by decide)), z2, z3⟩
theorem OwnBools.besideL {g k : Nat} {bs : List Bool} (h : OwnBools w B g k bs) (o : RowL w B3 B4 u m3 M) (hg : w.grownBy w' u.ownBlock) : OwnBools w' B g k bs := by
  obtain ⟨cs, a1, _⟩ := o
  exact World.ownsRow.kept h hg (own_ne h a1 (by decide))
theorem RowL.besideS (h : RowL w B B2 v m L) (o : RowS ars lb n B3 w B4 u m3 M) (hg : w.grownBy w' u.ownBlock) : RowL w' B B2 v m L := by
  obtain ⟨cs, a1, _⟩ := o
  exact h.other a1 (by decide) (by decide) hg
theorem OwnInts.besideS {k : Nat} {xs : List Int} (h : OwnInts w B v k xs) (o : RowS ars lb n B3 w B4 u m3 M) (hg : w.grownBy w' u.ownBlock) : OwnInts w' B v k xs := by
  obtain ⟨cs, a1, _⟩ := o
  obtain ⟨zs, z1, z2, z3⟩ := h
  exact ⟨zs, z1.kept hg (own_ne z1 a1 (by decide)), z2, z3⟩
theorem OwnBools.besideS {g k : Nat} {bs : List Bool} (h : OwnBools w B g k bs) (o : RowS ars lb n B3 w B4 u m3 M) (hg : w.grownBy w' u.ownBlock) : OwnBools w' B g k bs := by
  obtain ⟨cs, a1, _⟩ := o
  exact World.ownsRow.kept h hg (own_ne h a1 (by decide))
theorem Ints.clip {A : Option Addr} {k c : Nat} {xs : List Int} (h : Ints w A k c xs) : Ints w A k k xs :=
  ⟨h.len, Nat.le_refl _, Nat.le_trans h.le h.cap, h.small, fun e => by have := h.nul e; have := h.le; omega, h.cells⟩
end

set_option maxRecDepth 100000 in
set_option maxHeartbeats 16000000 in
theorem words_calls {w : World} {P : Int} {A : Option Addr} {n c : Nat} {ts : List PTran} (i o most : Int) (h : Trans w A n c ts) (hn : n ≤ 2513169434916) :
    Calls Tryz.prog 4 #[.agg #[.int .i64 P, .slice A n c], .int .i64 i, .int .i64 o, .int .i64 most] w (AnsWords (wordsB ⟨P, ts⟩ i o most (letL ⟨P, ts⟩)) w) := by
  generalize hw : w.alloc (.cells #[.int .i64 P, .slice A n c] 24) = w0
  have HB := hide2 (show Below w.heap.size w w0 by rw [← hw]; exact (Below.refl _ _).alloc (Nat.le_refl _) _)
  have X0 := hide2 (show Box w0 w.heap.size 24 #[.int .i64 P, .slice A n c] by rw [← hw]; exact Box.new _ _ _)
  have CW := hide2 (speak_calls (P := P) i o (h.keep HB.out) hn)
  have TL := hide2 (show ts.length = n from h.len)
  clear h
  obtain ⟨R, hR⟩ : ∃ R, tongS ⟨P, ts⟩ i o = R := ⟨_, rfl⟩
  have HR := hide2 hR
  have TO := hide2 (fun (s : PSp) (he : R = (s, 0)) => tongS_ok (hR.trans he))
  have T24 := hide2 (fun (s : PSp) (he : R = (s, 0)) => tongS_24 (hR.trans he))
  rw [hR] at CW
  clear hR
  obtain ⟨a0, a1⟩ := X0.out.two
  go_enter Tryz.func4, Tryz.ntmps4
  go_upto_region 1 with fail
  clear hw
  obtain ⟨s, k⟩ := R
  by_cases hk : k = 0
  · subst hk
    have T := hide2 (TO.out s rfl)
    have N24 := hide2 (T24.out s rfl)
    clear TO T24
    go_upto_region 4 with (go_at_call 7; go_loud ((with_reducible refine CW.out.mono ?_); rintro e w1 ⟨hb1, ⟨hne, _⟩ | ⟨_, bp, As, cs, D, m, d, Al, nl, cl, Ae, ce, rfl, hS⟩⟩; (exact absurd rfl hne); have B1 := hide2 hb1; have SP := hide2 hS; clear hb1 hS))
    clear a0 a1 X0 CW
    have BZ := hide2 (HB.out.trans (B1.out.mono HB.out.size))
    clear B1 HB
    by_cases hm0 : most < 0
    · have OKR := hide2 (wordsB_range (letters := letL ⟨P, ts⟩) (most := most) HR.out (.inl hm0))
      go_wp2
      go_ret2
      exact ⟨none, 0, 0, by rw [OKR.out]; rfl, by rw [OKR.out]; exact Sl.nil0, BZ.out⟩
    · by_cases hm8 : 8 < most
      · have OKR := hide2 (wordsB_range (letters := letL ⟨P, ts⟩) (most := most) HR.out (.inr hm8))
        go_wp2
        go_ret2
        exact ⟨none, 0, 0, by rw [OKR.out]; rfl, by rw [OKR.out]; exact Sl.nil0, BZ.out⟩
      · obtain ⟨mm, rfl⟩ : ∃ mm : Nat, most = (mm : Int) := ⟨most.toNat, by omega⟩
        have hmm : mm ≤ 8 := by omega
        have FUL := hide2 (fun hf => wordsB_full (letters := letL ⟨P, ts⟩) HR.out hmm hf)
        have ALL := hide2 (fun hf => wordsB_all (letters := letL ⟨P, ts⟩) HR.out hmm hf)
        obtain ⟨n0, hn0⟩ : ∃ n0, s.marks.length = n0 := ⟨_, rfl⟩
        have HN0 := hide2 hn0
        simp only [hn0] at SP
        clear hn0
        have h300 := SP.out.small
        have NLB := hide2 (show nl = n by rw [← SP.out.labels.len]; unfold labL; rw [List.length_map]; exact TL.out)
        have hnl : nl ≤ 24 := by rw [NLB.out, ← TL.out]; exact N24.out
        have LSP := hide2 (letL_spec ⟨P, ts⟩)
        have HALL := hide2 (show ∀ a ∈ s.arcs, atI (labL ⟨P, ts⟩) a.tran ∈ letL ⟨P, ts⟩ from fun a ha => ((letL_spec ⟨P, ts⟩).2 _).2 (lab_mem (T.out.tran a ha)))
        have LBL := hide2 (show ∀ a ∈ s.arcs, 0 ≤ atI (labL ⟨P, ts⟩) a.tran from T.out.label)
        have LLN := hide2 (Nat.le_trans (letL_len ⟨P, ts⟩) N24.out)
        obtain ⟨c0, c1, c2, c3⟩ := SP.out.box.four
        clear T N24
        go_upto_region 9 with (first
          | (go_at_call 10; (with_reducible refine (values_calls _ Al nl cl).mono ?_); rintro e w2 ⟨rfl, rfl⟩)
          | (go_at_call 9; (with_reducible refine (sortedW_calls (w := w1.alloc (.cells #[.slice Al nl cl] 34)) (by simp) ((Box.new w1 #[.slice Al nl cl] 34).cell 0) (Ints.keep SP.out.labels (boxBelow w1 _)) (by omega)).mono ?_); rintro e w3 ⟨v3, rfl, o3, hb3⟩; have O3 := hide2 o3; have B3 := hide2 ((boxBelow w1 (.cells #[.slice Al nl cl] 34)).trans (hb3.mono (by simp))); clear o3 hb3)
          | (go_at_call 8; (with_reducible refine (compactOwn_calls O3.out (by omega)).mono ?_); rintro e w4 ⟨v4, rfl, o4, hg4⟩; have O4 := hide2 o4; have B4 := hide2 (B3.out.grown hg4 B3.out.size (fun k e => Nat.le_trans (by simp) (OwnSl.lt O3.out k e).1)); clear o4 hg4)
          | (go_at_call 11; (with_reducible refine (far_calls (SP.out.keep B4.out)).mono ?_); rintro e w5 ⟨gf, cf, rfl, hi, hb5⟩; have IF := hide2 hi; have B5 := hide2 hb5; clear hi hb5)
          | (go_at_call 12; (with_reducible refine (first_calls [] ((SP.out.keep B4.out).keep B5.out)).mono ?_); rintro e w6 ⟨g1, rfl, ob, hb6⟩; have OB := hide2 ob; have B6 := hide2 hb6; clear ob hb6))
        obtain ⟨Al2, cl2, rfl, il2⟩ : ∃ A c, v4 = .slice A (letL ⟨P, ts⟩).length c ∧ Ints w4 A (letL ⟨P, ts⟩).length c (letL ⟨P, ts⟩) := OwnSl.sl O4.out (Nat.le_trans (m := 24) LLN.out (by omega))
        obtain ⟨nL, hnL⟩ : ∃ nL, (letL ⟨P, ts⟩).length = nL := ⟨_, rfl⟩
        have HNL := hide2 hnL
        rw [hnL] at il2
        simp only [hnL]
        have nl24 : nL ≤ 24 := by rw [← hnL]; exact LLN.out
        clear hnL
        have SPB := hide2 ((SP.out.keep B4.out).keep B5.out)
        have LTI := hide2 (Ints.keep il2 B5.out)
        have BB := hide2 (BZ.out.trans ((B4.out.mono BZ.out.size).trans (B5.out.mono (by have := (B4.out.mono BZ.out.size).size; have := BZ.out.size; omega))))
        have S0 := hide2 (RowS.one (ars := s.arcs) (lb := (atI (labL ⟨P, ts⟩))) (n := n0) (B := w5.heap.size) (w := w6) (A := none) (c := 0) (gs := g1) (v := []) OwnSl.nil (by simp) OB.out B6.out.size)
        have BW0 := hide2 (B6.out.alloc B6.out.size (.cells #[.slice none 0 0, .slice (some ⟨g1, 0, none⟩) n0 n0] 50))
        clear il2 O4 B4 B5 B3 O3 SP BZ OB c0 c1 c2 c3
        obtain ⟨B0, hB0⟩ : ∃ B0, w5.heap.size = B0 := ⟨_, rfl⟩
        simp only [hB0] at S0 BW0
        have KB := hide2 (fun (w' : World) (hb : Below B0 w5 w') => show Below w5.heap.size w5 w' by rw [hB0]; exact hb)
        clear B6
        go_wp2
        go_loopg [14, 15, 16] (mm + 1) (fun gk u14 u15 u16 wr => ∃ K kn ko : Nat, K + gk = mm + 1 ∧ u16 = .int .i64 K ∧ kn ≤ 400 ∧ ko ≤ 400 ∧ Hid (RowS s.arcs (atI (labL ⟨P, ts⟩)) n0 B0 wr B0 u14 kn (lev (letL ⟨P, ts⟩) (GoodW s.arcs (atI (labL ⟨P, ts⟩)) (fun m => on (endsL ⟨P, ts⟩ o s.marks) m) mm) K)) ∧ Hid (RowL wr B0 B0 u15 ko (wordsTo s.arcs (atI (labL ⟨P, ts⟩)) (fun m => on (endsL ⟨P, ts⟩ o s.marks) m) (letL ⟨P, ts⟩) mm K)) ∧ Hid (Below B0 w5 wr))
        case atStart => exact ⟨0, 1, 0, by omega, rfl, by omega, by omega, S0, hide2 OwnSl.nil, BW0⟩
        case round =>
          clear S0 BW0
          obtain ⟨K, kn, ko, hK, rfl, hkn, hko, NW, OU, BR⟩ := hrel
          by_cases hKm : K ≤ mm
          · have hKi : (K : Int) ≤ (mm : Int) := by omega
            obtain ⟨Ag, cg, rfl, _⟩ := OwnSl.sl NW.out (by omega)
            obtain ⟨wo, hwo⟩ : ∃ wo : World, wo = wr := ⟨_, rfl⟩
            subst hwo
            obtain ⟨go, hgo⟩ : ∃ go : Nat, go = gk := ⟨_, rfl⟩
            subst hgo
            have NOWB := hide2 (fun kk e => (OwnSl.lt NW.out kk e).2)
            have LK := hide2 (show ∀ v ∈ (lev (letL ⟨P, ts⟩) (GoodW s.arcs (atI (labL ⟨P, ts⟩)) (fun m => on (endsL ⟨P, ts⟩ o s.marks) m) mm) K), v.length = K from fun v hv => (lev_mem K v hv).1)
            have LNL := hide2 (show (lev (letL ⟨P, ts⟩) (GoodW s.arcs (atI (labL ⟨P, ts⟩)) (fun m => on (endsL ⟨P, ts⟩ o s.marks) m) mm) K).length = kn from OwnSl.len NW.out)
            have BS1 := hide2 (show B0 ≤ wo.heap.size by have := BR.out.size; omega)
            go_wp2
            go_loopg [15, 17, 60] kn (fun gk u15 u17 u60 wr => ∃ i ko km : Nat, i + gk = kn ∧ u60 = .int .i64 i ∧ ko ≤ 400 ∧ km ≤ 400 ∧ Hid (RowS s.arcs (atI (labL ⟨P, ts⟩)) n0 B0 wr B0 (.slice Ag kn cg) kn (lev (letL ⟨P, ts⟩) (GoodW s.arcs (atI (labL ⟨P, ts⟩)) (fun m => on (endsL ⟨P, ts⟩ o s.marks) m) mm) K)) ∧ Hid (RowL wr B0 B0 u15 ko ((wordsTo s.arcs (atI (labL ⟨P, ts⟩)) (fun m => on (endsL ⟨P, ts⟩ o s.marks) m) (letL ⟨P, ts⟩) mm K) ++ ((lev (letL ⟨P, ts⟩) (GoodW s.arcs (atI (labL ⟨P, ts⟩)) (fun m => on (endsL ⟨P, ts⟩ o s.marks) m) mm) K).take i).filter (isW s.arcs (atI (labL ⟨P, ts⟩)) (fun m => on (endsL ⟨P, ts⟩ o s.marks) m)))) ∧ Hid (RowS s.arcs (atI (labL ⟨P, ts⟩)) n0 B0 wr wo.heap.size u17 km (nextW (letL ⟨P, ts⟩) (GoodW s.arcs (atI (labL ⟨P, ts⟩)) (fun m => on (endsL ⟨P, ts⟩ o s.marks) m) mm) ((lev (letL ⟨P, ts⟩) (GoodW s.arcs (atI (labL ⟨P, ts⟩)) (fun m => on (endsL ⟨P, ts⟩ o s.marks) m) mm) K).take i))) ∧ Hid (Below B0 w5 wr) ∧ Hid (wo.heap.size ≤ wr.heap.size))
            case atStart => exact ⟨0, ko, 0, by omega, rfl, hko, by omega, NW, hide2 (by simpa using OU.out), hide2 OwnSl.nil, BR, hide2 (Nat.le_refl _)⟩
            case round =>
              clear NW OU BR
              obtain ⟨i, ko, km, hi, rfl, hko, hkm, NW, OU, MO, BR, WO⟩ := hrel
              by_cases hlt : i < kn
              · obtain ⟨gg, capg, v, Av, cv, gs, eNow, hv, q0, q1, OV, HVL, OS⟩ := RowS.at NW.out hlt (by omega)
                injection eNow with e1 _ e2
                subst e1 e2
                have hvK := LK.out v (List.mem_of_getElem? hv.out)
                have HVK := hide2 hvK
                have HV := hide2 hv.out
                rw [hvK] at q0 OV OS
                obtain ⟨TS, hTS⟩ : ∃ TS, toldL s.arcs (atI (labL ⟨P, ts⟩)) v n0 K = TS := ⟨_, rfl⟩
                have HTS := hide2 hTS
                rw [hTS] at OS
                have hii : (i : Int) < (kn : Int) := by omega
                have bb := boxBelow wr (.cells #[.slice Av K cv, .slice (some ⟨gs, 0, none⟩) n0 n0] 50)
                have XV := hide2 (Box.new wr #[.slice Av K cv, .slice (some ⟨gs, 0, none⟩) n0 n0] 50)
                have NW1 := hide2 (RowS.keep NW.out bb)
                have OU1 := hide2 (RowL.keep OU.out bb)
                have MO1 := hide2 (RowS.keep MO.out bb)
                have OV1 := hide2 (OwnSl.keep IntR.kept OV.out bb)
                have OS1 := hide2 (OS.out.keep bb)
                have BR1 := hide2 (BR.out.trans (bb.mono (by have := BR.out.size; omega)))
                have OB15 := hide2 (show u15.ownBlock ≠ some wr.heap.size from fun e => by have := (OwnSl.lt OU.out _ e).2; omega)
                have OB17 := hide2 (show ∀ kk, u17.ownBlock = some kk → kk ≠ wr.heap.size from fun kk e => by have := (OwnSl.lt MO.out _ e).2; omega)
                have WO1 := hide2 (show wo.heap.size ≤ (wr.alloc (.cells #[.slice Av K cv, .slice (some ⟨gs, 0, none⟩) n0 n0] 50)).heap.size from Nat.le_trans WO.out bb.size)
                clear hv hvK hTS NW OU MO OV OS BR HVL
                go_upto_region 17 with fail
                clear q0 q1 bb
                generalize wr.alloc (.cells #[.slice Av K cv, .slice (some ⟨gs, 0, none⟩) n0 n0] 50) = u0 at *
                generalize wr.heap.size = bv at *
                have MWD := hide2 (show meetB TS (endsL ⟨P, ts⟩ o s.marks) n0 = (isW s.arcs (atI (labL ⟨P, ts⟩)) (fun m => on (endsL ⟨P, ts⟩ o s.marks) m)) v by rw [← HTS.out]; have := meet_word (v := v) (es := endsL ⟨P, ts⟩ o s.marks) SPB.out.pos SPB.out.to_ (lb := (atI (labL ⟨P, ts⟩))); rw [HVK.out] at this; exact this)
                obtain ⟨t0, t1⟩ := XV.out.two
                go_upto_if 67 with (go_at_call 13; (with_reducible refine (ends_calls (SPB.out.keep (KB.out _ BR1.out)) OS1.out.s).mono ?_); rintro e u1 ⟨rfl, rfl⟩; rw [MWD.out])
                clear t0 t1
                go_cut [15] (fun u15 wx => ∃ kp : Nat, kp ≤ 401 ∧ Hid (RowL wx B0 B0 u15 kp ((wordsTo s.arcs (atI (labL ⟨P, ts⟩)) (fun m => on (endsL ⟨P, ts⟩ o s.marks) m) (letL ⟨P, ts⟩) mm K) ++ ((lev (letL ⟨P, ts⟩) (GoodW s.arcs (atI (labL ⟨P, ts⟩)) (fun m => on (endsL ⟨P, ts⟩ o s.marks) m) mm) K).take (i + 1)).filter (isW s.arcs (atI (labL ⟨P, ts⟩)) (fun m => on (endsL ⟨P, ts⟩ o s.marks) m)))) ∧ Hid (RowS s.arcs (atI (labL ⟨P, ts⟩)) n0 B0 wx wo.heap.size u17 km (nextW (letL ⟨P, ts⟩) (GoodW s.arcs (atI (labL ⟨P, ts⟩)) (fun m => on (endsL ⟨P, ts⟩ o s.marks) m) mm) ((lev (letL ⟨P, ts⟩) (GoodW s.arcs (atI (labL ⟨P, ts⟩)) (fun m => on (endsL ⟨P, ts⟩ o s.marks) m) mm) K).take i))) ∧ Hid (∀ kk, u17.ownBlock = some kk → kk ≠ bv) ∧ Hid (RowS s.arcs (atI (labL ⟨P, ts⟩)) n0 B0 wx B0 (.slice (some ⟨gg, 0, none⟩) kn cg) kn (lev (letL ⟨P, ts⟩) (GoodW s.arcs (atI (labL ⟨P, ts⟩)) (fun m => on (endsL ⟨P, ts⟩ o s.marks) m) mm) K)) ∧ Hid (Box wx bv 50 #[.slice Av K cv, .slice (some ⟨gs, 0, none⟩) n0 n0]) ∧ Hid (OwnInts wx B0 (.slice Av K cv) K v) ∧ Hid (OwnBools wx B0 gs n0 TS) ∧ Hid (Below B0 w5 wx) ∧ Hid (wo.heap.size ≤ wx.heap.size))
                case first =>
                  obtain ⟨z, hz⟩ : ∃ z, (isW s.arcs (atI (labL ⟨P, ts⟩)) (fun m => on (endsL ⟨P, ts⟩ o s.marks) m)) v = z := ⟨_, rfl⟩
                  have HZ := hide2 hz
                  rw [hz]
                  clear hz
                  have TKS := hide2 (show (lev (letL ⟨P, ts⟩) (GoodW s.arcs (atI (labL ⟨P, ts⟩)) (fun m => on (endsL ⟨P, ts⟩ o s.marks) m) mm) K).take (i + 1) = (lev (letL ⟨P, ts⟩) (GoodW s.arcs (atI (labL ⟨P, ts⟩)) (fun m => on (endsL ⟨P, ts⟩ o s.marks) m) mm) K).take i ++ [v] from take_snoc HV.out)
                  cases z
                  · have EQ := hide2 (show ((wordsTo s.arcs (atI (labL ⟨P, ts⟩)) (fun m => on (endsL ⟨P, ts⟩ o s.marks) m) (letL ⟨P, ts⟩) mm K) ++ ((lev (letL ⟨P, ts⟩) (GoodW s.arcs (atI (labL ⟨P, ts⟩)) (fun m => on (endsL ⟨P, ts⟩ o s.marks) m) mm) K).take (i + 1)).filter (isW s.arcs (atI (labL ⟨P, ts⟩)) (fun m => on (endsL ⟨P, ts⟩ o s.marks) m))) = (wordsTo s.arcs (atI (labL ⟨P, ts⟩)) (fun m => on (endsL ⟨P, ts⟩ o s.marks) m) (letL ⟨P, ts⟩) mm K) ++ ((lev (letL ⟨P, ts⟩) (GoodW s.arcs (atI (labL ⟨P, ts⟩)) (fun m => on (endsL ⟨P, ts⟩ o s.marks) m) mm) K).take i).filter (isW s.arcs (atI (labL ⟨P, ts⟩)) (fun m => on (endsL ⟨P, ts⟩ o s.marks) m)) by rw [TKS.out, List.filter_append, List.filter_cons_of_neg (by rw [HZ.out]; decide)]; simp)
                    go_wp2
                    go_meet
                    exact ⟨ko, by omega, hide2 (by rw [EQ.out]; exact OU1.out), MO1, OB17, NW1, XV, OV1, OS1, BR1, WO1⟩
                  · have EQ := hide2 (show ((wordsTo s.arcs (atI (labL ⟨P, ts⟩)) (fun m => on (endsL ⟨P, ts⟩ o s.marks) m) (letL ⟨P, ts⟩) mm K) ++ ((lev (letL ⟨P, ts⟩) (GoodW s.arcs (atI (labL ⟨P, ts⟩)) (fun m => on (endsL ⟨P, ts⟩ o s.marks) m) mm) K).take (i + 1)).filter (isW s.arcs (atI (labL ⟨P, ts⟩)) (fun m => on (endsL ⟨P, ts⟩ o s.marks) m))) = ((wordsTo s.arcs (atI (labL ⟨P, ts⟩)) (fun m => on (endsL ⟨P, ts⟩ o s.marks) m) (letL ⟨P, ts⟩) mm K) ++ ((lev (letL ⟨P, ts⟩) (GoodW s.arcs (atI (labL ⟨P, ts⟩)) (fun m => on (endsL ⟨P, ts⟩ o s.marks) m) mm) K).take i).filter (isW s.arcs (atI (labL ⟨P, ts⟩)) (fun m => on (endsL ⟨P, ts⟩ o s.marks) m))) ++ [v] by rw [TKS.out, List.filter_append, List.filter_cons_of_pos HZ.out]; simp)
                    have RD := hide2 (Reads.list1 (v := .slice Av K cv) (show OwnListR B0 u1 (fun _ => .slice Av K cv) v from ⟨K, OV1.out, by omega⟩))
                    have KPL := hide2 (keepLists OU1.out)
                    obtain ⟨t0, t1⟩ := XV.out.two
                    have hB0u := hide2 (show B0 ≤ u1.heap.size by have := BR1.out.size; omega)
                    go_wp2_with (at_builtin; refine wpList_appNew (v := u15) (w0 := u1) tyLists rfl _ _ rfl [v] #[.slice Av K cv] rfl rfl (by first | rfl | simp) rfl (by simp [Value.oneCell']) OU1.out RD.out rfl (Below.refl B0 u1) hB0u.out (by omega) (by omega) KPL.out ?_; intro v1 u2 own1 hg1 hb1; have O2 := hide2 own1; have G2 := hide2 hg1; have H2 := hide2 hb1; clear own1 hg1 hb1)
                    go_meet
                    exact ⟨ko + 1, by omega, hide2 (by rw [EQ.out]; exact O2.out), hide2 (RowS.besideL MO1.out OU1.out G2.out), OB17, hide2 (RowS.besideL NW1.out OU1.out G2.out), hide2 (XV.out.grown G2.out OB15.out), hide2 (OwnInts.besideL OV1.out OU1.out G2.out), hide2 (OwnBools.besideL OS1.out OU1.out G2.out), hide2 (BR1.out.trans (H2.out)), hide2 (Nat.le_trans WO1.out H2.out.size)⟩
                case rest =>
                  obtain ⟨kp, hkp, OU, MO, OB, NW, XW, OV, OS, BR, WO⟩ := hcut
                  clear OU1 MO1 OB17 NW1 XV OV1 OS1 BR1 WO1 OB15 MWD
                  go_wp2
                  obtain ⟨gm, hgm⟩ : ∃ gm : Nat, gm = gk := ⟨_, rfl⟩
                  subst hgm
                  have HGM := hide2 (show gm = (gm - 1) + 1 ∧ i + 1 + (gm - 1) = kn by omega)
                  go_loopg [17, 75] nL (fun gk u17 u75 wr => ∃ q kr : Nat, q + gk = nL ∧ u75 = .int .i64 q ∧ kr ≤ 400 + q ∧ Hid (RowL wr B0 B0 u15 kp ((wordsTo s.arcs (atI (labL ⟨P, ts⟩)) (fun m => on (endsL ⟨P, ts⟩ o s.marks) m) (letL ⟨P, ts⟩) mm K) ++ ((lev (letL ⟨P, ts⟩) (GoodW s.arcs (atI (labL ⟨P, ts⟩)) (fun m => on (endsL ⟨P, ts⟩ o s.marks) m) mm) K).take (i + 1)).filter (isW s.arcs (atI (labL ⟨P, ts⟩)) (fun m => on (endsL ⟨P, ts⟩ o s.marks) m)))) ∧ Hid (RowS s.arcs (atI (labL ⟨P, ts⟩)) n0 B0 wr wo.heap.size u17 kr ((nextW (letL ⟨P, ts⟩) (GoodW s.arcs (atI (labL ⟨P, ts⟩)) (fun m => on (endsL ⟨P, ts⟩ o s.marks) m) mm) ((lev (letL ⟨P, ts⟩) (GoodW s.arcs (atI (labL ⟨P, ts⟩)) (fun m => on (endsL ⟨P, ts⟩ o s.marks) m) mm) K).take i)) ++ goOn (letL ⟨P, ts⟩) (GoodW s.arcs (atI (labL ⟨P, ts⟩)) (fun m => on (endsL ⟨P, ts⟩ o s.marks) m) mm) v q)) ∧ Hid (∀ kk, u17.ownBlock = some kk → kk ≠ bv) ∧ Hid (RowS s.arcs (atI (labL ⟨P, ts⟩)) n0 B0 wr B0 (.slice (some ⟨gg, 0, none⟩) kn cg) kn (lev (letL ⟨P, ts⟩) (GoodW s.arcs (atI (labL ⟨P, ts⟩)) (fun m => on (endsL ⟨P, ts⟩ o s.marks) m) mm) K)) ∧ Hid (Box wr bv 50 #[.slice Av K cv, .slice (some ⟨gs, 0, none⟩) n0 n0]) ∧ Hid (OwnInts wr B0 (.slice Av K cv) K v) ∧ Hid (OwnBools wr B0 gs n0 TS) ∧ Hid (Below B0 w5 wr) ∧ Hid (wo.heap.size ≤ wr.heap.size))
                  case atStart => exact ⟨0, km, by omega, rfl, by omega, OU, hide2 (by have := MO.out; simpa [goOn] using this), OB, NW, XW, OV, OS, BR, WO⟩
                  case round =>
                    clear OU MO OB NW XW OV OS BR WO
                    obtain ⟨q, kr, hq, rfl, hkr, OU, MO, OB, NW, XW, OV, OS, BR, WO⟩ := hrel
                    by_cases hqn : q < nL
                    · have hqi : (q : Int) < (nL : Int) := by omega
                      obtain ⟨bq, offq, a, rfl, hbq, ha, qa⟩ := Ints.get (Ints.keep LTI.out (KB.out _ BR.out)) hqn
                      have HA := hide2 ha.out
                      obtain ⟨fl, hfl⟩ : ∃ fl, (hearTo s.arcs (atI (labL ⟨P, ts⟩)) (toldL s.arcs (atI (labL ⟨P, ts⟩)) (v ++ [a]) n0 K) a s.arcs.length).2 = fl := ⟨_, rfl⟩
                      have TSE := hide2 (show TS = toldL s.arcs (atI (labL ⟨P, ts⟩)) (v ++ [a]) n0 K by have := told_snoc (ars := s.arcs) (lb := (atI (labL ⟨P, ts⟩))) (n := n0) v a; rw [HVK.out] at this; rw [← HTS.out]; exact this)
                      have hwa : (v ++ [a])[K]? = some a := by rw [List.getElem?_append_right (by rw [HVK.out]; exact Nat.le_refl _), HVK.out]; simp
                      have TN := hide2 (told_next (ars := s.arcs) (lb := (atI (labL ⟨P, ts⟩))) (n := n0) hwa SPB.out.from_ SPB.out.to_)
                      rw [hfl] at TN
                      have CH := hide2 (show Calls Tryz.prog 14 #[.pointer (some ⟨bp, 0, none⟩), .slice (some ⟨gs, 0, none⟩) n0 n0, .int .i64 a] wr (AnsHear ((toldL s.arcs (atI (labL ⟨P, ts⟩)) (v ++ [a]) n0 (K + 1)), fl) n0 wr) from by
                        have := hear_calls (SPB.out.keep (KB.out _ BR.out)) OS.out.s OS.out.lt.2 a
                        rw [TSE.out, TN.out.1, hfl] at this
                        exact this)
                      have HVA := hide2 (show (v ++ [a]).length = K + 1 by rw [List.length_append, HVK.out]; rfl)
                      have GOOD := hide2 (hope_good (ars := s.arcs) (lb := (atI (labL ⟨P, ts⟩))) (E := (fun m => on (endsL ⟨P, ts⟩ o s.marks) m)) (n := n0) (far := (farL s.arcs (atI (labL ⟨P, ts⟩)) (endsL ⟨P, ts⟩ o s.marks) n0)) (most := mm) (v := (v ++ [a])) LBL.out SPB.out.pos SPB.out.to_ (farL_dist SPB.out.from_ SPB.out.to_))
                      rw [HVA.out] at GOOD
                      have SEEN := hide2 (show (GoodW s.arcs (atI (labL ⟨P, ts⟩)) (fun m => on (endsL ⟨P, ts⟩ o s.marks) m) mm) (v ++ [a]) → fl = true from fun hg => by
                        obtain ⟨m', d', h1, _⟩ := (good_iff LBL.out).1 hg
                        rw [HVA.out] at h1
                        cases hf : fl
                        · exact absurd h1 (TN.out.2 hf m')
                        · rfl)
                      obtain ⟨hp, hhp⟩ : ∃ hp, hopeTo (toldL s.arcs (atI (labL ⟨P, ts⟩)) (v ++ [a]) n0 (K + 1)) (farL s.arcs (atI (labL ⟨P, ts⟩)) (endsL ⟨P, ts⟩ o s.marks) n0) n0 = hp := ⟨_, rfl⟩
                      have HHP := hide2 hhp
                      have hplt : hp < (n0 : Int) := by rw [← hhp]; exact hope_lt SPB.out.pos SPB.out.from_ SPB.out.to_ _
                      rw [hhp] at GOOD
                      have HGK := hide2 (show gk = (gk - 1) + 1 ∧ q + 1 + (gk - 1) = nL by omega)
                      have HKR := hide2 (show kr ≤ 400 + (q + 1) ∧ kr + 1 ≤ 400 + (q + 1) by omega)
                      obtain ⟨t0, t1⟩ := XW.out.two
                      clear hfl hwa ha TN hhp
                      go_upto_region 23 with (go_at_call 14; (with_reducible refine CH.out.mono ?_); rintro e u2 ⟨gn, rfl, on2, hb2⟩; have ON := hide2 on2; have HB2 := hide2 hb2; clear on2 hb2)
                      clear t0 t1 qa CH
                      have M2 := hide2 (RowS.keep MO.out HB2.out)
                      have O2 := hide2 (RowL.keep OU.out HB2.out)
                      have N2 := hide2 (RowS.keep NW.out HB2.out)
                      have X2 := hide2 (XW.out.keep HB2.out)
                      have V2 := hide2 (OwnSl.keep IntR.kept OV.out HB2.out)
                      have S2 := hide2 (OS.out.keep HB2.out)
                      have B2 := hide2 (BR.out.trans (HB2.out.mono (by have := BR.out.size; omega)))
                      have W2 := hide2 (Nat.le_trans WO.out HB2.out.size)
                      have ONB := hide2 (ON.out.base (show B0 ≤ wr.heap.size by have := BR.out.size; omega))
                      clear MO OU NW XW OV OS BR WO HB2 ON
                      have CP := hide2 (fun (gq : Nat) (h : BoolS u2 gq n0 (toldL s.arcs (atI (labL ⟨P, ts⟩)) (v ++ [a]) n0 (K + 1))) => show Calls Tryz.prog 15 #[.slice (some ⟨gf, 0, none⟩) n0 cf, .slice (some ⟨gq, 0, none⟩) n0 n0] u2 (fun e w' => e = .returned (.int .i64 hp) ∧ w' = u2) from by
                        have := hope_calls h300 (Ints.keep IF.out (KB.out _ B2.out)) h
                        rw [HHP.out] at this
                        exact this)
                      have hw1 : IntKind.i64.wrap ((K : Int) + 1) = (K : Int) + 1 := by simp [IntKind.wrap, IntKind.bits, IntKind.signed]; omega
                      by_cases hgd : (GoodW s.arcs (atI (labL ⟨P, ts⟩)) (fun m => on (endsL ⟨P, ts⟩ o s.marks) m) mm) (v ++ [a])
                      · obtain rfl : fl = true := SEEN.out hgd
                        obtain ⟨hp0, hps⟩ := GOOD.out.2 hgd
                        have GN := hide2 (goOn_yes (letters := (letL ⟨P, ts⟩)) (good := (GoodW s.arcs (atI (labL ⟨P, ts⟩)) (fun m => on (endsL ⟨P, ts⟩ o s.marks) m) mm)) HA.out hgd)
                        have hpsi : (K : Int) + 1 + hp ≤ (mm : Int) := by omega
                        have hw2 : IntKind.i64.wrap ((K : Int) + 1 + hp) = (K : Int) + 1 + hp := by simp [IntKind.wrap, IntKind.bits, IntKind.signed]; omega
                        clear hgd hps
                        go_upto_region 24 with (go_at_call 15; (with_reducible refine (CP.out gn ONB.out.s).mono ?_); rintro e u3 ⟨rfl, rfl⟩)
                        obtain ⟨t0, t1⟩ := X2.out.two
                        have IV := hide2 (RowL.ints V2.out (by omega))
                        have hle : K ≤ cv := IV.out.le
                        have SRC := hide2 (IV.out.clip)
                        have BU3 := hide2 (show B0 ≤ u3.heap.size by have := B2.out.size; omega)
                        clear CP
                        go_wp2_with fail
                        refine (clipInts_calls hle).mono ?_
                        rintro e u4 ⟨rfl, rfl⟩
                        go_wp2_with (first
                          | (at_builtin; refine wpList_appClip rfl _ _ rfl rfl rfl (by first | rfl | simp) SRC.out (by omega) ?_; intro g2 cap2 u5 o5 hb5; have O5 := hide2 o5; have HB5 := hide2 hb5; have V5 := hide2 (o5.base BU3.out); have M5 := hide2 (RowS.keep M2.out hb5); have X5 := hide2 (X2.out.keep hb5); have S5 := hide2 (ONB.out.keep hb5); have W5 := hide2 (Nat.le_trans W2.out hb5.size); have KP5 := hide2 (keepStarts M5.out); have RD5 := hide2 (show Reads (StR s.arcs (atI (labL ⟨P, ts⟩)) n0 B0) 2 u5 [.slice (some ⟨g2, 0, none⟩) (K + 1) cap2, .slice (some ⟨gn, 0, none⟩) n0 n0] [(v ++ [a])] from by (have := Reads.start1 (ars := s.arcs) (lb := (atI (labL ⟨P, ts⟩))) (n := n0) (B := B0) (w := u5) (A := some ⟨g2, 0, none⟩) (c := cap2) (gs := gn) (v := (v ++ [a])) (by rw [HVA.out]; exact V5.out) (by rw [HVA.out]; omega) (by rw [HVA.out]; exact S5.out)); rwa [HVA.out] at this); clear o5 hb5)
                          | (at_builtin; refine wpList_appNewAtW (v := u17) tyStarts rfl _ _ rfl [(v ++ [a])] #[.slice (some ⟨g2, 0, none⟩) (K + 1) cap2, .slice (some ⟨gn, 0, none⟩) n0 n0] rfl rfl (by first | rfl | simp) rfl (by simp [Value.oneCell']) M5.out RD5.out rfl W5.out (by omega) (by omega) KP5.out ?_; intro v1 u6 own6 hg6 hat6; have M6 := hide2 own6; have G6 := hide2 hg6; have AT6 := hide2 hat6; clear own6 hg6 hat6))
                        have HNE := hide2 (show ∀ kk, (Value.slice (some ⟨gg, 0, none⟩) kn cg).ownBlock = some kk → u17.ownBlock ≠ some kk from fun kk e e2 => by have := NOWB.out kk e; have := (OwnSl.lt M5.out kk e2).1; omega)
                        have N6 := hide2 (RowS.beside (RowS.keep N2.out HB5.out) M5.out HNE.out G6.out)
                        have O6 := hide2 (RowL.besideS (RowL.keep O2.out HB5.out) M5.out G6.out)
                        have X6 := hide2 (X5.out.grown G6.out (fun e => OB.out _ e rfl))
                        have V6 := hide2 (OwnInts.besideS (OwnSl.keep IntR.kept V2.out HB5.out) M5.out G6.out)
                        have S6 := hide2 (OwnBools.besideS (S2.out.keep HB5.out) M5.out G6.out)
                        have B5 := hide2 (B2.out.trans (HB5.out.mono BU3.out))
                        have B6 := hide2 (B5.out.grown G6.out (Nat.le_trans BU3.out HB5.out.size) (fun kk e => Nat.le_trans BS1.out (OwnSl.lt M5.out kk e).1))
                        have W6 := hide2 (Nat.le_trans W5.out G6.out.size)
                        have OB6 := hide2 (show ∀ kk, v1.ownBlock = some kk → kk ≠ bv from fun kk e => by
                          rcases AT6.out with h | h
                          · exact OB.out kk (h ▸ e)
                          · rw [h] at e
                            injection e with e
                            have := X5.out.lt
                            omega)
                        clear M5 X5 V5 S5 W5 KP5 RD5 HB5 G6 AT6 O5 IV SRC hle t0 t1
                        go_roundg (gk - 1)
                        case measure => have := HGK.out.1; omega
                        case rel => exact ⟨q + 1, kr + 1, HGK.out.2, by go_num, HKR.out.2, O6, hide2 (by rw [GN.out, ← List.append_assoc]; exact M6.out), OB6, N6, X6, V6, S6, B6, W6⟩
                      · have GN := hide2 (goOn_no (letters := (letL ⟨P, ts⟩)) (good := (GoodW s.arcs (atI (labL ⟨P, ts⟩)) (fun m => on (endsL ⟨P, ts⟩ o s.marks) m) mm)) HA.out hgd)
                        have NG := hide2 (show ¬ (0 ≤ hp ∧ (K : Int) + 1 + hp ≤ (mm : Int)) from fun hh => hgd (GOOD.out.1 ⟨hh.1, by have := hh.2; omega⟩))
                        clear hgd
                        cases fl
                        · go_wp2
                          go_roundg (gk - 1)
                          case measure => have := HGK.out.1; omega
                          case rel => exact ⟨q + 1, kr, HGK.out.2, by go_num, HKR.out.1, O2, hide2 (by rw [GN.out]; exact M2.out), OB, N2, X2, V2, S2, B2, W2⟩
                        · by_cases hp0 : 0 ≤ hp
                          · have hps : ¬ (K : Int) + 1 + hp ≤ (mm : Int) := fun hh => NG.out ⟨hp0, hh⟩
                            have hw2 : IntKind.i64.wrap ((K : Int) + 1 + hp) = (K : Int) + 1 + hp := by simp [IntKind.wrap, IntKind.bits, IntKind.signed]; omega
                            go_wp2_with (go_at_call 15; (with_reducible refine (CP.out gn ONB.out.s).mono ?_); rintro e u3 ⟨rfl, rfl⟩)
                            go_roundg (gk - 1)
                            case measure => have := HGK.out.1; omega
                            case rel => exact ⟨q + 1, kr, HGK.out.2, by go_num, HKR.out.1, O2, hide2 (by rw [GN.out]; exact M2.out), OB, N2, X2, V2, S2, B2, W2⟩
                          · go_wp2_with (go_at_call 15; (with_reducible refine (CP.out gn ONB.out.s).mono ?_); rintro e u3 ⟨rfl, rfl⟩)
                            go_roundg (gk - 1)
                            case measure => have := HGK.out.1; omega
                            case rel => exact ⟨q + 1, kr, HGK.out.2, by go_num, HKR.out.1, O2, hide2 (by rw [GN.out]; exact M2.out), OB, N2, X2, V2, S2, B2, W2⟩
                    · obtain rfl : q = nL := by omega
                      have NXE := hide2 (show (nextW (letL ⟨P, ts⟩) (GoodW s.arcs (atI (labL ⟨P, ts⟩)) (fun m => on (endsL ⟨P, ts⟩ o s.marks) m) mm) ((lev (letL ⟨P, ts⟩) (GoodW s.arcs (atI (labL ⟨P, ts⟩)) (fun m => on (endsL ⟨P, ts⟩ o s.marks) m) mm) K).take i)) ++ goOn (letL ⟨P, ts⟩) (GoodW s.arcs (atI (labL ⟨P, ts⟩)) (fun m => on (endsL ⟨P, ts⟩ o s.marks) m) mm) v q = nextW (letL ⟨P, ts⟩) (GoodW s.arcs (atI (labL ⟨P, ts⟩)) (fun m => on (endsL ⟨P, ts⟩ o s.marks) m) mm) ((lev (letL ⟨P, ts⟩) (GoodW s.arcs (atI (labL ⟨P, ts⟩)) (fun m => on (endsL ⟨P, ts⟩ o s.marks) m) mm) K).take (i + 1)) by
                        rw [take_snoc HV.out, nextW_snoc]
                        unfold goOn
                        rw [List.take_of_length_le (l := (letL ⟨P, ts⟩)) (by rw [HNL.out]; exact Nat.le_refl _)])
                      have MO2 := hide2 (show RowS s.arcs (atI (labL ⟨P, ts⟩)) n0 B0 wr wo.heap.size u17 kr (nextW (letL ⟨P, ts⟩) (GoodW s.arcs (atI (labL ⟨P, ts⟩)) (fun m => on (endsL ⟨P, ts⟩ o s.marks) m) mm) ((lev (letL ⟨P, ts⟩) (GoodW s.arcs (atI (labL ⟨P, ts⟩)) (fun m => on (endsL ⟨P, ts⟩ o s.marks) m) mm) K).take (i + 1))) by rw [← NXE.out]; exact MO.out)
                      have K1 := hide2 (show kp ≤ (allW s.arcs (atI (labL ⟨P, ts⟩)) (fun m => on (endsL ⟨P, ts⟩ o s.marks) m) (letL ⟨P, ts⟩) mm).length by rw [← OwnSl.len OU.out]; exact outs_le hKm)
                      have K2 := hide2 (show kr ≤ (allW s.arcs (atI (labL ⟨P, ts⟩)) (fun m => on (endsL ⟨P, ts⟩ o s.marks) m) (letL ⟨P, ts⟩) mm).length by rw [← OwnSl.len MO2.out]; exact mores_le LSP.out.1 HALL.out)
                      obtain ⟨Ao, co, rfl, _⟩ := OwnSl.sl OU.out (by omega)
                      obtain ⟨Am, cm, rfl, _⟩ := OwnSl.sl MO2.out (by omega)
                      obtain ⟨W, hW⟩ : ∃ W : Int, max (kp : Int) (kr : Int) = W := ⟨_, rfl⟩
                      by_cases hW4 : 400 < W
                      · have FU := hide2 (FUL.out (by have := K1.out; have := K2.out; omega))
                        have BF := hide2 (BB.out.trans ((KB.out _ BR.out).mono BB.out.size))
                        go_wp2
                        go_ret2
                        exact ⟨none, 0, 0, by rw [FU.out]; rfl, by rw [FU.out]; exact Sl.nil0, BF.out⟩
                      · have hkp4 : kp ≤ 400 := by omega
                        have hkr4 : kr ≤ 400 := by omega
                        have HKK := hide2 (And.intro hkp4 hkr4)
                        go_wp2
                        go_roundg (gm - 1)
                        case measure => have := HGM.out.1; omega
                        case rel => exact ⟨i + 1, kp, kr, HGM.out.2, by go_num, HKK.out.1, HKK.out.2, NW, OU, MO2, BR, WO⟩
              · obtain rfl : i = kn := by omega
                have FLV := hide2 (show (lev (letL ⟨P, ts⟩) (GoodW s.arcs (atI (labL ⟨P, ts⟩)) (fun m => on (endsL ⟨P, ts⟩ o s.marks) m) mm) K).take i = (lev (letL ⟨P, ts⟩) (GoodW s.arcs (atI (labL ⟨P, ts⟩)) (fun m => on (endsL ⟨P, ts⟩ o s.marks) m) mm) K) from List.take_of_length_le (by rw [LNL.out]; exact Nat.le_refl _))
                have NX := hide2 (show RowS s.arcs (atI (labL ⟨P, ts⟩)) n0 B0 wr B0 u17 km (lev (letL ⟨P, ts⟩) (GoodW s.arcs (atI (labL ⟨P, ts⟩)) (fun m => on (endsL ⟨P, ts⟩ o s.marks) m) mm) (K + 1)) by have := OwnSl.base MO.out BS1.out; rw [FLV.out] at this; exact this)
                have OX := hide2 (show RowL wr B0 B0 u15 ko (wordsTo s.arcs (atI (labL ⟨P, ts⟩)) (fun m => on (endsL ⟨P, ts⟩ o s.marks) m) (letL ⟨P, ts⟩) mm (K + 1)) by rw [wordsTo_succ]; have := OU.out; rwa [FLV.out] at this)
                have HKO := hide2 (And.intro hkm hko)
                have HGO := hide2 (show go = (go - 1) + 1 by omega)
                have HK1 := hide2 (show K + 1 + (go - 1) = mm + 1 by omega)
                go_wp2
                go_roundg (go - 1)
                case measure => have := HGO.out; omega
                case rel => exact ⟨K + 1, km, ko, HK1.out, by go_num, HKO.out.1, HKO.out.2, NX, OX, BR⟩
          · obtain rfl : K = mm + 1 := by omega
            have hKi : ¬ ((mm + 1 : Nat) : Int) ≤ (mm : Int) := by omega
            have AW := hide2 (OwnSl.len OU.out)
            have AL := hide2 (ALL.out (show ¬ 400 < (allW s.arcs (atI (labL ⟨P, ts⟩)) (fun m => on (endsL ⟨P, ts⟩ o s.marks) m) (letL ⟨P, ts⟩) mm).length by have := AW.out; unfold allW; omega))
            obtain ⟨Ao, co, rfl, LS⟩ := OU.out.lists (by omega)
            have LSS := hide2 LS
            have BF := hide2 (BB.out.trans ((KB.out _ BR.out).mono BB.out.size))
            clear LS
            go_wp2
            go_ret2
            exact ⟨_, _, _, by rw [AL.out]; rfl, by rw [AL.out]; exact LSS.out, BF.out⟩
  · have ER := hide2 (wordsB_err (most := most) (letters := letL ⟨P, ts⟩) HR.out hk)
    go_wp2_with (go_at_call 7; go_loud ((with_reducible refine CW.out.mono ?_); rintro e w1 ⟨hb1, ⟨_, rfl⟩ | ⟨he, _⟩⟩; rotate_left; (exact absurd he hk); have B1 := hide2 hb1; clear hb1))
    go_ret2
    exact ⟨none, 0, 0, by rw [ER.out]; rfl, by rw [ER.out]; exact Sl.nil0, HB.out.trans (B1.out.mono HB.out.size)⟩
end Go.Proofs.YtmabnigdocokmaaGreat
