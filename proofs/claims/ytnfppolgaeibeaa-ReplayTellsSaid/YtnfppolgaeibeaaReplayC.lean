/- The contract of replay.Replay. Conditions: the net and the trace read as lists. -/
import Derived.Test.YtnfppolgaeibeaaReplayB
import Derived.Test.YtnfppolgaeibeaaPlainH
import Derived.Test.YtnfppolgaeibeaaCaseC
namespace Go.Proofs.Ytnfppolgaeibeaa
open Go.RowKit

/-- What a call answers that hands back counts and what is wrong. -/
def AnsPl (p : PPlayed × Int) (w : World) (e : Ending) (w' : World) : Prop :=
  e = .returned (.tuple #[.agg #[.int .i64 p.1.put, .int .i64 p.1.taken, .int .i64 p.1.lacked, .int .i64 p.1.left], .int .i64 p.2]) ∧ Below w.heap.size w w'
theorem AnsPl.no {e : Int} {w w' : World} (hb : Below w.heap.size w w') : AnsPl (PPlayed.nil, e) w (.returned (.tuple #[.agg #[.int .i64 0, .int .i64 0, .int .i64 0, .int .i64 0], .int .i64 e])) w' := ⟨rfl, hb⟩
theorem Box.four {w : World} {b ty : Nat} {u0 u1 u2 u3 : Value} (h : Box w b ty #[u0, u1, u2, u3]) : w.cell? ⟨b, 0, none⟩ = some u0 ∧ w.cell? ⟨b, 1, none⟩ = some u1 ∧ w.cell? ⟨b, 2, none⟩ = some u2 ∧ w.cell? ⟨b, 3, none⟩ = some u3 :=
  ⟨h.cell 0, h.cell 1, h.cell 2, h.cell 3⟩
theorem Box.set4 {w : World} {b ty : Nat} {u0 u1 u2 u3 : Value} (h : Box w b ty #[u0, u1, u2, u3]) (v0 v1 v2 v3 : Value) : Box ((((w.setCell ⟨b, 0, none⟩ v0).setCell ⟨b, 1, none⟩ v1).setCell ⟨b, 2, none⟩ v2).setCell ⟨b, 3, none⟩ v3) b ty #[v0, v1, v2, v3] := by
  have := (((h.set 0 v0).set 1 v1).set 2 v2).set 3 v3
  simpa using this
theorem below_set4 {w0 w : World} {B b : Nat} (h : Below B w0 w) (hb : B ≤ b) (v0 v1 v2 v3 : Value) : Below B w0 ((((w.setCell ⟨b, 0, none⟩ v0).setCell ⟨b, 1, none⟩ v1).setCell ⟨b, 2, none⟩ v2).setCell ⟨b, 3, none⟩ v3) :=
  (((h.setCell (show B ≤ (⟨b, 0, none⟩ : Addr).block from hb) _).setCell (show B ≤ (⟨b, 1, none⟩ : Addr).block from hb) _).setCell (show B ≤ (⟨b, 2, none⟩ : Addr).block from hb) _).setCell (show B ≤ (⟨b, 3, none⟩ : Addr).block from hb) _
theorem Ints.oth {w w' : World} {A : Option Addr} {n c b d : Nat} {xs : List Int} (h : Ints w A n c xs) (hg : Oth b d w w') (hb : ∀ a, A = some a → a.block ≠ b ∧ a.block ≠ d) : Ints w' A n c xs :=
  ⟨h.len, h.le, h.cap, h.small, h.nul, fun hn => by
    obtain ⟨b', off, e, hlt, hc⟩ := h.cells hn
    have hne := hb _ e
    refine ⟨b', off, e, by rw [hg.size]; exact hlt, fun i x hx => ?_⟩
    obtain ⟨vs, h1, h2⟩ := hc i x hx
    exact ⟨vs, fun j hj => (World.cell?_of_block (hg.block b' hne.1 hne.2)).trans (h1 j hj), h2⟩⟩
theorem boxI_of_row {w : World} {B b m : Nat} (h : w.ownsRow B 3 1 (.slice (some ⟨b, 0, none⟩) m m) m (List.replicate m (.int .i64 0))) : BoxI w b (List.replicate m 0) := by
  rcases h.2 with ⟨hv, _⟩ | ⟨g, cap, cur, hv, _, hh, _, _, hs, ht⟩
  · cases hv
  · injection hv with h1 h2 h3
    injection h1 with h1
    injection h1 with h1
    subst h1 h3
    have e : cur = (List.replicate m (Value.int .i64 0)).toArray := by
      apply Array.toList_inj.1
      rw [← ht, List.take_of_length_le (by simp; omega)]
    unfold BoxI Box
    rw [List.map_replicate, ← e]; exact hh

theorem shapeL_zero' {N : PNet} {i o : Int} (h : shapeL N i o = 0) : netOk N = true ∧ inB N i o = true := by
  unfold shapeL at h
  by_cases h1 : netOk N = true
  · rw [if_pos h1] at h
    by_cases h2 : inB N i o = true
    · exact ⟨h1, h2⟩
    · rw [if_neg h2] at h; cases h
  · rw [if_neg h1] at h; cases h

/-! ### the plain law's words, for the walk -/
theorem oneL_at (n : Nat) (i : Int) (p : Nat) : 0 ≤ atL (oneL n i) p ∧ atL (oneL n i) p ≤ 1 := by
  unfold atL oneL
  by_cases hp : p < n
  · simp only [List.getD_eq_getElem?_getD, List.getElem?_map, List.getElem?_range hp, Option.map_some, Option.getD_some]
    split <;> omega
  · rw [List.getD_eq_getElem?_getD, List.getElem?_eq_none (by simp; omega)]
    simp
theorem light_tran {N : PNet} (hok : netOk N = true) {k : Nat} {t : PTran} (ht : N.trans[k]? = some t) (p : Nat) : 0 ≤ atL t.pre p ∧ atL t.pre p ≤ 9 ∧ 0 ≤ atL t.post p ∧ atL t.post p ≤ 9 := by
  have hT := netOk_tran hok ht
  have key : ∀ l : List Int, l.any badW = false → 0 ≤ atL l p ∧ atL l p ≤ 9 := fun l hl => by
    cases hx : l[p]? with
    | none => rw [atL_none (List.getElem?_eq_none_iff.1 hx)]; omega
    | some x => rw [atL_some hx]; exact badW_false (any_false_get hl hx)
  have h1 := key _ hT.2.2.2.2.1
  have h2 := key _ hT.2.2.2.2.2
  omega
theorem light_filter {N : PNet} (hok : netOk N = true) (tr : List Int) : LightL (tr.filterMap (byL N.trans)) := by
  intro t ht p
  obtain ⟨a, _, ha⟩ := List.mem_filterMap.1 ht
  have hm := List.mem_of_find?_eq_some ha
  obtain ⟨k, hk, rfl⟩ := List.getElem_of_mem hm
  exact light_tran hok (List.getElem?_eq_getElem hk) p
theorem filter_len (ts : List PTran) (tr : List Int) : (tr.filterMap (byL ts)).length ≤ tr.length := List.length_filterMap_le _ _
theorem filter_snoc {ts : List PTran} {tr : List Int} {k : Nat} {a : Int} {t : PTran} (ha : tr[k]? = some a) (ht : byL ts a = some t) : (tr.take (k + 1)).filterMap (byL ts) = (tr.take k).filterMap (byL ts) ++ [t] := by
  rw [take_snoc ha, List.filterMap_append]
  simp [ht]
theorem byL_idx (ts : List PTran) (a : Int) : (byL ts a = none ∧ idxFirst (fun t => t.label == a) ts = -1) ∨ ∃ (q : Nat) (t : PTran), ts[q]? = some t ∧ byL ts a = some t ∧ idxFirst (fun t => t.label == a) ts = (q : Int) := by
  unfold byL idxFirst
  cases hf : ts.findIdx? (fun t => t.label == a) with
  | none =>
    left
    refine ⟨?_, rfl⟩
    rw [List.find?_eq_none]
    intro x hx
    have := List.findIdx?_eq_none_iff.1 hf x hx
    simpa using this
  | some q =>
    right
    obtain ⟨hq, h1, h2⟩ := List.findIdx?_eq_some_iff_getElem.1 hf
    refine ⟨q, ts[q], List.getElem?_eq_getElem hq, ?_, rfl⟩
    rw [List.find?_eq_some_iff_getElem]
    exact ⟨h1, q, hq, rfl, fun j hj => by simpa using h2 j hj⟩
/-- The bounds of all counts behind no more than 61 light transitions. -/
theorem counts_bd {n : Nat} (hn : n ≤ 16) (i : Int) {l : List PTran} (hl : LightL l) (hk : l.length ≤ 61) :
    (0 ≤ putC (oneL n i) l ∧ putC (oneL n i) l ≤ 100000) ∧ (0 ≤ takenC (oneL n i) l ∧ takenC (oneL n i) l ≤ 100000) ∧ (0 ≤ lackC (oneL n i) l ∧ lackC (oneL n i) l ≤ 100000) ∧ ∀ p, p < n → 0 ≤ atL (markL (oneL n i) l) p ∧ atL (markL (oneL n i) l) p ≤ 1000 := by
  have e : (oneL n i).length = n := oneL_length _ _
  refine ⟨?_, ?_, ?_, fun p hp => ?_⟩
  · have := sumN_bd (n := (oneL n i).length) (f := fun p => atL (oneL n i) p + putL p l) (B := 550) (fun p _ => by have := oneL_at n i p; have := put_bd p l hl; show 0 ≤ _ + _ ∧ _ + _ ≤ _; omega)
    rw [e] at this
    unfold putC
    rw [e]
    omega
  · have := sumN_bd (n := (oneL n i).length) (f := fun p => takenL p l) (B := 550) (fun p _ => by have := taken_bd p l hl; show 0 ≤ takenL p l ∧ takenL p l ≤ _; omega)
    rw [e] at this
    unfold takenC
    rw [e]
    omega
  · have := sumN_bd (n := (oneL n i).length) (f := fun p => lackL p l (atL (oneL n i) p)) (B := 550) (fun p _ => by have := oneL_at n i p; have := lack_bd p l (atL (oneL n i) p) hl (by omega); show 0 ≤ lackL p l _ ∧ lackL p l _ ≤ _; omega)
    rw [e] at this
    unfold lackC
    rw [e]
    omega
  · rw [markL_at (by rw [e]; exact hp)]
    have := oneL_at n i p
    have := have_bd p l (atL (oneL n i) p) hl (by omega)
    omega

set_option maxRecDepth 100000 in
set_option maxHeartbeats 8000000 in
theorem replay_calls {w : World} {P : Int} {A D : Option Addr} {n c m d : Nat} {ts : List PTran} {tr : List Int} (i o : Int) (h : Trans w A n c ts) (hn : n ≤ 2513169434916) (g : Ints w D m d tr) :
    Calls Try.prog 19 #[.agg #[.int .i64 P, .slice A n c], .int .i64 i, .int .i64 o, .slice D m d] w (AnsPl (replayL ⟨P, ts⟩ i o tr) w) := by
  generalize hw0 : (w.alloc (.cells #[.int .i64 P, .slice A n c] 27)).alloc (.cells #[.int .i64 0, .int .i64 0, .int .i64 0, .int .i64 0] 40) = w0
  have D0 := hide2 (show Below w.heap.size w w0 by rw [← hw0]; exact ((Below.refl _ _).alloc (Nat.le_refl _) _).alloc (by simp) _)
  have X0 := hide2 (show Box w0 w.heap.size 27 #[.int .i64 P, .slice A n c] by rw [← hw0]; exact (Box.new _ _ _).old _)
  have X1 := hide2 (show Box w0 (w.heap.size + 1) 40 #[.int .i64 0, .int .i64 0, .int .i64 0, .int .i64 0] by rw [← hw0]; exact Box.newAt (by simp) _ _)
  have H := hide2 h
  have HL := hide2 h.len
  have hns := h.small
  have G := hide2 g
  have GL := hide2 g.len
  have hms := g.small
  clear h g
  obtain ⟨s, hs⟩ : ∃ s, shapeL ⟨P, ts⟩ i o = s := ⟨_, rfl⟩
  have HS := hide2 hs
  have CW := hide2 (shapeWrong_calls (P := P) i o (H.out.keep D0.out) hn)
  rw [hs] at CW
  clear hs
  go_enter Try.func19, Try.ntmps19
  go_upto_region 1 with fail
  clear hw0
  obtain ⟨c0, c1⟩ := X0.out.two
  go_wp2_with fail
  refine CW.out.mono ?_
  rintro e w1 ⟨rfl, hb⟩
  have B1 := hide2 (D0.out.trans (hb.mono D0.out.size))
  have Y0 := hide2 (X0.out.keep hb)
  have Y1 := hide2 (X1.out.keep hb)
  clear hb c0 c1 X0 X1 D0 CW
  obtain ⟨c0, c1⟩ := Y0.out.two
  by_cases hz : s = 0
  · subst hz
    obtain ⟨hok, hin⟩ := shapeL_zero' HS.out
    simp only [inB, Bool.and_eq_true, decide_eq_true_eq] at hin
    obtain ⟨⟨⟨⟨hi0, ho0⟩, hiP⟩, hoP⟩, _⟩ := hin
    have HO := hide2 hok
    obtain ⟨p, rfl⟩ : ∃ p : Nat, P = (p : Int) := ⟨P.toNat, by have := ((netOk_iff _).1 HO.out).1; simp only [] at this; omega⟩
    have hp16 : p ≤ 16 := by have := ((netOk_iff _).1 HO.out).2.1; simp only [] at this; omega
    have hn24 : n ≤ 24 := by have := ((netOk_iff _).1 HO.out).2.2.1; rw [HL.out] at this; exact this
    have R0 := hide2 (show replayL ⟨(p : Int), ts⟩ i o tr = (if plainB ts = true then (if m ≤ 60 then (if tr.all (fun a => (byL ts a).isSome) = true then (playedL p i o (tr.filterMap (byL ts)), 0) else (PPlayed.nil, 3)) else (PPlayed.nil, 2)) else (PPlayed.nil, 1)) by
      rw [replayL, if_pos HS.out, GL.out]; rfl)
    clear hok hi0 ho0
    go_wp2_with fail
    refine (plain_calls (P := (p : Int)) (H.out.keep B1.out) hn24).mono ?_
    rintro e w2 ⟨rfl, hb⟩
    have B2 := hide2 (B1.out.trans (hb.mono B1.out.size))
    have Z0 := hide2 (Y0.out.keep hb)
    have Z1 := hide2 (Y1.out.keep hb)
    clear hb c0 c1 Y0 Y1 B1
    obtain ⟨pb, hpb⟩ : ∃ b, plainB ts = b := ⟨_, rfl⟩
    rw [hpb] at R0
    rw [hpb]
    clear hpb
    obtain ⟨z0, z1, z2, z3⟩ := Z1.out.four
    have f0 := Z1.out.frozen 0
    have f1 := Z1.out.frozen 1
    have f2 := Z1.out.frozen 2
    have f3 := Z1.out.frozen 3
    cases pb
    · go_wp2
      obtain ⟨r0, r1, r2, r3⟩ := (Z1.out.set4 (.int .i64 0) (.int .i64 0) (.int .i64 0) (.int .i64 0)).four
      exact bodyPost_ret (v := .tuple #[.agg #[.int .i64 0, .int .i64 0, .int .i64 0, .int .i64 0], .int .i64 1]) (by simp [results, Try.results19, go_sem, r0, r1, r2, r3]) rfl (by rw [R0.out]; exact AnsPl.no (below_set4 B2.out (by omega) _ _ _ _))
    · by_cases hm : 60 < m
      · have hmi : (60 : Int) < (m : Int) := by omega
        have FIN := hide2 (show replayL ⟨(p : Int), ts⟩ i o tr = (PPlayed.nil, 2) by rw [R0.out, if_pos rfl, if_neg (by omega)])
        clear hm
        go_wp2
        obtain ⟨r0, r1, r2, r3⟩ := (Z1.out.set4 (.int .i64 0) (.int .i64 0) (.int .i64 0) (.int .i64 0)).four
        exact bodyPost_ret (v := .tuple #[.agg #[.int .i64 0, .int .i64 0, .int .i64 0, .int .i64 0], .int .i64 2]) (by simp [results, Try.results19, go_sem, r0, r1, r2, r3]) rfl (by rw [FIN.out]; exact AnsPl.no (below_set4 B2.out (by omega) _ _ _ _))
      · have hmi : (m : Int) ≤ 60 := by omega
        have hm60 : m ≤ 60 := by omega
        rw [if_pos rfl, if_pos hm60] at R0
        clear hm
        obtain ⟨c0, c1⟩ := Z0.out.two
        obtain ⟨LA, hLA⟩ : ∃ l, tr.filterMap (byL ts) = l := ⟨_, rfl⟩
        have HLA := hide2 hLA
        clear hLA
        have S0 := hide2 (oneL_length p i)
        go_upto_region 8 with fail
        have b3 : True := trivial
        go_upto_region 9 with (at_make; refine wpList_mk Try.underlying35 infoInt rfl rfl _ _ rfl p rfl rfl rfl rfl (by omega) (by omega) (Below.refl _ _) (Nat.le_refl _) ?_; intro w3 own3 hg3 hb3)
        have M3 := hide2 (boxI_of_row own3)
        have hb34 := boxBelow w3 (.cells #[.int .i64 0, .int .i64 0, .int .i64 0, .int .i64 0, .slice (some ⟨w2.heap.size, 0, none⟩) p p] 102)
        have hb24 := hb3.trans (hb34.mono hb3.size)
        have V0 := hide2 (Z0.out.keep hb24)
        have V1 := hide2 (Z1.out.keep hb24)
        have C4 := hide2 (show BoxC _ w3.heap.size 0 0 0 0 w2.heap.size p from Box.new w3 #[.int .i64 0, .int .i64 0, .int .i64 0, .int .i64 0, .slice (some ⟨w2.heap.size, 0, none⟩) p p] 102)
        have M4 := hide2 (show BoxI _ w2.heap.size (List.replicate p 0) from Box.keep M3.out hb34)
        have B4 := hide2 (B2.out.trans (hb24.mono B2.out.size))
        have hbm : w2.heap.size < w3.heap.size := Box.lt M3.out
        have hb8 : w.heap.size + 1 < w2.heap.size := Z1.out.lt
        clear own3 hg3 hb3 hb34 hb24 M3 Z0 Z1 B2 z0 z1 z2 z3 f0 f1 f2 f3 c0 c1 b3
        generalize w3.alloc (.cells #[.int .i64 0, .int .i64 0, .int .i64 0, .int .i64 0, .slice (some ⟨w2.heap.size, 0, none⟩) p p] 102) = w4 at *
        generalize w2.heap.size = bm at *
        generalize w3.heap.size = bc at *
        obtain ⟨c0, c1⟩ := V0.out.two
        go_wp2_with fail
        refine (start_small w4 (p : Int) i A n c (by omega)).mono ?_
        rw [Int.toNat_natCast]
        rintro e w5 ⟨Cs, ks, rfl, is, hb, fs⟩
        have V0' := hide2 (V0.out.keep hb)
        have V1' := hide2 (V1.out.keep hb)
        have C5 := hide2 (show BoxC w5 bc 0 0 0 0 bm p from Box.keep C4.out hb)
        have M5 := hide2 (show BoxI w5 bm (List.replicate p 0) from Box.keep M4.out hb)
        have B5 := hide2 (B4.out.trans (hb.mono B4.out.size))
        have hbc4 : bc < w4.heap.size := Box.lt C4.out
        have PC := hide2 (put_calls (w := w5) (bc := bc) (bm := bm) (n := p) (A := Cs) (c := ks) (xs := List.replicate p 0) (ws := oneL p i) (pu := 0) (ta := 0) (la := 0) (le := 0) (by omega) C5.out M5.out (by simp) hp16
          (fun w' ho => Ints.oth is ho (fun a ha => by have := fs a ha; omega)) (fun q hq => by unfold atL; simp [hq]) (fun q _ => by have := oneL_at p i q; omega) (by omega))
        have E0 := hide2 (show putV (List.replicate p 0) (oneL p i) p = markL (oneL p i) [] by
          rw [markL_nil]
          apply List.ext_getElem?
          intro q
          by_cases hq : q < p
          · rw [putV_get (by simpa using hq), if_pos hq]
            have : (oneL p i)[q]? = some ((oneL p i)[q]'(by rw [oneL_length]; exact hq)) := List.getElem?_eq_getElem _
            rw [this, atL_some this]
            simp [atL, hq]
          · rw [List.getElem?_eq_none (by simp [putV]; omega), List.getElem?_eq_none (by rw [oneL_length]; omega)])
        have E1 := hide2 (show (0 : Int) + sumN p (atL (oneL p i)) = putC (oneL p i) [] by
          unfold putC
          rw [oneL_length, Int.zero_add]
          exact sumN_congr fun q _ => by simp [putL])
        clear is hb fs c0 c1 V0 V1 C4 M4 B4
        go_wp2_with fail
        refine PC.out.mono ?_
        rw [E0.out, E1.out]
        rintro e w6 ⟨rfl, c6, m6, o6⟩
        have C6 := hide2 c6
        have M6 := hide2 m6
        have V0 := hide2 (o6.box V0'.out (by omega) (by omega))
        have V1 := hide2 (o6.box V1'.out (by omega) (by omega))
        have B6 := hide2 (o6.below B5.out (by omega) (by omega))
        have hbc6 : bc < w6.heap.size := Box.lt C6.out
        clear c6 m6 o6 V0' V1' C5 M5 B5 PC E0 E1
        have T1 := hide2 (show takenC (oneL p i) [] = 0 by unfold takenC; rw [show (fun p => takenL p []) = fun _ => (0 : Int) from rfl]; have := sumN_bd (n := (oneL p i).length) (f := fun _ => (0 : Int)) (B := 0) (fun _ _ => by omega); omega)
        have T2 := hide2 (show lackC (oneL p i) [] = 0 by unfold lackC; simp only [lackL]; have := sumN_bd (n := (oneL p i).length) (f := fun _ => (0 : Int)) (B := 0) (fun _ _ => by omega); omega)
        go_wp2
        go_loopw [45] (fun v wr => ∃ k : Nat, k ≤ m ∧ v = .int .i64 k ∧ Hid (∀ j, j < k → ∀ a, tr[j]? = some a → (byL ts a).isSome = true) ∧ Hid (BoxC wr bc (putC (oneL p i) ((tr.take k).filterMap (byL ts))) (takenC (oneL p i) ((tr.take k).filterMap (byL ts))) (lackC (oneL p i) ((tr.take k).filterMap (byL ts))) 0 bm p) ∧ Hid (BoxI wr bm (markL (oneL p i) ((tr.take k).filterMap (byL ts)))) ∧ Hid (Box wr w.heap.size 27 #[.int .i64 p, .slice A n c]) ∧ Hid (Box wr (w.heap.size + 1) 40 #[.int .i64 0, .int .i64 0, .int .i64 0, .int .i64 0]) ∧ Hid (Below w.heap.size w wr) ∧ bc < wr.heap.size) (fun v _ => m - (intOf v).toNat)
        case atStart => exact ⟨0, Nat.zero_le _, rfl, fun j hj => absurd hj (by omega), by show BoxC w6 bc (putC (oneL p i) []) (takenC (oneL p i) []) (lackC (oneL p i) []) 0 bm p; rw [T1.out, T2.out]; exact C6, M6, V0, V1, B6, hbc6⟩
        case round =>
          obtain ⟨k, hk, rfl, AL, C, M, U0, U1, BR, hbcr⟩ := hrel
          obtain ⟨LK, hLK⟩ : ∃ l, (tr.take k).filterMap (byL ts) = l := ⟨_, rfl⟩
          rw [hLK] at C M
          have LT := hide2 (show LightL LK by rw [← hLK]; exact light_filter (N := ⟨(p : Int), ts⟩) HO.out _)
          have LN := hide2 (show LK.length ≤ k by rw [← hLK]; refine Nat.le_trans (filter_len _ _) ?_; rw [List.length_take]; omega)
          have HLK := hide2 hLK
          have BD := hide2 (counts_bd hp16 i LT.out (by have := LN.out; omega))
          clear hLK
          by_cases hlt : k < m
          · have hki : (k : Int) < (m : Int) := by omega
            obtain ⟨bl0, off0, a, rfl, hbl0, ha, qa⟩ := Ints.get (Ints.keep G.out BR.out) hlt
            have bb := boxBelow wr (.cells #[.int .i64 a] 3)
            have W0 := hide2 (U0.out.keep bb)
            have W1 := hide2 (U1.out.keep bb)
            have WA := hide2 (Box.new wr #[.int .i64 a] 3)
            have C1 := hide2 (show BoxC _ bc _ _ _ 0 bm p from Box.keep C.out bb)
            have M1 := hide2 (show BoxI _ bm _ from Box.keep M.out bb)
            have BW := hide2 (BR.out.trans (bb.mono BR.out.size))
            have hbcw := Nat.lt_of_lt_of_le hbcr bb.size
            clear bb U0 U1 C M BR
            go_upto_region 13 with fail
            generalize wr.alloc (.cells #[.int .i64 a] 3) = u0 at *
            generalize wr.heap.size = ba at *
            obtain ⟨c0, c1⟩ := W0.out.two
            clear qa
            go_wp2_with fail
            refine (indexTrans_calls (H.out.keep BW.out) (label_pred (ts := ts) WA.out)).mono ?_
            rintro e u1 ⟨rfl, hb⟩
            have Y0 := hide2 (W0.out.keep hb)
            have Y1 := hide2 (W1.out.keep hb)
            have C2 := hide2 (show BoxC u1 bc _ _ _ 0 bm p from Box.keep C1.out hb)
            have M2 := hide2 (show BoxI u1 bm _ from Box.keep M1.out hb)
            have BY := hide2 (BW.out.trans (hb.mono BW.out.size))
            have hbcy := Nat.lt_of_lt_of_le hbcw hb.size
            clear hb W0 W1 WA C1 M1 BW c0 c1
            obtain ⟨c0, c1⟩ := Y0.out.two
            rcases byL_idx ts a with ⟨hby, hix⟩ | ⟨q, t, ht, hby, hix⟩
            · rw [hix]
              have FIN := hide2 (show replayL ⟨(p : Int), ts⟩ i o tr = (PPlayed.nil, 3) by
                rw [R0.out, if_neg]
                intro hall
                have := List.all_eq_true.1 hall a (List.mem_of_getElem? ha.out)
                rw [hby] at this
                cases this)
              obtain ⟨z0, z1, z2, z3⟩ := Y1.out.four
              have f0 := Y1.out.frozen 0
              have f1 := Y1.out.frozen 1
              have f2 := Y1.out.frozen 2
              have f3 := Y1.out.frozen 3
              clear hby hix
              go_wp2
              obtain ⟨r0, r1, r2, r3⟩ := (Y1.out.set4 (.int .i64 0) (.int .i64 0) (.int .i64 0) (.int .i64 0)).four
              exact bodyPost_ret (v := .tuple #[.agg #[.int .i64 0, .int .i64 0, .int .i64 0, .int .i64 0], .int .i64 3]) (by simp [results, Try.results19, go_sem, r0, r1, r2, r3]) rfl (by rw [FIN.out]; exact AnsPl.no (below_set4 BY.out (by omega) _ _ _ _))
            · rw [hix]
              have HT := hide2 ht
              have HBY := hide2 hby
              have hq : q < n := by have h1 := (List.getElem?_eq_some_iff.1 ht).1; have h2 := HL.out; omega
              have hqi : (q : Int) < (n : Int) := by omega
              clear hix hby ht
              obtain ⟨bl, off, t', A1, n1, k1, A2, n2, k2, rfl, hbl, ht', q0', q1', q2', i1, i2, _, _⟩ := Trans.get H.out hq
              obtain rfl : t' = t := by have := ht'.out; rw [HT.out] at this; injection this with this; exact this.symm
              have q1 := (BY.out.cell (p := ⟨bl, off + q * 3 + 1, none⟩) hbl).trans q1'
              have q2 := (BY.out.cell (p := ⟨bl, off + q * 3 + 2, none⟩) hbl).trans q2'
              have hT := netOk_tran HO.out HT.out
              have e1 : n1 = p := by have := hT.2.2.1; rw [i1.len] at this; simp only [] at this; omega
              have e2 : n2 = p := by have := hT.2.2.2.1; rw [i2.len] at this; simp only [] at this; omega
              subst e1
              subst e2
              have I2 := hide2 i2
              have LI := hide2 (light_tran HO.out HT.out)
              have ML := hide2 (show (markL (oneL n2 i) LK).length = n2 by rw [markL_length, oneL_length])
              obtain ⟨⟨b0, b1⟩, ⟨b2, b3⟩, ⟨b4, b5⟩, b6⟩ := BD.out
              have TC := hide2 (take_calls (w := u1) (A := A1) (c := k1) (ws := t'.pre) (by omega) C2.out M2.out ML.out hp16 (fun w' ho => Ints.keep i1 (ho.below BY.out (by omega) (by omega))) (fun r hr => by have := b6 r hr; omega) (fun r _ => by have := LI.out r; omega) ⟨b2, by omega⟩ ⟨b4, by omega⟩)
              have XB := hide2 (show ∀ r, r < n2 → 0 ≤ atL (lackV (markL (oneL n2 i) LK) t'.pre n2) r ∧ atL (lackV (markL (oneL n2 i) LK) t'.pre n2) r ≤ 1000000 from fun r hr => by
                rw [atL_some (lackV_get (by rw [ML.out]; exact hr)), if_pos hr]
                have := b6 r hr
                have := LI.out r
                omega)
              have PB := hide2 (show 0 ≤ putC (oneL n2 i) LK ∧ putC (oneL n2 i) LK ≤ 1000000 from ⟨b0, by omega⟩)
              clear hT i1 i2 q0' q1' q2' b0 b1 b2 b3 b4 b5 b6
              go_wp2_with fail
              refine TC.out.mono ?_
              rintro e u2 ⟨rfl, c6', m6', o6⟩
              have C3 := hide2 c6'
              have M3 := hide2 m6'
              have W0 := hide2 (o6.box Y0.out (by omega) (by omega))
              have W1 := hide2 (o6.box Y1.out (by omega) (by omega))
              have BW := hide2 (o6.below BY.out (by omega) (by omega))
              have hbcw : bc < u2.heap.size := Box.lt C3.out
              have q2b := (o6.block bl (by have := BY.out; omega) (by omega))
              have q2' := (World.cell?_of_block (a := ⟨bl, off + q * 3 + 2, none⟩) q2b).trans q2
              have PC := hide2 (put_calls (w := u2) (A := A2) (c := k2) (ws := t'.post) (by omega) C3.out M3.out (by rw [lackV_length]; exact ML.out) hp16 (fun w' ho => Ints.keep I2.out (ho.below BW.out (by omega) (by omega))) XB.out (fun r _ => by have := LI.out r; omega) PB.out)
              clear c6' m6' o6 q2b q1 q2 c0 c1 Y0 Y1 C2 M2 BY TC
              obtain ⟨c0, c1⟩ := W0.out.two
              go_wp2_with fail
              refine PC.out.mono ?_
              rintro e u3 ⟨rfl, c6', m6', o6⟩
              have ST := hide2 (filter_snoc ha.out HBY.out)
              rw [HLK.out] at ST
              have C4 := hide2 (show BoxC u3 bc (putC (oneL n2 i) (LK ++ [t'])) (takenC (oneL n2 i) (LK ++ [t'])) (lackC (oneL n2 i) (LK ++ [t'])) 0 bm n2 by rw [putC_snoc, takenC_snoc, lackC_snoc, oneL_length]; exact c6')
              have M4 := hide2 (show BoxI u3 bm (markL (oneL n2 i) (LK ++ [t'])) by rw [← markL_snoc, oneL_length]; exact m6')
              have Y0 := hide2 (o6.box W0.out (by omega) (by omega))
              have Y1 := hide2 (o6.box W1.out (by omega) (by omega))
              have BY := hide2 (o6.below BW.out (by omega) (by omega))
              have hbcy : bc < u3.heap.size := Box.lt C4.out
              clear c6' m6' o6 c0 c1 W0 W1 C3 M3 BW PC q2'
              go_wp2
              go_roundw
              case rel =>
                refine ⟨k + 1, by omega, by go_num, fun j hj a' ha' => ?_, by rw [ST.out]; exact C4, by rw [ST.out]; exact M4, Y0, Y1, BY, hbcy⟩
                by_cases hjk : j = k
                · subst hjk
                  have := ha.out
                  rw [ha'] at this
                  injection this with this
                  rw [this, HBY.out]; rfl
                · exact AL.out j (by omega) a' ha'
              case measure => simp [intOf]; omega
          · obtain rfl : k = m := by omega
            have EK := hide2 (show LK = LA by rw [← HLK.out, ← HLA.out, List.take_of_length_le (by rw [GL.out]; exact Nat.le_refl _)])
            rw [EK.out] at C M LT LN BD
            have FIN := hide2 (show replayL ⟨(p : Int), ts⟩ i o tr = (playedL p i o LA, 0) by
              rw [R0.out, if_pos, HLA.out]
              refine List.all_eq_true.2 fun a ha => ?_
              obtain ⟨j, hj, rfl⟩ := List.getElem_of_mem ha
              exact AL.out j (by have := GL.out; omega) _ (List.getElem?_eq_getElem hj))
            obtain ⟨c0, c1⟩ := U0.out.two
            go_wp2_with fail
            refine (start_small wr (p : Int) o A n c (by omega)).mono ?_
            rw [Int.toNat_natCast]
            rintro e u1 ⟨Co, ko, rfl, io, hb, fo⟩
            have Y1 := hide2 (U1.out.keep hb)
            have C2 := hide2 (show BoxC u1 bc _ _ _ 0 bm p from Box.keep C.out hb)
            have M2 := hide2 (show BoxI u1 bm _ from Box.keep M.out hb)
            have BY := hide2 (BR.out.trans (hb.mono BR.out.size))
            have ML := hide2 (show (markL (oneL p i) LA).length = p by rw [markL_length, oneL_length])
            obtain ⟨⟨b0, b1⟩, ⟨b2, b3⟩, ⟨b4, b5⟩, b6⟩ := BD.out
            have TC := hide2 (take_calls (w := u1) (A := Co) (c := ko) (ws := oneL p o) (by omega) C2.out M2.out ML.out hp16 (fun w' ho => Ints.oth io ho (fun a ha => by have := fo a ha; omega)) (fun r hr => by have := b6 r hr; omega) (fun r _ => by have := oneL_at p o r; omega) ⟨b2, by omega⟩ ⟨b4, by omega⟩)
            clear b0 b1 b2 b3 b4 b5 b6 io fo hb c0 c1 C M U0 U1 BR
            go_wp2_with fail
            refine TC.out.mono ?_
            rintro e u2 ⟨rfl, c6', m6', o6⟩
            obtain ⟨XF, hXF⟩ : ∃ x, lackV (markL (oneL p i) LA) (oneL p o) p = x := ⟨_, rfl⟩
            rw [hXF] at m6'
            have XL := hide2 (show XF.length = p by rw [← hXF, lackV_length]; exact ML.out)
            have Z0 := hide2 (show sumN p (atL (List.replicate p (0 : Int))) = 0 by
              have := sumN_bd (n := p) (f := atL (List.replicate p (0 : Int))) (B := 0) (fun q hq => by unfold atL; simp [hq])
              omega)
            have EP := hide2 (show putC (oneL p i) LA = (playedL p i o LA).put by
              simp only [playedL]
              rw [putC_snoc, oneL_length, endT, Z0.out, Int.add_zero])
            have ET := hide2 (show takenC (oneL p i) LA + sumN p (atL (oneL p o)) = (playedL p i o LA).taken by
              simp only [playedL]
              rw [takenC_snoc, oneL_length, endT])
            have EC := hide2 (show lackC (oneL p i) LA + sumN p (fun q => max (atL (oneL p o) q - atL (markL (oneL p i) LA) q) 0) = (playedL p i o LA).lacked by
              simp only [playedL]
              rw [lackC_snoc, oneL_length, endT])
            have EF := hide2 (show sumN p (atL XF) = (playedL p i o LA).left by
              simp only [playedL]
              unfold leftC
              rw [oneL_length]
              refine sumN_congr fun q hq => ?_
              rw [← hXF, atL_some (lackV_get (by rw [ML.out]; exact hq)), if_pos hq, haveL_snoc, stepH1, markL_at (by rw [oneL_length]; exact hq)]
              simp only [endT]
              have : atL (List.replicate p (0 : Int)) q = 0 := by unfold atL; simp [hq]
              rw [this, Int.add_zero])
            have XB := hide2 (show ∀ r, r < p → 0 ≤ atL XF r ∧ atL XF r ≤ 2000 from fun r hr => by
              rw [← hXF, atL_some (lackV_get (by rw [ML.out]; exact hr)), if_pos hr]
              have := BD.out.2.2.2 r hr
              have := oneL_at p o r
              omega)
            obtain ⟨pu, hpu⟩ : ∃ x, (playedL p i o LA).put = x := ⟨_, rfl⟩
            obtain ⟨ta, hta⟩ : ∃ x, (playedL p i o LA).taken = x := ⟨_, rfl⟩
            obtain ⟨la, hla⟩ : ∃ x, (playedL p i o LA).lacked = x := ⟨_, rfl⟩
            have C3 := hide2 (show BoxC u2 bc pu ta la 0 bm p by rw [← hpu, ← hta, ← hla, ← EP.out, ← ET.out, ← EC.out]; exact c6')
            have M3 := hide2 m6'
            have W1 := hide2 (o6.box Y1.out (by omega) (by omega))
            have BW := hide2 (o6.below BY.out (by omega) (by omega))
            have AN := hide2 (show replayL ⟨(p : Int), ts⟩ i o tr = (⟨pu, ta, la, sumN p (atL XF)⟩, 0) by rw [FIN.out, ← hpu, ← hta, ← hla, EF.out])
            clear c6' m6' o6 hXF hpu hta hla Y1 C2 M2 BY TC EP ET EC EF FIN
            obtain ⟨d0, d1, d2, d3, d4⟩ := C3.out.five
            go_wp2
            go_loopw [83] (fun v wr => ∃ j : Nat, j ≤ p ∧ v = .int .i64 j ∧ Hid (BoxC wr bc pu ta la (sumN j (atL XF)) bm p) ∧ Hid (BoxI wr bm XF) ∧ Hid (Box wr (w.heap.size + 1) 40 #[.int .i64 0, .int .i64 0, .int .i64 0, .int .i64 0]) ∧ Hid (Below w.heap.size w wr)) (fun v _ => p - (intOf v).toNat)
            case atStart => exact ⟨0, Nat.zero_le _, rfl, C3, M3, W1, BW⟩
            case round =>
              clear d0 d1 d2 d3 d4
              obtain ⟨j, hj, rfl, C, M, U1, BR⟩ := hrel
              obtain ⟨s, hs⟩ : ∃ s, sumN j (atL XF) = s := ⟨_, rfl⟩
              have hsb := sumN_bd (n := j) (f := atL XF) (B := 2000) (fun r hr => XB.out r (by omega))
              rw [hs] at C
              have s0 : 0 ≤ s := by omega
              have s1 : s ≤ 100000 := by omega
              have SS := hide2 (show sumN (j + 1) (atL XF) = s + atL XF j by rw [sumN_succ, hs])
              have HSS := hide2 hs
              clear hs hsb
              obtain ⟨d0, d1, d2, d3, d4⟩ := C.out.five
              by_cases hlj : j < p
              · have hji : (j : Int) < (p : Int) := by omega
                obtain ⟨x, hx⟩ : ∃ x, atL XF j = x := ⟨_, rfl⟩
                have hxb := XB.out j hlj
                rw [hx] at hxb SS
                obtain ⟨x0, x1⟩ := hxb
                have m0 := BoxI.at M.out (j := j) (x := x) (by rw [← hx, atL, List.getD_eq_getElem?_getD, List.getElem?_eq_getElem (by have := XL.out; omega)]; rfl)
                have cf := C.out.frozen 3
                clear hx
                have CF := hide2 (show BoxC (wr.setCell ⟨bc, 3, none⟩ (.int .i64 (s + x))) bc pu ta la (s + x) bm p by simpa using C.out.set 3 (.int .i64 (s + x)))
                have MF := hide2 (show BoxI (wr.setCell ⟨bc, 3, none⟩ (.int .i64 (s + x))) bm XF from (Beside.set wr bc 3 _).box M.out (by omega))
                have UF := hide2 ((Beside.set wr bc 3 (.int .i64 (s + x))).box U1.out (by omega))
                have BF := hide2 (BR.out.setCell (show w.heap.size ≤ (⟨bc, 3, none⟩ : Addr).block by show w.heap.size ≤ bc; omega) (.int .i64 (s + x)))
                clear M U1 BR
                go_wp2
                go_roundw
                case rel => exact ⟨j + 1, by omega, by go_num, by rw [SS.out]; exact CF, MF, UF, BF⟩
                case measure => simp [intOf]; omega
              · obtain rfl : j = p := by omega
                obtain ⟨z0, z1, z2, z3⟩ := U1.out.four
                have f0 := U1.out.frozen 0
                have f1 := U1.out.frozen 1
                have f2 := U1.out.frozen 2
                have f3 := U1.out.frozen 3
                go_wp2
                obtain ⟨r0, r1, r2, r3⟩ := (U1.out.set4 (.int .i64 pu) (.int .i64 ta) (.int .i64 la) (.int .i64 s)).four
                exact bodyPost_ret (v := .tuple #[.agg #[.int .i64 pu, .int .i64 ta, .int .i64 la, .int .i64 s], .int .i64 0]) (by simp [results, Try.results19, go_sem, r0, r1, r2, r3]) rfl (by rw [AN.out, HSS.out]; exact ⟨rfl, below_set4 BR.out (by omega) _ _ _ _⟩)
  · have hne : (s == 0) = false := by simpa using hz
    have FIN := hide2 (show replayL ⟨P, ts⟩ i o tr = (PPlayed.nil, s) by rw [replayL, HS.out, if_neg hz])
    clear hz
    obtain ⟨z0, z1, z2, z3⟩ := Y1.out.four
    have f0 := Y1.out.frozen 0
    have f1 := Y1.out.frozen 1
    have f2 := Y1.out.frozen 2
    have f3 := Y1.out.frozen 3
    go_wp2
    obtain ⟨r0, r1, r2, r3⟩ := (Y1.out.set4 (.int .i64 0) (.int .i64 0) (.int .i64 0) (.int .i64 0)).four
    exact bodyPost_ret (v := .tuple #[.agg #[.int .i64 0, .int .i64 0, .int .i64 0, .int .i64 0], .int .i64 s]) (by simp [results, Try.results19, go_sem, r0, r1, r2, r3]) rfl (by rw [FIN.out]; exact AnsPl.no (below_set4 B1.out (by omega) _ _ _ _))
end Go.Proofs.Ytnfppolgaeibeaa
