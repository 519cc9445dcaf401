/- The contract of LHas. Conditions: the net and the word read as lists. | The contract of LLeast, and the law TongueHas as a call: it returns true. Conditions: the net and the word read as lists. | The law TongueHas as a call: it returns true. Conditions: the net and the word read as lists; the word is not longer than a million letters. -/
import Derived.Test.YtnfppolgaeibeaaTongH
import Derived.Deep.DeepCutAuto
import Derived.Test.YtnfppolgaeibeaaBulk
namespace Go.Proofs.Ytnfppolgaeibeaa
open Go.RowKit

structure TongOk (N : PNet) (o : Int) (s : PSp) : Prop where
  pos : 0 < s.marks.length
  small : s.marks.length ≤ 300
  few : s.arcs.length ≤ 7200
  nodup : s.marks.Nodup
  from_ : ∀ a ∈ s.arcs, Inn s.marks.length a.from_
  to_ : ∀ a ∈ s.arcs, Inn s.marks.length a.to_
  tran : ∀ a ∈ s.arcs, Inn N.trans.length a.tran
  label : ∀ a ∈ s.arcs, 0 ≤ atI (labL N) a.tran
theorem tongS_ok {N : PNet} {i o : Int} {s : PSp} (h : tongS N i o = (s, 0)) : TongOk N o s := by
  unfold tongS at h
  split at h
  · rename_i h0
    have hok := (shapeL_two h0).2
    have h2 : (graphL N (oneL (min N.places 16).toNat i) 300).2 = 0 := by rw [h]
    obtain ⟨_, SO⟩ := graphL_most h2
    have hA := graphL_arcs h2
    rw [h] at SO hA
    have hT : ∀ a ∈ s.arcs, Inn s.marks.length a.from_ ∧ Inn N.trans.length a.tran ∧ Inn s.marks.length a.to_ := fun a ha => by
      obtain ⟨e1, e2, e3⟩ := SO.ends a ha
      exact ⟨e1, e2, e3⟩
    refine ⟨SO.some_, SO.few, hA, SO.nodup, fun a ha => (hT a ha).1, fun a ha => (hT a ha).2.2, fun a ha => (hT a ha).2.1, fun a ha => ?_⟩
    obtain ⟨r, er, hr⟩ := natOf (hT a ha).2.1
    have hx : N.trans[r]? = some N.trans[r] := List.getElem?_eq_getElem hr
    have := (netOk_tran hok hx).1
    unfold atI labL
    rw [er, Int.toNat_natCast, List.getD_eq_getElem?_getD, List.getElem?_map, hx]
    exact this
  · rename_i h0
    injection h with _ h
    exact absurd h h0
theorem meetB_iff {bs es : List Bool} {n : Nat} : meetT bs es n = true ↔ ∃ j : Nat, j < n ∧ on bs (j : Int) ∧ on es (j : Int) := by
  unfold meetT on
  rw [List.any_eq_true]
  constructor
  · rintro ⟨j, hj, h⟩
    rw [Bool.and_eq_true] at h
    exact ⟨j, List.mem_range.1 hj, by simpa using h.1, by simpa using h.2⟩
  · rintro ⟨j, hj, h1, h2⟩
    refine ⟨j, List.mem_range.2 hj, ?_⟩
    rw [Bool.and_eq_true]
    exact ⟨by simpa using h1, by simpa using h2⟩
theorem endsL_on {N : PNet} {o : Int} {ms : List (List Int)} {j : Nat} : on (endsL N o ms) (j : Int) ↔ ms[j]? = some (endL N o) := by
  unfold on endsL
  rw [Int.toNat_natCast, List.getD_eq_getElem?_getD, List.getElem?_map]
  cases h : ms[j]? with
  | none => simp
  | some x => simp
theorem meet_none {N : PNet} {o : Int} {ms : List (List Int)} {bs : List Bool} {n : Nat} (h : findL ms (endL N o) = none) : meetT bs (endsL N o ms) n = false := by
  cases hm : meetT bs (endsL N o ms) n with
  | false => rfl
  | true =>
    obtain ⟨j, _, _, h2⟩ := meetB_iff.1 hm
    exact absurd (List.mem_of_getElem? (endsL_on.1 h2)) (findL_none h)
theorem meet_some {N : PNet} {o : Int} {ms : List (List Int)} {bs : List Bool} {k : Nat} (hn : ms.Nodup) (h : findL ms (endL N o) = some k) : meetT bs (endsL N o ms) ms.length = true ↔ on bs (k : Int) := by
  have hk := findL_some h
  rw [meetB_iff]
  constructor
  · rintro ⟨j, _, h1, h2⟩
    have h3 := findL_at hn (endsL_on.1 h2)
    rw [h] at h3
    injection h3 with h3
    subst h3
    exact h1
  · intro h1
    exact ⟨k, (List.getElem?_eq_some_iff.1 hk).1, h1, endsL_on.2 hk⟩

set_option maxRecDepth 100000 in
set_option maxHeartbeats 8000000 in
theorem lhas_calls {w : World} {P : Int} {A Q : Option Addr} {n c l q : Nat} {ts : List PTran} {wd : List Int} (i o : Int) (h : Trans w A n c ts) (hn : n ≤ 2513169434916) (g : Ints w Q l q wd) (hl : l ≤ 1048576) :
    Calls Try.prog 25 #[.agg #[.int .i64 P, .slice A n c], .int .i64 i, .int .i64 o, .slice Q l q] w (AnsHas (hasB ⟨P, ts⟩ i o wd) w) := by
  generalize hw : w.alloc (.cells #[.int .i64 P, .slice A n c] 27) = w0
  have HB := hide2 (show Below w.heap.size w w0 by rw [← hw]; exact (Below.refl _ _).alloc (Nat.le_refl _) _)
  have X0 := hide2 (show Box w0 w.heap.size 27 #[.int .i64 P, .slice A n c] by rw [← hw]; exact Box.new _ _ _)
  have H := hide2 (h.keep HB.out)
  have CW := hide2 (lspace_calls (P := P) i o H.out hn)
  have G := hide2 (Ints.keep g HB.out)
  have GL := hide2 (show wd.length = l from g.len)
  have TL := hide2 (show ts.length = n from h.len)
  clear h g
  obtain ⟨R, hR⟩ : ∃ R, tongS ⟨P, ts⟩ i o = R := ⟨_, rfl⟩
  have ER := hide2 (fun (he : R.2 ≠ 0) => hasB_err (wd := wd) hR he)
  have OK := hide2 (fun (s : PSp) (he : R = (s, 0)) => hasB_ok (wd := wd) (hR.trans he))
  have TO := hide2 (fun (s : PSp) (he : R = (s, 0)) => tongS_ok (hR.trans he))
  rw [hR] at CW
  clear hR
  obtain ⟨a0, a1⟩ := X0.out.two
  go_enter Try.func25, Try.ntmps25
  go_upto_region 1 with fail
  clear hw
  obtain ⟨s, k⟩ := R
  obtain ⟨tv, htv⟩ : ∃ tv, toV (findL s.marks (endL ⟨P, ts⟩ o)) = tv := ⟨_, rfl⟩
  have HTV := hide2 htv
  replace CW := hide2 (show Calls Try.prog 74 #[.agg #[.int .i64 P, .slice A n c], .int .i64 i, .int .i64 o] w0 (fun e w' => ∃ U cu V cv, e = .returned (.tuple #[.agg #[.slice U s.marks.length cu, .slice V s.arcs.length cv], .int .i64 tv, .int .i64 k]) ∧ Lists w' U s.marks.length cu s.marks ∧ Arcs w' V s.arcs.length cv s.arcs ∧ Below w0.heap.size w0 w') from by rw [← htv]; exact CW.out)
  clear htv
  go_upto_region 2 with (go_at_call 74; go_loud ((with_reducible refine CW.out.mono ?_); rintro e w1 ⟨U, cu, V, cv, rfl, hL, hA, hb1⟩; have L1 := hide2 hL; have A1 := hide2 hA; have B1 := hide2 hb1; clear hL hA hb1))
  have BX1 := hide2 (show Below w1.heap.size w1 (w1.alloc (.cells #[.slice U s.marks.length cu, .slice V s.arcs.length cv] 107)) from (Below.refl _ _).alloc (Nat.le_refl _) _)
  have X1 := hide2 (Box.new w1 #[.slice U s.marks.length cu, .slice V s.arcs.length cv] 107)
  clear a0 a1 CW
  generalize w1.alloc (.cells #[.slice U s.marks.length cu, .slice V s.arcs.length cv] 107) = w2 at *
  generalize hb8 : w1.heap.size = b8 at *
  have B2 := hide2 (B1.out.trans (BX1.out.mono (by have := B1.out.size; rw [hb8] at this; exact this)))
  have BX2 := hide2 (show Below w1.heap.size w1 w2 by rw [hb8]; exact BX1.out)
  have BW := hide2 (HB.out.trans (B2.out.mono HB.out.size))
  clear hb8
  by_cases hk : k = 0
  · subst hk
    have OK1 := hide2 (OK.out s rfl)
    have T := hide2 (TO.out s rfl)
    clear ER OK TO
    cases hf : findL s.marks (endL ⟨P, ts⟩ o) with
    | none =>
      have NO := hide2 (meet_none (bs := toldL s.arcs (atI (labL ⟨P, ts⟩)) wd s.marks.length wd.length) (n := s.marks.length) hf)
      obtain rfl : tv = -1 := by rw [← HTV.out, hf]; rfl
      clear hf
      go_wp2
      go_ret2
      rw [OK1.out, NO.out]
      exact ⟨by first | rfl | simp, BW.out⟩
    | some j =>
      obtain rfl : tv = (j : Int) := by rw [← HTV.out, hf]; rfl
      have hj := (List.getElem?_eq_some_iff.1 (findL_some hf)).1
      have YES := hide2 (meet_some (bs := toldL s.arcs (atI (labL ⟨P, ts⟩)) wd s.marks.length wd.length) T.out.nodup hf)
      have HJ := hide2 hj
      clear hf
      have CL := hide2 (fun (w' : World) (hb : Below w2.heap.size w2 w') => llead_calls (P := P) ((H.out.keep B2.out).keep hb) (Sl.keep ListR.kept (Sl.keep ListR.kept L1.out BX2.out) hb) (Sl.keep ArcR.kept (Sl.keep ArcR.kept A1.out BX2.out) hb) (Ints.keep (Ints.keep G.out B2.out) hb) T.out.from_ T.out.to_ (by rw [← TL.out]; exact T.out.tran) T.out.label T.out.pos T.out.small T.out.few hl)
      obtain ⟨a0, a1⟩ := (X0.out.keep B2.out).two
      obtain ⟨z0, z1⟩ := X1.out.two
      obtain ⟨n0, hn0⟩ : ∃ n0, s.marks.length = n0 := ⟨_, rfl⟩
      have HN0 := hide2 hn0
      obtain ⟨m0, hm0⟩ : ∃ m0, s.arcs.length = m0 := ⟨_, rfl⟩
      rw [hn0] at CL z0 hj YES
      rw [hm0] at CL z1
      have hji : (j : Int) < (n0 : Int) := by omega
      have hj0 : ¬ (j : Int) < 0 := by omega
      clear hn0 hm0
      have CL0 := hide2 (CL.out _ (Below.refl _ _))
      replace CL0 := hide2 (show Calls Try.prog 75 #[.agg #[.int .i64 P, .slice A n c], .agg #[.slice U n0 cu, .slice V m0 cv], .slice Q l q] w2 (fun e w' => ∃ g M, e = .returned (.slice (some ⟨g, 0, none⟩) (l + 1) (l + 1)) ∧ MatK w' w2.heap.size g (l + 1) n0 M ∧ M.length = l + 1 ∧ (∀ k m : Nat, k < l + 1 → (at2 M k m = some true ↔ Told s.arcs (atI (labL ⟨P, ts⟩)) wd k (m : Int))) ∧ Below w2.heap.size w2 w') from by rw [← GL.out]; rw [← GL.out] at CL0; exact CL0.out)
      have hli : (l : Int) < ((l : Int) + 1) := by omega
      go_upto_region 4 with (fail)
      go_wp2_with (go_at_call 75; go_loud ((with_reducible refine CL0.out.mono ?_); rintro e w3 ⟨g, M, rfl, hM, hml, hT, hb3⟩; have HM := hide2 hM; have HT := hide2 hT; have B3 := hide2 hb3; have hml' := hml; clear hT hb3; obtain ⟨br, r, hr, hc, ho⟩ := hM.get (k := l) (by omega); obtain ⟨v, hv⟩ : ∃ v, r[j]? = some v := ⟨_, List.getElem?_eq_getElem (by rw [ho.len]; exact hj)⟩; have xv := ho.at hv; have VT := hide2 (show at2 M l j = some v by unfold at2; rw [hr]; exact hv); clear hr ho hv hM))
      go_ret2
      rw [OK1.out]
      have e : meetT (toldL s.arcs (atI (labL ⟨P, ts⟩)) wd s.marks.length wd.length) (endsL ⟨P, ts⟩ o s.marks) s.marks.length = v := by
        rw [Bool.eq_iff_iff, HN0.out, YES.out, told_on ⟨by omega, by omega⟩, GL.out, ← HT.out l j (by omega), VT.out]
        simp
      rw [e]
      exact ⟨by first | rfl | simp, BW.out.trans (B3.out.mono BW.out.size)⟩
  · have ER1 := hide2 (ER.out hk)
    go_wp2
    go_ret2
    rw [ER1.out]
    exact ⟨by first | rfl | simp, BW.out⟩
end Go.Proofs.Ytnfppolgaeibeaa
namespace Go.Proofs.Ytnfppolgaeibeaa
open Go.RowKit

/-- The first so many are far off. -/
def startZ (n k : Nat) : List Int := (List.range n).map fun j => if j < k then 1073741824 else 0
theorem startZ_len (n k : Nat) : (startZ n k).length = n := by simp [startZ]
theorem startZ_zero (n : Nat) : startZ n 0 = List.replicate n 0 := by
  apply List.ext_getElem (by simp [startZ])
  intro j h1 h2
  simp [startZ]
theorem startZ_succ {n k : Nat} : startZ n (k + 1) = (startZ n k).set k 1073741824 := by
  apply List.ext_getElem (by simp [startZ])
  intro j h1 h2
  rw [List.getElem_set]
  simp only [startZ, List.getElem_map, List.getElem_range]
  by_cases e : k = j
  · subst e; simp
  · rw [if_neg e]
    have : (j < k + 1) ↔ (j < k) := ⟨fun h => by omega, fun h => by omega⟩
    exact ite_congr (propext this) (fun _ => rfl) (fun _ => rfl)
theorem startZ_none {N : PNet} {o : Int} {ms : List (List Int)} (h : findL ms (endL N o) = none) : startZ ms.length ms.length = startR (fun m => on (endsL N o ms) m) ms.length := by
  apply List.ext_getElem (by simp [startZ, startR])
  intro j h1 h2
  have hj : j < ms.length := by simpa [startZ] using h1
  simp only [startZ, startR, List.getElem_map, List.getElem_range]
  rw [if_pos hj, if_neg]
  intro hon
  exact findL_none h (List.mem_of_getElem? (endsL_on.1 hon))
theorem startZ_some {N : PNet} {o : Int} {ms : List (List Int)} {k : Nat} (hn : ms.Nodup) (h : findL ms (endL N o) = some k) : (startZ ms.length ms.length).set k 0 = startR (fun m => on (endsL N o ms) m) ms.length := by
  have hk := findL_some h
  apply List.ext_getElem (by simp [startZ, startR])
  intro j h1 h2
  have hj : j < ms.length := by simpa [startZ] using h1
  rw [List.getElem_set]
  simp only [startZ, startR, List.getElem_map, List.getElem_range]
  by_cases e : k = j
  · subst e
    rw [if_pos rfl, if_pos (endsL_on.2 hk)]
  · rw [if_neg e, if_pos hj, if_neg]
    intro hon
    have h3 := findL_at hn (endsL_on.1 hon)
    rw [h] at h3
    injection h3 with h3
    exact e h3
theorem wt_min {lb : Int → Int} {a : PArc} {l : Int} (h : lb a.tran = l) (h0 : 0 ≤ l) : min l 1 = (wt lb a : Nat) := by
  unfold wt
  rw [h]
  by_cases h1 : 0 < l
  · rw [if_pos h1]; omega
  · rw [if_neg h1]; omega

set_option maxRecDepth 100000 in
set_option maxHeartbeats 8000000 in
theorem lleast_calls {w : World} {P : Int} {A : Option Addr} {n c : Nat} {ts : List PTran} (i o : Int) (h : Trans w A n c ts) (hn : n ≤ 2513169434916) :
    Calls Try.prog 27 #[.agg #[.int .i64 P, .slice A n c], .int .i64 i, .int .i64 o] w (AnsLeast (leastB ⟨P, ts⟩ i o) w) := by
  generalize hw : w.alloc (.cells #[.int .i64 P, .slice A n c] 27) = w0
  have HB := hide2 (show Below w.heap.size w w0 by rw [← hw]; exact (Below.refl _ _).alloc (Nat.le_refl _) _)
  have X0 := hide2 (show Box w0 w.heap.size 27 #[.int .i64 P, .slice A n c] by rw [← hw]; exact Box.new _ _ _)
  have H := hide2 (h.keep HB.out)
  have CW := hide2 (lspace_calls (P := P) i o H.out hn)
  have TL := hide2 (show ts.length = n from h.len)
  clear h
  obtain ⟨R, hR⟩ : ∃ R, tongS ⟨P, ts⟩ i o = R := ⟨_, rfl⟩
  have ER := hide2 (fun (he : R.2 ≠ 0) => leastB_err hR he)
  have OK := hide2 (fun (s : PSp) (he : R = (s, 0)) => leastB_ok (hR.trans he))
  have TO := hide2 (fun (s : PSp) (he : R = (s, 0)) => tongS_ok (hR.trans he))
  rw [hR] at CW
  clear hR
  obtain ⟨a0, a1⟩ := X0.out.two
  go_enter Try.func27, Try.ntmps27
  go_upto_region 1 with fail
  clear hw
  obtain ⟨s, k⟩ := R
  obtain ⟨tv, htv⟩ : ∃ tv, toV (findL s.marks (endL ⟨P, ts⟩ o)) = tv := ⟨_, rfl⟩
  have HTV := hide2 htv
  replace CW := hide2 (show Calls Try.prog 74 #[.agg #[.int .i64 P, .slice A n c], .int .i64 i, .int .i64 o] w0 (fun e w' => ∃ U cu V cv, e = .returned (.tuple #[.agg #[.slice U s.marks.length cu, .slice V s.arcs.length cv], .int .i64 tv, .int .i64 k]) ∧ Lists w' U s.marks.length cu s.marks ∧ Arcs w' V s.arcs.length cv s.arcs ∧ Below w0.heap.size w0 w') from by rw [← htv]; exact CW.out)
  clear htv
  obtain ⟨n0, hn0⟩ : ∃ n0, s.marks.length = n0 := ⟨_, rfl⟩
  have HN0 := hide2 hn0
  obtain ⟨m0, hm0⟩ : ∃ m0, s.arcs.length = m0 := ⟨_, rfl⟩
  have HM0 := hide2 hm0
  rw [hn0, hm0] at CW
  clear hn0 hm0
  go_upto_region 2 with (go_at_call 74; go_loud ((with_reducible refine CW.out.mono ?_); rintro e w1 ⟨U, cu, V, cv, rfl, hL, hA, hb1⟩; have A1 := hide2 hA; have B1 := hide2 hb1; clear hL hA hb1))
  have BX1 := hide2 (show Below w1.heap.size w1 (w1.alloc (.cells #[.slice U n0 cu, .slice V m0 cv] 107)) from (Below.refl _ _).alloc (Nat.le_refl _) _)
  have X1 := hide2 (Box.new w1 #[.slice U n0 cu, .slice V m0 cv] 107)
  clear a0 a1 CW
  generalize w1.alloc (.cells #[.slice U n0 cu, .slice V m0 cv] 107) = w2 at *
  generalize hb8 : w1.heap.size = b8 at *
  have B2 := hide2 (B1.out.trans (BX1.out.mono (by have := B1.out.size; rw [hb8] at this; exact this)))
  have BX2 := hide2 (show Below w1.heap.size w1 w2 by rw [hb8]; exact BX1.out)
  have BW := hide2 (HB.out.trans (B2.out.mono HB.out.size))
  clear hb8
  by_cases hk : k = 0
  · subst hk
    have OK1 := hide2 (OK.out s rfl)
    have T := hide2 (TO.out s rfl)
    clear ER OK TO
    have A2 := hide2 (Sl.keep ArcR.kept A1.out BX2.out)
    have H2 := hide2 (H.out.keep B2.out)
    have Y0 := hide2 (X0.out.keep B2.out)
    have hn3 : n0 ≤ 300 := by rw [← HN0.out]; exact T.out.small
    have hnp : 0 < n0 := by rw [← HN0.out]; exact T.out.pos
    have hm7 : m0 ≤ 7200 := by rw [← HM0.out]; exact T.out.few
    have FF := hide2 (show (∀ a ∈ s.arcs, Inn n0 a.from_) ∧ (∀ a ∈ s.arcs, Inn n0 a.to_) ∧ (∀ a ∈ s.arcs, Inn n a.tran) ∧ (∀ a ∈ s.arcs, 0 ≤ atI (labL ⟨P, ts⟩) a.tran) by
      have h1 := T.out.from_
      have h2 := T.out.to_
      have h3 := T.out.tran
      rw [HN0.out] at h1 h2
      rw [show (⟨P, ts⟩ : PNet).trans.length = n from TL.out] at h3
      exact ⟨h1, h2, h3, T.out.label⟩)
    clear X0 H B1 A1 BX1 BX2 HB B2
    obtain ⟨z0, z1⟩ := X1.out.two
    go_upto_region 5 with (at_make; refine wpList_mk Try.underlying35 infoInt rfl rfl _ _ rfl n0 rfl rfl rfl rfl (by omega) (by omega) (Below.refl w2.heap.size w2) (Nat.le_refl _) ?_; intro w3 own1 hg1 hb1; have OB := hide2 (show OwnInts w3 w2.heap.size (.slice (some ⟨w2.heap.size, 0, none⟩) n0 n0) n0 (startZ n0 0) from OwnInts.of_row (by rw [startZ_zero, List.map_replicate]; exact own1)); have B3 := hide2 hb1; clear own1 hg1 hb1)
    clear z0 z1
    go_wp2
    go_loopw [32] (fun v wr => ∃ k : Nat, k ≤ n0 ∧ v = .int .i64 k ∧ Hid (OwnInts wr w2.heap.size (.slice (some ⟨w2.heap.size, 0, none⟩) n0 n0) n0 (startZ n0 k)) ∧ Hid (Below w2.heap.size w2 wr)) (fun v _ => n0 - (intOf v).toNat)
    case atStart => exact ⟨0, Nat.zero_le _, rfl, OB, B3⟩
    case round =>
      clear OB B3
      obtain ⟨k, hk, rfl, OB, BX⟩ := hrel
      by_cases hlt : k < n0
      · have hki : (k : Int) < (n0 : Int) := by omega
        have NX := hide2 (startZ_succ (n := n0) (k := k))
        obtain ⟨x, hx⟩ : ∃ x, (startZ n0 k)[k]? = some x := ⟨_, List.getElem?_eq_getElem (by rw [startZ_len]; exact hlt)⟩
        have x0 : wr.cell? ⟨w2.heap.size, k, none⟩ = some (.int .i64 x) := OwnInts.at OB.out hx
        have f0 : wr.frozen? ⟨w2.heap.size, k, none⟩ = false := OwnInts.frozen OB.out k
        have V2 := hide2 (OwnInts.put OB.out k 1073741824)
        have V3 := hide2 (BX.out.setCell (p := ⟨w2.heap.size, k, none⟩) (Nat.le_refl _) (.int .i64 1073741824))
        clear hx
        go_wp2
        go_roundw
        case rel => exact ⟨k + 1, by omega, by go_num, hide2 (by rw [NX.out]; exact V2.out), V3⟩
        case measure => simp [intOf]; omega
      · obtain rfl : k = n0 := by omega
        go_upto_if 40 with (fail)
        go_cut [11] (fun sv wx => sv = .slice (some ⟨w2.heap.size, 0, none⟩) k k ∧ Hid (OwnInts wx w2.heap.size (.slice (some ⟨w2.heap.size, 0, none⟩) k k) k (startR (fun m => on (endsL ⟨P, ts⟩ o s.marks) m) k)) ∧ Hid (Below w2.heap.size w2 wx))
        case first =>
          cases hf : findL s.marks (endL ⟨P, ts⟩ o) with
          | none =>
            have SZ := hide2 (show startZ k k = startR (fun m => on (endsL ⟨P, ts⟩ o s.marks) m) k from by have := startZ_none hf; rwa [HN0.out] at this)
            obtain rfl : tv = -1 := by rw [← HTV.out, hf]; rfl
            have SR := hide2 (show OwnInts wr w2.heap.size (.slice (some ⟨w2.heap.size, 0, none⟩) k k) k (startR (fun m => on (endsL ⟨P, ts⟩ o s.marks) m) k) by rw [← SZ.out]; exact OB.out)
            clear hf SZ OB
            go_wp2
            go_meet
            exact ⟨rfl, SR, BX⟩
          | some q =>
            have SZ := hide2 (show (startZ k k).set q 0 = startR (fun m => on (endsL ⟨P, ts⟩ o s.marks) m) k from by have := startZ_some T.out.nodup hf; rwa [HN0.out] at this)
            obtain rfl : tv = (q : Int) := by rw [← HTV.out, hf]; rfl
            have hq : q < k := by have := (List.getElem?_eq_some_iff.1 (findL_some hf)).1; have := HN0.out; omega
            have hqi : (q : Int) < (k : Int) := by omega
            obtain ⟨x, hx⟩ : ∃ x, (startZ k k)[q]? = some x := ⟨_, List.getElem?_eq_getElem (by rw [startZ_len]; exact hq)⟩
            have x0 : wr.cell? ⟨w2.heap.size, q, none⟩ = some (.int .i64 x) := OwnInts.at OB.out hx
            have f0 : wr.frozen? ⟨w2.heap.size, q, none⟩ = false := OwnInts.frozen OB.out q
            have V2 := hide2 (show OwnInts (wr.setCell ⟨w2.heap.size, q, none⟩ (.int .i64 0)) w2.heap.size (.slice (some ⟨w2.heap.size, 0, none⟩) k k) k (startR (fun m => on (endsL ⟨P, ts⟩ o s.marks) m) k) by rw [← SZ.out]; exact OwnInts.put OB.out q 0)
            have V3 := hide2 (BX.out.setCell (p := ⟨w2.heap.size, q, none⟩) (Nat.le_refl _) (.int .i64 0))
            clear hx hf SZ OB
            go_wp2
            go_meet
            exact ⟨rfl, V2, V3⟩
        case rest =>
          obtain ⟨rfl, OB2, BX2⟩ := hcut
          have RS := hide2 (RndI.start (ars := s.arcs) (lb := atI (labL ⟨P, ts⟩)) (E := fun m => on (endsL ⟨P, ts⟩ o s.marks) m) (n := k))
          have hnk : k ≤ 1073741824 := by omega
          clear OB BX
          obtain ⟨y0, y1⟩ := (X1.out.keep BX2.out).two
          go_wp2
          clear y0 y1
          go_loopw [47] (fun v wr => ∃ (r : Nat) (cs : List Int), r ≤ k ∧ v = .int .i64 r ∧ Hid (OwnInts wr w2.heap.size (.slice (some ⟨w2.heap.size, 0, none⟩) k k) k cs) ∧ Hid (RndI s.arcs (atI (labL ⟨P, ts⟩)) (fun m => on (endsL ⟨P, ts⟩ o s.marks) m) k r cs) ∧ Hid (Below w2.heap.size w2 wr)) (fun v _ => k - (intOf v).toNat)
          case atStart => exact ⟨0, _, Nat.zero_le _, rfl, OB2, RS, BX2⟩
          case round =>
            clear OB2 RS BX2
            obtain ⟨r, cs, hr, rfl, OB, RI, BX⟩ := hrel
            by_cases hlt : r < k
            · have hki : (r : Int) < (k : Int) := by omega
              obtain ⟨y0, y1⟩ := (X1.out.keep BX.out).two
              have Q0 := hide2 (show OwnInts wr w2.heap.size (.slice (some ⟨w2.heap.size, 0, none⟩) k k) k (relTo s.arcs (atI (labL ⟨P, ts⟩)) cs 0) from OB.out)
              have NXR := hide2 (RI.out.next FF.out.1 FF.out.2.1)
              have INV := hide2 (fun (q : Nat) (hq : q ≤ m0) => (RI.out.inv.to FF.out.1 FF.out.2.1 q (by rw [HM0.out]; exact hq)).1)
              clear OB
              go_wp2
              clear y0 y1
              go_loopw [52] (fun v wr => ∃ q : Nat, q ≤ m0 ∧ v = .int .i64 q ∧ Hid (OwnInts wr w2.heap.size (.slice (some ⟨w2.heap.size, 0, none⟩) k k) k (relTo s.arcs (atI (labL ⟨P, ts⟩)) cs q)) ∧ Hid (Below w2.heap.size w2 wr)) (fun v _ => m0 - (intOf v).toNat)
              case atStart => exact ⟨0, Nat.zero_le _, rfl, Q0, BX⟩
              case round =>
                clear Q0 BX
                obtain ⟨q, hq, rfl, OB, BX⟩ := hrel
                by_cases hlt : q < m0
                · have hki : (q : Int) < (m0 : Int) := by omega
                  obtain ⟨bl, off, a, rfl, hbl, ha, q0, q1, q2, _⟩ := Arcs.get (Sl.keep ArcR.kept A2.out BX.out) hlt
                  have hmem := List.mem_of_getElem? ha.out
                  obtain ⟨f, ef, hf⟩ := natOf (FF.out.1 a hmem)
                  obtain ⟨t, et, ht⟩ := natOf (FF.out.2.1 a hmem)
                  obtain ⟨tr, er, hr'⟩ := natOf (FF.out.2.2.1 a hmem)
                  have hlp := FF.out.2.2.2 a hmem
                  have NX := hide2 (relTo_succ (lb := atI (labL ⟨P, ts⟩)) (cs := cs) ha.out)
                  have IN := INV.out q hq
                  rw [ef] at q0
                  rw [er] at q1
                  rw [et] at q2
                  have bb := boxBelow wr (.cells #[.int .i64 f, .int .i64 tr, .int .i64 t] 130)
                  have WA := hide2 (Box.new wr #[.int .i64 f, .int .i64 tr, .int .i64 t] 130)
                  have T2 := hide2 (OwnSl.keep IntR.kept OB.out bb)
                  have T3 := hide2 (BX.out.trans (bb.mono BX.out.size))
                  obtain ⟨xs, hxs⟩ : ∃ xs, relTo s.arcs (atI (labL ⟨P, ts⟩)) cs q = xs := ⟨_, rfl⟩
                  rw [hxs] at NX IN T2
                  clear hxs OB BX hmem
                  have hv1 := atI_some (xs := xs) (k := f) (by rw [IN.len]; exact hf)
                  have hv2 := atI_some (xs := xs) (k := t) (by rw [IN.len]; exact ht)
                  have l1 := IN.low f hf
                  have l2 := IN.low t ht
                  obtain ⟨x, hx⟩ : ∃ x, atI xs (f : Int) = x := ⟨_, rfl⟩
                  obtain ⟨y, hy⟩ : ∃ y, atI xs (t : Int) = y := ⟨_, rfl⟩
                  rw [hx] at hv1 l1
                  rw [hy] at hv2 l2
                  obtain ⟨l10, l11⟩ := l1
                  obtain ⟨l20, l21⟩ := l2
                  obtain ⟨bt, offt, t', A1', n1', c1', A2', n2', c2', rfl, hbt, ht', p0, _, _, _, _, _, _⟩ := (H2.out.keep T3.out).get hr'
                  obtain ⟨lab, hlab⟩ : ∃ x, t'.label = x := ⟨_, rfl⟩
                  have hLB : atI (labL ⟨P, ts⟩) a.tran = lab := by unfold atI labL; rw [er, Int.toNat_natCast, List.getD_eq_getElem?_getD, List.getElem?_map, ht'.out, ← hlab]; rfl
                  rw [hlab] at p0
                  rw [hLB] at hlp
                  obtain ⟨W, hW⟩ : ∃ W : Int, min lab 1 = W := ⟨_, rfl⟩
                  have hWt : W = (wt (atI (labL ⟨P, ts⟩)) a : Nat) := by rw [← hW]; exact wt_min hLB hlp
                  have hW1 : W ≤ 1 := by omega
                  have hW0 : 0 ≤ W := by omega
                  obtain ⟨Z, hZ⟩ : ∃ Z : Int, min x (y + W) = Z := ⟨_, rfl⟩
                  have RF := hide2 (show relTo s.arcs (atI (labL ⟨P, ts⟩)) cs (q + 1) = xs.set f Z by
                    rw [NX.out, relF, ef, et, hx, hy, ← hWt, hZ, Int.toNat_natCast])
                  have HV1 := hide2 hv1
                  have HV2 := hide2 hv2
                  have HW := hide2 hW
                  have HZ := hide2 hZ
                  clear hv1 hv2 hx hy hlab hLB hWt ht' ha ef et er IN NX
                  go_upto_region 17 with fail
                  clear bb q0 q1 q2
                  generalize wr.alloc (.cells #[.int .i64 f, .int .i64 tr, .int .i64 t] 130) = u0 at *
                  generalize wr.heap.size = bx at *
                  have x1 : u0.cell? ⟨w2.heap.size, f, none⟩ = some (.int .i64 x) := OwnInts.at T2.out HV1.out
                  have x2 : u0.cell? ⟨w2.heap.size, t, none⟩ = some (.int .i64 y) := OwnInts.at T2.out HV2.out
                  obtain ⟨t0, t1, t2⟩ := WA.out.three
                  obtain ⟨a0, a1⟩ := (Y0.out.keep T3.out).two
                  have hff : (f : Int) < (k : Int) := by omega
                  have htt : (t : Int) < (k : Int) := by omega
                  have hrr : (tr : Int) < (n : Int) := by omega
                  have p1 : u0.cell? ⟨bt, offt + tr * 3, none⟩ = some (.int .i64 lab) := p0
                  refine wp_region_scr 23 (.takes [0, 1, 2, 3, 4, 5, 6, 7, 8, 9, 10, 11, 12, 13, 14, 15, 16, 17, 18, 19, 20, 21, 22] (.fins [23, 24] .done)) (fun w' => w'.cell? ⟨w2.heap.size, f, none⟩ = some (.int .i64 x) ∧ w'.cell? ⟨w2.heap.size, t, none⟩ = some (.int .i64 y) ∧ w'.cell? ⟨bx, 0, none⟩ = some (.int .i64 f) ∧ w'.cell? ⟨bx, 1, none⟩ = some (.int .i64 tr) ∧ w'.cell? ⟨bx, 2, none⟩ = some (.int .i64 t) ∧ w'.cell? ⟨w.heap.size, 1, none⟩ = some (.slice (some ⟨bt, offt, none⟩) n c) ∧ w'.cell? ⟨bt, offt + tr * 3, none⟩ = some (.int .i64 lab)) (by kernel_rfl) (by kernel_rfl) (by kernel_rfl) (fun _ _ _ _ _ h => h) ⟨x1, x2, t0, t1, t2, a1, p1⟩ (fun hHeld => ?_)
                  simp only [Scr.takes, Scr.fins]
                  have dr := (Below.refl u0.heap.size u0).drew
                  have D2 := hide2 (OwnSl.keep IntR.kept T2.out dr)
                  have D3 := hide2 (T3.out.trans (dr.mono T3.out.size))
                  clear x1 x2 t0 t1 t2 a0 a1 p0 p1 dr T2 T3 WA
                  generalize u0.drew = u1 at *
                  have hW := HW.out
                  have hZ := HZ.out
                  iterate 23
                    refine tkTake (v := ?_) rfl (by rfl) hHeld (fun w' hSw => ?_) ?_
                    rotate_left
                    · (go_simp; try with_reducible rfl)
                    try simp only [Act.put, List.setIfInBounds_toArray, List.set_cons_zero, List.set_cons_succ]
                  clear hW
                  subst hZ
                  have x1 : u1.cell? ⟨w2.heap.size, f, none⟩ = some (.int .i64 x) := OwnInts.at D2.out HV1.out
                  have f1 : u1.frozen? ⟨w2.heap.size, f, none⟩ = false := OwnInts.frozen D2.out f
                  iterate 2
                    refine tkEnd rfl (fun Kf hKf => ?_)
                    go_simp
                    refine hKf.out _ _ ?_
                    clear hKf
                    try simp only [Act.put, List.setIfInBounds_toArray, List.set_cons_zero, List.set_cons_succ]
                  refine tkDone ?_
                  have V2 := hide2 (OwnInts.put D2.out f (min x (y + W)))
                  have V3 := hide2 (D3.out.setCell (p := ⟨w2.heap.size, f, none⟩) (Nat.le_refl _) (.int .i64 (min x (y + W))))
                  clear x1 f1 hHeld
                  go_wp2
                  go_roundw
                  case rel => exact ⟨q + 1, by omega, by go_num, hide2 (by rw [RF.out]; exact V2.out), V3⟩
                  case measure => simp [intOf]; omega
                · obtain rfl : q = m0 := by omega
                  rw [HM0.out] at NXR
                  go_wp2
                  go_roundw
                  case rel => exact ⟨r + 1, _, by omega, by go_num, OB, NXR, BX⟩
                  case measure => simp [intOf]; omega
            · obtain rfl : r = k := by omega
              have LAST := hide2 (RI.out.end_ FF.out.1 FF.out.2.1 hnk hnp)
              have x0 := atI_some (xs := cs) (k := 0) (by rw [RI.out.inv.len]; exact hnp)
              obtain ⟨x, hx⟩ : ∃ x, atI cs ((0 : Nat) : Int) = x := ⟨_, rfl⟩
              rw [hx] at LAST x0
              have c0 : wr.cell? ⟨w2.heap.size, 0, none⟩ = some (.int .i64 x) := OwnInts.at OB.out x0
              have hk0 : (0 : Int) < (r : Int) := by omega
              have LOW := hide2 (show 0 ≤ x by rw [← hx]; exact (RI.out.inv.low 0 hnp).1)
              clear hx x0
              by_cases hx : x < 1073741824
              · have FIN := hide2 (show leastB ⟨P, ts⟩ i o = (x, 0) by
                  have h1 := OK1.out
                  rcases LAST.out with ⟨_, h2⟩ | ⟨h2, _⟩
                  · rw [show ((0 : Nat) : Int) = 0 from rfl] at h2
                    rw [h2, if_neg (by have := LOW.out; omega)] at h1
                    exact h1
                  · omega)
                have hx' : ¬ (1073741824 ≤ x) := by omega
                go_wp2
                go_ret2
                rw [FIN.out]
                exact ⟨by first | rfl | simp, BW.out.trans (BX.out.mono BW.out.size)⟩
              · have FIN := hide2 (show leastB ⟨P, ts⟩ i o = (0, 3) by
                  have h1 := OK1.out
                  rcases LAST.out with ⟨h2, _⟩ | ⟨_, h2⟩
                  · omega
                  · rw [show ((0 : Nat) : Int) = 0 from rfl] at h2
                    rw [h2, if_pos (by omega)] at h1
                    exact h1)
                have hx' : 1073741824 ≤ x := by omega
                go_wp2
                go_ret2
                rw [FIN.out]
                exact ⟨by first | rfl | simp, BW.out.trans (BX.out.mono BW.out.size)⟩
  · have ER1 := hide2 (ER.out hk)
    go_wp2
    go_ret2
    rw [ER1.out]
    exact ⟨by first | rfl | simp, BW.out⟩
end Go.Proofs.Ytnfppolgaeibeaa
namespace Go.Proofs.Ytnfppolgaeibeaa
open Go.RowKit

set_option maxRecDepth 100000 in
set_option maxHeartbeats 4000000 in
theorem tongueHas_walk {w : World} (P : Int) {A Q : Option Addr} {n c l q : Nat} {ts : List PTran} {wd : List Int} (h : Trans w A n c ts) (hn : n ≤ 2513169434916) (i : Int) (_ : (Lit.int .i64 i).wf = true) (o : Int) (_ : (Lit.int .i64 o).wf = true) (g : Ints w Q l q wd) (hl : l ≤ 1048576) :
    Calls Try.prog 7 #[.agg #[.int .i64 P, .slice A n c], .int .i64 i, .int .i64 o, .slice Q l q] w fun e w' => e = .returned (.bool true) ∧ Below w.heap.size w w' := by
  have HB := hide2 (boxBelow w (.cells #[.int .i64 P, .slice A n c] 27))
  have X0 := hide2 (Box.new w #[.int .i64 P, .slice A n c] 27)
  have C1 := hide2 (fun (w' : World) (hb : Below w.heap.size w w') => has_calls (P := P) i o (h.keep hb) hn (Ints.keep g hb))
  have C2 := hide2 (fun (w' : World) (hb : Below w.heap.size w w') => lhas_calls (P := P) i o (h.keep hb) hn (Ints.keep g hb) hl)
  have C3 := hide2 (fun (w' : World) (hb : Below w.heap.size w w') => least_calls (P := P) i o (h.keep hb) hn)
  have C4 := hide2 (fun (w' : World) (hb : Below w.heap.size w w') => lleast_calls (P := P) i o (h.keep hb) hn)
  clear h g
  obtain ⟨r, hr⟩ : ∃ r, hasB ⟨P, ts⟩ i o wd = r := ⟨_, rfl⟩
  obtain ⟨s, hs⟩ : ∃ s, leastB ⟨P, ts⟩ i o = s := ⟨_, rfl⟩
  simp only [hr, hs] at C1 C2 C3 C4
  clear hr hs
  obtain ⟨b1, e1⟩ := r
  obtain ⟨l1, e2⟩ := s
  go_enter Try.func7, Try.ntmps7
  go_upto_region 1 with fail
  generalize w.alloc (.cells #[.int .i64 P, .slice A n c] 27) = w0 at *
  obtain ⟨c0, c1⟩ := X0.out.two
  go_upto_region 2 with (go_at_call 24; go_loud ((with_reducible refine (C1.out _ HB.out).mono ?_); rintro e w1 ⟨rfl, hb1⟩; have B1 := hide2 hb1; clear hb1))
  have D1 := hide2 (HB.out.trans (B1.out.mono HB.out.size))
  have Y1 := hide2 (X0.out.keep B1.out)
  clear c0 c1 X0 HB
  obtain ⟨c0, c1⟩ := Y1.out.two
  go_upto_region 3 with (go_at_call 25; go_loud ((with_reducible refine (C2.out _ D1.out).mono ?_); rintro e w2 ⟨rfl, hb2⟩; have B2 := hide2 hb2; clear hb2))
  have D2 := hide2 (D1.out.trans (B2.out.mono D1.out.size))
  have Y2 := hide2 (Y1.out.keep B2.out)
  clear c0 c1 Y1 D1
  obtain ⟨c0, c1⟩ := Y2.out.two
  go_upto_region 4 with (go_at_call 26; go_loud ((with_reducible refine (C3.out _ D2.out).mono ?_); rintro e w3 ⟨rfl, hb3⟩; have B3 := hide2 hb3; clear hb3))
  have D3 := hide2 (D2.out.trans (B3.out.mono D2.out.size))
  have Y3 := hide2 (Y2.out.keep B3.out)
  clear c0 c1 Y2
  obtain ⟨c0, c1⟩ := Y3.out.two
  go_upto_region 5 with (go_at_call 27; go_loud ((with_reducible refine (C4.out _ D3.out).mono ?_); rintro e w4 ⟨rfl, hb4⟩; have B4 := hide2 hb4; clear hb4))
  have D4 := hide2 (D3.out.trans (B4.out.mono D3.out.size))
  clear C1 C2 C3 C4 c0 c1
  go_wp2
  go_ret
  exact ⟨by first | rfl | simp, D4.out⟩
end Go.Proofs.Ytnfppolgaeibeaa
