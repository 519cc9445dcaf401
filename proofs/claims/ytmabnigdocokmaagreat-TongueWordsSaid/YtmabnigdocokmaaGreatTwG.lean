/- The contract of LWords. Conditions: the net reads as a list of transitions. -/
import Derived.Test.YtmabnigdocokmaaGreatTwD
import Derived.Test.YtmabnigdocokmaaGreatTwA
import Derived.Test.YtmabnigdocokmaaGreatTongJ
namespace Go.Proofs.YtmabnigdocokmaaGreat
open Go.RowKit

/-! ### what both answer -/
noncomputable def wordsB (N : PNet) (i o most : Int) (letters : List Int) : List (List Int) × Int :=
  if (tongS N i o).2 ≠ 0 then ([], (tongS N i o).2) else if most < 0 ∨ 8 < most then ([], 2) else
    if 400 < (allW (tongS N i o).1.arcs (atI (labL N)) (fun m => on (endsL N o (tongS N i o).1.marks) m) letters most.toNat).length then ([], 4)
    else (allW (tongS N i o).1.arcs (atI (labL N)) (fun m => on (endsL N o (tongS N i o).1.marks) m) letters most.toNat, 0)
section
variable {N : PNet} {i o most : Int} {letters : List Int} {s : PSp} {k : Int}
theorem wordsB_err (h : tongS N i o = (s, k)) (hk : k ≠ 0) : wordsB N i o most letters = ([], k) := by
  unfold wordsB
  rw [h, if_pos hk]
theorem wordsB_range (h : tongS N i o = (s, 0)) (hm : most < 0 ∨ 8 < most) : wordsB N i o most letters = ([], 2) := by
  unfold wordsB
  rw [h, if_neg (by simp), if_pos hm]
theorem wordsB_full {mm : Nat} (h : tongS N i o = (s, 0)) (hm : mm ≤ 8) (hf : 400 < (allW s.arcs (atI (labL N)) (fun m => on (endsL N o s.marks) m) letters mm).length) : wordsB N i o (mm : Int) letters = ([], 4) := by
  unfold wordsB
  rw [h, if_neg (by simp), if_neg (by omega), Int.toNat_natCast, if_pos hf]
theorem wordsB_all {mm : Nat} (h : tongS N i o = (s, 0)) (hm : mm ≤ 8) (hf : ¬ 400 < (allW s.arcs (atI (labL N)) (fun m => on (endsL N o s.marks) m) letters mm).length) : wordsB N i o (mm : Int) letters = (allW s.arcs (atI (labL N)) (fun m => on (endsL N o s.marks) m) letters mm, 0) := by
  unfold wordsB
  rw [h, if_neg (by simp), if_neg (by omega), Int.toNat_natCast, if_neg hf]
end
def AnsWords (r : List (List Int) × Int) (w : World) (e : Ending) (w' : World) : Prop := ∃ A n c, e = .returned (.tuple #[.slice A n c, .int .i64 r.2]) ∧ Lists w' A n c r.1 ∧ Below w.heap.size w w'
theorem endsL_at {N : PNet} {o : Int} {ms : List (List Int)} {k : Nat} : on (endsL N o ms) (k : Int) ↔ ms[k]? = some (endL N o) := by
  unfold endsL
  simp only [on, Int.toNat_natCast, List.getD_eq_getElem?_getD, List.getElem?_map]
  cases h : ms[k]? with
  | none => simp
  | some x => simp
theorem ends_none {N : PNet} {o : Int} {ms : List (List Int)} (h : findL ms (endL N o) = none) : ∀ m, ¬ on (endsL N o ms) m := fun m hm => by
  have h2 : on (endsL N o ms) ((m.toNat : Nat) : Int) := by
    show (endsL N o ms).getD ((m.toNat : Nat) : Int).toNat false = true
    rw [Int.toNat_natCast]; exact hm
  have := endsL_at.1 h2
  unfold findL at h
  rw [List.findIdx?_eq_none_iff] at h
  have := h _ (List.mem_of_getElem? this)
  simp at this
theorem ends_some {N : PNet} {o : Int} {ms : List (List Int)} {j : Nat} (hn : ms.Nodup) (h : findL ms (endL N o) = some j) (k : Nat) : on (endsL N o ms) (k : Int) ↔ k = j := by
  rw [endsL_at]
  have hj := findL_some h
  constructor
  · intro hk
    obtain ⟨h1, e1⟩ := List.getElem?_eq_some_iff.1 hk
    obtain ⟨h2, e2⟩ := List.getElem?_eq_some_iff.1 hj
    have hp := List.pairwise_iff_getElem.1 hn
    rcases Nat.lt_trichotomy k j with hlt | e | hlt
    · exact absurd (e1.trans e2.symm) (hp k j h1 h2 hlt)
    · exact e
    · exact absurd (e2.trans e1.symm) (hp j k h2 h1 hlt)
  · rintro rfl
    exact hj

/-! ### the table in memory -/
theorem RowL.other {w w' : World} {B B2 B3 n e sz n3 : Nat} {v v3 : Value} {L : List (List Int)} {cells : List Value} (h : RowL w B B2 v n L) (hown : w.ownsRow B3 e sz v3 n3 cells) (h1 : 34 ≠ e) (h2 : 3 ≠ e) (hg : w.grownBy w' v3.ownBlock) : RowL w' B B2 v n L := by
  obtain ⟨cs, a1, a2, a3⟩ := h
  exact ⟨cs, a1.kept hg (own_ne a1 hown h1), ⟨a2.1, fun i x hx => by obtain ⟨vs, e, r⟩ := a2.2 i x hx; exact ⟨vs, e, OwnListR.grown hown h2 hg r⟩⟩, a3⟩
theorem RowL.one {w : World} {B m : Nat} {v : Value} {x : List Int} (h : OwnInts w B v m x) (hm : m ≤ 17592186043904) (hB : B ≤ w.heap.size) : RowL (w.alloc (.cells #[v] 34)) B B (.slice (some ⟨w.heap.size, 0, none⟩) 1 1) 1 [x] :=
  ⟨[v], ⟨by simp, .inr ⟨w.heap.size, 1, #[v], rfl, hB, heap_alloc_new w _, Nat.le_refl _, by simp [maxLen], by simp, by simp⟩⟩, Reads.list1 ⟨m, OwnSl.keep IntR.kept h ((Below.refl _ _).alloc (Nat.le_refl _) _), hm⟩, rfl⟩
theorem infoRows : (Tryz.prog.info? 25).map (fun i => (i.zero, i.size, i.bytes)) = some (some (.slice none 0 0), 1, 24) := by kernel_rfl
def TabK (w : World) (B g n : Nat) (T : Tab) : Prop := ∃ cells, w.ownsRow B 25 1 (.slice (some ⟨g, 0, none⟩) n n) n cells ∧ T.length = n ∧
  ∀ k, k < n → ∃ A c, cells[k]? = some (.slice A (atW T (k : Int)).length c) ∧ RowL w B B (.slice A (atW T (k : Int)).length c) (atW T (k : Int)).length (atW T (k : Int))
section
variable {w w' : World} {B g n : Nat} {T : Tab}
theorem atW_rep (n k : Nat) : atW (List.replicate n ([] : List (List Int))) (k : Int) = [] := by
  unfold atW
  simp only [Int.toNat_natCast, List.getD_eq_getElem?_getD, List.getElem?_replicate]
  split <;> rfl
theorem TabK.made (h : w.ownsRow B 25 1 (.slice (some ⟨g, 0, none⟩) n n) n (List.replicate n (.slice none 0 0))) : TabK w B g n (List.replicate n []) :=
  ⟨_, h, by simp, fun k hk => ⟨none, 0, by rw [atW_rep]; simp [hk], by rw [atW_rep]; exact OwnSl.nil⟩⟩
theorem TabK.keep (h : TabK w B g n T) (hb : Below w.heap.size w w') : TabK w' B g n T := by
  obtain ⟨cells, h1, h2, h3⟩ := h
  refine ⟨cells, h1.kept (gnone2 hb none) (.inr (by simp [Value.ownBlock])), h2, fun k hk => ?_⟩
  obtain ⟨A, c, e, r⟩ := h3 k hk
  exact ⟨A, c, e, r.keep hb⟩
theorem TabK.at (h : TabK w B g n T) {k : Nat} (hk : k < n) : ∃ A c, w.cell? ⟨g, k, none⟩ = some (.slice A (atW T (k : Int)).length c) ∧ RowL w B B (.slice A (atW T (k : Int)).length c) (atW T (k : Int)).length (atW T (k : Int)) := by
  obtain ⟨cells, h1, h2, h3⟩ := h
  obtain ⟨A, c, e, r⟩ := h3 k hk
  exact ⟨A, c, by rw [h1.cellAt k (by omega), e], r⟩
theorem TabK.frozen (h : TabK w B g n T) (k : Nat) : w.frozen? ⟨g, k, none⟩ = false := by
  obtain ⟨cells, h1, _⟩ := h
  exact h1.frozenAt k
theorem TabK.lt (h : TabK w B g n T) : B ≤ g ∧ g < w.heap.size := by
  obtain ⟨cells, h1, _⟩ := h
  exact h1.lt g rfl
theorem TabK.len (h : TabK w B g n T) : T.length = n := h.choose_spec.2.1
theorem TabK.put (h : TabK w B g n T) {k : Nat} (hk : k < n) {A : Option Addr} {c : Nat} {L : List (List Int)} (hL : RowL w B B (.slice A L.length c) L.length L) : TabK (w.setCell ⟨g, k, none⟩ (.slice A L.length c)) B g n (T.set k L) := by
  obtain ⟨cells, h1, h2, h3⟩ := h
  have hg : w.grownBy (w.setCell ⟨g, k, none⟩ (.slice A L.length c)) (Value.slice (some ⟨g, 0, none⟩) n n).ownBlock := grownG _ _ _ _
  have hcl : cells.length = n := by simpa using h1.1
  refine ⟨_, (h1.stored k _).1, by simpa using h2, fun j hj => ?_⟩
  rw [atW_set (by omega)]
  split
  · rename_i e
    subst e
    exact ⟨A, c, by rw [List.getElem?_set, if_pos rfl, if_pos (by omega)], hL.other h1 (by decide) (by decide) hg⟩
  · rename_i hne
    obtain ⟨A2, c2, e2, r2⟩ := h3 j hj
    exact ⟨A2, c2, by rw [List.getElem?_set, if_neg (fun e => hne e.symm)]; exact e2, r2.other h1 (by decide) (by decide) hg⟩
end
theorem moreW_snoc {lb : Int → Int} {T : Tab} {a : PArc} {k : Nat} {x : List Int} (h : (atW T a.to_)[k]? = some x) : (moreW lb T a).take (k + 1) = (moreW lb T a).take k ++ [if 0 < lb a.tran then lb a.tran :: x else x] := by
  unfold moreW
  rw [take_snoc (x := if 0 < lb a.tran then lb a.tran :: x else x) (by rw [List.getElem?_map, h]; rfl)]
/-- Append of any slice of integers to a row of the call's own. -/
theorem wpList_appAnyI {ops : Array Oper} {rest : List Oper} {o : Oper} {a : Act} {Q : Exit → Act → World → Prop} (hgd : o.guard = none) (s x : Operand)
    (ho : o.op = .call { callee := .builtin .append, args := #[s, x], argTypes := #[34, 34] })
    {w0 w : World} {B g k cap m c : Nat} {A : Option Addr} {xs ys : List Int} (hs : a.eval s = .slice (some ⟨g, 0, none⟩) k cap) (hx : a.eval x = .slice A m c)
    (own : OwnInts w B (.slice (some ⟨g, 0, none⟩) k cap) k xs) (src : Ints w A m c ys) (hb : Below B w0 w) (hB : B ≤ w.heap.size) (h63 : k + m ≤ 281474976710656) (hn : (k + m) * 8 ≤ 140737488355328)
    (K : ∀ v' w', OwnInts w' B v' (k + m) (xs ++ ys) → w.grownBy w' (some g) → Below B w0 w' → wpList Tryz.prog ops Q rest (a.put o.dst v') w') :
    wpList Tryz.prog ops Q (o :: rest) a w := by
  cases A with
  | some ad => exact wpList_appSl tyInts IntR.good hgd s x ho hs hx own src hb hB h63 hn (fun _ _ _ _ h => h) K
  | none =>
    have hm : m = 0 := by have := src.nul rfl; have := src.le; omega
    subst hm
    have hkc : k ≤ cap := by
      obtain ⟨cells, ⟨h1, h2⟩, _⟩ := own
      rcases h2 with ⟨e, _⟩ | ⟨g', cap', cur, e, hB, hh, hn, _⟩
      · cases e
      · injection e with e1 e2 e3
        omega
    exact wpList_appFits tyInts IntR.good hgd s x ho hs hx own src (by omega) hb hB (fun _ _ _ _ h => h) (fun w' h1 h2 h3 => K _ w' h1 h2 h3)

theorem lab_mem {N : PNet} {x : Int} (h : Inn N.trans.length x) : atI (labL N) x ∈ labL N := by
  obtain ⟨k, rfl, hk⟩ := natOf h
  exact List.mem_of_getElem? (atI_some (by unfold labL; simpa using hk))
theorem tongS_24 {N : PNet} {i o : Int} {s : PSp} (h : tongS N i o = (s, 0)) : N.trans.length ≤ 24 := by
  unfold tongS at h
  split at h
  · rename_i h0
    exact ((netOk_iff _).1 (shapeL_two h0).2).2.2.1
  · rename_i h0
    injection h with _ h2
    exact absurd h2 h0
set_option maxRecDepth 100000 in
set_option maxHeartbeats 16000000 in
theorem lwords_calls {w : World} {P : Int} {A : Option Addr} {n c : Nat} {ts : List PTran} (i o most : Int) {letters : List Int} (hlet : letters.Pairwise (· < ·)) (hmem : ∀ x ∈ labL ⟨P, ts⟩, x ∈ letters) (h : Trans w A n c ts) (hn : n ≤ 2513169434916) :
    Calls Tryz.prog 5 #[.agg #[.int .i64 P, .slice A n c], .int .i64 i, .int .i64 o, .int .i64 most] w (AnsWords (wordsB ⟨P, ts⟩ i o most letters) w) := by
  generalize hw : w.alloc (.cells #[.int .i64 P, .slice A n c] 24) = w0
  have HB := hide2 (show Below w.heap.size w w0 by rw [← hw]; exact (Below.refl _ _).alloc (Nat.le_refl _) _)
  have X0 := hide2 (show Box w0 w.heap.size 24 #[.int .i64 P, .slice A n c] by rw [← hw]; exact Box.new _ _ _)
  have H := hide2 (h.keep HB.out)
  have CW := hide2 (lspace_calls (P := P) i o H.out hn)
  have TL := hide2 (show ts.length = n from h.len)
  have HLT := hide2 hlet
  have HMM := hide2 hmem
  clear h hlet hmem
  obtain ⟨R, hR⟩ : ∃ R, tongS ⟨P, ts⟩ i o = R := ⟨_, rfl⟩
  have HR := hide2 hR
  have TO := hide2 (fun (s : PSp) (he : R = (s, 0)) => tongS_ok (hR.trans he))
  have T24 := hide2 (fun (s : PSp) (he : R = (s, 0)) => tongS_24 (hR.trans he))
  rw [hR] at CW
  clear hR
  obtain ⟨a0, a1⟩ := X0.out.two
  go_enter Tryz.func5, Tryz.ntmps5
  go_upto_region 1 with fail
  clear hw
  obtain ⟨s, k⟩ := R
  obtain ⟨tv, htv⟩ : ∃ tv, toV (findL s.marks (endL ⟨P, ts⟩ o)) = tv := ⟨_, rfl⟩
  have HTV := hide2 htv
  replace CW := hide2 (show Calls Tryz.prog 17 #[.agg #[.int .i64 P, .slice A n c], .int .i64 i, .int .i64 o] w0 (fun e w' => ∃ U cu V cv, e = .returned (.tuple #[.agg #[.slice U s.marks.length cu, .slice V s.arcs.length cv], .int .i64 tv, .int .i64 k]) ∧ Lists w' U s.marks.length cu s.marks ∧ Arcs w' V s.arcs.length cv s.arcs ∧ Below w0.heap.size w0 w') from by rw [← htv]; exact CW.out)
  clear htv
  go_upto_region 2 with (go_at_call 17; go_loud ((with_reducible refine CW.out.mono ?_); rintro e w1 ⟨U, cu, V, cv, rfl, hL, hA, hb1⟩; have A1 := hide2 hA; have B1 := hide2 hb1; clear hL hA hb1))
  have BX1 := hide2 (show Below w1.heap.size w1 (w1.alloc (.cells #[.slice U s.marks.length cu, .slice V s.arcs.length cv] 42)) from (Below.refl _ _).alloc (Nat.le_refl _) _)
  have X1 := hide2 (Box.new w1 #[.slice U s.marks.length cu, .slice V s.arcs.length cv] 42)
  clear a0 a1 CW
  generalize w1.alloc (.cells #[.slice U s.marks.length cu, .slice V s.arcs.length cv] 42) = w2 at *
  generalize hb8 : w1.heap.size = b8 at *
  have B2 := hide2 (B1.out.trans (BX1.out.mono (by have := B1.out.size; rw [hb8] at this; exact this)))
  have BX2 := hide2 (show Below w1.heap.size w1 w2 by rw [hb8]; exact BX1.out)
  have BW := hide2 (HB.out.trans (B2.out.mono HB.out.size))
  have A2 := hide2 (Sl.keep ArcR.kept A1.out BX2.out)
  have H2 := hide2 (H.out.keep B2.out)
  have X2 := hide2 (X0.out.keep B2.out)
  clear hb8 A1 H X0 HB BX1 BX2 B1 B2
  obtain ⟨x0, x1⟩ := X2.out.two
  obtain ⟨z0, z1⟩ := X1.out.two
  by_cases hk : k = 0
  · subst hk
    have T := hide2 (TO.out s rfl)
    have N24 := hide2 (T24.out s rfl)
    clear TO T24
    by_cases hm0 : most < 0
    · have OKR := hide2 (wordsB_range (letters := letters) (most := most) HR.out (.inl hm0))
      go_wp2
      go_ret2
      exact ⟨none, 0, 0, by rw [OKR.out]; rfl, by rw [OKR.out]; exact Sl.nil0, BW.out⟩
    · by_cases hm8 : 8 < most
      · have OKR := hide2 (wordsB_range (letters := letters) (most := most) HR.out (.inr hm8))
        go_wp2
        go_ret2
        exact ⟨none, 0, 0, by rw [OKR.out]; rfl, by rw [OKR.out]; exact Sl.nil0, BW.out⟩
      · obtain ⟨mm, rfl⟩ : ∃ mm : Nat, most = (mm : Int) := ⟨most.toNat, by omega⟩
        have hmm : mm ≤ 8 := by omega
        have FUL := hide2 (fun hf => wordsB_full (letters := letters) HR.out hmm hf)
        have ALL := hide2 (fun hf => wordsB_all (letters := letters) HR.out hmm hf)
        have HALL := hide2 (show ∀ a ∈ s.arcs, atI (labL ⟨P, ts⟩) a.tran ∈ labL ⟨P, ts⟩ from fun a ha => lab_mem (T.out.tran a ha))
        cases hf : findL s.marks (endL ⟨P, ts⟩ o) with
        | none =>
          have NO := hide2 (allW_none (most := mm) HLT.out (fun a ha => HMM.out _ (HALL.out a ha)) (ends_none hf))
          obtain rfl : tv = -1 := by rw [← HTV.out, hf]; rfl
          clear hf
          go_wp2
          go_ret2
          have := ALL.out (by rw [NO.out]; simp)
          rw [NO.out] at this
          exact ⟨none, 0, 0, by rw [this]; rfl, by rw [this]; exact Sl.nil0, BW.out⟩
        | some j =>
          obtain rfl : tv = (j : Int) := by rw [← HTV.out, hf]; rfl
          have HJ := hide2 (List.getElem?_eq_some_iff.1 (findL_some hf)).1
          have YES := hide2 (ends_some T.out.nodup hf)
          clear hf
          obtain ⟨nm, hnm⟩ : ∃ nm, s.marks.length = nm := ⟨_, rfl⟩
          have HNM := hide2 hnm
          obtain ⟨m, hm⟩ : ∃ m, s.arcs.length = m := ⟨_, rfl⟩
          have HM := hide2 hm
          rw [hnm] at X1 HJ z0
          rw [hm] at X1 A2 z1
          clear hnm hm
          have FR := hide2 (show ∀ a ∈ s.arcs, Inn nm a.from_ by rw [← HNM.out]; exact T.out.from_)
          have TOO := hide2 (show ∀ a ∈ s.arcs, Inn nm a.to_ by rw [← HNM.out]; exact T.out.to_)
          have TRN := hide2 (show ∀ a ∈ s.arcs, Inn n a.tran by rw [← TL.out]; exact T.out.tran)
          have LBL := hide2 (show ∀ a ∈ s.arcs, 0 ≤ (atI (labL ⟨P, ts⟩)) a.tran from T.out.label)
          have POS := hide2 (show 0 < nm by rw [← HNM.out]; exact T.out.pos)
          have hnm3 : nm ≤ 300 := by rw [← HNM.out]; exact T.out.small
          have hm7 : m ≤ 7200 := by rw [← HM.out]; exact T.out.few
          have UB := hide2 (show (univW (labL ⟨P, ts⟩) mm).length ≤ 152587890625 from Nat.le_trans (univW_len (q := 24) (by unfold labL; rw [List.length_map]; exact N24.out) mm) (Nat.le_trans (Nat.pow_le_pow_right (by omega) hmm) (by decide)))
          have MONO := hide2 (OnI.mono (E := (fun m => on (endsL ⟨P, ts⟩ o s.marks) m)) (most := mm) FR.out TOO.out LBL.out HALL.out)
          have ST := hide2 (OnI.start (ars := s.arcs) (lb := (atI (labL ⟨P, ts⟩))) (most := mm) HJ.out YES.out)
          have DONE := hide2 (fun (T : Tab) (h : OnI s.arcs (atI (labL ⟨P, ts⟩)) (fun m => on (endsL ⟨P, ts⟩ o s.marks) m) nm mm T) hfix => h.done POS.out FR.out TOO.out hfix HLT.out (fun a ha => HMM.out _ (HALL.out a ha)))
          have HJJ := HJ.out
          have hji : (j : Int) < (nm : Int) := by omega
          have hj0 : ¬ (j : Int) < 0 := by omega
          clear T
          obtain ⟨B0, hB0⟩ : ∃ B0, w2.heap.size = B0 := ⟨_, rfl⟩
          go_upto_region 9 with (at_make; refine wpList_mk Tryz.underlying58 infoRows rfl rfl _ _ rfl nm rfl rfl rfl rfl (by omega) (by omega) (Below.refl w2.heap.size w2) (Nat.le_refl _) ?_; intro w3 own3 hg3 hb3; have T3 := hide2 (TabK.made own3); have B3 := hide2 hb3; clear own3 hg3 hb3)
          simp only [hB0] at T3 B3
          have LE3 := hide2 (show B0 ≤ w3.heap.size from Nat.le_trans T3.out.lt.1 (Nat.le_of_lt T3.out.lt.2))
          have TK3 := hide2 (show TabK ((w3.alloc (.cells #[] 3)).alloc (.cells #[(.slice (some ⟨w3.heap.size, 0, none⟩) 0 0)] 34)) B0 B0 nm (List.replicate nm []) from (T3.out.keep ((Below.refl w3.heap.size w3).alloc (Nat.le_refl _) (.cells #[] 3))).keep ((Below.refl (w3.alloc (.cells #[] 3)).heap.size (w3.alloc (.cells #[] 3))).alloc (Nat.le_refl _) (.cells #[(.slice (some ⟨w3.heap.size, 0, none⟩) 0 0)] 34)))
          have RO := hide2 (show RowL ((w3.alloc (.cells #[] 3)).alloc (.cells #[(.slice (some ⟨w3.heap.size, 0, none⟩) 0 0)] 34)) B0 B0 (.slice (some ⟨w3.heap.size + 1, 0, none⟩) 1 1) 1 [[]] by
            have hE : OwnInts (w3.alloc (.cells #[] 3)) B0 (.slice (some ⟨w3.heap.size, 0, none⟩) 0 0) 0 [] := OwnSl.empty LE3.out
            have hR := RowL.one hE (by omega) (by simp; exact Nat.le_succ_of_le LE3.out)
            simpa using hR)
          have B4 := hide2 (show Below B0 w2 ((w3.alloc (.cells #[] 3)).alloc (.cells #[(.slice (some ⟨w3.heap.size, 0, none⟩) 0 0)] 34)) from (B3.out.alloc LE3.out _).alloc (by simp; exact Nat.le_succ_of_le LE3.out) _)
          obtain ⟨Aj, cj, q0, _⟩ := TK3.out.at HJJ
          have q1 := TK3.out.frozen j
          clear T3 B3
          go_upto_region 10 with fail
          clear q0 q1
          generalize ((w3.alloc (.cells #[] 3)).alloc (.cells #[(.slice (some ⟨w3.heap.size, 0, none⟩) 0 0)] 34)) = w4 at *
          have T5 := hide2 (TK3.out.put HJJ (L := [[]]) RO.out)
          have B5 := hide2 (B4.out.setCell (p := ⟨B0, j, none⟩) (Nat.le_refl _) (.slice (some ⟨w3.heap.size + 1, 0, none⟩) 1 1))
          clear TK3 RO B4
          generalize w4.setCell ⟨B0, j, none⟩ (.slice (some ⟨w3.heap.size + 1, 0, none⟩) 1 1) = w5 at *
          have LB0 := hide2 (show B0 ≤ w2.heap.size by omega)
          have W2 := hide2 (fun (w' : World) (hb : Below B0 w2 w') => show Below w2.heap.size w2 w' by rw [hB0]; exact hb)
          obtain ⟨U0, hU0⟩ : ∃ U0, (univW (labL ⟨P, ts⟩) mm).length = U0 := ⟨_, rfl⟩
          have FEW := hide2 (fun (T : Tab) (h : OnI s.arcs (atI (labL ⟨P, ts⟩)) (fun m => on (endsL ⟨P, ts⟩ o s.marks) m) nm mm T) (k : Nat) (hk : k < nm) => show (atW T (k : Int)).length ≤ 152587890625 from Nat.le_trans (h.few HALL.out hk) UB.out)
          rw [hU0] at MONO UB
          clear hU0 x0 x1 z0 z1
          go_wp2
          go_loopg [14] (muW U0 ((List.replicate nm []).set j [[]]) + 1) (fun gk v wr => ∃ (T : Tab) (b : Bool), v = .bool b ∧ Hid (OnI s.arcs (atI (labL ⟨P, ts⟩)) (fun m => on (endsL ⟨P, ts⟩ o s.marks) m) nm mm T ∧ (b = true → gk = muW U0 T + 1) ∧ (b = false → ∀ a ∈ s.arcs, (onF (atI (labL ⟨P, ts⟩)) mm) (T, false) a = (T, false))) ∧ Hid (TabK wr B0 B0 nm T) ∧ Hid (Below B0 w2 wr))
          case atStart => exact ⟨_, true, rfl, hide2 ⟨ST.out, fun _ => rfl, fun h => (by cases h)⟩, T5, B5⟩
          case round =>
            clear T5 B5 ST
            obtain ⟨T, b, rfl, IT, TB, BR⟩ := hrel
            cases b
            · have FIN := hide2 (DONE.out T IT.out.1 (IT.out.2.2 rfl))
              obtain ⟨A0, c0, q0, RL⟩ := TB.out.at POS.out
              have hp0 : (0 : Int) < (nm : Int) := by have := POS.out; omega
              obtain ⟨L0, hL0⟩ : ∃ L0, atW T ((0 : Nat) : Int) = L0 := ⟨_, rfl⟩
              rw [hL0] at q0 RL
              have EL0 := hide2 (show L0 = allW s.arcs (atI (labL ⟨P, ts⟩)) (fun m => on (endsL ⟨P, ts⟩ o s.marks) m) letters mm by rw [← hL0]; exact FIN.out)
              have HL0 := hide2 (show L0.length ≤ 152587890625 by rw [← hL0]; exact FEW.out T IT.out.1 0 POS.out)
              have RL0 := hide2 RL
              have BWR := hide2 (BW.out.trans ((W2.out _ BR.out).mono BW.out.size))
              clear hL0 RL
              by_cases h400 : 400 < L0.length
              · have h4i : (400 : Int) < (L0.length : Int) := by omega
                have FU := hide2 (FUL.out (by rw [← EL0.out]; exact h400))
                go_wp2
                go_ret2
                exact ⟨none, 0, 0, by rw [FU.out]; rfl, by rw [FU.out]; exact Sl.nil0, BWR.out⟩
              · have h4i : ¬ (400 : Int) < (L0.length : Int) := by omega
                have AL := hide2 (ALL.out (by rw [← EL0.out]; exact h400))
                obtain ⟨A1', c1', e1, LS⟩ := RL0.out.lists (by have := HL0.out; omega)
                injection e1 with e1 _ e2
                subst e1 e2
                have LSS := hide2 LS
                clear LS
                go_wp2
                go_ret2
                exact ⟨_, _, _, by rw [AL.out]; rfl, by rw [AL.out, ← EL0.out]; exact LSS.out, BWR.out⟩
            · have GK := hide2 (IT.out.2.1 rfl)
              have OI0 := hide2 IT.out.1
              have x2 := X1.out.keep (W2.out _ BR.out)
              obtain ⟨z0, z1⟩ := x2.two
              clear x2
              go_wp2
              clear z0 z1
              obtain ⟨go, hgo⟩ : ∃ go : Nat, go = gk := ⟨_, rfl⟩
              subst hgo
              obtain ⟨wo, hwo⟩ : ∃ wo : World, wo = wr := ⟨_, rfl⟩
              subst hwo
              go_loopw [14, 58] (fun v u wr => ∃ (q : Nat) (T1 : Tab) (b1 : Bool), q ≤ m ∧ u = .int .i64 q ∧ v = .bool b1 ∧ Hid ((s.arcs.take q).foldl (onF (atI (labL ⟨P, ts⟩)) mm) (T, false) = (T1, b1)) ∧ Hid (OnI s.arcs (atI (labL ⟨P, ts⟩)) (fun m => on (endsL ⟨P, ts⟩ o s.marks) m) nm mm T1) ∧ Hid (TabK wr B0 B0 nm T1) ∧ Hid (Below B0 w2 wr)) (fun _ u _ => m - (intOf u).toNat)
              case atStart => exact ⟨0, T, false, Nat.zero_le _, rfl, rfl, by simp [Hid], OI0, TB, BR⟩
              case round =>
                have TB' := TB
                clear TB BR
                obtain ⟨q, T1, b1, hq, rfl, rfl, HF, OI1, TB, BR⟩ := hrel
                by_cases hlt : q < m
                · have hki : (q : Int) < (m : Int) := by omega
                  have HQ := hide2 hlt
                  obtain ⟨bl, off, a, rfl, hbl, ha, r0, r1, r2, _⟩ := Arcs.get (Sl.keep ArcR.kept A2.out (W2.out _ BR.out)) hlt
                  have hmem := List.mem_of_getElem? ha.out
                  obtain ⟨f, ef, hf⟩ := natOf (FR.out a hmem)
                  obtain ⟨t, et, ht⟩ := natOf (TOO.out a hmem)
                  obtain ⟨r, er, hr⟩ := natOf (TRN.out a hmem)
                  rw [ef] at r0
                  rw [er] at r1
                  rw [et] at r2
                  have EF := hide2 ef
                  have ET := hide2 et
                  have ER := hide2 er
                  have HMEM := hide2 hmem
                  have STEP := hide2 (show (s.arcs.take (q + 1)).foldl (onF (atI (labL ⟨P, ts⟩)) mm) (T, false) = (onF (atI (labL ⟨P, ts⟩)) mm) (T1, b1) a by rw [foldl_take_succ ha.out, HF.out])
                  have NXT := hide2 (OI1.out.next (a := a) hmem (LBL.out a hmem) (FR.out a hmem) (TOO.out a hmem))
                  have WA := hide2 (Box.new wr #[.int .i64 f, .int .i64 r, .int .i64 t] 60)
                  have bb := boxBelow wr (.cells #[.int .i64 f, .int .i64 r, .int .i64 t] 60)
                  have TB0 := hide2 (TB.out.keep bb)
                  have WBX := hide2 (show B0 < wr.heap.size from TB.out.lt.2)
                  have BR0 := hide2 (BR.out.trans (bb.mono (Nat.le_trans TB.out.lt.1 (Nat.le_of_lt TB.out.lt.2))))
                  clear ef et er ha hmem TB BR
                  go_upto_region 16 with fail
                  clear bb r0 r1 r2
                  generalize wr.alloc (.cells #[.int .i64 f, .int .i64 r, .int .i64 t] 60) = u0 at *
                  generalize wr.heap.size = bx at *
                  obtain ⟨t0, t1, t2⟩ := WA.out.three
                  obtain ⟨At, ct, qt, RT⟩ := TB0.out.at ht
                  obtain ⟨Lt, hLt⟩ : ∃ Lt, atW T1 (t : Int) = Lt := ⟨_, rfl⟩
                  rw [hLt] at qt RT
                  have ELT := hide2 (show atW T1 a.to_ = Lt by rw [ET.out]; exact hLt)
                  have SHORT := hide2 (show ∀ x ∈ Lt, x.length ≤ 8 from fun x hx => Nat.le_trans (OI1.out.snd t ht x (by rw [hLt]; exact hx)).2 hmm)
                  have NTB := hide2 (show Lt.length ≤ 152587890625 by rw [← hLt]; exact FEW.out T1 OI1.out t ht)
                  obtain ⟨nt, hnt⟩ : ∃ nt, Lt.length = nt := ⟨_, rfl⟩
                  rw [hnt] at qt RT NTB
                  have HNT := hide2 hnt
                  obtain ⟨At', ct', e1, SLt⟩ := OwnSl.sl RT (by have := NTB.out; omega)
                  injection e1 with e1 _ e2
                  subst e1 e2
                  have SLT := hide2 SLt
                  have ntb := NTB.out
                  have hti : (t : Int) < (nm : Int) := by omega
                  clear hLt hnt RT SLt
                  go_wp2
                  clear t0 t1 t2 qt
                  obtain ⟨wq, hwq⟩ : ∃ wq : World, wq = u0 := ⟨_, rfl⟩
                  have TR := hide2 (H2.out.keep (W2.out _ BR0.out))
                  obtain ⟨bt, offt, t', A1', n1', c1', A2', n2', c2', rfl, hbt, ht', p0', _, _, _, _, _, _⟩ := TR.out.get hr
                  obtain ⟨lab, hlab⟩ : ∃ x, t'.label = x := ⟨_, rfl⟩
                  have LBE := hide2 (show (atI (labL ⟨P, ts⟩)) a.tran = lab by unfold atI labL; rw [ER.out, Int.toNat_natCast, List.getD_eq_getElem?_getD, List.getElem?_map, ht'.out, ← hlab]; rfl)
                  rw [hlab] at p0'
                  have P0 := hide2 p0'
                  have HBT := hide2 hbt
                  have hrr : (r : Int) < (n : Int) := by omega
                  have LAB0 := hide2 (show 0 ≤ lab by rw [← LBE.out]; exact LBL.out a HMEM.out)
                  clear hlab ht' TR p0' hbt
                  go_loopw [17, 68] (fun l u wr => ∃ k : Nat, k ≤ nt ∧ u = .int .i64 k ∧ Hid (RowL wr B0 u0.heap.size l k ((moreW (atI (labL ⟨P, ts⟩)) T1 a).take k)) ∧ Hid (Below u0.heap.size u0 wr)) (fun _ u _ => nt - (intOf u).toNat)
                  case atStart => exact ⟨0, Nat.zero_le _, rfl, hide2 OwnSl.nil, hide2 (Below.refl _ _)⟩
                  case round =>
                    obtain ⟨k, hk, rfl, OL, BU⟩ := hrel
                    by_cases hkn : k < nt
                    · have hkni : (k : Int) < (nt : Int) := by omega
                      obtain ⟨bw, offw, x, vs, rfl, hbw, hx, hcell, mw, ow, hmw⟩ := Sl.get (Sl.keep (OwnListR.kept B0) SLT.out BU.out) hkn
                      obtain ⟨Aw, cw, ev, iw⟩ := ow.sl (by omega)
                      have qw := hcell 0 (by omega)
                      rw [ev] at qw ow
                      rw [Nat.mul_one, Nat.add_zero] at qw
                      have OW := hide2 ow
                      have IW := hide2 iw
                      have MWL := hide2 (show mw ≤ 8 by rw [← OwnSl.len ow]; exact SHORT.out x (List.mem_of_getElem? hx))
                      have SN := hide2 (moreW_snoc (lb := (atI (labL ⟨P, ts⟩))) (T := T1) (a := a) (k := k) (x := x) (by rw [ELT.out]; exact hx))
                      have mwl := MWL.out
                      have BW2 := hide2 (show Below B0 w2 wr from BR0.out.trans (BU.out.mono (by have := BR0.out.size; omega)))
                      obtain ⟨t0, t1, t2⟩ := (WA.out.keep BU.out).three
                      obtain ⟨x0, x1⟩ := (X2.out.keep (W2.out _ BW2.out)).two
                      have p0 := (BU.out.cell (p := ⟨bt, offt + r * 3, none⟩) HBT.out).trans P0.out
                      have KP := hide2 (keepLists OL.out)
                      clear ow iw ev hcell hx
                      go_upto_region 21 with fail
                      clear x0 x1 p0 t0 t1 t2 qw
                      by_cases hlp : 0 < lab
                      · have SN2 := hide2 (show (moreW (atI (labL ⟨P, ts⟩)) T1 a).take (k + 1) = (moreW (atI (labL ⟨P, ts⟩)) T1 a).take k ++ [lab :: x] by rw [SN.out, LBE.out, if_pos hlp])
                        have OF := hide2 (show OwnInts (wr.alloc (.cells #[.int .i64 lab] 3)) wr.heap.size (.slice (some ⟨wr.heap.size, 0, none⟩) 1 1) 1 [lab] from ⟨[.int .i64 lab], ⟨by simp, .inr ⟨wr.heap.size, 1, #[.int .i64 lab], rfl, Nat.le_refl _, heap_alloc_new wr _, Nat.le_refl _, by simp [maxLen], by simp, by simp⟩⟩, Reads.one (vs := fun _ => .int .i64 lab) rfl rfl (fun j hj => by cases j with | zero => rfl | succ j => omega), rfl⟩)
                        have bb := hide2 (boxBelow wr (.cells #[.int .i64 lab] 3))
                        have IW2 := hide2 (Ints.keep IW.out bb.out)
                        have OL2 := hide2 (OL.out.keep bb.out)
                        have BU2 := hide2 (BU.out.trans (bb.out.mono BU.out.size))
                        go_upto_region 23 with (at_builtin; refine wpList_appAnyI rfl _ _ rfl rfl rfl OF.out IW2.out bb.out (by simp) (by omega) (by omega) ?_; intro v1 w6 own1 hg1 hb1; have O1 := hide2 own1; have X1B := hide2 hb1; clear own1 hg1 hb1)
                        obtain ⟨Av, cv2, ev, iv⟩ := OwnSl.sl O1.out (by omega)
                        subst ev
                        have OV := hide2 (show OwnInts w6 B0 (.slice Av (1 + mw) cv2) (1 + mw) (lab :: x) from O1.out.base (Nat.le_trans (by have := BR0.out.size; omega) BU.out.size))
                        have OL6 := hide2 (OL.out.keep X1B.out)
                        have BU6 := hide2 (BU.out.trans (X1B.out.mono BU.out.size))
                        have KP6 := hide2 (keepLists OL6.out)
                        have RD := hide2 (Reads.list1 (v := .slice Av (1 + mw) cv2) (show OwnListR B0 w6 (fun _ => .slice Av (1 + mw) cv2) (lab :: x) from ⟨1 + mw, OV.out, by omega⟩))
                        clear iv bb IW2 OL2 BU2 OF O1
                        go_wp2_with (at_builtin; refine wpList_appNew (v := u17) tyLists rfl _ _ rfl [lab :: x] #[.slice Av (1 + mw) cv2] rfl rfl (by first | rfl | simp) rfl (by simp [Value.oneCell']) OL6.out RD.out rfl BU6.out BU6.out.size (by omega) (by omega) KP6.out ?_; intro v1 w7 own1 hg1 hb1; have O7 := hide2 own1; have B7 := hide2 hb1; clear own1 hg1 hb1)
                        go_roundw
                        case rel => exact ⟨k + 1, by omega, by go_num, hide2 (by rw [SN2.out]; exact O7.out), B7⟩
                        case measure => simp [intOf]; omega
                      · have SN2 := hide2 (show (moreW (atI (labL ⟨P, ts⟩)) T1 a).take (k + 1) = (moreW (atI (labL ⟨P, ts⟩)) T1 a).take k ++ [x] by rw [SN.out, LBE.out, if_neg hlp])
                        have RD := hide2 (Reads.list1 (v := .slice Aw mw cw) (show OwnListR B0 wr (fun _ => .slice Aw mw cw) x from ⟨mw, OW.out, hmw⟩))
                        go_wp2_with (at_builtin; refine wpList_appNew (v := u17) tyLists rfl _ _ rfl [x] #[.slice Aw mw cw] rfl rfl (by first | rfl | simp) rfl (by simp [Value.oneCell']) OL.out RD.out rfl BU.out BU.out.size (by omega) (by omega) KP.out ?_; intro v1 w7 own1 hg1 hb1; have O7 := hide2 own1; have B7 := hide2 hb1; clear own1 hg1 hb1)
                        go_roundw
                        case rel => exact ⟨k + 1, by omega, by go_num, hide2 (by rw [SN2.out]; exact O7.out), B7⟩
                        case measure => simp [intOf]; omega
                    · obtain rfl : k = nt := by omega
                      have MLN := hide2 (show (moreW (atI (labL ⟨P, ts⟩)) T1 a).length = k by unfold moreW; rw [List.length_map, ELT.out]; exact HNT.out)
                      have OL0 := hide2 (show RowL wr B0 u0.heap.size u17 k (moreW (atI (labL ⟨P, ts⟩)) T1 a) by have := OL.out; rwa [List.take_of_length_le (by rw [MLN.out]; exact Nat.le_refl _)] at this)
                      obtain ⟨Al, cl, rfl, SLl⟩ := OwnSl.sl OL0.out (by omega)
                      have BW2 := hide2 (show Below B0 w2 wr from BR0.out.trans (BU.out.mono (by have := BR0.out.size; omega)))
                      have DR := hide2 ((Below.refl wr.heap.size wr).drew)
                      have TB1 := hide2 ((TB0.out.keep BU.out).keep DR.out)
                      have WA1 := hide2 ((WA.out.keep BU.out).keep DR.out)
                      have SL1 := hide2 (Sl.keep (OwnListR.kept B0) SLl DR.out)
                      have BY1 := hide2 (BW2.out.trans (DR.out.mono (by have := BW2.out.size; omega)))
                      obtain ⟨Af, cf, qf, RF⟩ := TB1.out.at hf
                      obtain ⟨Lf, hLf⟩ : ∃ Lf, atW T1 (f : Int) = Lf := ⟨_, rfl⟩
                      rw [hLf] at qf RF
                      have ELF := hide2 (show atW T1 a.from_ = Lf by rw [EF.out]; exact hLf)
                      have NFB := hide2 (show Lf.length ≤ 152587890625 by rw [← hLf]; exact FEW.out T1 OI1.out f hf)
                      obtain ⟨nf, hnf⟩ : ∃ nf, Lf.length = nf := ⟨_, rfl⟩
                      rw [hnf] at qf RF NFB
                      have HNF := hide2 hnf
                      obtain ⟨Af', cf', e1, SLf⟩ := OwnSl.sl RF (by have := NFB.out; omega)
                      injection e1 with e1 _ e2
                      subst e1 e2
                      have SF := hide2 SLf
                      have nfb := NFB.out
                      have hfi : (f : Int) < (nm : Int) := by omega
                      have t0 : wr.cell? ⟨bx, 0, none⟩ = some (.int .i64 f) := (WA.out.keep BU.out).three.1
                      have qf0 : wr.cell? ⟨B0, f, none⟩ = some (.slice Af nf cf) := qf
                      clear hLf hnf RF SLf SLl OL OL0
                      go_upto_region 26 with fail
                      clear t0 qf0
                      have t0 := WA1.out.three.1
                      refine wp_region_scr 13 (.takes [0, 1, 2, 3, 4, 5, 6, 7, 8, 11] (.one 9 (.one 10 (.one 12 (.fin 13 (.fin 14 .done)))))) (fun w' => w'.cell? ⟨bx, 0, none⟩ = some (.int .i64 f) ∧ w'.cell? ⟨B0, f, none⟩ = some (.slice Af nf cf)) (by kernel_rfl) (by kernel_rfl) (by kernel_rfl) (fun _ _ _ _ _ h => h) ⟨t0, qf⟩ (fun hHeld => ?_)
                      simp only [Scr.takes]
                      clear t0 qf DR
                      generalize wr.drew = y1 at *
                      iterate 10
                        refine tkTake (v := ?_) rfl (by rfl) hHeld (fun w' hSw => ?_) ?_
                        rotate_left
                        · (go_simp; try with_reducible rfl)
                        try simp only [Act.put, List.setIfInBounds_toArray, List.set_cons_zero, List.set_cons_succ]
                      have bz := boxBelow y1 (.cells #[.slice Af nf cf, .slice Al k cl] 25)
                      have XC := hide2 (Box.new y1 #[.slice Af nf cf, .slice Al k cl] 25)
                      have TB2 := hide2 (TB1.out.keep bz)
                      have WA2 := hide2 (WA1.out.keep bz)
                      have SL2 := hide2 (Sl.keep (OwnListR.kept B0) SL1.out bz)
                      have SF2 := hide2 (Sl.keep (OwnListR.kept B0) SF.out bz)
                      have BY2 := hide2 (BY1.out.trans (bz.mono (by have := BY1.out.size; omega)))
                      refine tkOne rfl (fun Kf hKf => ?_)
                      go_simp
                      obtain ⟨A2f, c2f, q2f, _⟩ := TB2.out.at hf
                      have qf := (bz.cell (p := ⟨B0, f, none⟩) (by have := TB1.out.lt; simp only; omega)).trans hHeld.2
                      refine hKf.out _ _ ⟨WA2.out.three.1, qf⟩ (fun hHeld => ?_)
                      clear hKf q2f bz
                      try simp only [Act.put, List.setIfInBounds_toArray, List.set_cons_zero, List.set_cons_succ]
                      generalize y1.alloc (.cells #[.slice Af nf cf, .slice Al k cl] 25) = y2 at *
                      generalize y1.heap.size = bc at *
                      have QF := hide2 qf
                      clear qf TB1 WA1 SL1 SF BY1
                      refine tkOne rfl (fun Kf hKf => ?_)
                      go_simp; go_at_call 19
                      (with_reducible refine (concatL_calls XC.out.two.1 XC.out.two.2 SF2.out SL2.out (by omega)).mono ?_)
                      rintro e y3 ⟨A3, c3, rfl, o3, hb3⟩
                      have O3 := hide2 o3
                      have B3 := hide2 hb3
                      have L3 := hide2 (fun kk e => (OwnSl.lt o3 kk e).1)
                      have qf := (hb3.cell (p := ⟨B0, f, none⟩) (by have := TB2.out.lt; simp only; omega)).trans QF.out
                      refine hKf.out _ _ ⟨(WA2.out.keep hb3).three.1, qf⟩ (fun hHeld => ?_)
                      clear hKf o3 hb3
                      try simp only [Act.put, List.setIfInBounds_toArray, List.set_cons_zero, List.set_cons_succ]
                      refine tkOne rfl (fun Kf hKf => ?_)
                      go_simp; go_at_call 18
                      (with_reducible refine (jsetA_calls (mm : Int) O3.out (by omega)).mono ?_)
                      rintro e y4 ⟨A4, k4, c4, rfl, o4, g4⟩
                      have B4 := hide2 (show Below y2.heap.size y2 y4 from B3.out.grown g4 B3.out.size L3.out)
                      have NW := hide2 (show jsetL (Lf ++ (moreW (atI (labL ⟨P, ts⟩)) T1 a)) (mm : Int) = newW (atI (labL ⟨P, ts⟩)) mm T1 a by unfold newW; rw [ELF.out])
                      have O4 := hide2 (show RowL y4 B0 B0 (.slice A4 k4 c4) k4 (newW (atI (labL ⟨P, ts⟩)) mm T1 a) by have := OwnSl.base o4 (show B0 ≤ y2.heap.size by have := TB2.out.lt; omega); rwa [NW.out] at this)
                      have TB4 := hide2 (TB2.out.keep B4.out)
                      have WA4 := hide2 (WA2.out.keep B4.out)
                      have BY4 := hide2 (BY2.out.trans (B4.out.mono (by have := BY2.out.size; omega)))
                      have qf4 := (B4.out.cell (p := ⟨B0, f, none⟩) (by have := TB2.out.lt; simp only; omega)).trans QF.out
                      refine hKf.out _ _ ⟨WA4.out.three.1, qf4⟩ (fun hHeld => ?_)
                      clear hKf o4 g4 qf
                      try simp only [Act.put, List.setIfInBounds_toArray, List.set_cons_zero, List.set_cons_succ]
                      refine tkEnd rfl (fun Kf hKf => ?_)
                      go_simp
                      refine hKf.out _ _ ?_
                      clear hKf
                      try simp only [Act.put, List.setIfInBounds_toArray, List.set_cons_zero, List.set_cons_succ]
                      have zf := TB4.out.frozen f
                      refine tkEnd rfl (fun Kf hKf => ?_)
                      go_simp
                      refine hKf.out _ _ ?_
                      clear hKf
                      refine tkDone ?_
                      clear hHeld zf qf4
                      obtain ⟨L4, hL4⟩ : ∃ L4, newW (atI (labL ⟨P, ts⟩)) mm T1 a = L4 := ⟨_, rfl⟩
                      have EL4 := hide2 hL4
                      rw [hL4] at O4
                      clear hL4
                      obtain rfl : k4 = L4.length := (OwnSl.len O4.out).symm
                      have TB5 := hide2 (TB4.out.put hf O4.out)
                      have WA5 := hide2 (WA4.out.other (a := ⟨B0, f, none⟩) (.slice A4 L4.length c4) (by have := TB0.out.lt; have := WBX.out; simp only; omega))
                      have BY5 := hide2 (BY4.out.setCell (p := ⟨B0, f, none⟩) (Nat.le_refl _) (.slice A4 L4.length c4))
                      clear TB4 WA4 BY4 O4 O3
                      generalize y4.setCell ⟨B0, f, none⟩ (.slice A4 L4.length c4) = y5 at *
                      obtain ⟨A5, c5, q5, _⟩ := TB5.out.at hf
                      rw [atW_set (by rw [TB0.out.len]; exact hf), if_pos rfl] at q5
                      have t0 := WA5.out.three.1
                      have OI5 := hide2 (show OnI s.arcs (atI (labL ⟨P, ts⟩)) (fun m => on (endsL ⟨P, ts⟩ o s.marks) m) nm mm (T1.set f L4) by have := NXT.out; rw [EL4.out, EF.out, Int.toNat_natCast] at this; exact this)
                      have ST5 := hide2 (show (s.arcs.take (q + 1)).foldl (onF (atI (labL ⟨P, ts⟩)) mm) (T, false) = (T1.set f L4, b1 || decide (nf < L4.length)) by rw [STEP.out]; unfold onF; simp only; rw [EL4.out, ELF.out, HNF.out, EF.out, Int.toNat_natCast])
                      cases b1
                      · by_cases hgt : nf < L4.length
                        · have hgti : (nf : Int) < (L4.length : Int) := by omega
                          have ST6 := hide2 (show (s.arcs.take (q + 1)).foldl (onF (atI (labL ⟨P, ts⟩)) mm) (T, false) = (T1.set f L4, true) by rw [ST5.out]; simp [hgt])
                          go_wp2
                          go_roundw
                          case rel => exact ⟨q + 1, T1.set f L4, true, HQ.out, by go_num, by first | rfl | simp, ST6, OI5, TB5, BY5⟩
                          case measure => simp [intOf]; have := HQ.out; omega
                        · have hgti : ¬ (nf : Int) < (L4.length : Int) := by omega
                          have ST6 := hide2 (show (s.arcs.take (q + 1)).foldl (onF (atI (labL ⟨P, ts⟩)) mm) (T, false) = (T1.set f L4, false) by rw [ST5.out]; simp [hgt])
                          go_wp2
                          go_roundw
                          case rel => exact ⟨q + 1, T1.set f L4, false, HQ.out, by go_num, by first | rfl | simp, ST6, OI5, TB5, BY5⟩
                          case measure => simp [intOf]; have := HQ.out; omega
                      · have ST6 := hide2 (show (s.arcs.take (q + 1)).foldl (onF (atI (labL ⟨P, ts⟩)) mm) (T, false) = (T1.set f L4, true) by rw [ST5.out]; simp)
                        go_wp2
                        go_roundw
                        case rel => exact ⟨q + 1, T1.set f L4, true, HQ.out, by go_num, by first | rfl | simp, ST6, OI5, TB5, BY5⟩
                        case measure => simp [intOf]; have := HQ.out; omega
                · obtain rfl : q = m := by omega
                  have HFA := hide2 (show s.arcs.foldl (onF (atI (labL ⟨P, ts⟩)) mm) (T, false) = (T1, b1) by rw [← HF.out, List.take_of_length_le (by rw [HM.out]; exact Nat.le_refl _)])
                  have PASS := hide2 (MONO.out.pass (T, false) OI0.out)
                  rw [HFA.out] at PASS
                  cases b1
                  · obtain ⟨e1, e2⟩ := PASS.out.same rfl
                    obtain rfl : T1 = T := by injection e1
                    have FIX := hide2 e2
                    clear e1 e2
                    go_wp2
                    go_roundg 0
                    case measure => rw [GK.out]; omega
                    case rel => exact ⟨T1, false, rfl, hide2 ⟨OI1.out, fun h => (by cases h), fun _ => FIX.out⟩, TB, BR⟩
                  · have LESS := hide2 (show muW U0 T1 < muW U0 T from (PASS.out.new rfl).elim (fun h => by cases h) id)
                    go_wp2
                    go_roundg (muW U0 T1 + 1)
                    case measure => rw [GK.out]; have := LESS.out; omega
                    case rel => exact ⟨T1, true, rfl, hide2 ⟨OI1.out, fun _ => rfl, fun h => (by cases h)⟩, TB, BR⟩
  · have ER := hide2 (wordsB_err (most := most) (letters := letters) HR.out hk)
    have hkb : (k == 0) = false := by simpa using hk
    go_wp2
    go_ret2
    exact ⟨none, 0, 0, by rw [ER.out]; rfl, by rw [ER.out]; exact Sl.nil0, BW.out⟩
end Go.Proofs.YtmabnigdocokmaaGreat
