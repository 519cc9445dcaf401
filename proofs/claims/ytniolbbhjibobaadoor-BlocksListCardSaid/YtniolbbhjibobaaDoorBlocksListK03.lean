/- Texts melted into one: The plain law of blocks' words: what may be left behind a letter is right. No program in sight. | The plain law of turned nets and of runs. No program in sight. | What chapter 16 says, in plain Lean: cases, and what is done with them. Conditions: none. | What is done with a case, way by way. No program in sight. Conditions: none. -/
import Derived.Test.YtniolbbhjibobaaDoorBlocksListK02
import Derived.Test.YtniolbbhjibobaaDoorBlocksListK01
set_option linter.all false
namespace Go.Proofs.YtniolbbhjibobaaDoor

theorem sil_wf : wfB silB := Shp.wf (.sil 0)
theorem then_wf {x y : PBlk} (hx : wfB x) (hy : wfB y) : wfB (thnB x y) := by
  unfold thnB
  split
  · exact hy
  · split
    · exact hx
    · exact Shp.wf (.seq 0 [x, y] (by simp) ⟨hx, hy, trivial⟩)
theorem lang_sil {w : List Int} : lang silB w ↔ w = [] := lang_1
theorem lang_rest {bs : List PBlk} {w : List Int} : lang (if bs.isEmpty then silB else .mk 3 0 bs) w ↔ langS bs w := by
  cases bs with
  | nil => simp only [List.isEmpty_nil, if_true]; rw [lang_sil]; rfl
  | cons b bs => simp only [List.isEmpty_cons, Bool.false_eq_true, if_false]; exact lang_3
/-- What one wants of what may be left: it is right, and together it has what lies behind the letter. -/
def Behind (X : List Int → Prop) (a : Int) (L : List PBlk) : Prop := (∀ x ∈ L, wfB x) ∧ ∀ w, X (a :: w) ↔ ∃ x ∈ L, lang x w
theorem Behind.congr {X Y : List Int → Prop} {a : Int} {L : List PBlk} (h : Behind X a L) (e : ∀ w, Y (a :: w) ↔ X (a :: w)) : Behind Y a L := ⟨h.1, fun w => (e w).trans (h.2 w)⟩
theorem behind_S {a : Int} : ∀ {ks : List PBlk}, (∀ b ∈ ks, wfB b) → (∀ b ∈ ks, Behind (lang b) a (afterB b a)) → Behind (langS ks) a (afterS ks a)
  | [], _, _ => ⟨fun x hx => by simp [afterS] at hx, fun w => by simp [langS, afterS]⟩
  | b :: bs, hw, h => by
    have hb := h b (by simp)
    have hbw := hw b (by simp)
    have ih := behind_S (ks := bs) (fun c hc => hw c (by simp [hc])) (fun c hc => h c (by simp [hc]))
    have rw_ : wfB (if bs.isEmpty then silB else .mk 3 0 bs) := by
      cases bs with
      | nil => exact sil_wf
      | cons c cs => exact Shp.wf (.seq 0 (c :: cs) (by simp) (wfK_iff.2 (fun d hd => hw d (by simp only [List.mem_cons] at hd ⊢; exact .inr hd))))
    refine ⟨fun x hx => ?_, fun w => ?_⟩
    · rw [afterS] at hx
      rcases List.mem_append.1 hx with hx | hx
      · obtain ⟨y, hy, rfl⟩ := List.mem_map.1 hx
        exact then_wf (hb.1 y hy) rw_
      · split at hx
        · exact ih.1 x hx
        · cases hx
    · rw [afterS]
      constructor
      · rintro ⟨u, v, e, hu, hv⟩
        cases u with
        | nil =>
          have e' : a :: w = v := e
          rw [← e'] at hv
          obtain ⟨x, hx, hl⟩ := (ih.2 w).1 hv
          exact ⟨x, List.mem_append.2 (.inr (by rw [if_pos ((least_zero hbw).2 hu)]; exact hx)), hl⟩
        | cons c u =>
          obtain ⟨rfl, rfl⟩ := List.cons.inj e
          obtain ⟨x, hx, hl⟩ := (hb.2 u).1 hu
          exact ⟨_, List.mem_append.2 (.inl (List.mem_map.2 ⟨x, hx, rfl⟩)), lang_then.2 ⟨u, v, rfl, hl, lang_rest.2 hv⟩⟩
      · rintro ⟨x, hx, hl⟩
        rcases List.mem_append.1 hx with hx | hx
        · obtain ⟨y, hy, rfl⟩ := List.mem_map.1 hx
          obtain ⟨u, v, rfl, h1, h2⟩ := lang_then.1 hl
          exact ⟨a :: u, v, rfl, (hb.2 u).2 ⟨y, hy, h1⟩, lang_rest.1 h2⟩
        · split at hx
          · rename_i h0
            exact ⟨[], a :: w, rfl, (least_zero hbw).1 h0, (ih.2 w).2 ⟨x, hx, hl⟩⟩
          · cases hx
theorem behind_C {a : Int} : ∀ {ks : List PBlk}, (∀ b ∈ ks, Behind (lang b) a (afterB b a)) → Behind (langC ks) a (afterC ks a)
  | [], _ => ⟨fun x hx => by simp [afterC] at hx, fun w => by simp [langC, afterC]⟩
  | b :: bs, h => by
    have hb := h b (by simp)
    have ih := behind_C (ks := bs) (fun c hc => h c (by simp [hc]))
    refine ⟨fun x hx => ?_, fun w => ?_⟩
    · rw [afterC] at hx
      exact (List.mem_append.1 hx).elim (hb.1 x) (ih.1 x)
    · show lang b (a :: w) ∨ langC bs (a :: w) ↔ _
      rw [afterC, hb.2, ih.2]
      constructor
      · rintro (⟨x, hx, hl⟩ | ⟨x, hx, hl⟩)
        · exact ⟨x, List.mem_append.2 (.inl hx), hl⟩
        · exact ⟨x, List.mem_append.2 (.inr hx), hl⟩
      · rintro ⟨x, hx, hl⟩
        exact (List.mem_append.1 hx).elim (fun hx => .inl ⟨x, hx, hl⟩) (fun hx => .inr ⟨x, hx, hl⟩)
theorem behind_M {a : Int} : ∀ {ks ps : List PBlk}, (∀ b ∈ ps ++ ks, wfB b) → (∀ b ∈ ks, Behind (lang b) a (afterB b a)) →
    (∀ x ∈ afterM ps ks a, wfB x) ∧ ∀ w, (∃ x ∈ afterM ps ks a, lang x w) ↔ ∃ u v, Mix u v w ∧ langM ps u ∧ langM ks (a :: v)
  | [], ps, _, _ => ⟨fun x hx => by simp [afterM] at hx, fun w => by simp [langM, afterM]⟩
  | b :: bs, ps, hw, h => by
    have hb := h b (by simp)
    have ih := behind_M (ks := bs) (ps := ps ++ [b]) (fun c hc => hw c (by simpa using hc)) (fun c hc => h c (by simp [hc]))
    refine ⟨fun x hx => ?_, fun w => ?_⟩
    · rw [afterM] at hx
      rcases List.mem_append.1 hx with hx | hx
      · obtain ⟨y, hy, rfl⟩ := List.mem_map.1 hx
        refine Shp.wf (.both 0 _ (by simp) (wfK_iff.2 (fun c hc => ?_)))
        rcases List.mem_append.1 hc with hc | hc
        · exact hw c (by simp [hc])
        · rcases List.mem_cons.1 hc with rfl | hc
          · exact hb.1 _ hy
          · exact hw c (by simp [hc])
      · exact ih.1 x hx
    · rw [afterM]
      constructor
      · rintro ⟨x, hx, hl⟩
        rcases List.mem_append.1 hx with hx | hx
        · obtain ⟨y, hy, rfl⟩ := List.mem_map.1 hx
          obtain ⟨u, v, h1, h2, h3⟩ := langM_app.1 (lang_5.1 hl)
          obtain ⟨p, q, g1, g2, g3⟩ := h3
          exact ⟨u, v, h1, h2, a :: p, q, .left g1, (hb.2 p).2 ⟨y, hy, g2⟩, g3⟩
        · obtain ⟨u, v, h1, h2, h3⟩ := (ih.2 w).1 ⟨x, hx, hl⟩
          obtain ⟨s, t, g1, g2, g3⟩ := langM_app.1 h2
          obtain ⟨z, k1, k2⟩ := h1.assoc g1
          exact ⟨s, z, k2, g2, t, a :: v, .right k1, langM_one.1 g3, h3⟩
      · rintro ⟨u, v, h1, h2, p, q, g1, g2, g3⟩
        cases g1 with
        | left g1 =>
          obtain ⟨y, hy, hl⟩ := (hb.2 _).1 g2
          exact ⟨_, List.mem_append.2 (.inl (List.mem_map.2 ⟨y, hy, rfl⟩)), lang_5.2 (langM_app.2 ⟨u, v, h1, h2, _, _, g1, hl, g3⟩)⟩
        | right g1 =>
          obtain ⟨z, k1, k2⟩ := h1.assoc' g1
          obtain ⟨x, hx, hl⟩ := (ih.2 w).2 ⟨z, _, k2, langM_app.2 ⟨u, _, k1, h2, langM_one.2 g2⟩, g3⟩
          exact ⟨x, List.mem_append.2 (.inr hx), hl⟩
theorem lang_loop {l : Int} {x y : PBlk} {w : List Int} : lang (.mk 6 l [x, y]) w ↔ loopP (lang x) (lang y) w := by
  rw [lang_6, langL]
  constructor
  · rintro ⟨u, v, e, hu, hv⟩
    refine ⟨u, v, e, hu, ?_⟩
    clear e
    induction hv with
    | nil => exact .nil
    | more h1 h2 _ ih => exact .more (by simpa [langC] using h1) h2 ih
  · rintro ⟨u, v, e, hu, hv⟩
    refine ⟨u, v, e, hu, ?_⟩
    clear e
    induction hv with
    | nil => exact .nil
    | more h1 h2 _ ih => exact .more (by simpa [langC] using h1) h2 ih
theorem rep_iff {A B : List Int → Prop} {v : List Int} : Rep B A v ↔ v = [] ∨ ∃ y z, v = y ++ z ∧ B y ∧ loopP A B z := by
  constructor
  · intro h
    cases h with
    | nil => exact .inl rfl
    | more h1 h2 h3 => exact .inr ⟨_, _, rfl, h1, _, _, rfl, h2, h3⟩
  · rintro (rfl | ⟨y, z, rfl, h1, u, v, rfl, h2, h3⟩)
    · exact .nil
    · exact .more h1 h2 h3
theorem lang_once {l : Int} {x y : PBlk} {v : List Int} : lang (.mk 4 0 [silB, thnB y (.mk 6 l [x, y])]) v ↔ Rep (lang y) (lang x) v := by
  rw [lang_4, langC_iff, rep_iff]
  simp only [List.mem_cons, List.not_mem_nil, or_false, exists_eq_or_imp, exists_eq_left, lang_sil, lang_then, lang_loop]
/-- What lies behind a letter of a loop. -/
theorem rep_cons {A B : List Int → Prop} {a : Int} {V : List Int} (h : Rep B A V) : ∀ {w : List Int}, V = a :: w → (∃ u v, w = u ++ v ∧ A (a :: u) ∧ Rep B A v) ∨ (∃ y z, w = y ++ z ∧ B (a :: y) ∧ loopP A B z) := by
  induction h with
  | nil => intro w h; cases h
  | more h1 h2 h3 ih =>
    rename_i x y v
    intro w e
    cases x with
    | nil =>
      cases y with
      | nil => exact ih e
      | cons c y =>
        obtain ⟨rfl, rfl⟩ := List.cons.inj e
        exact .inl ⟨y, v, rfl, h2, h3⟩
    | cons c x =>
      obtain ⟨rfl, rfl⟩ := List.cons.inj e
      exact .inr ⟨x, y ++ v, rfl, h1, y, v, rfl, h2, h3⟩
theorem behind_L {a l : Int} {x y : PBlk} (hx : wfB x) (hy : wfB y) (bx : Behind (lang x) a (afterB x a)) (by_ : Behind (lang y) a (afterB y a)) : Behind (lang (.mk 6 l [x, y])) a (afterL l [x, y] a) := by
  have wl : wfB (.mk 6 l [x, y]) := Shp.wf (.loop l x y hx hy)
  have wo : wfB (.mk 4 0 [silB, thnB y (.mk 6 l [x, y])]) := Shp.wf (.choice 0 _ (by simp) ⟨sil_wf, then_wf hy wl, trivial⟩)
  have e : afterL l [x, y] a = (afterB x a).map (fun z => thnB z (.mk 4 0 [silB, thnB y (.mk 6 l [x, y])])) ++ (if leastB x = 0 then (afterB y a).map (fun z => thnB z (.mk 6 l [x, y])) else []) := by
    rw [afterL]
    simp [afterC]
  rw [e]
  refine ⟨fun z hz => ?_, fun w => ?_⟩
  · rcases List.mem_append.1 hz with hz | hz
    · obtain ⟨q, hq, rfl⟩ := List.mem_map.1 hz
      exact then_wf (bx.1 q hq) wo
    · split at hz
      · obtain ⟨q, hq, rfl⟩ := List.mem_map.1 hz
        exact then_wf (by_.1 q hq) wl
      · cases hz
  · have fwd : (∃ u v, w = u ++ v ∧ lang x (a :: u) ∧ Rep (lang y) (lang x) v) ∨ (lang x [] ∧ ∃ p z, w = p ++ z ∧ lang y (a :: p) ∧ loopP (lang x) (lang y) z) ↔
        ∃ q ∈ (afterB x a).map (fun z => thnB z (.mk 4 0 [silB, thnB y (.mk 6 l [x, y])])) ++ (if leastB x = 0 then (afterB y a).map (fun z => thnB z (.mk 6 l [x, y])) else []), lang q w := by
      constructor
      · rintro (⟨u, v, rfl, h1, h2⟩ | ⟨h0, p, z, rfl, h1, h2⟩)
        · obtain ⟨q, hq, hl⟩ := (bx.2 u).1 h1
          exact ⟨_, List.mem_append.2 (.inl (List.mem_map.2 ⟨q, hq, rfl⟩)), lang_then.2 ⟨u, v, rfl, hl, lang_once.2 h2⟩⟩
        · obtain ⟨q, hq, hl⟩ := (by_.2 p).1 h1
          exact ⟨_, List.mem_append.2 (.inr (by rw [if_pos ((least_zero hx).2 h0)]; exact List.mem_map.2 ⟨q, hq, rfl⟩)), lang_then.2 ⟨p, z, rfl, hl, lang_loop.2 h2⟩⟩
      · rintro ⟨q, hq, hl⟩
        rcases List.mem_append.1 hq with hq | hq
        · obtain ⟨r, hr, rfl⟩ := List.mem_map.1 hq
          obtain ⟨u, v, rfl, h1, h2⟩ := lang_then.1 hl
          exact .inl ⟨u, v, rfl, (bx.2 u).2 ⟨r, hr, h1⟩, lang_once.1 h2⟩
        · split at hq
          · rename_i h0
            obtain ⟨r, hr, rfl⟩ := List.mem_map.1 hq
            obtain ⟨u, v, rfl, h1, h2⟩ := lang_then.1 hl
            exact .inr ⟨(least_zero hx).1 h0, u, v, rfl, (by_.2 u).2 ⟨r, hr, h1⟩, lang_loop.1 h2⟩
          · cases hq
    rw [← fwd, lang_loop]
    constructor
    · rintro ⟨u, v, e, hu, hv⟩
      cases u with
      | nil =>
        rcases rep_cons hv e.symm with h | h
        · exact .inl h
        · exact .inr ⟨hu, h⟩
      | cons c u =>
        obtain ⟨rfl, rfl⟩ := List.cons.inj e
        exact .inl ⟨u, v, rfl, hu, hv⟩
    · rintro (⟨u, v, rfl, h1, h2⟩ | ⟨h0, p, z, rfl, h1, u, v, rfl, h2, h3⟩)
      · exact ⟨a :: u, v, rfl, h1, h2⟩
      · exact ⟨[], (a :: p) ++ (u ++ v), rfl, h0, .more h1 h2 h3⟩
/-- What may be left of a right block behind a letter is right. -/
theorem behind_right (a : Int) : ∀ (b : PBlk), wfB b → Behind (lang b) a (afterB b a)
  | .mk k l ks, h => by
    have ih : wfK ks → ∀ b ∈ ks, Behind (lang b) a (afterB b a) := fun hk b hb => behind_right a b (wfK_iff.1 hk b hb)
    cases h.shp with
    | sil => exact ⟨fun x hx => by simp [afterB] at hx, fun w => by rw [lang_1]; simp [afterB]⟩
    | step =>
      have e : afterB (.mk 2 l []) a = if l = a then [silB] else [] := by simp [afterB]
      rw [e]
      refine ⟨fun x hx => ?_, fun w => ?_⟩
      · split at hx
        · rw [List.mem_singleton.1 hx]; exact sil_wf
        · cases hx
      · rw [lang_2]
        split
        · rename_i hl
          subst hl
          simp [lang_sil]
        · rename_i hl
          simp only [List.cons.injEq, List.not_mem_nil, false_and, exists_false, iff_false]
          exact fun e => hl e.1.symm
    | seq _ _ hne hk =>
      have e : afterB (.mk 3 l ks) a = afterS ks a := by simp [afterB]
      rw [e]
      exact (behind_S (wfK_iff.1 hk) (ih hk)).congr (fun w => lang_3)
    | choice _ _ hne hk =>
      have e : afterB (.mk 4 l ks) a = afterC ks a := by simp [afterB]
      rw [e]
      exact (behind_C (ih hk)).congr (fun w => lang_4)
    | both _ _ hne hk =>
      have e : afterB (.mk 5 l ks) a = afterM [] ks a := by simp [afterB]
      rw [e]
      obtain ⟨h1, h2⟩ := behind_M (ps := []) (wfK_iff.1 hk) (ih hk)
      refine ⟨h1, fun w => ?_⟩
      rw [h2 w, lang_5]
      constructor
      · exact fun h => ⟨[], w, Mix.self_right w, rfl, h⟩
      · rintro ⟨u, v, h, rfl, hv⟩
        rw [← h.nil_left]
        exact hv
    | loop _ x y hx hy =>
      have e : afterB (.mk 6 l [x, y]) a = afterL l [x, y] a := by simp [afterB]
      rw [e]
      exact behind_L hx hy (ih ⟨hx, hy, trivial⟩ x (by simp)) (ih ⟨hx, hy, trivial⟩ y (by simp))
termination_by b => SizeOf.sizeOf b
decreasing_by
  have := List.sizeOf_lt_of_mem hb
  simp only [PBlk.mk.sizeOf_spec]
  omega
end Go.Proofs.YtniolbbhjibobaaDoor
namespace Go.Proofs.YtniolbbhjibobaaDoor
end Go.Proofs.YtniolbbhjibobaaDoor
namespace Go.Proofs.YtniolbbhjibobaaDoor

structure PCase where
  mark : List Int
  busy : List Int
deriving Inhabited, DecidableEq
def PCase.nil : PCase := ⟨[], []⟩
end Go.Proofs.YtniolbbhjibobaaDoor
namespace Go.Proofs.YtniolbbhjibobaaDoor

end Go.Proofs.YtniolbbhjibobaaDoor
