/- The plain law of blocks' words: what may be left behind n letters is one of a list of so many. No program in sight. -/
import Derived.Test.YtniolbbhjibobaaDoorBlocksListK12
set_option linter.all false
namespace Go.Proofs.YtniolbbhjibobaaDoor

theorem resS_mono : ∀ {ks : List PBlk} {m n : Nat} {x : PBlk}, m ≤ n → x ∈ resS ks m → x ∈ resS ks n
  | [], _, _, _, _, h => by simp [resS] at h
  | b :: bs, m, n, x, hmn, h => by
    rw [resS] at h ⊢
    rcases List.mem_append.1 h with h | h
    · obtain ⟨i, hi, hx⟩ := List.mem_flatMap.1 h
      exact List.mem_append.2 (.inl (List.mem_flatMap.2 ⟨i, List.mem_range.2 (by have := List.mem_range.1 hi; omega), hx⟩))
    · exact List.mem_append.2 (.inr (resS_mono hmn h))
theorem tail_wf {bs : List PBlk} (h : wfK bs) (i : Nat) : wfB (tailB i bs) := by
  unfold tailB
  cases bs with
  | nil => exact sil_wf
  | cons c cs => exact wrap_wf (Shp.wf (.seq 0 (c :: cs) (by simp) h)) i
theorem tail_kind {bs : List PBlk} {i : Nat} (h : (tailB i bs).kind = 1) : bs = [] := by
  cases bs with
  | nil => rfl
  | cons c cs =>
    unfold tailB at h
    cases i <;> exact absurd h (by simp [wrapB, PBlk.kind])
theorem tail_next {bs : List PBlk} {i : Nat} : (if (tailB i bs).kind = 1 then tailB i bs else wrapB 1 (tailB i bs)) = tailB (i + 1) bs := by
  cases bs with
  | nil => rfl
  | cons c cs =>
    rw [if_neg (fun h => by have := tail_kind h; cases this)]
    unfold tailB
    rfl
theorem start_S {a : Int} : ∀ {ks : List PBlk} {x : PBlk}, (∀ b ∈ ks, ∀ y ∈ afterB b a, y ∈ resB b 1) → x ∈ afterS ks a → x ∈ resS ks 1
  | [], x, _, h => by simp [afterS] at h
  | b :: bs, x, ih, h => by
    rw [afterS] at h
    rw [resS]
    rcases List.mem_append.1 h with h | h
    · obtain ⟨y, hy, rfl⟩ := List.mem_map.1 h
      exact List.mem_append.2 (.inl (List.mem_flatMap.2 ⟨0, by simp, List.mem_map.2 ⟨y, ih b (by simp) y hy, rfl⟩⟩))
    · split at h
      · exact List.mem_append.2 (.inr (start_S (fun c hc => ih c (by simp [hc])) h))
      · cases h
theorem aft_tail {bs : List PBlk} {a : Int} {i : Nat} {x : PBlk} (hb : wfK bs) (h : x ∈ afterB (tailB i bs) a) : x ∈ afterS bs a := by
  cases bs with
  | nil =>
    have e : tailB i [] = silB := rfl
    rw [e, silB, aft_1] at h
    cases h
  | cons c cs =>
    have e : tailB i (c :: cs) = wrapB i (.mk 3 0 (c :: cs)) := rfl
    rw [e] at h
    have := aft_wrap (Shp.wf (.seq 0 (c :: cs) (by simp) hb)) i h
    rwa [aft_3] at this
theorem aft_pick {a : Int} : ∀ {ks ps : List PBlk} {x : PBlk}, x ∈ afterM ps ks a → ∃ qs z rs y, ks = qs ++ z :: rs ∧ y ∈ afterB z a ∧ x = .mk 5 0 (ps ++ (qs ++ y :: rs))
  | [], ps, x, h => by simp [afterM] at h
  | b :: bs, ps, x, h => by
    rw [afterM] at h
    rcases List.mem_append.1 h with h | h
    · obtain ⟨y, hy, rfl⟩ := List.mem_map.1 h
      exact ⟨[], b, bs, y, rfl, hy, rfl⟩
    · obtain ⟨qs, z, rs, y, rfl, h2, rfl⟩ := aft_pick h
      exact ⟨b :: qs, z, rs, y, rfl, h2, by simp⟩
theorem resM_self : ∀ ks : List PBlk, ks ∈ resM ks 0
  | [] => by simp [resM]
  | b :: bs => by
    rw [resM]
    exact List.mem_flatMap.2 ⟨0, by simp, List.mem_flatMap.2 ⟨b, by simp [res_0], List.mem_map.2 ⟨bs, resM_self bs, rfl⟩⟩⟩
theorem resM_next {a : Int} : ∀ {ks : List PBlk} {n : Nat} {qs rs : List PBlk} {z y : PBlk}, (∀ b ∈ ks, ∀ n x, x ∈ resB b n → ∀ y ∈ afterB x a, y ∈ resB b (n + 1)) → qs ++ z :: rs ∈ resM ks n → y ∈ afterB z a → qs ++ y :: rs ∈ resM ks (n + 1)
  | [], n, qs, rs, z, y, _, h, _ => by
    unfold resM at h
    split at h
    · have := List.mem_singleton.1 h
      simp at this
    · cases h
  | b :: bs, n, qs, rs, z, y, ih, h, hy => by
    rw [resM] at h ⊢
    obtain ⟨i, hi, h⟩ := List.mem_flatMap.1 h
    obtain ⟨x, hx, h⟩ := List.mem_flatMap.1 h
    obtain ⟨xs, hxs, e⟩ := List.mem_map.1 h
    have hi := List.mem_range.1 hi
    cases qs with
    | nil =>
      obtain ⟨rfl, rfl⟩ := List.cons.inj e
      refine List.mem_flatMap.2 ⟨i + 1, List.mem_range.2 (by omega), List.mem_flatMap.2 ⟨y, ih b (by simp) i x hx y hy, List.mem_map.2 ⟨xs, ?_, rfl⟩⟩⟩
      rw [show n + 1 - (i + 1) = n - i by omega]
      exact hxs
    | cons q qs =>
      obtain ⟨rfl, rfl⟩ := List.cons.inj e
      refine List.mem_flatMap.2 ⟨i, List.mem_range.2 (by omega), List.mem_flatMap.2 ⟨x, hx, List.mem_map.2 ⟨qs ++ y :: rs, ?_, rfl⟩⟩⟩
      rw [show n + 1 - i = (n - i) + 1 by omega]
      exact resM_next (fun c hc => ih c (by simp [hc])) hxs hy
/-- What is left of a thing of such a list is right. -/
theorem resC_iff : ∀ {ks : List PBlk} {n : Nat} {x : PBlk}, x ∈ resC ks n ↔ ∃ b ∈ ks, x ∈ resB b n
  | [], n, x => by simp [resC]
  | b :: bs, n, x => by simp [resC, resC_iff (ks := bs)]
theorem resM_wf : ∀ {ks : List PBlk} {n : Nat} {xs : List PBlk}, (∀ b ∈ ks, ∀ n, ∀ x ∈ resB b n, wfB x) → xs ∈ resM ks n → wfK xs ∧ xs.length = ks.length
  | [], n, xs, _, h => by
    unfold resM at h
    split at h
    · rw [List.mem_singleton.1 h]; exact ⟨trivial, rfl⟩
    · cases h
  | b :: bs, n, xs, ih, h => by
    rw [resM] at h
    obtain ⟨i, hi, h⟩ := List.mem_flatMap.1 h
    obtain ⟨x, hx, h⟩ := List.mem_flatMap.1 h
    obtain ⟨ys, hys, rfl⟩ := List.mem_map.1 h
    obtain ⟨h1, h2⟩ := resM_wf (fun c hc => ih c (by simp [hc])) hys
    exact ⟨⟨ih b (by simp) i x hx, h1⟩, by simp [h2]⟩
theorem once_wf {l : Int} {x y : PBlk} (hx : wfB x) (hy : wfB y) : wfB (onceL l x [y]) := Shp.wf (.choice 0 _ (by simp) ⟨sil_wf, then_wf hy (Shp.wf (.loop l x y hx hy)), trivial⟩)
theorem res_wf : ∀ (b : PBlk), wfB b → ∀ n, ∀ x ∈ resB b n, wfB x
  | .mk k l ks, h => by
    have ih : wfK ks → ∀ b ∈ ks, ∀ n, ∀ x ∈ resB b n, wfB x := fun hk b hb => res_wf b (wfK_iff.1 hk b hb)
    intro n x hx
    by_cases hn : n = 0
    · subst hn
      rw [res_0, List.mem_singleton] at hx
      rw [hx]
      exact h
    cases h.shp with
    | sil => rw [res_1 hn] at hx; cases hx
    | step =>
      rw [res_2 hn] at hx
      split at hx
      · rw [List.mem_singleton.1 hx]; exact sil_wf
      · cases hx
    | seq _ _ hne hk =>
      rw [res_3 hn] at hx
      have key : ∀ ks : List PBlk, wfK ks → (∀ b ∈ ks, ∀ n, ∀ x ∈ resB b n, wfB x) → x ∈ resS ks n → wfB x := fun ks => by
        induction ks with
        | nil => intro _ _ hx; simp [resS] at hx
        | cons b bs IH =>
          intro hk ih hx
          rw [resS] at hx
          rcases List.mem_append.1 hx with hx | hx
          · obtain ⟨i, hi, hx⟩ := List.mem_flatMap.1 hx
            obtain ⟨y, hy, rfl⟩ := List.mem_map.1 hx
            exact then_wf (ih b (by simp) _ y hy) (tail_wf hk.2 i)
          · exact IH hk.2 (fun c hc => ih c (by simp [hc])) hx
      exact key ks hk (ih hk) hx
    | choice _ _ hne hk =>
      rw [res_4 hn] at hx
      obtain ⟨b, hb, hx⟩ := resC_iff.1 hx
      exact ih hk b hb n x hx
    | both _ _ hne hk =>
      rw [res_5 hn] at hx
      obtain ⟨xs, hxs, rfl⟩ := List.mem_map.1 hx
      obtain ⟨h1, h2⟩ := resM_wf (ih hk) hxs
      refine Shp.wf (.both 0 xs (fun e => hne ?_) h1)
      rw [e] at h2
      exact List.eq_nil_of_length_eq_zero h2.symm
    | loop _ p q hp hq =>
      rw [res_6 hn, resL] at hx
      have ih := ih ⟨hp, hq, trivial⟩
      have wl : wfB (.mk 6 l [p, q]) := Shp.wf (.loop l p q hp hq)
      have hc : ∀ i y, y ∈ resC [q] i → wfB y := fun i y hy => by
        obtain ⟨b, hb, hy⟩ := resC_iff.1 hy
        exact ih b (by simp at hb ⊢; exact .inr hb) i y hy
      rcases List.mem_append.1 hx with hx | hx
      · rcases List.mem_append.1 hx with hx | hx
        · obtain ⟨i, hi, hx⟩ := List.mem_flatMap.1 hx
          obtain ⟨y, hy, rfl⟩ := List.mem_map.1 hx
          exact then_wf (ih p (by simp) _ y hy) (wrap_wf (once_wf hp hq) i)
        · obtain ⟨i, hi, hx⟩ := List.mem_flatMap.1 hx
          obtain ⟨y, hy, rfl⟩ := List.mem_map.1 hx
          exact then_wf (hc _ y hy) (wrap_wf wl i)
      · obtain ⟨i, hi, hx⟩ := List.mem_flatMap.1 hx
        obtain ⟨y, hy, rfl⟩ := List.mem_map.1 hx
        exact then_wf (hc _ y hy) (wrap_wf wl (i + 1))
termination_by b => SizeOf.sizeOf b
decreasing_by
  have := List.sizeOf_lt_of_mem hb
  simp only [PBlk.mk.sizeOf_spec]
  omega
theorem wrap_kind {r : PBlk} (h : r.kind ≠ 1) : ∀ i, (wrapB i r).kind ≠ 1
  | 0 => h
  | i + 1 => by simp [wrapB, PBlk.kind]
/-- What is left behind one letter more is one of the next list. -/
theorem res_next (a : Int) : ∀ (b : PBlk), wfB b → ∀ n x, x ∈ resB b n → ∀ y ∈ afterB x a, y ∈ resB b (n + 1)
  | .mk k l ks, h => by
    have ih : wfK ks → ∀ b ∈ ks, ∀ n x, x ∈ resB b n → ∀ y ∈ afterB x a, y ∈ resB b (n + 1) := fun hk b hb => res_next a b (wfK_iff.1 hk b hb)
    have ih0 : wfK ks → ∀ b ∈ ks, ∀ y ∈ afterB b a, y ∈ resB b 1 := fun hk b hb y hy => ih hk b hb 0 b (by simp [res_0]) y hy
    intro n x hx y hy
    have hn1 : n + 1 ≠ 0 := by omega
    cases h.shp with
    | sil =>
      by_cases hn : n = 0
      · subst hn
        rw [res_0, List.mem_singleton] at hx
        rw [hx, aft_1] at hy
        cases hy
      · rw [res_1 hn] at hx; cases hx
    | step =>
      by_cases hn : n = 0
      · subst hn
        rw [res_0, List.mem_singleton] at hx
        rw [hx, aft_2] at hy
        rw [res_2 hn1, if_pos rfl]
        split at hy
        · exact hy
        · cases hy
      · rw [res_2 hn] at hx
        split at hx
        · rw [List.mem_singleton.1 hx, silB, aft_1] at hy
          cases hy
        · cases hx
    | seq _ _ hne hk =>
      rw [res_3 hn1]
      by_cases hn : n = 0
      · subst hn
        rw [res_0, List.mem_singleton] at hx
        rw [hx, aft_3] at hy
        exact start_S (ih0 hk) hy
      · rw [res_3 hn] at hx
        have key : ∀ ks : List PBlk, wfK ks → (∀ b ∈ ks, ∀ n x, x ∈ resB b n → ∀ y ∈ afterB x a, y ∈ resB b (n + 1)) → x ∈ resS ks n → y ∈ resS ks (n + 1) := fun ks => by
          induction ks with
          | nil => intro _ _ hx; simp [resS] at hx
          | cons b bs IH =>
            intro hk ih hx
            rw [resS] at hx
            rcases List.mem_append.1 hx with hx | hx
            · obtain ⟨i, hi, hx⟩ := List.mem_flatMap.1 hx
              obtain ⟨z, hz, rfl⟩ := List.mem_map.1 hx
              have hi := List.mem_range.1 hi
              rcases aft_thn (res_wf b hk.1 _ z hz) (tail_wf hk.2 i) (fun e => by rw [tail_kind e]; rfl) hy with ⟨u, hu, rfl⟩ | hy
              · rw [tail_next, resS]
                exact List.mem_append.2 (.inl (List.mem_flatMap.2 ⟨i + 1, List.mem_range.2 (by omega), List.mem_map.2 ⟨u, ih b (by simp) _ z hz u hu, rfl⟩⟩))
              · rw [resS]
                refine List.mem_append.2 (.inr (resS_mono (m := 1) (by omega) (start_S (fun c hc v hv => ih c (by simp [hc]) 0 c (by simp [res_0]) v hv) (aft_tail hk.2 hy))))
            · rw [resS]
              exact List.mem_append.2 (.inr (IH hk.2 (fun c hc => ih c (by simp [hc])) hx))
        exact key ks hk (ih hk) hx
    | choice _ _ hne hk =>
      rw [res_4 hn1]
      by_cases hn : n = 0
      · subst hn
        rw [res_0, List.mem_singleton] at hx
        rw [hx, aft_4] at hy
        have key : ∀ ks : List PBlk, (∀ b ∈ ks, ∀ y ∈ afterB b a, y ∈ resB b 1) → y ∈ afterC ks a → y ∈ resC ks 1 := fun ks => by
          induction ks with
          | nil => intro _ hx; simp [afterC] at hx
          | cons b bs IH =>
            intro ih hy
            rw [afterC] at hy
            rw [resC]
            rcases List.mem_append.1 hy with hy | hy
            · exact List.mem_append.2 (.inl (ih b (by simp) y hy))
            · exact List.mem_append.2 (.inr (IH (fun c hc => ih c (by simp [hc])) hy))
        exact key ks (ih0 hk) hy
      · rw [res_4 hn] at hx
        obtain ⟨b, hb, hx⟩ := resC_iff.1 hx
        exact resC_iff.2 ⟨b, hb, ih hk b hb n x hx y hy⟩
    | both _ _ hne hk =>
      rw [res_5 hn1]
      obtain ⟨xs, hxs, hy⟩ : ∃ xs, xs ∈ resM ks n ∧ y ∈ afterM [] xs a := by
        by_cases hn : n = 0
        · subst hn
          rw [res_0, List.mem_singleton] at hx
          rw [hx, aft_5] at hy
          exact ⟨ks, resM_self ks, hy⟩
        · rw [res_5 hn] at hx
          obtain ⟨xs, hxs, rfl⟩ := List.mem_map.1 hx
          rw [aft_5] at hy
          exact ⟨xs, hxs, hy⟩
      obtain ⟨qs, z, rs, u, rfl, hu, rfl⟩ := aft_pick hy
      exact List.mem_map.2 ⟨_, resM_next (ih hk) hxs hu, rfl⟩
    | loop _ p q hp hq =>
      rw [res_6 hn1, resL]
      have ih := ih ⟨hp, hq, trivial⟩
      have ih0 := ih0 ⟨hp, hq, trivial⟩
      have wl : wfB (.mk 6 l [p, q]) := Shp.wf (.loop l p q hp hq)
      have wo := once_wf (l := l) hp hq
      have start : ∀ v ∈ afterB (.mk 6 l [p, q]) a, v ∈ ((List.range (n + 1)).flatMap fun i => (resB p (i + 1)).map fun x => thnB x (wrapB i (onceL l p [q]))) ++ ((List.range (n + 1)).flatMap fun i => (resC [q] (i + 1)).map fun x => thnB x (wrapB i (.mk 6 l [p, q]))) := fun v hv => by
        rw [aft_6] at hv
        rcases List.mem_append.1 hv with hv | hv
        · obtain ⟨z, hz, rfl⟩ := List.mem_map.1 hv
          exact List.mem_append.2 (.inl (List.mem_flatMap.2 ⟨0, List.mem_range.2 (by omega), List.mem_map.2 ⟨z, ih0 p (by simp) z hz, rfl⟩⟩))
        · split at hv
          · obtain ⟨z, hz, rfl⟩ := List.mem_map.1 hv
            exact List.mem_append.2 (.inr (List.mem_flatMap.2 ⟨0, List.mem_range.2 (by omega), List.mem_map.2 ⟨z, resC_iff.2 ⟨q, by simp, ih0 q (by simp) z hz⟩, rfl⟩⟩))
          · cases hv
      by_cases hn : n = 0
      · subst hn
        rw [res_0, List.mem_singleton] at hx
        rw [hx] at hy
        exact List.mem_append.2 (.inl (start y hy))
      · have behOnce : ∀ v ∈ afterB (onceL l p [q]) a, v ∈ ((List.range (n + 1)).flatMap fun i => (resB p (i + 1)).map fun x => thnB x (wrapB i (onceL l p [q]))) ++ ((List.range (n + 1)).flatMap fun i => (resC [q] (i + 1)).map fun x => thnB x (wrapB i (.mk 6 l [p, q]))) ++ ((List.range (n + 1 - 1)).flatMap fun i => (resC [q] (i + 1)).map fun x => thnB x (wrapB (i + 1) (.mk 6 l [p, q]))) := fun v hv => by
          have e : afterB (onceL l p [q]) a = afterB (thnB q (.mk 6 l [p, q])) a := by
            rw [onceL, aft_4]
            simp [afterC, silB, aft_1]
          rw [e] at hv
          rcases aft_thn hq wl (fun e => by simp [PBlk.kind] at e) hv with ⟨u, hu, rfl⟩ | hv
          · rw [if_neg (by simp [PBlk.kind])]
            exact List.mem_append.2 (.inr (List.mem_flatMap.2 ⟨0, List.mem_range.2 (by omega), List.mem_map.2 ⟨u, resC_iff.2 ⟨q, by simp, ih0 q (by simp) u hu⟩, rfl⟩⟩))
          · exact List.mem_append.2 (.inl (start v hv))
        rw [res_6 hn, resL] at hx
        rcases List.mem_append.1 hx with hx | hx
        · rcases List.mem_append.1 hx with hx | hx
          · obtain ⟨i, hi, hx⟩ := List.mem_flatMap.1 hx
            obtain ⟨z, hz, rfl⟩ := List.mem_map.1 hx
            have hi := List.mem_range.1 hi
            have hk1 : (wrapB i (onceL l p [q])).kind ≠ 1 := wrap_kind (by simp [PBlk.kind, onceL]) i
            rcases aft_thn (res_wf p hp _ z hz) (wrap_wf wo i) (fun e => absurd e hk1) hy with ⟨u, hu, rfl⟩ | hy
            · rw [if_neg hk1]
              exact List.mem_append.2 (.inl (List.mem_append.2 (.inl (List.mem_flatMap.2 ⟨i + 1, List.mem_range.2 (by omega), List.mem_map.2 ⟨u, ih p (by simp) _ z hz u hu, rfl⟩⟩))))
            · exact behOnce y (aft_wrap wo i hy)
          · obtain ⟨i, hi, hx⟩ := List.mem_flatMap.1 hx
            obtain ⟨z, hz, rfl⟩ := List.mem_map.1 hx
            have hi := List.mem_range.1 hi
            obtain ⟨c, hc, hz⟩ := resC_iff.1 hz
            rw [List.mem_singleton.1 hc] at hz
            have hk1 : (wrapB i (.mk 6 l [p, q])).kind ≠ 1 := wrap_kind (by simp [PBlk.kind]) i
            rcases aft_thn (res_wf q hq _ z hz) (wrap_wf wl i) (fun e => absurd e hk1) hy with ⟨u, hu, rfl⟩ | hy
            · rw [if_neg hk1]
              exact List.mem_append.2 (.inl (List.mem_append.2 (.inr (List.mem_flatMap.2 ⟨i + 1, List.mem_range.2 (by omega), List.mem_map.2 ⟨u, resC_iff.2 ⟨q, by simp, ih q (by simp) _ z hz u hu⟩, rfl⟩⟩))))
            · exact List.mem_append.2 (.inl (start y (aft_wrap wl i hy)))
        · obtain ⟨i, hi, hx⟩ := List.mem_flatMap.1 hx
          obtain ⟨z, hz, rfl⟩ := List.mem_map.1 hx
          have hi := List.mem_range.1 hi
          obtain ⟨c, hc, hz⟩ := resC_iff.1 hz
          rw [List.mem_singleton.1 hc] at hz
          have hk1 : (wrapB (i + 1) (.mk 6 l [p, q])).kind ≠ 1 := wrap_kind (by simp [PBlk.kind]) (i + 1)
          rcases aft_thn (res_wf q hq _ z hz) (wrap_wf wl (i + 1)) (fun e => absurd e hk1) hy with ⟨u, hu, rfl⟩ | hy
          · rw [if_neg hk1]
            exact List.mem_append.2 (.inr (List.mem_flatMap.2 ⟨i + 1, List.mem_range.2 (by omega), List.mem_map.2 ⟨u, resC_iff.2 ⟨q, by simp, ih q (by simp) _ z hz u hu⟩, rfl⟩⟩))
          · exact List.mem_append.2 (.inl (start y (aft_wrap wl (i + 1) hy)))
termination_by b => SizeOf.sizeOf b
decreasing_by
  have := List.sizeOf_lt_of_mem hb
  simp only [PBlk.mk.sizeOf_spec]
  omega
end Go.Proofs.YtniolbbhjibobaaDoor
