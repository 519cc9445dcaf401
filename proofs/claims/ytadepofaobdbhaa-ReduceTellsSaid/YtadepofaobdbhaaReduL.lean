/- The plain law of M1: the program's step on a net is the reference's step on its rows. No program in sight. -/
import Derived.Test.YtadepofaobdbhaaReduP
namespace Go.Proofs.Ytadepofaobdbhaa

theorem colL_length (ts : List PTran) (p : Nat) : (colL ts p).length = 2 * ts.length := by
  induction ts with
  | nil => rfl
  | cons t ts ih => simp [colL] at ih ⊢; omega
theorem colL_cons (t : PTran) (ts : List PTran) (p : Nat) : colL (t :: ts) p = t.pre.getD p 0 :: t.post.getD p 0 :: colL ts p := by simp [colL]
theorem colL_pre (ts : List PTran) (p k : Nat) (hk : k < ts.length) : (colL ts p).getD (2 * k) 0 = (tAt ts k).pre.getD p 0 := by
  induction ts generalizing k with
  | nil => simp at hk
  | cons t ts ih =>
    rw [colL_cons]
    cases k with
    | zero => rfl
    | succ k =>
      have := ih k (by simpa using hk)
      rw [show 2 * (k + 1) = 2 * k + 1 + 1 by omega, List.getD_cons_succ, List.getD_cons_succ, this]
      rfl
theorem colL_post (ts : List PTran) (p k : Nat) (hk : k < ts.length) : (colL ts p).getD (2 * k + 1) 0 = (tAt ts k).post.getD p 0 := by
  induction ts generalizing k with
  | nil => simp at hk
  | cons t ts ih =>
    rw [colL_cons]
    cases k with
    | zero => rfl
    | succ k =>
      have := ih k (by simpa using hk)
      rw [show 2 * (k + 1) + 1 = 2 * k + 1 + 1 + 1 by omega, List.getD_cons_succ, List.getD_cons_succ, this]
      rfl
theorem colL_erase (ts : List PTran) (p k : Nat) (hk : k < ts.length) : cutL (colL ts p) (2 * k) (2 * k + 2) = colL (ts.eraseIdx k) p := by
  induction ts generalizing k with
  | nil => simp at hk
  | cons t ts ih =>
    rw [colL_cons]
    cases k with
    | zero => simp [cutL]
    | succ k =>
      have := ih k (by simpa using hk)
      unfold cutL at this ⊢
      rw [show 2 * (k + 1) = 2 * k + 1 + 1 by omega, show 2 * k + 1 + 1 + 2 = 2 * k + 2 + 1 + 1 by omega, List.take_succ_cons, List.take_succ_cons, List.drop_succ_cons, List.drop_succ_cons, List.eraseIdx_cons_succ, colL_cons, ← this]
      rfl
theorem cutL_erase (xs : List Int) (k : Nat) : cutL xs k (k + 1) = xs.eraseIdx k := by
  unfold cutL
  rw [List.eraseIdx_eq_take_drop_succ]
theorem map_erase {α β : Type} (f : α → β) (xs : List α) (k : Nat) : (xs.eraseIdx k).map f = (xs.map f).eraseIdx k := by
  rw [List.eraseIdx_eq_take_drop_succ, List.eraseIdx_eq_take_drop_succ, List.map_append, List.map_take, List.map_drop]
/-- A transition goes. -/
theorem noTranM_of {s : PSm} {k : Nat} (hk : k < s.net.trans.length) : noTranM (mofL s) k = mofL (dropT s k) := by
  unfold noTranM mofL dropT
  simp only [PM.mk.injEq, and_true]
  refine ⟨by rw [cutL_erase, map_erase], ?_⟩
  rw [List.map_map]
  apply List.map_congr_left
  intro p _
  exact colL_erase _ _ _ hk
/-- A place goes. -/
theorem getD_erase (xs : List Int) (p q : Nat) : (xs.eraseIdx p).getD q 0 = xs.getD (if q < p then q else q + 1) 0 := by
  rw [List.getD_eq_getElem?_getD, List.getD_eq_getElem?_getD, List.getElem?_eraseIdx]
  split <;> rfl
theorem colL_drop (ts : List PTran) (p q : Nat) : colL (ts.map (dropPl p)) q = colL ts (if q < p then q else q + 1) := by
  induction ts with
  | nil => rfl
  | cons t ts ih =>
    rw [List.map_cons, colL_cons, colL_cons, ih]
    simp only [dropPl, getD_erase]
theorem noPlaceM_of {s : PSm} {p : Nat} (hp : (p : Int) < s.net.places) : noPlaceM (mofL s) p = mofL (dropP s p) := by
  unfold noPlaceM mofL dropP
  simp only [PM.mk.injEq, and_true]
  refine ⟨?_, ?_⟩
  · rw [List.map_map]
    apply List.map_congr_left
    intro t _
    rfl
  · apply List.ext_getElem?
    intro q
    rw [List.getElem?_eraseIdx]
    simp only [List.getElem?_map]
    by_cases h1 : q < p
    · rw [if_pos h1]
      have a1 : q < s.net.places.toNat := by omega
      have a2 : q < (s.net.places - 1).toNat := by omega
      rw [List.getElem?_range a1, List.getElem?_range a2]
      simp only [Option.map_some, colL_drop, if_pos h1]
    · rw [if_neg h1]
      by_cases h2 : q + 1 < s.net.places.toNat
      · rw [List.getElem?_range h2, List.getElem?_range (show q < (s.net.places - 1).toNat by omega)]
        simp only [Option.map_some, colL_drop, if_neg h1]
      · rw [List.getElem?_eq_none (by simp; omega), List.getElem?_eq_none (by simp; omega)]
        rfl

/-! ### the first rule -/
theorem list_eq_getD {a b : List Int} {n : Nat} (ha : a.length = n) (hb : b.length = n) (h : ∀ p, p < n → a.getD p 0 = b.getD p 0) : a = b := by
  apply List.ext_getElem
  · omega
  · intro i h1 h2
    have := h i (by omega)
    simpa [h1, h2] using this
theorem sok_len {s : PSm} (h : SOk s) {k : Nat} (hk : k < s.net.trans.length) : (tAt s.net.trans k).pre.length = s.net.places.toNat ∧ (tAt s.net.trans k).post.length = s.net.places.toNat := by
  have := (tranOk_iff _ _).1 (((netOk_iff _).1 h.1).2.2.2 _ (tAt_mem hk))
  omega
theorem sameTM_of {s : PSm} (h : SOk s) {k j : Nat} (hk : k < s.net.trans.length) (hj : j < s.net.trans.length) : sameTM (mofL s) k j = sameTr s.net.trans k j := by
  have l1 := sok_len h hk
  have l2 := sok_len h hj
  rw [Bool.eq_iff_iff]
  unfold sameTM sameTr sameRow mofL
  simp only [List.all_eq_true, List.mem_map, List.mem_range, Bool.and_eq_true, decide_eq_true_eq, beq_iff_eq, forall_exists_index, and_imp, forall_apply_eq_imp_iff₂]
  constructor
  · intro hh
    exact ⟨list_eq_getD l1.1 l2.1 (fun p hp => by have := (hh p hp).1; rw [colL_pre _ _ _ hj, colL_pre _ _ _ hk] at this; exact this.symm),
      list_eq_getD l1.2 l2.2 (fun p hp => by have := (hh p hp).2; rw [colL_post _ _ _ hj, colL_post _ _ _ hk] at this; exact this.symm)⟩
  · rintro ⟨e1, e2⟩ p hp
    rw [colL_pre _ _ _ hj, colL_pre _ _ _ hk, colL_post _ _ _ hj, colL_post _ _ _ hk, e1, e2]
    exact ⟨rfl, rfl⟩
theorem smaT_of {s : PSm} (h : SOk s) : smaT (mofL s) = (stT s).map mofL := by
  unfold smaT stT
  rw [show (mofL s).labels.length = s.net.trans.length by simp [mofL]]
  rw [firstPair_congr (g := sameTr s.net.trans) (fun a ha b hb => sameTM_of h ha (by omega))]
  cases e : firstPair s.net.trans.length (sameTr s.net.trans) with
  | none => rfl
  | some k => simp only [Option.map_some]; rw [noTranM_of (firstPair_lt e)]

/-! ### the second rule -/
theorem rows_getD {s : PSm} {p : Nat} (hp : p < s.net.places.toNat) : (mofL s).rows.getD p [] = colL s.net.trans p := by
  unfold mofL
  simp [List.getElem?_range hp]
theorem samePM_of {s : PSm} {q p : Nat} (hq : q < s.net.places.toNat) (hp : p < s.net.places.toNat) : samePM (mofL s) q p = sameP s q p := by
  unfold samePM sameP innerB
  rw [rows_getD hq, rows_getD hp]
  show ((_ == _) && decide ((p : Int) ≠ s.i) && decide ((p : Int) ≠ s.o) && decide ((q : Int) ≠ s.i) && decide ((q : Int) ≠ s.o)) = _
  cases (colL s.net.trans p == colL s.net.trans q) <;> cases decide ((p : Int) ≠ s.i) <;> cases decide ((p : Int) ≠ s.o) <;> cases decide ((q : Int) ≠ s.i) <;> cases decide ((q : Int) ≠ s.o) <;> rfl
theorem smaP_of {s : PSm} : smaP (mofL s) = (stP s).map mofL := by
  unfold smaP stP
  rw [show (mofL s).rows.length = s.net.places.toNat by simp [mofL]]
  rw [firstPair_congr (g := sameP s) (fun a ha b hb => samePM_of ha (by omega))]
  cases e : firstPair s.net.places.toNat (sameP s) with
  | none => rfl
  | some k => simp only [Option.map_some]; rw [noPlaceM_of (by have := firstPair_lt e; omega)]

/-! ### the net again -/
theorem netM_of {s : PSm} (h : SOk s) : netM (mofL s) = s.net := by
  obtain ⟨N, i, o⟩ := s
  obtain ⟨P, ts⟩ := N
  have hn := (netOk_iff _).1 h.1
  unfold netM
  have e1 : (mofL ⟨⟨P, ts⟩, i, o⟩).rows.length = P.toNat := by simp [mofL]
  have e2 : (mofL ⟨⟨P, ts⟩, i, o⟩).labels.length = ts.length := by simp [mofL]
  rw [e1, e2]
  have hP : ((P.toNat : Nat) : Int) = P := by have := hn.1; simp only at this; omega
  rw [hP]
  congr 1
  apply List.ext_getElem
  · simp
  · intro k h1 h2
    simp only [List.getElem_map, List.getElem_range]
    have hk : k < ts.length := h2
    have l := sok_len h hk
    have et : tAt ts k = ts[k] := tAt_get (List.getElem?_eq_getElem hk)
    simp only at l
    rw [et] at l
    have r1 : (mofL ⟨⟨P, ts⟩, i, o⟩).rows.map (fun r => r.getD (2 * k) 0) = ts[k].pre := by
      refine list_eq_getD (n := P.toNat) (by simp [mofL]) l.1 (fun p hp => ?_)
      rw [← et, ← colL_pre ts p k hk]
      simp [mofL, List.getElem?_range hp]
    have r2 : (mofL ⟨⟨P, ts⟩, i, o⟩).rows.map (fun r => r.getD (2 * k + 1) 0) = ts[k].post := by
      refine list_eq_getD (n := P.toNat) (by simp [mofL]) l.2 (fun p hp => ?_)
      rw [← et, ← colL_post ts p k hk]
      simp [mofL, List.getElem?_range hp]
    rw [r1, r2]
    have r3 : (mofL ⟨⟨P, ts⟩, i, o⟩).labels.getD k 0 = ts[k].label := by simp [mofL, hk]
    rw [r3]

/-! ### the third rule -/
theorem range_split {n k : Nat} (h : k < n) : List.range n = List.range k ++ k :: (List.range (n - k - 1)).map (k + 1 + ·) := by
  rw [show n = k + (1 + (n - k - 1)) by omega, List.range_add, List.range_add]
  simp [Nat.add_assoc]
theorem only_cnt (ws : List Int) :
    (cntL (fun k => posB (ws.getD k 0)) ws.length = 1 ∧ ∃ k : Nat, k < ws.length ∧ lastL (fun k => posB (ws.getD k 0)) ws.length = (k : Int) ∧ onlyL ws = if ws.getD k 0 = 1 then (k : Int) else -1) ∨
    (cntL (fun k => posB (ws.getD k 0)) ws.length ≠ 1 ∧ onlyL ws = -1) := by
  unfold cntL lastL onlyL
  cases h : ws.findIdx? posB with
  | none =>
    right
    rw [List.findIdx?_eq_none_iff] at h
    have : (List.range ws.length).filter (fun k => posB (ws.getD k 0)) = [] := by
      rw [List.filter_eq_nil_iff]
      intro k hk
      have hk' : k < ws.length := by simpa using hk
      have := h ws[k] (List.getElem_mem hk')
      simp [hk', this]
    rw [this]
    exact ⟨by simp, rfl⟩
  | some k =>
    rw [List.findIdx?_eq_some_iff_getElem] at h
    obtain ⟨hk, hp, hlow⟩ := h
    have e1 : (List.range k).filter (fun k => posB (ws.getD k 0)) = [] := by
      rw [List.filter_eq_nil_iff]
      intro j hj
      have hj' : j < k := by simpa using hj
      have := hlow j hj'
      simp [show j < ws.length by omega]
      simpa using this
    have e2 : posB (ws.getD k 0) = true := by simpa [hk] using hp
    have e3 : (List.range ws.length).filter (fun k => posB (ws.getD k 0)) = k :: ((List.range (ws.length - k - 1)).map (k + 1 + ·)).filter (fun k => posB (ws.getD k 0)) := by
      rw [range_split hk, List.filter_append, e1, List.filter_cons, if_pos e2]
      rfl
    rw [e3]
    by_cases hany : (ws.drop (k + 1)).any posB = false
    · left
      have e4 : ((List.range (ws.length - k - 1)).map (k + 1 + ·)).filter (fun k => posB (ws.getD k 0)) = [] := by
        rw [List.filter_eq_nil_iff]
        intro j hj
        obtain ⟨i, hi, rfl⟩ := List.mem_map.1 hj
        have hi' : i < ws.length - k - 1 := by simpa using hi
        rw [List.any_eq_false] at hany
        have := hany ((ws.drop (k + 1))[i]'(by simp; omega)) (List.getElem_mem _)
        rw [List.getElem_drop] at this
        simp [show k + 1 + i < ws.length by omega]
        simpa using this
      rw [e4]
      refine ⟨rfl, k, hk, rfl, ?_⟩
      simp [hany]
    · right
      have hany' : (ws.drop (k + 1)).any posB = true := by simpa using hany
      refine ⟨?_, ?_⟩
      · obtain ⟨x, hx, hpx⟩ := List.any_eq_true.1 hany'
        obtain ⟨i, hi, rfl⟩ := List.getElem_of_mem hx
        rw [List.getElem_drop] at hpx
        simp only [List.length_drop] at hi
        have hm : k + 1 + i ∈ ((List.range (ws.length - k - 1)).map (k + 1 + ·)).filter (fun k => posB (ws.getD k 0)) := by
          rw [List.mem_filter]
          exact ⟨List.mem_map.2 ⟨i, by simp; omega, rfl⟩, by simpa [show k + 1 + i < ws.length by omega] using hpx⟩
        have := List.length_pos_of_mem hm
        simp only [List.length_cons]
        omega
      · simp only [hany', Bool.true_eq_false, and_false, if_false]
theorem sum_zero_iff {l : List Int} (h : ∀ x ∈ l, 0 ≤ x) : 0 ≤ l.sum ∧ (l.sum = 0 ↔ ∀ q, q < l.length → l.getD q 0 ≤ 0) := by
  induction l with
  | nil => simp
  | cons x l ih =>
    have h0 := h x (by simp)
    obtain ⟨i1, i2⟩ := ih (fun y hy => h y (by simp [hy]))
    rw [List.sum_cons]
    refine ⟨by omega, ⟨fun e => ?_, fun e => ?_⟩⟩
    · have e1 : x = 0 := by omega
      have e2 := i2.1 (by omega)
      intro q hq
      cases q with
      | zero => simp; omega
      | succ q => simpa using e2 q (by simpa using hq)
    · have e1 := e 0 (by simp)
      have e2 := i2.2 (fun q hq => by simpa using e (q + 1) (by simpa using hq))
      simp at e1
      omega
theorem sum_one_iff {l : List Int} (h : ∀ x ∈ l, 0 ≤ x) {p : Nat} (hp : p < l.length) (h1 : l.getD p 0 = 1) : l.sum = 1 ↔ ∀ q, q < l.length → q ≠ p → l.getD q 0 ≤ 0 := by
  induction l generalizing p with
  | nil => simp at hp
  | cons x l ih =>
    have h0 := h x (by simp)
    have hl := sum_zero_iff (l := l) (fun y hy => h y (by simp [hy]))
    rw [List.sum_cons]
    cases p with
    | zero =>
      simp at h1
      subst h1
      rw [show (1 + l.sum = 1 ↔ l.sum = 0) from by omega, hl.2]
      constructor
      · intro e q hq hne
        cases q with
        | zero => exact absurd rfl hne
        | succ q => simpa using e q (by simpa using hq)
      · intro e q hq
        simpa using e (q + 1) (by simpa using hq) (by omega)
    | succ p =>
      have hp' : p < l.length := by simpa using hp
      have h1' : l.getD p 0 = 1 := by simpa using h1
      have ih' := ih (fun y hy => h y (by simp [hy])) hp' h1'
      have hpos : 0 < l.sum := by
        rcases Int.lt_or_eq_of_le hl.1 with g | g
        · exact g
        · have := hl.2.1 g.symm p hp'; omega
      constructor
      · intro e q hq hne
        cases q with
        | zero => simp; omega
        | succ q => simpa using (ih'.1 (by omega)) q (by simpa using hq) (by omega)
      · intro e
        have e1 := e 0 (by simp) (by omega)
        have e2 := ih'.2 (fun q hq hne => by simpa using e (q + 1) (by simpa using hq) (by omega))
        simp at e1
        omega
theorem colL_set (ts : List PTran) (q k : Nat) (t : PTran) (hk : k < ts.length) : colL (ts.set k t) q = ((colL ts q).set (2 * k) (t.pre.getD q 0)).set (2 * k + 1) (t.post.getD q 0) := by
  induction ts generalizing k with
  | nil => simp at hk
  | cons u ts ih =>
    cases k with
    | zero => simp [colL_cons]
    | succ k =>
      have := ih k (by simpa using hk)
      rw [List.set_cons_succ, colL_cons, colL_cons, this, show 2 * (k + 1) = 2 * k + 1 + 1 by omega, List.set_cons_succ, List.set_cons_succ, List.set_cons_succ, List.set_cons_succ]
theorem set_self_getD (xs : List Int) (k : Nat) : xs.set k (xs.getD k 0) = xs := by
  apply List.ext_getElem
  · simp
  · intro i h1 h2
    rw [List.getElem_set]
    split
    · rename_i e; subst e; simp [h2]
    · rfl
theorem addL_getD {a b : List Int} {q : Nat} (hq : q < a.length) : (addL a b).getD q 0 = a.getD q 0 + b.getD q 0 := by
  simp [addL, List.getElem?_range hq]
theorem merge_getD {t u : PTran} {p q : Nat} (hqp : q ≠ p) (hq : q < t.post.length) : (mergeT t u p).post.getD q 0 = t.post.getD q 0 + u.post.getD q 0 := by
  show ((addL t.post u.post).set p 0).getD q 0 = _
  rw [← addL_getD hq, List.getD_eq_getElem?_getD, List.getD_eq_getElem?_getD, List.getElem?_set_ne (Ne.symm hqp)]
theorem merge_length (t u : PTran) (p : Nat) : (mergeT t u p).post.length = t.post.length := by
  show ((addL t.post u.post).set p 0).length = _
  simp [addL]
theorem merge_all9 {t u : PTran} {p : Nat} (hp : p < t.post.length) : (∀ x ∈ (mergeT t u p).post, x ≤ 9) ↔ ∀ q, q < t.post.length → q ≠ p → t.post.getD q 0 + u.post.getD q 0 ≤ 9 := by
  constructor
  · intro h q hq hne
    rw [← merge_getD (p := p) (u := u) hne hq]
    have hl : q < (mergeT t u p).post.length := by rw [merge_length]; exact hq
    have := h _ (List.getElem_mem hl)
    simpa [hl] using this
  · intro h x hx
    obtain ⟨q, hq, rfl⟩ := List.getElem_of_mem hx
    have hq' : q < t.post.length := by rw [merge_length] at hq; exact hq
    have e : (mergeT t u p).post[q] = (mergeT t u p).post.getD q 0 := by simp [hq]
    rw [e]
    by_cases hne : q = p
    · subst hne
      have : (mergeT t u q).post.getD q 0 = 0 := by
        show ((addL t.post u.post).set q 0).getD q 0 = 0
        rw [List.getD_eq_getElem?_getD, List.getElem?_set_self (by simpa [addL] using hq')]
        rfl
      omega
    · rw [merge_getD hne hq']
      exact h q hq' hne
/-- A row other than p's, once a has taken over what b puts. -/
theorem addRow_of {ts : List PTran} {a b p q : Nat} (ha : a < ts.length) (hb : b < ts.length) (hqp : q ≠ p) (hq : q < (tAt ts a).post.length) : addRow a b (colL ts q) = colL (ts.set a (mergeT (tAt ts a) (tAt ts b) p)) q := by
  rw [colL_set _ _ _ _ ha]
  unfold addRow
  rw [colL_post _ _ _ ha, colL_post _ _ _ hb]
  have e1 : (colL ts q).set (2 * a) ((mergeT (tAt ts a) (tAt ts b) p).pre.getD q 0) = colL ts q := by
    show (colL ts q).set (2 * a) ((tAt ts a).pre.getD q 0) = _
    rw [← colL_pre ts q a ha, set_self_getD]
  rw [e1]
  rw [merge_getD hqp hq]
theorem erase_congr {α : Type} {l1 l2 : List α} {p : Nat} (h : ∀ q, q ≠ p → l1[q]? = l2[q]?) : l1.eraseIdx p = l2.eraseIdx p := by
  apply List.ext_getElem?
  intro q
  rw [List.getElem?_eraseIdx, List.getElem?_eraseIdx]
  split
  · exact h q (by omega)
  · exact h (q + 1) (by omega)
theorem serDo_of {s : PSm} (h : SOk s) {p a b : Nat} (hp : (p : Int) < s.net.places) (ha : a < s.net.trans.length) (hb : b < s.net.trans.length) : noPlaceM (noTranM ⟨(mofL s).labels, (mofL s).rows.map (addRow a b), (mofL s).i, (mofL s).o⟩ b) p = mofL (serDo s p a b) := by
  have l1 := sok_len h ha
  unfold serDo
  rw [← noPlaceM_of (by show (p : Int) < s.net.places; exact hp), ← noTranM_of (by show b < (s.net.trans.set a _).length; simpa using hb)]
  unfold noPlaceM noTranM
  simp only [PM.mk.injEq]
  refine ⟨?_, ?_, rfl, rfl⟩
  · show cutL (s.net.trans.map (·.label)) b (b + 1) = cutL ((s.net.trans.set a _).map (·.label)) b (b + 1)
    congr 1
    rw [List.map_set]
    apply List.ext_getElem
    · simp
    · intro i h1 h2
      rw [List.getElem_set]
      split
      · rename_i e
        subst e
        have hi : a < s.net.trans.length := ha
        simp [mergeT, tAt_get (List.getElem?_eq_getElem hi)]
      · rfl
  · apply erase_congr
    intro q hq
    show ((((List.range s.net.places.toNat).map (colL s.net.trans)).map (addRow a b)).map _)[q]? = (((List.range s.net.places.toNat).map (colL (s.net.trans.set a _))).map _)[q]?
    simp only [List.getElem?_map]
    by_cases hqp : q < s.net.places.toNat
    · rw [List.getElem?_range hqp]
      simp only [Option.map_some]
      rw [addRow_of ha hb hq (by rw [l1.2]; exact hqp)]
    · rw [List.getElem?_eq_none (by simpa using hqp)]
      rfl
theorem preW_getD (ts : List PTran) (p k : Nat) (hk : k < ts.length) : (preW ts p).getD k 0 = (tAt ts k).pre.getD p 0 := by
  simp [preW, hk, tAt_get (List.getElem?_eq_getElem hk)]
theorem postW_getD (ts : List PTran) (p k : Nat) (hk : k < ts.length) : (postW ts p).getD k 0 = (tAt ts k).post.getD p 0 := by
  simp [postW, hk, tAt_get (List.getElem?_eq_getElem hk)]
theorem filter_congr' {n : Nat} {f g : Nat → Bool} (h : ∀ k, k < n → f k = g k) : (List.range n).filter f = (List.range n).filter g := by
  apply List.filter_congr
  intro k hk
  exact h k (by simpa using hk)
theorem serM_of {s : PSm} (h : SOk s) {p : Nat} (hp : (p : Int) < s.net.places) : serM (mofL s) p = (serP s p).map mofL := by
  have hpn : p < s.net.places.toNat := by omega
  have hn := (netOk_iff _).1 h.1
  have eT : ∀ k, k < s.net.trans.length → takesM (mofL s) p k = posB ((preW s.net.trans p).getD k 0) := fun k hk => by
    unfold takesM posB
    rw [rows_getD hpn, colL_pre _ _ _ hk, preW_getD _ _ _ hk]
  have eP : ∀ k, k < s.net.trans.length → putsM (mofL s) p k = posB ((postW s.net.trans p).getD k 0) := fun k hk => by
    unfold putsM posB
    rw [rows_getD hpn, colL_post _ _ _ hk, postW_getD _ _ _ hk]
  have hl : (mofL s).labels.length = s.net.trans.length := by simp [mofL]
  have lw1 : (preW s.net.trans p).length = s.net.trans.length := by simp [preW]
  have lw2 : (postW s.net.trans p).length = s.net.trans.length := by simp [postW]
  have cT : cntL (takesM (mofL s) p) s.net.trans.length = cntL (fun k => posB ((preW s.net.trans p).getD k 0)) (preW s.net.trans p).length := by unfold cntL; rw [filter_congr' eT, lw1]
  have cP : cntL (putsM (mofL s) p) s.net.trans.length = cntL (fun k => posB ((postW s.net.trans p).getD k 0)) (postW s.net.trans p).length := by unfold cntL; rw [filter_congr' eP, lw2]
  have dT : lastL (takesM (mofL s) p) s.net.trans.length = lastL (fun k => posB ((preW s.net.trans p).getD k 0)) (preW s.net.trans p).length := by unfold lastL; rw [filter_congr' eT, lw1]
  have dP : lastL (putsM (mofL s) p) s.net.trans.length = lastL (fun k => posB ((postW s.net.trans p).getD k 0)) (postW s.net.trans p).length := by unfold lastL; rw [filter_congr' eP, lw2]
  unfold serM serP
  rw [hl, cT, cP, dT, dP]
  rcases only_cnt (preW s.net.trans p) with ⟨c1, u, hu, lu, ou⟩ | ⟨c1, ou⟩
  · rcases only_cnt (postW s.net.trans p) with ⟨c2, t, ht, lt, ot⟩ | ⟨c2, ot⟩
    · rw [c1, c2, lu, lt, ou, ot]
      rw [lw1] at hu
      rw [lw2] at ht
      rw [preW_getD _ _ _ hu, postW_getD _ _ _ ht]
      have hQ : serQ (mofL s) p 1 1 (t : Int) (u : Int) = (innerB s p && !decide (t = u) && decide ((tAt s.net.trans u).pre.getD p 0 = 1) && decide ((tAt s.net.trans t).post.getD p 0 = 1)) := by
        unfold serQ innerB
        rw [rows_getD hpn, Int.toNat_natCast, Int.toNat_natCast, colL_pre _ _ _ hu, colL_post _ _ _ ht]
        show (!(decide ((p : Int) = s.i) || decide ((p : Int) = s.o) || decide ((1 : Int) ≠ 1) || decide ((1 : Int) ≠ 1) || decide ((t : Int) = (u : Int)) || _ || _)) = _
        rw [show decide ((t : Int) = (u : Int)) = decide (t = u) from by rw [decide_eq_decide]; omega, show decide ((1 : Int) ≠ 1) = false from rfl]
        by_cases g1 : (p : Int) = s.i <;> by_cases g2 : (p : Int) = s.o <;> by_cases g3 : t = u <;> by_cases g4 : (tAt s.net.trans u).pre.getD p 0 = 1 <;> by_cases g5 : (tAt s.net.trans t).post.getD p 0 = 1 <;> simp [g1, g2, g3]
      rw [hQ]
      by_cases g4 : (tAt s.net.trans u).pre.getD p 0 = 1
      · by_cases g5 : (tAt s.net.trans t).post.getD p 0 = 1
        · rw [if_pos g4, if_pos g5, Int.toNat_natCast, Int.toNat_natCast]
          have tO := (tranOk_iff _ _).1 (hn.2.2.2 _ (tAt_mem ht))
          have uO := (tranOk_iff _ _).1 (hn.2.2.2 _ (tAt_mem hu))
          have lt' := sok_len h ht
          have lu' := sok_len h hu
          have hsum := sum_one_iff (l := (tAt s.net.trans u).pre) (fun x hx => by
            have := uO.2.2.2.2.1
            rw [List.any_eq_false] at this
            exact (badW_false (by simpa using this x hx)).1) (p := p) (by rw [lu'.1]; exact hpn) g4
          by_cases g3 : innerB s p = true ∧ t ≠ u
          · have q1 : (innerB s p && !decide (t = u) && decide ((tAt s.net.trans u).pre.getD p 0 = 1) && decide ((tAt s.net.trans t).post.getD p 0 = 1)) = true := by simp only [g3.1, g4, g5, decide_true, Bool.and_true, decide_eq_false g3.2, Bool.not_false]
            rw [if_pos q1]
            unfold serR
            rw [serDo_of h hp ht hu]
            have q2 : (List.range (mofL s).rows.length).all (fun q => okRow p t u q ((mofL s).rows.getD q [])) = true ↔ serOk s p (t : Int) (u : Int) = true := by
              rw [show (mofL s).rows.length = s.net.places.toNat by simp [mofL]]
              unfold serOk
              rw [g3.1, show decide ((t : Int) < 0) = false from by simp, show decide ((u : Int) < 0) = false from by simp, show decide ((t : Int) = (u : Int)) = false from decide_eq_false (by omega), Int.toNat_natCast, Int.toNat_natCast]
              simp only [Bool.true_and, Bool.not_false, Bool.and_eq_true, decide_eq_true_eq, List.all_eq_true, List.mem_range]
              rw [hsum, lu'.1, merge_all9 (by rw [lt'.2]; exact hpn), lt'.2]
              constructor
              · intro hall
                have key : ∀ q, q < s.net.places.toNat → q ≠ p → (tAt s.net.trans u).pre.getD q 0 ≤ 0 ∧ (tAt s.net.trans t).post.getD q 0 + (tAt s.net.trans u).post.getD q 0 ≤ 9 := fun q hq hne => by
                  have := hall q hq
                  rw [rows_getD hq] at this
                  unfold okRow at this
                  rw [colL_pre _ _ _ hu, colL_post _ _ _ hu, colL_post _ _ _ ht, decide_eq_false hne, Bool.false_or, Bool.and_eq_true, Bool.not_eq_true', Bool.not_eq_true', decide_eq_false_iff_not, decide_eq_false_iff_not] at this
                  omega
                exact ⟨fun q hq hne => (key q hq hne).1, fun q hq hne => (key q hq hne).2⟩
              · rintro ⟨hz, h9⟩ q hq
                rw [rows_getD hq]
                unfold okRow
                by_cases hne : q = p
                · simp [hne]
                · have h1 := hz q hq hne
                  have h2 := h9 q hq hne
                  rw [colL_pre _ _ _ hu, colL_post _ _ _ hu, colL_post _ _ _ ht, decide_eq_false hne, Bool.false_or, Bool.and_eq_true, Bool.not_eq_true', Bool.not_eq_true', decide_eq_false_iff_not, decide_eq_false_iff_not]
                  omega
            by_cases q3 : serOk s p (t : Int) (u : Int) = true
            · rw [if_pos (q2.2 q3), if_pos q3]; rfl
            · rw [if_neg (fun e => q3 (q2.1 e)), if_neg q3]; rfl
          · have q1 : ¬ (innerB s p && !decide (t = u) && decide ((tAt s.net.trans u).pre.getD p 0 = 1) && decide ((tAt s.net.trans t).post.getD p 0 = 1)) = true := fun e => by
              simp only [Bool.and_eq_true, Bool.not_eq_true', decide_eq_false_iff_not] at e
              exact g3 ⟨e.1.1.1, e.1.1.2⟩
            rw [if_neg q1, if_neg]
            · rfl
            · intro e
              simp only [serOk, Bool.and_eq_true, Bool.not_eq_true', decide_eq_false_iff_not] at e
              exact g3 ⟨e.1.1.1.1.1, fun e2 => e.1.1.2 (by rw [e2])⟩
        · rw [if_neg g5, if_neg, if_neg]
          · rfl
          · intro e; simp [serOk] at e
          · intro e
            simp only [Bool.and_eq_true, decide_eq_true_eq] at e
            exact g5 e.2
      · rw [if_neg g4, if_neg, if_neg]
        · rfl
        · intro e; simp [serOk] at e
        · intro e
          simp only [Bool.and_eq_true, decide_eq_true_eq] at e
          exact g4 e.1.2
    · rw [ot, if_neg, if_neg]
      · rfl
      · intro e; simp [serOk] at e
      · intro e
        simp only [serQ, Bool.not_eq_true', Bool.or_eq_false_iff, decide_eq_false_iff_not] at e
        exact e.1.1.1.2 c2
  · rw [ou, if_neg, if_neg]
    · rfl
    · intro e; simp [serOk] at e
    · intro e
      simp only [serQ, Bool.not_eq_true', Bool.or_eq_false_iff, decide_eq_false_iff_not] at e
      exact e.1.1.1.1.2 c1
theorem findSome_congr {α β : Type} {n : Nat} {f : Nat → Option α} {g : Nat → Option β} {m : α → β} (h : ∀ k, k < n → g k = (f k).map m) : (List.range n).findSome? g = ((List.range n).findSome? f).map m := by
  have : ∀ l : List Nat, (∀ k ∈ l, k < n) → l.findSome? g = (l.findSome? f).map m := by
    intro l
    induction l with
    | nil => intro _; rfl
    | cons k l ih =>
      intro hl
      rw [List.findSome?_cons, List.findSome?_cons, h k (hl k (by simp)), ih (fun x hx => hl x (by simp [hx]))]
      cases f k <;> rfl
  exact this _ (fun k hk => by simpa using hk)
theorem smallerM_of {s : PSm} (h : SOk s) : smallerM (mofL s) = (stepS s).map mofL := by
  unfold smallerM stepS
  rw [smaT_of h, smaP_of]
  have e : smaS (mofL s) = (stS s).map mofL := by
    unfold smaS stS
    rw [show (mofL s).rows.length = s.net.places.toNat by simp [mofL]]
    exact findSome_congr (fun k hk => serM_of h (by omega))
  rw [e]
  cases stT s with
  | some x => rfl
  | none =>
    cases stP s with
    | some x => rfl
    | none => rfl
end Go.Proofs.Ytadepofaobdbhaa
