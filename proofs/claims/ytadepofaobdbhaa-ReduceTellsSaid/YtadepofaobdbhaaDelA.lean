/- slices.Delete of one element, on a row of the caller's own: of integers and of transitions. Conditions: the row is owned, the index lies in it. | The contracts of slices.Delete of one element: at integers and at transitions, and of without. Conditions: the row is the caller's own, the index lies in it. -/
import Derived.Test.YtadepofaobdbhaaBox
import Derived.Deep.RegionLaw
import Derived.Lib.SliceRun
import Derived.Test.YtadepofaobdbhaaNetJ
namespace Go.Proofs.Ytadepofaobdbhaa
open Go.RowKit

theorem Box.setCells {b ty : Nat} : ∀ (vs : List Value) (o : Nat) (w : World) (cs : Array Value), Box w b ty cs → o + vs.length ≤ cs.size →
    ∃ cs', Box (w.setCells b o vs) b ty cs' ∧ cs'.size = cs.size ∧ (∀ i, (i < o ∨ o + vs.length ≤ i) → cs'[i]? = cs[i]?) ∧ ∀ j, j < vs.length → cs'[o + j]? = vs[j]?
  | [], o, w, cs, h, _ => ⟨cs, h, rfl, fun _ _ => rfl, fun j hj => by simp at hj⟩
  | v :: r, o, w, cs, h, hl => by
    simp only [List.length_cons] at hl
    obtain ⟨cs', h1, h2, h3, h4⟩ := Box.setCells r (o + 1) (w.setCell ⟨b, o, none⟩ v) (cs.setIfInBounds o v) (h.set o v) (by simp; omega)
    refine ⟨cs', h1, by simpa using h2, fun i hi => ?_, fun j hj => ?_⟩
    · simp only [List.length_cons] at hi
      rw [h3 i (by omega), Array.getElem?_setIfInBounds_ne (by omega)]
    · cases j with
      | zero =>
        have := h3 o (by omega)
        rw [Nat.add_zero, this, Array.getElem?_setIfInBounds_self_of_lt (by omega)]
        rfl
      | succ j =>
        have := h4 j (by simp at hj; omega)
        rw [show o + (j + 1) = o + 1 + j by omega, this]
        rfl
theorem grown_setCells {w0 : World} {b : Nat} : ∀ (vs : List Value) (o : Nat) (w : World), w0.grownBy w (some b) → w0.grownBy (w.setCells b o vs) (some b)
  | [], _, _, h => h
  | v :: r, o, w, h => grown_setCells r (o + 1) _ ⟨h.os, h.tape, h.output, by simpa [World.setCell] using h.size, fun k hk hne => (Below.heap_setCell _ _ _ _ (fun e => hne (by rw [e]))).trans (h.block k hk hne)⟩
theorem grown_drew (w : World) (r : Option Nat) : w.grownBy w.drew r := ⟨rfl, rfl, rfl, Nat.le_refl _, fun _ _ _ => rfl⟩

/-- What is left of a row whose element k goes. -/
theorem OwnSl.cut {α : Type} {R : World → (Nat → Value) → α → Prop} {sz : Nat} (G : Good R sz) {w : World} {B e g n cap k : Nat} {xs : List α} (h : OwnSl R sz w B e (.slice (some ⟨g, 0, none⟩) n cap) n xs) (hk : k < n) (zs : List Value) (hz : zs.length = sz)
    (hkeep : ∀ w', w.grownBy w' (some g) → ∀ vs x, R w vs x → R w' vs x) :
    ∃ news : List Value, news.length = (n - (k + 1)) * sz ∧ n ≤ cap ∧ cap ≤ maxLen ∧ Hid (∀ t u, news[t]? = some u → w.drew.cell? ⟨g, (k + 1) * sz + t, none⟩ = some u) ∧ Hid (∀ u ∈ news, u.oneCell' = true) ∧
      Hid (∀ t, t < news.length → (w.drew.cell? ⟨g, 0 + k * sz + t, none⟩).isSome = true ∧ w.drew.frozen? ⟨g, 0 + k * sz + t, none⟩ = false) ∧
      Hid (∀ t, t < sz → ((w.drew.setCells g (0 + k * sz) news).cell? ⟨g, (n - 1) * sz + t, none⟩).isSome = true ∧ (w.drew.setCells g (0 + k * sz) news).frozen? ⟨g, (n - 1) * sz + t, none⟩ = false) ∧
      Hid (OwnSl R sz ((w.drew.setCells g (0 + k * sz) news).setCells g ((n - 1) * sz) zs) B e (.slice (some ⟨g, 0, none⟩) (n - 1) cap) (n - 1) (xs.eraseIdx k)) ∧
      Hid (w.grownBy ((w.drew.setCells g (0 + k * sz) news).setCells g ((n - 1) * sz) zs) (some g)) := by
  obtain ⟨cells, ⟨h0, h1⟩, h2, h3⟩ := h
  rcases h1 with ⟨h1, _⟩ | ⟨g', cap', cur, hv, hB, hh, hn, hc, hsz, hcur⟩
  · cases h1
  injection hv with e1 e2 e3
  injection e1 with e1
  injection e1 with e1
  subst e1 e3
  have hx : Box w g e cur := hh
  have hpos := G.pos
  have one : ∀ u ∈ cells, u.oneCell' = true := fun u hu => by
    obtain ⟨t, ht⟩ := List.mem_iff_getElem?.1 hu
    have hlt : t < cells.length := (List.getElem?_eq_some_iff.1 ht).1
    have hi : t / sz < xs.length := by
      have := h2.1
      rw [this] at hlt
      exact Nat.div_lt_of_lt_mul (by rw [Nat.mul_comm]; exact hlt)
    obtain ⟨vs, a, r⟩ := h2.2 (t / sz) _ (List.getElem?_eq_getElem hi)
    have hj := a (t % sz) (Nat.mod_lt _ hpos)
    rw [show t / sz * sz + t % sz = t by rw [Nat.mul_comm]; exact Nat.div_add_mod t sz, ht] at hj
    injection hj with hj
    rw [hj]
    exact G.one _ _ _ r _ (Nat.mod_lt _ hpos)
  have hnk : (n - (k + 1)) * sz + (k + 1) * sz = n * sz := by rw [← Nat.add_mul]; congr 1; omega
  have hk1 : (k + 1) * sz = k * sz + sz := by rw [Nat.add_mul, Nat.one_mul]
  have hn1 : (n - 1) * sz + sz = n * sz := by
    have : n = n - 1 + 1 := by omega
    conv => rhs; rw [this, Nat.add_mul, Nat.one_mul]
  have hcn : n * sz ≤ cap * sz := Nat.mul_le_mul_right _ hn
  have hcell : ∀ t, t < n * sz → cur[t]? = cells[t]? := fun t ht => by
    rw [← hcur, List.getElem?_take_of_lt ht, Array.getElem?_toList]
  obtain ⟨cs1, x1, s1, o1, i1⟩ := Box.setCells (cells.drop ((k + 1) * sz)) (0 + k * sz) w.drew cur hx.drew (by simp [h0]; omega)
  obtain ⟨cs2, x2, s2, o2, i2⟩ := Box.setCells zs ((n - 1) * sz) _ cs1 x1 (by rw [hz, s1, hsz]; omega)
  have g2 := grown_setCells (b := g) zs ((n - 1) * sz) _ (grown_setCells (cells.drop ((k + 1) * sz)) (0 + k * sz) _ (grown_drew w (some g)))
  refine ⟨cells.drop ((k + 1) * sz), by simp [h0]; omega, hn, hc, fun t u hu => ?_, fun u hu => one u (List.mem_of_mem_drop hu), fun t ht => ?_, fun t ht => ?_, ?_, g2⟩
  · rw [hx.drew.cell]
    rw [List.getElem?_drop] at hu
    have hlt := (List.getElem?_eq_some_iff.1 hu).1
    rw [hcell _ (by omega)]
    exact hu
  · simp only [List.length_drop, h0] at ht
    refine ⟨?_, hx.drew.frozen _⟩
    rw [hx.drew.cell, Array.getElem?_eq_getElem (by omega)]
    rfl
  · refine ⟨?_, x1.frozen _⟩
    rw [x1.cell, Array.getElem?_eq_getElem (by omega)]
    rfl
  · have e2 : cs2.toList.take ((n - 1) * sz) = cells.take (k * sz) ++ cells.drop ((k + 1) * sz) := by
      apply List.ext_getElem?
      intro t
      by_cases ht : t < (n - 1) * sz
      · rw [List.getElem?_take_of_lt ht, Array.getElem?_toList, o2 t (.inl ht)]
        by_cases htk : t < k * sz
        · rw [o1 t (.inl (by omega)), List.getElem?_append_left (by simp; omega), List.getElem?_take_of_lt htk, hcell _ (by omega)]
        · have hm : min (k * sz) cells.length = k * sz := by omega
          have := i1 (t - k * sz) (by simp; omega)
          rw [show 0 + k * sz + (t - k * sz) = t by omega] at this
          rw [this, List.getElem?_append_right (by simp; omega), List.length_take, hm]
      · rw [List.getElem?_eq_none (by simp; omega), List.getElem?_eq_none (by simp; omega)]
    refine ⟨cs2.toList.take ((n - 1) * sz), ⟨by simp; omega, .inr ⟨g, cap, cs2, rfl, hB, x2, by omega, hc, by omega, rfl⟩⟩, ?_, by rw [List.length_eraseIdx_of_lt (by omega)]; omega⟩
    rw [e2, List.eraseIdx_eq_take_drop_succ]
    have up : ∀ vs x, R w vs x → R _ vs x := hkeep _ g2
    refine Reads.append ⟨?_, fun i x hi => ?_⟩ ⟨?_, fun i x hi => ?_⟩
    · simp only [List.length_take, h0, h3]
      rw [Nat.min_eq_left (by omega), Nat.min_eq_left (by omega)]
    · rw [List.getElem?_take] at hi
      split at hi
      · rename_i hik
        obtain ⟨vs, a, r⟩ := h2.2 i x hi
        refine ⟨vs, fun j hj => ?_, up _ _ r⟩
        have : i * sz + j < k * sz := by
          have : (i + 1) * sz ≤ k * sz := Nat.mul_le_mul_right _ hik
          rw [Nat.add_mul, Nat.one_mul] at this
          omega
        rw [List.getElem?_take_of_lt this]
        exact a j hj
      · cases hi
    · simp only [List.length_drop, h0, h3]
      omega
    · rw [List.getElem?_drop] at hi
      obtain ⟨vs, a, r⟩ := h2.2 _ x hi
      refine ⟨vs, fun j hj => ?_, up _ _ r⟩
      rw [List.getElem?_drop, ← a j hj, Nat.add_mul (k + 1) i sz]
      congr 1
      omega

/-- clear(s), s of one element of sz cells. -/
theorem run_clear_one {P : Program} {w : World} {t e ty : TypeId} {z : Value} (ht : P.underlying t = some (.slice e)) (hv : ∀ w, (zeroValue e).run P w = .ok z w) {b o c sz : Nat} (hs : z.cells.size = sz) (h1 : ∀ u ∈ z.cells.toList, u.oneCell' = true)
    (hc : ∀ j, j < sz → (w.cell? ⟨b, o + j, none⟩).isSome = true ∧ w.frozen? ⟨b, o + j, none⟩ = false) :
    (Builtin.clear_ #[t] ty #[.slice (some ⟨b, o, none⟩) 1 c]).run P w = .ok (.tuple #[]) (w.setCells b o z.cells.toList) := by
  have hzc : (Builtin.zeroCells z.cells 1).toList = z.cells.toList := by
    apply List.ext_getElem
    · simp [Builtin.zeroCells]
    · intro i a1 a2
      simp only [Builtin.zeroCells, Nat.one_mul]
      simp at a2
      simp [Nat.mod_eq_of_lt a2, getElem!_pos z.cells i a2]
  have hst := run_storeCells_cells (P := P) b o z.cells.toList 0 w (by simpa [hs] using fun j hj => (hc j hj).1) (by simpa [hs] using fun j hj => (hc j hj).2) h1
  simp only [Nat.add_zero] at hst
  simp [Builtin.clear_, run_underlying ht, hv, hzc, hst]
end Go.Proofs.Ytadepofaobdbhaa
namespace Go.Proofs.Ytadepofaobdbhaa
open Go.RowKit

set_option maxRecDepth 100000 in
set_option maxHeartbeats 4000000 in
theorem deleteInts_calls {w : World} {B g n cap k : Nat} {xs : List Int} (h : OwnInts w B (.slice (some ⟨g, 0, none⟩) n cap) n xs) (hk : k < n) {k1 : Int} (hk1 : k1 = (k : Int) + 1) :
    Calls Try.prog 185 #[.slice (some ⟨g, 0, none⟩) n cap, .int .i64 k, .int .i64 k1] w fun e w' =>
      e = .returned (.slice (some ⟨g, 0, none⟩) (n - 1) cap) ∧ OwnInts w' B (.slice (some ⟨g, 0, none⟩) (n - 1) cap) (n - 1) (xs.eraseIdx k) ∧ w.grownBy w' (some g) := by
  obtain ⟨i, z, T1, T2, T3, T4, T5⟩ := tyInts.info
  obtain ⟨news, hl, hn, hc, s1, s2, s3, s4, OW, GR⟩ := OwnSl.cut IntR.good h hk [.int .i64 0] rfl (fun _ _ _ _ h => h)
  obtain ⟨A, hA, hsrc⟩ : ∃ A : Addr, (if cap = k + 1 then some (⟨g, 0, none⟩ : Addr) else some ⟨g, k + 1, none⟩) = some A ∧ Hid (∀ t u, news[t]? = some u → w.drew.cell? (A.add t) = some u) := by
    by_cases h : cap = k + 1
    · refine ⟨⟨g, 0, none⟩, by simp [h], fun t u hu => ?_⟩
      have h0 : news.length = 0 := by rw [hl, show n - (k + 1) = 0 by omega, Nat.zero_mul]
      rw [List.length_eq_zero_iff.1 h0] at hu
      simp at hu
    · refine ⟨⟨g, k + 1, none⟩, by simp [h], fun t u hu => ?_⟩
      rw [Addr.add_lit, show (k + 1) + t = (k + 1) * 1 + t by omega]
      exact s1.out t u hu
  obtain ⟨W1, hW⟩ : ∃ W1, Hid (W1 = w.drew.setCells g (0 + k * 1) news) := ⟨_, rfl⟩
  rw [← hW.out] at s4 OW GR
  have HL := hide2 hl
  have e1 := hide2 (show k + (n - (k + 1)) = n - 1 by omega)
  have e2 := hide2 (show n - (n - 1) = 1 by omega)
  have hcl : ∀ ty, (Builtin.clear_ #[41] ty #[.slice (some ⟨g, k + (n - (k + 1)), none⟩) (n - (k + (n - (k + 1)))) (cap - (k + (n - (k + 1))))]).run Try.prog W1 = .ok (.tuple #[]) (W1.setCells g ((n - 1) * 1) [.int .i64 0]) := by
    rw [e1.out, e2.out, Nat.mul_one]
    exact fun ty => run_clear_one (z := .int .i64 0) Try.underlying41 (fun w => by kernel_rfl) (sz := 1) rfl (by simp [Value.cells, Value.oneCell']) (fun j hj => by have := s4.out j hj; rwa [Nat.mul_one] at this)
  have hkc : k ≤ cap := by omega
  have hjc : k + 1 ≤ cap := by omega
  have hjn : k + 1 ≤ n := hk
  have hj1 : (0 : Int) ≤ (k : Int) + 1 := by omega
  have hj2 : (k : Int) + 1 ≤ (n : Int) := by omega
  have hn1 : n - 1 ≤ cap := by omega
  subst hk1
  clear h hl
  go_enter Try.func185, Try.ntmps185
  go_wp2_with fail
  go_region_law (refine step_append_room rfl (.tmp 22) (.tmp 25) 41 rfl 3 i 1 Try.underlying41 T1 T3 g 0 k cap (by simp [Act.eval, Act.put]) A (n - (k + 1)) (cap - (k + 1)) news (by simp [Act.eval, Act.put]) HL.out hsrc.out s2.out (by omega) s3.out ?_; rw [← hW.out])
  go_wp2
  go_ret
  rw [e1.out]
  have OW' := OW.out
  have GR' := GR.out
  rw [Nat.mul_one] at OW' GR'
  exact ⟨rfl, OW', GR'⟩
theorem OwnTranR.good (B : Nat) : Good (OwnTranR B) 3 where
  kept := OwnTranR.kept B
  one := fun w vs x h j hj => TranR.good.one w vs x h.tran j hj
  pos := by omega
set_option maxRecDepth 100000 in
set_option maxHeartbeats 4000000 in
theorem deleteTrans_calls {w : World} {B g n cap k : Nat} {xs : List PTran} (h : OwnSl (OwnTranR B) 3 w B 76 (.slice (some ⟨g, 0, none⟩) n cap) n xs) (hk : k < n) {k1 : Int} (hk1 : k1 = (k : Int) + 1) :
    Calls Try.prog 147 #[.slice (some ⟨g, 0, none⟩) n cap, .int .i64 k, .int .i64 k1] w fun e w' =>
      e = .returned (.slice (some ⟨g, 0, none⟩) (n - 1) cap) ∧ OwnSl (OwnTranR B) 3 w' B 76 (.slice (some ⟨g, 0, none⟩) (n - 1) cap) (n - 1) (xs.eraseIdx k) ∧ w.grownBy w' (some g) := by
  obtain ⟨i, z, T1, T2, T3, T4, T5⟩ := tyTrans.info
  obtain ⟨news, hl, hn, hc, s1, s2, s3, s4, OW, GR⟩ := OwnSl.cut (OwnTranR.good B) h hk [.int .i64 0, .slice none 0 0, .slice none 0 0] rfl (keepTran h)
  obtain ⟨A, hA, hsrc⟩ : ∃ A : Addr, (if cap = k + 1 then some (⟨g, 0, none⟩ : Addr) else some ⟨g, (k + 1) * 3, none⟩) = some A ∧ Hid (∀ t u, news[t]? = some u → w.drew.cell? (A.add t) = some u) := by
    by_cases h : cap = k + 1
    · refine ⟨⟨g, 0, none⟩, by simp [h], fun t u hu => ?_⟩
      have h0 : news.length = 0 := by rw [hl, show n - (k + 1) = 0 by omega, Nat.zero_mul]
      rw [List.length_eq_zero_iff.1 h0] at hu
      simp at hu
    · refine ⟨⟨g, (k + 1) * 3, none⟩, by simp [h], fun t u hu => ?_⟩
      rw [Addr.add_lit]
      exact s1.out t u hu
  obtain ⟨W1, hW⟩ : ∃ W1, Hid (W1 = w.drew.setCells g (0 + k * 3) news) := ⟨_, rfl⟩
  rw [← hW.out] at s4 OW GR
  have HL := hide2 hl
  have e1 := hide2 (show k + (n - (k + 1)) = n - 1 by omega)
  have e2 := hide2 (show n - (n - 1) = 1 by omega)
  have hcl : ∀ ty, (Builtin.clear_ #[22] ty #[.slice (some ⟨g, (k + (n - (k + 1))) * 3, none⟩) (n - (k + (n - (k + 1)))) (cap - (k + (n - (k + 1))))]).run Try.prog W1 = .ok (.tuple #[]) (W1.setCells g ((n - 1) * 3) [.int .i64 0, .slice none 0 0, .slice none 0 0]) := by
    rw [e1.out, e2.out]
    exact fun ty => run_clear_one (z := .agg #[.int .i64 0, .slice none 0 0, .slice none 0 0]) Try.underlying22 (fun w => by kernel_rfl) (sz := 3) rfl (by simp [Value.cells, Value.oneCell']) (fun j hj => by exact s4.out j hj)
  have hkc : k ≤ cap := by omega
  have hjc : k + 1 ≤ cap := by omega
  have hjn : k + 1 ≤ n := hk
  have hj1 : (0 : Int) ≤ (k : Int) + 1 := by omega
  have hj2 : (k : Int) + 1 ≤ (n : Int) := by omega
  have hn1 : n - 1 ≤ cap := by omega
  subst hk1
  clear h hl
  go_enter Try.func147, Try.ntmps147
  go_wp2_with fail
  go_region_law (refine step_append_room rfl (.tmp 22) (.tmp 25) 22 rfl 76 i 3 Try.underlying22 T1 T3 g 0 k cap (by simp [Act.eval, Act.put]) A (n - (k + 1)) (cap - (k + 1)) news (by simp [Act.eval, Act.put]) HL.out hsrc.out s2.out (by omega) s3.out ?_; rw [← hW.out])
  go_wp2
  go_ret
  rw [e1.out]
  have OW' := OW.out
  have GR' := GR.out
  exact ⟨rfl, OW', GR'⟩

theorem OwnSl.form {α : Type} {R : World → (Nat → Value) → α → Prop} {sz : Nat} {w : World} {B e : Nat} {v : Value} {n : Nat} {xs : List α} (h : OwnSl R sz w B e v n xs) (hn : 0 < n) : ∃ g cap, v = .slice (some ⟨g, 0, none⟩) n cap ∧ B ≤ g ∧ g < w.heap.size := by
  obtain ⟨cells, o, _⟩ := h
  exact o.form hn

set_option maxRecDepth 100000 in
theorem without_calls {w : World} {A : Option Addr} {n c k : Nat} {xs : List Int} (h : Ints w A n c xs) (hn : n ≤ 17592186044416) (hk : k < n) :
    Calls Try.prog 148 #[.slice A n c, .int .i64 k] w (AnsOwn IntR 1 3 (n - 1) (xs.eraseIdx k) w) := by
  have CC := hide2 (cloneInts_calls h hn)
  have HK := hide2 hk
  clear h
  go_enter Try.func148, Try.ntmps148
  go_wp2_with ((with_reducible refine CC.out.mono ?_); rintro e w1 ⟨v1, rfl, own, hb⟩)
  obtain ⟨g, cap, hv, hB, _⟩ := own.form (by omega)
  subst hv
  go_wp2_with ((with_reducible refine (deleteInts_calls own HK.out rfl).mono ?_); rintro e w2 ⟨rfl, own2, hg⟩)
  go_ret
  exact ⟨_, rfl, own2, hb.grown hg hb.size (fun k hk => by cases hk; exact hB)⟩
end Go.Proofs.Ytadepofaobdbhaa
