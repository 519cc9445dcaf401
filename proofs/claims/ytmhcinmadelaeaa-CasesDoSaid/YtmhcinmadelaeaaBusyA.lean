/- The contract of the closure wide of cases.Busy. Conditions: the list is no longer than the new one. -/
import Derived.Test.YtmhcinmadelaeaaCaseE
import Derived.Test.YtmhcinmadelaeaaPlainG
import Derived.Laws.CopyOwn
import Derived.Deep.DeepCutAuto
namespace Go.Proofs.Ytmhcinmadelaeaa
open Go.RowKit


theorem own_full {w : World} {B R m : Nat} {us : List Value} (h : w.ownsRow B 3 1 (.slice (some ⟨R, 0, none⟩) m m) m us) : w.heap[R]? = some (.cells us.toArray 3 (0, 0)) := by
  rcases h.2 with ⟨hv, _⟩ | ⟨g, cap, cur, hv, _, hh, _, _, hs, ht⟩
  · cases hv
  · injection hv with h1 h2 h3
    injection h1 with h1
    injection h1 with h1
    subst h1 h3
    have e : cur = us.toArray := by
      apply Array.toList_inj.1
      rw [← ht, List.take_of_length_le (by simp; omega)]
    rw [← e]; exact hh
theorem own_of_full {w : World} {B R m : Nat} {us : List Int} (h : w.heap[R]? = some (.cells (us.map (Value.int .i64)).toArray 3 (0, 0))) (hB : B ≤ R) (hl : us.length = m) (hm : m ≤ maxLen) : OwnInts w B (.slice (some ⟨R, 0, none⟩) m m) m us :=
  OwnInts.of_row ⟨by simp [hl], .inr ⟨R, m, _, rfl, hB, h, Nat.le_refl _, hm, by simp [hl], by simp [hl, List.take_of_length_le]⟩⟩

set_option maxRecDepth 100000 in
theorem widePad_calls {w : World} {A : Option Addr} {n c m b : Nat} {xs : List Int} (q0 : w.cell? ⟨b, 0, none⟩ = some (.int .i64 m)) (h : Ints w A n c xs) (hnm : n ≤ m) (hm : m ≤ 16) :
    Calls Try.prog 118 #[.slice A n c, .int .i64 (-1), .pointer (some ⟨b, 0, none⟩)] w (AnsOwn IntR 1 3 m (padL m xs) w) := by
  have hm63 : m ≤ maxLen := by simp only [maxLen]; omega
  have hl := h.len
  have HL := hide2 hl
  have H := hide2 h
  clear hl h
  go_enter Try.func118, Try.ntmps118
  go_upto_region 2 with (at_make; refine wpList_mk Try.underlying45 infoInt rfl rfl _ _ rfl m rfl rfl rfl rfl (by omega) (by omega) (Below.refl _ _) (Nat.le_refl _) ?_; intro w1 own1 hg1 hb1)
  have H1 := hide2 (Ints.keep H.out hb1)
  have HF := hide2 (own_full own1)
  have HB := hide2 hb1
  obtain ⟨ds, d1, d2, d3, d4, d5⟩ := Sl.flat IntR.good H1.out
  clear own1 hg1 hb1
  have DS : ds = xs.map (Value.int .i64) := by
    apply List.ext_getElem?
    intro j
    cases hx : xs[j]? with
    | none =>
      rw [List.getElem?_map, hx, List.getElem?_eq_none (by have := d5.1; have := List.getElem?_eq_none_iff.1 hx; omega)]; rfl
    | some x =>
      obtain ⟨vs, a, e⟩ := d5.2 j x hx
      have := a 0 (by omega)
      simp only [Nat.mul_one, Nat.add_zero] at this
      rw [this, List.getElem?_map, hx, e]; rfl
  have HD1 := hide2 d1
  have HD2 := hide2 d2
  have HD3 := hide2 d3
  have HD4 := hide2 d4
  have HDS := hide2 DS
  clear d1 d2 d3 d4 d5 DS
  have CN := hide2 (show ds.length = Nat.min n m by rw [HD1.out]; show n * 1 = min n m; omega)
  have CF := hide2 (show 0 + ds.length ≤ (List.replicate m (Value.int .i64 0)).length by rw [HD1.out]; simp; omega)
  have CP := hide2 (show 0 < ds.length → ∃ ad, A = some ad ∧ ∀ j v, ds[j]? = some v → w1.cell? (ad.add j) = some v from fun h0 => by
    cases hA : A with
    | none => have := HD1.out; have := (HD2.out hA).1; omega
    | some ad => exact ⟨ad, rfl, HD3.out ad hA⟩)
  go_wp2_with ((with_reducible show wpList _ _ _ _ _ _); (refine wpList_copy_splice (o := ⟨some 11, _, _, _, _, _⟩) rfl (.tmp 9) (.tmp 10) 45 45 rfl 3 Try.underlying45 (by kernel_rfl) _ _ _ _ _ _ rfl rfl w.heap.size 0 (List.replicate m (.int .i64 0)) 3 HF.out ds CN.out (fun h0 => ⟨rfl, CP.out h0⟩) CF.out HD4.out w.heap.size w HB.out (Nat.le_refl _) ?_; intro w2 hw2 hb2))
  have HW2 := hw2
  clear hw2
  go_ret
  have e : splice (List.replicate m (Value.int .i64 0)) 0 ds = (padL m xs).map (Value.int .i64) := by
    rw [HDS.out, padL, splice]
    simp [HL.out]
  have h2 := HW2.out
  rw [e] at h2
  exact ⟨_, rfl, own_of_full h2 (Nat.le_refl _) (by simp [padL, HL.out]; omega) hm63, hb2⟩

set_option maxRecDepth 100000 in
theorem wideOne_calls {w : World} {m b k : Nat} (q0 : w.cell? ⟨b, 0, none⟩ = some (.int .i64 m)) (hk : k < m) (hm : m ≤ 16) :
    Calls Try.prog 118 #[.slice none 0 0, .int .i64 k, .pointer (some ⟨b, 0, none⟩)] w (AnsOwn IntR 1 3 m (oneL m (k : Int)) w) := by
  have hki : (k : Int) < (m : Int) := by omega
  have hk0 : (0 : Int) ≤ (k : Int) := by omega
  go_enter Try.func118, Try.ntmps118
  go_upto_region 2 with (at_make; refine wpList_mk Try.underlying45 infoInt rfl rfl _ _ rfl m rfl rfl rfl rfl (by omega) (by omega) (Below.refl _ _) (Nat.le_refl _) ?_; intro w1 own1 hg1 hb1)
  have c0 : w1.cell? ⟨w.heap.size, k, none⟩ = some (.int .i64 0) := by rw [own1.cellAt k (by omega)]; simp [hk]
  have cf : w1.frozen? ⟨w.heap.size, k, none⟩ = false := own1.frozenAt k
  have ST := hide2 (own1.stored k (.int .i64 1)).1
  have HB := hide2 hb1
  clear own1 hg1 hb1
  go_wp2_with ((with_reducible show wpList _ _ _ _ _ _); refine wpList_copy_nothing (o := ⟨some 11, _, _, _, _, _⟩) rfl (.tmp 9) (.tmp 10) 45 45 rfl 3 Try.underlying45 (by kernel_rfl) _ _ _ _ _ _ rfl rfl (by simp) ?_)
  go_ret
  have o2 := ST.out
  rw [show (List.replicate m (Value.int .i64 0)).set k (.int .i64 1) = (oneL m (k : Int)).map (Value.int .i64) by rw [← oneL_set, List.map_set, List.map_replicate]] at o2
  exact ⟨_, rfl, OwnInts.of_row o2, HB.out.setCell (Nat.le_refl _) _⟩
end Go.Proofs.Ytmhcinmadelaeaa
