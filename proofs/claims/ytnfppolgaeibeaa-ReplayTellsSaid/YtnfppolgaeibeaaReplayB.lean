/- The contracts of the library's Index and Contains on integers, of replay.plain and of the test of Replay. Conditions: the slices read as lists; at most 24 transitions. -/
import Derived.Test.YtnfppolgaeibeaaReplayA
import Derived.Test.YtnfppolgaeibeaaContI
namespace Go.Proofs.Ytnfppolgaeibeaa
open Go.RowKit

/-- So far no two are alike, and each is seen. -/
def plainTo (ts : List PTran) (k : Nat) : Prop := ∀ j, j < k → ∀ t, ts[j]? = some t → t.label ≠ 0 ∧ (ts.take j).any (fun u => u.label == t.label) = false
theorem plainB_of (ts : List PTran) (h : plainTo ts ts.length) : plainB ts = true := by
  unfold plainB
  simp only [List.all_eq_true, List.mem_range]
  intro k hk
  rw [List.getElem?_eq_getElem hk]
  obtain ⟨h1, h2⟩ := h k hk _ (List.getElem?_eq_getElem hk)
  simp only [bne_iff_ne, ne_eq, Bool.and_eq_true, Bool.not_eq_true', h2, and_true]
  simpa using h1
theorem plainB_not {ts : List PTran} {k : Nat} {t : PTran} (ht : ts[k]? = some t) (h : t.label = 0 ∨ (ts.take k).any (fun u => u.label == t.label) = true) : plainB ts = false := by
  have hk : k < ts.length := (List.getElem?_eq_some_iff.1 ht).1
  rw [Bool.eq_false_iff]
  intro hb
  unfold plainB at hb
  simp only [List.all_eq_true, List.mem_range] at hb
  have := hb k hk
  rw [ht] at this
  simp only [bne_iff_ne, ne_eq, Bool.and_eq_true, Bool.not_eq_true'] at this
  rcases h with h | h
  · exact this.1 h
  · rw [h] at this; exact absurd this.2 (by simp)
theorem plainTo_succ {ts : List PTran} {k : Nat} {t : PTran} (h : plainTo ts k) (ht : ts[k]? = some t) (h1 : t.label ≠ 0) (h2 : (ts.take k).any (fun u => u.label == t.label) = false) : plainTo ts (k + 1) := by
  intro j hj u hu
  by_cases hjk : j = k
  · subst hjk
    rw [ht] at hu
    injection hu with hu
    rw [← hu]
    exact ⟨h1, h2⟩
  · exact h j (by omega) u hu
theorem labels_any (l : List PTran) (x : Int) : (l.map PTran.label).any (fun y => x == y) = l.any (fun u => u.label == x) := by
  rw [List.any_map]
  congr 1
  funext u
  simp [Function.comp, Bool.beq_eq_decide_eq, eq_comm]

set_option maxRecDepth 100000 in
set_option maxHeartbeats 2000000 in
theorem plain_calls {w : World} {P : Int} {A : Option Addr} {n c : Nat} {ts : List PTran} (h : Trans w A n c ts) (hn : n ≤ 24) :
    Calls Try.prog 55 #[.agg #[.int .i64 P, .slice A n c]] w fun e w' => e = .returned (.bool (plainB ts)) ∧ Below w.heap.size w w' := by
  have H := hide2 h
  have HL := hide2 h.len
  have HB := hide2 (boxBelow w (.cells #[.int .i64 P, .slice A n c] 27))
  clear h
  go_enter Try.func55, Try.ntmps55
  go_wp2
  go_loopw [3, 9] (fun u v wr => ∃ k : Nat, k ≤ n ∧ v = .int .i64 k ∧ Hid (OwnInts wr w.heap.size u k ((ts.take k).map PTran.label)) ∧ Hid (plainTo ts k) ∧ Hid (Below w.heap.size w wr)) (fun _ v _ => n - (intOf v).toNat)
  case atStart => exact ⟨0, Nat.zero_le _, rfl, OwnSl.nil, fun j hj => absurd hj (by omega), HB⟩
  case round =>
    rename_i u v wr
    obtain ⟨k, hk, rfl, OW, PL, D⟩ := hrel
    by_cases hlt : k < n
    · have hki : (k : Int) < (n : Int) := by omega
      obtain ⟨bl, off, t, A1, n1, c1, A2, n2, c2, rfl, hbl, ht, q0, q1, q2, i1, i2, _, _⟩ := Trans.get (H.out.keep D.out) hlt
      have bb := boxBelow wr (.cells #[.int .i64 t.label, .slice A1 n1 c1, .slice A2 n2 c2] 78)
      have OW1 := hide2 (OW.out.keep IntR.kept bb)
      have D1 := hide2 (D.out.trans (bb.mono D.out.size))
      obtain ⟨AL, cL, hv, iL⟩ := OW1.out.sl (by omega)
      have IL := hide2 iL
      have CT := hide2 (containsInt_calls t.label IL.out)
      rw [labels_any] at CT
      have ST := hide2 (show (ts.take (k + 1)).map PTran.label = (ts.take k).map PTran.label ++ [t.label] by rw [take_snoc ht.out, List.map_append]; rfl)
      clear i1 i2 bb iL
      subst hv
      by_cases hz : t.label = 0
      · have FN := hide2 (plainB_not ht.out (.inl hz))
        have hzz : (t.label == 0) = true := by simpa using hz
        clear hz
        go_wp2
        go_ret
        exact ⟨ret_bool FN.out.symm, D1.out⟩
      · have hne : (t.label == 0) = false := by simpa using hz
        have HZ := hide2 hz
        clear hz
        cases hany : (ts.take k).any (fun u => u.label == t.label)
        · have HA := hide2 hany
          rw [hany] at CT
          clear hany
          go_wp2_with (first
            | (refine CT.out.mono ?_; rintro e w' ⟨rfl, rfl⟩)
            | (at_builtin; refine wpList_appInt rfl _ _ rfl rfl rfl (by first | rfl | simp) OW1.out D1.out D1.out.size (by omega) ?_; intro v2 w2 own2' hg2 hb2'; have own2 := hide2 own2'; have hb2 := hide2 hb2'; clear own2' hg2 hb2'))
          go_roundw
          case rel => exact ⟨k + 1, by omega, by go_num, by rw [ST.out]; exact own2, plainTo_succ PL.out ht.out HZ.out HA.out, hb2⟩
          case measure => simp [intOf]; omega
        · have FN := hide2 (plainB_not ht.out (.inr hany))
          rw [hany] at CT
          clear hany
          go_wp2_with (refine CT.out.mono ?_; rintro e w' ⟨rfl, rfl⟩)
          go_ret
          exact ⟨ret_bool FN.out.symm, D1.out⟩
    · obtain rfl : k = n := by omega
      have FN := hide2 (plainB_of ts (by rw [HL.out]; exact PL.out))
      go_wp2
      go_ret
      exact ⟨ret_bool FN.out.symm, D.out⟩

/-- The test of Replay: is this its label? -/
theorem label_pred {w : World} {ts : List PTran} {ba : Nat} {a : Int} (c : Box w ba 3 #[.int .i64 a]) :
    IsPredS 58 #[.pointer (some ⟨ba, 0, none⟩)] w ts (fun t => t.label == a) where
  enters := fun args w => by kernel_rfl
  calls := fun wr t A1 n1 d1 A2 n2 d2 hb ht i1 i2 => by
    have bb := boxBelow wr (.cells #[.int .i64 t.label, .slice A1 n1 d1, .slice A2 n2 d2] 78)
    have y1 := ((c.keep hb).old (.cells #[.int .i64 t.label, .slice A1 n1 d1, .slice A2 n2 d2] 78)).cell 0
    simp only [List.getElem?_toArray, List.getElem?_cons_zero] at y1
    have BB := hide2 bb
    clear hb ht i1 i2 c bb
    show Calls Try.prog 58 #[.agg #[.int .i64 t.label, .slice A1 n1 d1, .slice A2 n2 d2], .pointer (some ⟨ba, 0, none⟩)] wr _
    go_enter Try.func58, Try.ntmps58
    go_wp2
    go_ret
    exact ⟨ret_bool (by first | rfl | simp [Bool.beq_eq_decide_eq]), BB.out⟩
end Go.Proofs.Ytnfppolgaeibeaa
