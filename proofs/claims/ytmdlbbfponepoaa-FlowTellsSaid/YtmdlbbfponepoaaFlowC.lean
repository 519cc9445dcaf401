/- Contracts of flow.Count and of the reference's CCount. Conditions: the net's transitions and the sequence read as lists; as many transitions as memory bears. -/
import Derived.Test.YtmdlbbfponepoaaFlowB
import Derived.Test.YtmdlbbfponepoaaNetJ
namespace Go.Proofs.Ytmdlbbfponepoaa
open Go.RowKit

theorem set_range {α : Type} {n k : Nat} {f f' : Nat → α} (h : ∀ j, j ≠ k → f' j = f j) : ((List.range n).map f).set k (f' k) = (List.range n).map f' := by
  apply List.ext_getElem (by simp)
  intro i h1 h2
  by_cases hik : k = i
  · subst hik; simp
  · rw [List.getElem_set_ne hik]; simp [h i (Ne.symm hik)]

set_option maxRecDepth 100000 in
theorem count_calls {w : World} {P : Int} {A S : Option Addr} {n c l e0 : Nat} {seq : List Int} (hn : n ≤ 2513169434916) (s : Ints w S l e0 seq) :
    Calls Try.prog 14 #[.agg #[.int .i64 P, .slice A n c], .slice S l e0] w (AnsI n (countL n seq) w) := by
  have HB := hide2 (boxBelow w)
  have hl := s.small
  have SS := hide2 s
  have SL := hide2 s.len
  clear s
  go_enter Try.func14, Try.ntmps14
  go_wp2_with (at_make; refine wpList_mk Try.underlying25 infoInt rfl rfl _ _ rfl n rfl rfl rfl rfl (by omega) (by omega) (HB.out _) (by simp) ?_; intro w1 own1 hg1 hb1)
  have sz1 : (w.alloc (.cells #[.int .i64 P, .slice A n c] 24)).heap.size = w.heap.size + 1 := by simp
  rw [sz1] at own1
  have OW1 : Hid (w1.ownsRow w.heap.size 3 1 (.slice (some ⟨w.heap.size + 1, 0, none⟩) n n) n ((List.range n).map (fun (p : Nat) => Value.int .i64 (timesL (seq.take 0) (p : Int) : Nat)))) := by
    have e : (List.range n).map (fun (p : Nat) => Value.int .i64 (timesL (seq.take 0) (p : Int) : Nat)) = List.replicate n (Value.int .i64 0) := by
      apply List.ext_getElem (by simp)
      intro i h1 h2
      simp [timesL]
    show World.ownsRow _ _ _ _ _ _ _
    rw [e]; exact own1
  have B1 := hide2 hb1
  clear own1 hg1 hb1 sz1
  go_loopw [14] (fun i wr => ∃ k : Nat, k ≤ l ∧ i = .int .i64 k ∧ Hid (wr.ownsRow w.heap.size 3 1 (.slice (some ⟨w.heap.size + 1, 0, none⟩) n n) n ((List.range n).map (fun (p : Nat) => Value.int .i64 (timesL (seq.take k) (p : Int) : Nat)))) ∧ Hid (Below w.heap.size w wr)) (fun i _ => l - (intOf i).toNat)
  case atStart => exact ⟨0, Nat.zero_le _, rfl, OW1, B1⟩
  case round =>
    obtain ⟨k, hk, rfl, own, hb⟩ := hrel
    by_cases hlt : k < l
    · obtain ⟨b, off, x, rfl, hbl, hx, hc⟩ := SS.out.get hlt
      have hc' := (hb.out.cell (p := ⟨b, off + k, none⟩) hbl).trans hc
      have hkl : (k : Int) < (l : Int) := by omega
      have ST : ∀ j, timesL (seq.take (k + 1)) j = timesL (seq.take k) j + (if x = j then 1 else 0) := fun j => by rw [take_snoc hx.out, timesL_snoc]
      have HST := hide2 ST
      clear hc ST
      by_cases hin : 0 ≤ x ∧ x < (n : Int)
      · obtain ⟨q, rfl⟩ : ∃ q : Nat, x = (q : Int) := ⟨x.toNat, by omega⟩
        have hqn : q < n := by omega
        have hqi : (q : Int) < (n : Int) := by omega
        have hq0 : (0 : Int) ≤ (q : Int) := by omega
        have hqk : timesL (seq.take k) (q : Int) ≤ 281474976710656 := by have := timesL_le (seq.take k) (q : Int); rw [List.length_take] at this; omega
        obtain ⟨z, hz⟩ : ∃ z, timesL (seq.take k) (q : Int) = z := ⟨_, rfl⟩
        have hcell : wr.cell? ⟨w.heap.size + 1, q, none⟩ = some (.int .i64 (z : Int)) := by
          rw [own.out.cellAt q (by omega)]
          simp [hqn, hz]
        have hfz : wr.frozen? ⟨w.heap.size + 1, q, none⟩ = false := own.out.frozenAt q
        have hst := own.out.stored q (.int .i64 ((z : Int) + 1))
        have HS : Hid ((wr.setCell ⟨w.heap.size + 1, q, none⟩ (.int .i64 ((z : Int) + 1))).ownsRow w.heap.size 3 1 (.slice (some ⟨w.heap.size + 1, 0, none⟩) n n) n ((List.range n).map (fun (p : Nat) => Value.int .i64 (timesL (seq.take (k + 1)) (p : Int) : Nat)))) := by
          have := hst.1
          have e := set_range (n := n) (k := q) (f := fun (p : Nat) => Value.int .i64 (timesL (seq.take k) (p : Int) : Nat)) (f' := fun (p : Nat) => Value.int .i64 (timesL (seq.take (k + 1)) (p : Int) : Nat)) (fun j hj => by
            show Value.int .i64 _ = Value.int .i64 _
            rw [HST.out, if_neg (by omega)]; rfl)
          show World.ownsRow _ _ _ _ _ _ _
          rw [← e]
          have e2 : (timesL (seq.take (k + 1)) (q : Int) : Int) = (z : Int) + 1 := by rw [HST.out, if_pos rfl, hz]; rfl
          rw [e2]
          exact this
        have hz' : z ≤ 281474976710656 := by omega
        clear hst own hz hqk hin
        go_wp2
        go_roundw
        case rel => exact ⟨k + 1, by omega, by go_num, HS, hb.out.setCell (by simp) _⟩
        case measure => simp [intOf]; omega
      · have HS : Hid (wr.ownsRow w.heap.size 3 1 (.slice (some ⟨w.heap.size + 1, 0, none⟩) n n) n ((List.range n).map (fun (p : Nat) => Value.int .i64 (timesL (seq.take (k + 1)) (p : Int) : Nat)))) := by
          have e : (List.range n).map (fun (p : Nat) => Value.int .i64 (timesL (seq.take (k + 1)) (p : Int) : Nat)) = (List.range n).map (fun (p : Nat) => Value.int .i64 (timesL (seq.take k) (p : Int) : Nat)) := by
            apply List.map_congr_left
            intro p hp
            rw [HST.out, if_neg (by have := List.mem_range.1 hp; omega)]; rfl
          show World.ownsRow _ _ _ _ _ _ _
          rw [e]; exact own.out
        clear own
        by_cases h0 : 0 ≤ x
        · have h1 : (n : Int) ≤ x := by omega
          clear hin
          go_wp2
          go_roundw
          case rel => exact ⟨k + 1, by omega, by go_num, HS, hb⟩
          case measure => simp [intOf]; omega
        · clear hin
          go_wp2
          go_roundw
          case rel => exact ⟨k + 1, by omega, by go_num, HS, hb⟩
          case measure => simp [intOf]; omega
    · obtain rfl : k = l := by omega
      have OW := hide2 own.out
      clear own
      go_wp2
      go_ret
      have o2 := OW.out
      have e : (List.range n).map (fun (p : Nat) => Value.int .i64 (timesL (seq.take k) (p : Int) : Nat)) = (countL n seq).map (Value.int .i64) := by
        rw [List.take_of_length_le (by rw [SL.out]; omega), countL, List.map_map]; rfl
      rw [e] at o2
      obtain ⟨C, cc, hv, hi⟩ := Ints.of_own o2 (by omega)
      exact ⟨C, cc, by rw [← hv]; rfl, hi, hb.out⟩
end Go.Proofs.Ytmdlbbfponepoaa
