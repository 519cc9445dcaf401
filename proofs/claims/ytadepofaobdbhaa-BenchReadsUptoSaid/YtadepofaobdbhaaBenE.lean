/- The contracts of strings.Cut at one byte, and below it; bytes out of a string. Conditions: none. -/
import Derived.Test.YtadepofaobdbhaaBenA
import Derived.Test.YtadepofaobdbhaaJourD
import Derived.Laws.Externs
import Derived.Lib.Bytealg
import Derived.Lib.ConvBytes
namespace Go.Proofs.Ytadepofaobdbhaa
open Go.RowKit

def cutN : List UInt8 → List UInt8 × List UInt8 × Bool
  | [] => ([], [], false)
  | c :: r => if c = 10 then ([], r, true) else (c :: (cutN r).1, (cutN r).2.1, (cutN r).2.2)
theorem cutN_idx : ∀ s : List UInt8, (Lib.indexByte s 10 = -1 ∧ cutN s = (s, [], false)) ∨ ∃ k : Nat, Lib.indexByte s 10 = (k : Int) ∧ k < s.length ∧ cutN s = (s.take k, s.drop (k + 1), true)
  | [] => .inl ⟨rfl, rfl⟩
  | c :: r => by
    by_cases h : c = 10
    · subst h
      exact .inr ⟨0, by simp [Lib.indexByte], by simp, by simp [cutN]⟩
    · have hb : (c == 10) = false := by simpa using h
      rcases cutN_idx r with ⟨h1, h2⟩ | ⟨k, h1, h2, h3⟩
      · refine .inl ⟨by simp [Lib.indexByte, h1, h], by simp [cutN, h, h2]⟩
      · refine .inr ⟨k + 1, ?_, by simp; omega, by simp [cutN, h, h3]⟩
        simp only [Lib.indexByte, hb, h1]
        have : ((k : Int) == -1) = false := by simp
        simp [this]
theorem cutN_parts : ∀ s : List UInt8, ((cutN s).2.2 = true → s = (cutN s).1 ++ 10 :: (cutN s).2.1) ∧ ((cutN s).2.2 = false → (cutN s).1 = s) ∧ ∀ c ∈ (cutN s).1, c ≠ 10
  | [] => ⟨fun h => (by cases h), fun _ => rfl, fun c hc => (by cases hc)⟩
  | c :: r => by
    by_cases h : c = 10
    · subst h; simp [cutN]
    · obtain ⟨h1, h2, h3⟩ := cutN_parts r
      simp only [cutN, if_neg h]
      refine ⟨fun e => ?_, fun e => ?_, fun x hx => ?_⟩
      · rw [List.cons_append, ← h1 e]
      · rw [h2 e]
      · rcases List.mem_cons.1 hx with rfl | hx
        · exact h
        · exact h3 x hx

theorem idxB_run (s : List UInt8) (w : World) : Sem.run Try.prog (callFunc 225 #[.string ⟨s.toArray⟩, .int .u8 10]) w = .ok (.value (.int .i64 (Lib.indexByte s 10))) w := by
  rw [run_callFunc_extern (fn := Try.f225) (e := Extern.BytealgIndexByte.indexByte) Try.func225 (by kernel_rfl) (by kernel_rfl) (by kernel_rfl) (by kernel_rfl), run_indexByte_string, Lib.firstIdx_eq]
  rfl

set_option maxRecDepth 100000 in
theorem idxByte_calls (s : List UInt8) (w : World) :
    Calls Try.prog 188 #[.string ⟨s.toArray⟩, .int .u8 10] w (fun e w' => e = .returned (.int .i64 (Lib.indexByte s 10)) ∧ w' = w) := by
  have hx := idxB_run s
  generalize Lib.indexByte s 10 = k at *
  go_enter Try.func188, Try.ntmps188
  go_wp2
  go_ret
  exact ⟨rfl, rfl⟩

set_option maxRecDepth 100000 in
theorem index_calls (s : List UInt8) (w : World) :
    Calls Try.prog 155 #[.string ⟨s.toArray⟩, .string ⟨#[10]⟩] w (fun e w' => e = .returned (.int .i64 (Lib.indexByte s 10)) ∧ w' = w) := by
  by_cases hs : s = [10]
  · subst hs
    have he : (([10] : List UInt8) == [10]) = true := rfl
    go_enter Try.func155, Try.ntmps155
    go_wp2
    go_ret
    exact ⟨rfl, rfl⟩
  · have he : (([10] : List UInt8) == s) = false := by simp; exact fun h => hs h.symm
    have CI := hide2 (fun w => idxByte_calls s w)
    generalize Lib.indexByte s 10 = k at *
    go_enter Try.func155, Try.ntmps155
    go_wp2_with (go_at_call 188; refine (CI.out _).mono ?_; rintro e w4 ⟨rfl, rfl⟩)
    go_ret
    exact ⟨rfl, rfl⟩

theorem extr (s : List UInt8) (i j : Nat) : (⟨s.toArray⟩ : ByteArray).extract i j = ⟨((s.take j).drop i).toArray⟩ := by
  apply ByteArray.ext
  apply Array.ext'
  rw [ByteArray.data_extract, Array.toList_extract]
  simp only [List.extract_eq_take_drop, List.drop_take]

set_option maxRecDepth 100000 in
theorem litecut_calls (s : List UInt8) (hs : s.length ≤ 8388608) (w : World) :
    Calls Try.prog 126 #[.string ⟨s.toArray⟩, .string ⟨#[10]⟩] w (fun e w' => e = .returned (.tuple #[.string ⟨(cutN s).1.toArray⟩, .string ⟨(cutN s).2.1.toArray⟩, .bool (cutN s).2.2]) ∧ Below w.heap.size w w') := by
  have CI := hide2 (fun w => index_calls s w)
  rcases cutN_idx s with ⟨h1, h2⟩ | ⟨k, h1, h2, h3⟩
  · rw [h1] at CI
    have H2 := hide2 h2
    clear h1 h2
    go_enter Try.func126, Try.ntmps126
    go_wp2_with (go_at_call 155; (with_reducible refine (CI.out _).mono ?_); rintro e w4 ⟨rfl, rfl⟩)
    go_ret3
    exact ⟨by rw [H2.out]; rfl, Below.refl _ _⟩
  · rw [h1] at CI
    have H3 := hide2 h3
    clear h1 h3
    go_enter Try.func126, Try.ntmps126
    go_wp2_with (go_at_call 155; (with_reducible refine (CI.out _).mono ?_); rintro e w4 ⟨rfl, rfl⟩)
    go_quiet (fail)
    go_wp2
    rw [extr, extr, List.take_length, List.drop_zero]
    go_ret3
    exact ⟨by rw [H3.out]; rfl, belowN _ _⟩

set_option maxRecDepth 100000 in
theorem cut_calls (s : List UInt8) (hs : s.length ≤ 8388608) (w : World) :
    Calls Try.prog 53 #[.string ⟨s.toArray⟩, .string ⟨#[10]⟩] w (fun e w' => e = .returned (.tuple #[.string ⟨(cutN s).1.toArray⟩, .string ⟨(cutN s).2.1.toArray⟩, .bool (cutN s).2.2]) ∧ Below w.heap.size w w') := by
  have CI := hide2 (litecut_calls s hs w)
  obtain ⟨⟨l, r, b⟩, hr⟩ : ∃ x, cutN s = x := ⟨_, rfl⟩
  rw [hr] at CI ⊢
  clear hr
  go_enter Try.func53, Try.ntmps53
  go_wp2_with (go_at_call 126; (with_reducible refine CI.out.mono ?_); rintro e w4 ⟨rfl, hb⟩)
  go_ret3
  exact ⟨rfl, hb⟩

/-- A row of bytes. -/
def BtRow (w : World) (b : Nat) (l : List UInt8) : Prop := ∃ cs fr, w.heap[b]? = some (.cells cs 5 fr) ∧ ∀ (j : Nat) (x : UInt8), l[j]? = some x → cs[j]? = some (.int .u8 (x.toNat : Int))
theorem BtRow.cell {w : World} {b : Nat} {l : List UInt8} (h : BtRow w b l) {j : Nat} {x : UInt8} (hx : l[j]? = some x) : w.cell? ⟨b, j, none⟩ = some (.int .u8 (x.toNat : Int)) := by
  obtain ⟨cs, fr, h1, h2⟩ := h
  rw [cell_of_row _ _ _ _ _ fr h1]
  exact h2 j x hx
theorem BtRow.lt {w : World} {b : Nat} {l : List UInt8} (h : BtRow w b l) : b < w.heap.size := by
  obtain ⟨cs, fr, h1, h2⟩ := h
  exact (Array.getElem?_eq_some_iff.1 h1).1
theorem BtRow.keep {w w' : World} {b : Nat} {l : List UInt8} (h : BtRow w b l) (hb : Below w.heap.size w w') : BtRow w' b l := by
  have hl := h.lt
  obtain ⟨cs, fr, h1, h2⟩ := h
  exact ⟨cs, fr, (hb.block b hl).trans h1, h2⟩
theorem BtRow.grown {α : Type} {R : World → (Nat → Value) → α → Prop} {sz e : Nat} {w w' : World} {b : Nat} {l : List UInt8} (h : BtRow w b l) (hne : e ≠ 5) {B n : Nat} {v : Value} {xs : List α} (own : OwnSl R sz w B e v n xs) (hg : w.grownBy w' v.ownBlock) : BtRow w' b l := by
  have hl := h.lt
  obtain ⟨cs, fr, h1, h2⟩ := h
  refine ⟨cs, fr, (hg.block b hl (fun e => ?_)).trans h1, h2⟩
  obtain ⟨cells, o, _⟩ := own
  rcases o.2 with ⟨rfl, _⟩ | ⟨g, cap, cur, rfl, _, hh, _⟩
  · cases e
  · injection e with e
    subst e
    rw [hh] at h1
    injection h1 with h1
    injection h1 with _ ht
    exact absurd ht hne

/-- Bytes out of a string. -/
theorem conv_run (l : List UInt8) (w : World) : ∃ c w', (convert 9 82 (.string ⟨l.toArray⟩)).run Try.prog w = .ok (.slice (some ⟨w.heap.size, 0, none⟩) l.length c) w' ∧ BtRow w' w.heap.size l ∧ Below w.heap.size w w' := by
  refine ⟨_, _, Lib.run_convert_string_bytes w 9 82 5 ⟨l.toArray⟩ Try.underlying9 Try.underlying82 Try.underlying5, ⟨_, _, Lib.bytesWorld_at_new _ _ _, fun j x hj => ?_⟩, ?_⟩
  · obtain ⟨hlt, rfl⟩ := List.getElem?_eq_some_iff.1 hj
    unfold Lib.bytesCells
    rw [Array.getElem?_append_left (by simpa using hlt)]
    simp [hlt]
  · refine ⟨?_, ?_, ?_, by rw [Lib.bytesWorld_size]; omega, fun k hk => Lib.bytesWorld_at_old _ _ _ _ hk⟩
    all_goals (unfold Lib.bytesWorld World.freeze; split <;> rfl)
theorem num_wrap' (x : UInt8) (h : letB x = true) : IntKind.i64.wrap (x.toNat : Int) = (x.toNat : Int) ∧ IntKind.i64.wrap ((x.toNat : Int) - 96) = (x.toNat : Int) - 96 ∧ (x.toNat : Int) - 96 = numB x ∧ ¬ (x.toNat : Int) < 97 ∧ ¬ 122 < (x.toNat : Int) := by
  unfold letB at h
  simp only [Bool.and_eq_true, decide_eq_true_eq] at h
  refine ⟨?_, ?_, rfl, by omega, by omega⟩
  · rw [IntKind.wrap_i64]; omega
  · rw [IntKind.wrap_i64]; omega
theorem num_wrap (x : UInt8) (h : letB x = true) : IntKind.u8.wrap ((x.toNat : Int) - 97) = (x.toNat : Int) - 97 ∧ IntKind.i64.wrap ((x.toNat : Int) - 97) = (x.toNat : Int) - 97 ∧ (x.toNat : Int) - 97 + 1 = numB x ∧ ¬ (x.toNat : Int) < 97 ∧ ¬ 122 < (x.toNat : Int) := by
  unfold letB at h
  simp only [Bool.and_eq_true, decide_eq_true_eq] at h
  refine ⟨?_, ?_, by unfold numB; omega, by omega, by omega⟩
  · simp [IntKind.wrap, go_sem]; omega
  · rw [IntKind.wrap_i64]; omega
end Go.Proofs.Ytadepofaobdbhaa
