/- The contracts of strings.SplitAfter and CutSuffix at a line's end. Conditions: the text has at most a million letters; the tables lie as they were laid. -/
import Derived.Test.YtcgdjpelcfofgaaDoorTextTellsK31
import Derived.Test.YtcgdjpelcfofgaaDoorTextTellsK33
import Derived.Test.YtcgdjpelcfofgaaDoorTextTellsK34
set_option linter.all false
namespace Go.Proofs.YtcgdjpelcfofgaaDoor
open Go.RowKit

/-- The text's pieces, each with its line's end; what is left behind the last one. -/
def pieces (s : List UInt8) : List (List UInt8) := (linesT s).1.map (fun l => l ++ [10]) ++ [(linesT s).2]
theorem lines_count (s : List UInt8) : (linesT s).1.length = s.count 10 := by
  induction s with
  | nil => rfl
  | cons c s ih =>
    rw [linesT]
    by_cases h : c = 10
    · rw [if_pos h, h, List.count_cons_self, List.length_cons, ih]
    · rw [if_neg h, List.count_cons_of_ne (by simpa using h), ← ih]
      split
      · rename_i e; rw [e]
      · rename_i e; rw [e, List.length_cons, List.length_cons]
theorem splitK_pieces : ∀ (n : Nat) (s : List UInt8), s.length ≤ n → ∀ k, (linesT s).1.length ≤ k → Lib.splitK [10] 1 k s = pieces s := by
  intro n
  induction n with
  | zero =>
    intro s hs k hk
    have : s = [] := List.eq_nil_of_length_eq_zero (by omega)
    subst this
    cases k with
    | zero => rfl
    | succ k => rfl
  | succ n ih =>
    intro s hs k hk
    by_cases h : s.dropWhile ne10 = []
    · have e := line_no h
      have hno : Lib.index s [10] = -1 := index_not (fun c hc => by
        have e2 := List.takeWhile_append_dropWhile (p := ne10) (l := s)
        rw [h, List.append_nil] at e2
        rw [← e2] at hc
        have := line_all s c hc
        unfold ne10 at this
        simpa using this)
      unfold pieces
      rw [e]
      cases k with
      | zero => rfl
      | succ k => rw [Lib.splitK, hno, if_pos (by decide)]; rfl
    · obtain ⟨h1, h2⟩ := line_yes h
      have e2 := List.takeWhile_append_dropWhile (p := ne10) (l := s)
      rw [h2] at hk
      simp only [List.length_cons] at hk
      obtain ⟨k, rfl⟩ : ∃ j, k = j + 1 := ⟨k - 1, by omega⟩
      have hix : Lib.index s [10] = ((s.takeWhile ne10).length : Int) := by
        have := index_one (d := s.takeWhile ne10) (e := s.drop ((s.takeWhile ne10).length + 1)) (b := 10) (fun c hc => by have := line_all s c hc; unfold ne10 at this; simpa using this)
        rw [← h1, e2] at this
        exact this
      have ht : s.take ((s.takeWhile ne10).length + 1) = s.takeWhile ne10 ++ [10] := by
        have e3 := congrArg (List.take ((s.takeWhile ne10).length + 1)) e2
        rw [h1, List.take_append] at e3
        rw [← e3, List.take_of_length_le (by omega), show (s.takeWhile ne10).length + 1 - (s.takeWhile ne10).length = 1 by omega]
        rfl
      rw [Lib.splitK, hix, if_neg (by simp only [beq_iff_eq]; omega), Int.toNat_natCast, ht]
      rw [show [(10 : UInt8)].length = 1 from rfl, ih (s.drop ((s.takeWhile ne10).length + 1)) (by rw [List.length_drop]; omega) k (by omega)]
      unfold pieces
      rw [h2]
      rfl
theorem pieces_len (s : List UInt8) : (pieces s).length = (linesT s).1.length + 1 := by unfold pieces; simp
theorem pieces_line {s : List UInt8} {i : Nat} {l : List UInt8} (h : (linesT s).1[i]? = some l) : (pieces s)[i]? = some (l ++ [10]) := by
  unfold pieces
  rw [List.getElem?_append_left (by rw [List.length_map]; exact (List.getElem?_eq_some_iff.1 h).1), List.getElem?_map, h]
  rfl
theorem pieces_tail (s : List UInt8) : (pieces s)[(linesT s).1.length]? = some (linesT s).2 := by
  unfold pieces
  rw [List.getElem?_append_right (by rw [List.length_map]; exact Nat.le_refl _), List.length_map, Nat.sub_self]
  rfl
theorem linesT_sum : ∀ (s : List UInt8), (∀ l ∈ (linesT s).1, l.length ≤ s.length ∧ ∀ c ∈ l, c ≠ 10) ∧ (linesT s).2.length ≤ s.length ∧ ∀ c ∈ (linesT s).2, c ≠ 10
  | [] => ⟨fun l hl => (by cases hl), Nat.le_refl _, fun c hc => (by cases hc)⟩
  | x :: s => by
    obtain ⟨h1, h2, h3⟩ := linesT_sum s
    rw [linesT]
    by_cases h : x = 10
    · rw [if_pos h]
      refine ⟨fun l hl => ?_, by simp; omega, h3⟩
      rcases List.mem_cons.1 hl with rfl | hl
      · exact ⟨Nat.zero_le _, fun c hc => (by cases hc)⟩
      · exact ⟨by have := (h1 l hl).1; simp; omega, (h1 l hl).2⟩
    · rw [if_neg h]
      split
      · refine ⟨fun l hl => (by cases hl), (by simp; omega), fun c hc => ?_⟩
        rcases List.mem_cons.1 hc with rfl | hc
        · exact h
        · exact h3 c hc
      · rename_i l0 ls e
        refine ⟨fun l hl => ?_, by simp; omega, h3⟩
        rcases List.mem_cons.1 hl with rfl | hl
        · have := h1 l0 (by rw [e]; simp)
          refine ⟨by simp; omega, fun c hc => ?_⟩
          rcases List.mem_cons.1 hc with rfl | hc
          · exact h
          · exact this.2 c hc
        · have := h1 l (by rw [e]; simp [hl])
          exact ⟨by simp; omega, this.2⟩

set_option maxRecDepth 100000 in
theorem splitAfter_calls {w : World} {B : Nat} {s : List UInt8} (hs : s.length ≤ 1100000) (T : Tabs B w) :
    Calls Tryd.prog 16 #[.string ⟨s.toArray⟩, .string ⟨#[10]⟩] w fun e w' => ∃ A, e = .returned (.slice (some ⟨A, 0, none⟩) (pieces s).length (pieces s).length) ∧ w.heap.size ≤ A ∧ A < w'.heap.size ∧ (∀ (i : Nat) f, (pieces s)[i]? = some f → w'.cell? ⟨A, i, none⟩ = some (.string ⟨f.toArray⟩)) ∧ Below w.heap.size w w' := by
  obtain ⟨_, _, _, _, _, m, hm⟩ := T.now
  have hcount : Lib.countB ⟨s.toArray⟩ ⟨#[10]⟩ = (linesT s).1.length := by
    show Lib.count s [10] = _
    rw [Lib.count_one, lines_count]
  have hle : (linesT s).1.length ≤ s.length := by rw [lines_count]; exact List.count_le_length
  have hsp : (Lib.splitB ⟨#[10]⟩ 1 ((linesT s).1.length) ⟨s.toArray⟩).map (·.data.toList) = pieces s := by
    rw [Lib.splitB_data]
    exact splitK_pieces s.length s (Nat.le_refl _) _ (Nat.le_refl _)
  have hlen : (Lib.splitB ⟨#[10]⟩ 1 ((linesT s).1.length) ⟨s.toArray⟩).length = (pieces s).length := by
    have := congrArg List.length hsp
    rwa [List.length_map] at this
  have C : Hid (Calls Tryd.prog 35 #[.string ⟨s.toArray⟩, .string ⟨#[10]⟩, .int .i64 1, .int .i64 (-1)] w fun e w' => e = .returned (.slice (some ⟨w.heap.size, 0, none⟩) ((linesT s).1.length + 1) ((linesT s).1.length + 1)) ∧ w' = w.alloc (.cells (Lib.cellsOf (Lib.splitB ⟨#[10]⟩ 1 (linesT s).1.length ⟨s.toArray⟩) ((linesT s).1.length + 1)) 9)) := by
    have c := strings_genSplit ⟨s.toArray⟩ ⟨#[10]⟩ 1 (-1) ((linesT s).1.length + 1) m w (by show s.length < _; omega) hm (by decide) (by decide) (by decide) (by decide) (by rw [if_pos (by decide), hcount]; show _ = min _ ((s.length : Int) + 1); omega)
    rw [Nat.add_sub_cancel, hlen, pieces_len] at c
    exact c
  have HS := hide2 (And.intro hsp (And.intro hlen hle))
  clear hcount hle hsp hlen hm T
  go_enter Tryd.func16, Tryd.ntmps16
  go_wp2_with (go_at_call 35; (with_reducible refine C.out.mono ?_); rintro e1 w1 ⟨rfl, hw⟩; have W1 := hide2 hw; clear hw)
  go_ret
  refine ⟨w.heap.size, by rw [pieces_len]; rfl, Nat.le_refl _, by rw [W1.out, World.size_alloc]; omega, fun i f hf => ?_, by rw [W1.out]; exact (Below.refl _ _).alloc (Nat.le_refl _) _⟩
  rw [W1.out, cell_of_row _ _ _ _ _ (0, 0) (heap_alloc_new w _)]
  rw [← HS.out.1, List.getElem?_map] at hf
  obtain ⟨bs, hb, rfl⟩ := Option.map_eq_some_iff.1 hf
  unfold Lib.cellsOf
  rw [List.getElem?_toArray, List.getElem?_append_left (by rw [List.length_map]; exact (List.getElem?_eq_some_iff.1 hb).1), List.getElem?_map, hb]
  rfl
theorem suffix_yes (l : List UInt8) : Lib.hasSuffix (l ++ [10]) [10] = true ∧ Lib.trimSuffix (l ++ [10]) [10] = l := by
  have h : Lib.hasSuffix (l ++ [10]) [10] = true := by
    unfold Lib.hasSuffix
    rw [List.isSuffixOf_iff_suffix]
    exact List.suffix_append _ _
  refine ⟨h, ?_⟩
  unfold Lib.trimSuffix
  rw [if_pos h, List.length_append]
  simp
theorem suffix_no {l : List UInt8} (h : ∀ c ∈ l, c ≠ 10) : Lib.hasSuffix l [10] = false ∧ Lib.trimSuffix l [10] = l := by
  have h1 : Lib.hasSuffix l [10] = false := by
    cases hh : Lib.hasSuffix l [10] with
    | false => rfl
    | true =>
      unfold Lib.hasSuffix at hh
      rw [List.isSuffixOf_iff_suffix] at hh
      obtain ⟨t, rfl⟩ := hh
      exact absurd rfl (h 10 (by simp))
  refine ⟨h1, ?_⟩
  unfold Lib.trimSuffix
  rw [if_neg (by rw [h1]; decide)]
theorem cutSuf_calls {w : World} {s : List UInt8} (hs : s.length ≤ 2000000) : Calls Tryd.prog 18 #[.string ⟨s.toArray⟩, .string ⟨#[10]⟩] w fun e w' => e = .returned (.tuple #[.string ⟨(Lib.trimSuffix s [10]).toArray⟩, .bool (Lib.hasSuffix s [10])]) ∧ w' = w :=
  strings_CutSuffix ⟨s.toArray⟩ ⟨#[10]⟩ w (by show s.length ≤ _; omega)
set_option maxRecDepth 100000 in
theorem txtNo_calls {w : World} (k : Int) : Calls Tryd.prog 17 #[.int .i64 k] w fun e w' => e = .returned (.tuple #[.agg #[.int .i64 0, .slice none 0 0], .int .i64 k, .int .i64 1]) ∧ Below w.heap.size w w' := by
  go_enter Tryd.func17, Tryd.ntmps17
  go_wp2
  obtain ⟨y0, y1⟩ := Box.two (Box.new w #[.int .i64 0, .slice none 0 0] 24)
  exact bodyPost_ret (v := .tuple #[.agg #[.int .i64 0, .slice none 0 0], .int .i64 k, .int .i64 1]) (by simp [results, Tryd.results17, go_sem, y0, y1]) rfl ⟨rfl, (Below.refl _ _).alloc (Nat.le_refl _) _⟩
end Go.Proofs.YtcgdjpelcfofgaaDoor
