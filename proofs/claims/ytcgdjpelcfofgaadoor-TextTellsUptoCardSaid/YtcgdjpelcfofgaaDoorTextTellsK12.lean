/- The contracts of the writing of a line: the program's. Conditions: weights of at most nine, at most sixteen places, a label of at most twenty-six. -/
import Derived.Test.YtcgdjpelcfofgaaDoorTextTellsK07
import Derived.Test.YtcgdjpelcfofgaaDoorTextTellsK09
import Derived.Test.YtcgdjpelcfofgaaDoorTextTellsK11
import Derived.Lib.AppendStr
import Derived.Deep.DeepCutAuto
import Derived.Deep.RegionHeld3
set_option linter.all false
namespace Go.Proofs.YtcgdjpelcfofgaaDoor
open Go.RowKit

theorem cat2 (a b : List UInt8) : (⟨a.toArray⟩ : ByteArray) ++ ⟨b.toArray⟩ = ⟨(a ++ b).toArray⟩ := by
  apply ByteArray.ext
  simp [ByteArray.data_append]
theorem dec_len {k : Nat} (h : k < 100) : (Lib.decDigits k).length ≤ 2 := by
  by_cases h1 : k < 10
  · rw [Lib.decDigits_one h1]; simp
  · rw [Lib.decDigits_two h1 h]; simp
theorem oneT_len {p : Nat} {n : Int} (hp : p < 100) (h9 : n ≤ 9) : (oneT p n).length ≤ 6 := by
  unfold oneT
  have h1 := dec_len hp
  split
  · simp
  · split
    · have h2 := dec_len (k := n.toNat) (by omega)
      simp only [List.length_cons, List.length_append]
      omega
    · simp only [List.length_cons]
      omega
theorem sideT_len : ∀ (w : List Int) (p : Nat), p + w.length ≤ 100 → (∀ x ∈ w, x ≤ 9) → (sideT p w).length ≤ 6 * w.length
  | [], _, _, _ => Nat.le_refl _
  | n :: w, p, hp, h => by
    have ih := sideT_len w (p + 1) (by simp at hp; omega) (fun x hx => h x (by simp [hx]))
    have h1 := oneT_len (p := p) (n := n) (by simp at hp; omega) (h n (by simp))
    rw [sideT, List.length_append, List.length_cons]
    omega
theorem sideT_snoc {xs : List Int} {i : Nat} {x : Int} (hx : xs[i]? = some x) : sideT 0 (xs.take (i + 1)) = sideT 0 (xs.take i) ++ oneT i x := by
  have hl : i < xs.length := (List.getElem?_eq_some_iff.1 hx).1
  rw [List.take_add_one, hx, sideT_append, List.length_take, Nat.min_eq_left (by omega), Nat.zero_add]
  simp [sideT]

set_option maxRecDepth 100000 in
theorem label_calls (w : World) (l : Int) (h0 : 0 ≤ l) (h1 : l ≤ 26) : Calls Tryd.prog 32 #[.int .i64 l] w fun e w' => e = .returned (.string ⟨(labT l).toArray⟩) ∧ w' = w := by
  have : l = 0 ∨ l = 1 ∨ l = 2 ∨ l = 3 ∨ l = 4 ∨ l = 5 ∨ l = 6 ∨ l = 7 ∨ l = 8 ∨ l = 9 ∨ l = 10 ∨ l = 11 ∨ l = 12 ∨ l = 13 ∨ l = 14 ∨ l = 15 ∨ l = 16 ∨ l = 17 ∨ l = 18 ∨ l = 19 ∨ l = 20 ∨ l = 21 ∨ l = 22 ∨ l = 23 ∨ l = 24 ∨ l = 25 ∨ l = 26 := by omega
  rcases this with rfl | rfl | rfl | rfl | rfl | rfl | rfl | rfl | rfl | rfl | rfl | rfl | rfl | rfl | rfl | rfl | rfl | rfl | rfl | rfl | rfl | rfl | rfl | rfl | rfl | rfl | rfl
  all_goals
    go_enter Tryd.func32, Tryd.ntmps32
    go_wp2
    go_ret
    exact ⟨by rfl, rfl⟩

/-- A builder holds these bytes. -/
def BldV (w : World) (B b : Nat) (l : List UInt8) : Prop := Lib.IsBuilder 36 5 B b (Lib.byteCells l) w
theorem write_calls' {w : World} {B b : Nat} {l m : List UInt8} (h : BldV w B b l) (hl : l.length + m.length ≤ 1000000) (hB : B ≤ w.heap.size) :
    Calls Tryd.prog 10 #[.pointer (some ⟨b, 0, none⟩), .string ⟨m.toArray⟩] w fun e w' => (∃ v, e = .returned v) ∧ BldV w' B b (l ++ m) ∧ Below B w w' := by
  refine (Builder_WriteString B b (Lib.byteCells l) ⟨m.toArray⟩ w h (by rw [Lib.byteCells_length]; show l.length + m.length ≤ _; omega) hB).mono ?_
  rintro e w' ⟨rfl, h1, h2⟩
  refine ⟨⟨_, rfl⟩, .inr ?_, h2⟩
  have e1 : Lib.byteCells (l ++ m) = Lib.byteCells l ++ Lib.strCells ⟨m.toArray⟩ := by unfold Lib.byteCells Lib.strCells; rw [List.map_append]
  rw [e1]
  exact h1
theorem string_calls' {w : World} {B b : Nat} {l : List UInt8} (h : BldV w B b l) (hB : B ≤ w.heap.size) :
    Calls Tryd.prog 13 #[.pointer (some ⟨b, 0, none⟩)] w fun e w' => e = .returned (.string ⟨l.toArray⟩) ∧ Below B w w' := Builder_String_any B b l w h hB

theorem itoaS' {w : World} {k : Nat} (h : k < 100) : Calls Tryd.prog 11 #[.int .i64 (k : Int)] w fun e w' => e = .returned (.string ⟨(Lib.decDigits k).toArray⟩) ∧ w' = w := strconv_Itoa_small k h w
set_option maxRecDepth 100000 in
set_option maxHeartbeats 8000000 in
theorem side_calls {w : World} {A : Option Addr} {n c : Nat} {xs : List Int} (h : Ints w A n c xs) (hn : n ≤ 16) (hok : ∀ x ∈ xs, 0 ≤ x ∧ x ≤ 9) :
    Calls Tryd.prog 33 #[.slice A n c] w fun e w' => e = .returned (.string ⟨(sideT 0 xs).toArray⟩) ∧ Below w.heap.size w w' := by
  have H := hide2 h
  have OK := hide2 hok
  have HL := hide2 (show xs.length = n from Sl.len h)
  clear h hok
  go_enter Tryd.func33, Tryd.ntmps33
  go_wp2_with fail
  have B1 := hide2 (show Below w.heap.size w (w.alloc (.cells #[.pointer none, .slice none 0 0] 36)) from (Below.refl _ _).alloc (Nat.le_refl _) _)
  have BV := hide2 (show BldV (w.alloc (.cells #[.pointer none, .slice none 0 0] 36)) w.heap.size w.heap.size [] from Lib.fresh_isBuilder _ _ w)
  generalize w.alloc (.cells #[.pointer none, .slice none 0 0] 36) = w1 at *
  go_loopw [8] (fun v wr => ∃ i : Nat, v = .int .i64 (i : Int) ∧ i ≤ n ∧ Hid (BldV wr w.heap.size w.heap.size (sideT 0 (xs.take i))) ∧ Hid (Below w.heap.size w wr)) (fun v _ => n - (intOf v).toNat)
  case atStart => exact ⟨0, rfl, Nat.zero_le _, by rw [List.take_zero]; exact BV, B1⟩
  case round =>
    clear BV B1
    obtain ⟨i, rfl, hi, BV, BL⟩ := hrel
    have HW := hide2 (show w.heap.size ≤ wr.heap.size from BL.out.size)
    by_cases hlt : i < n
    · have hji : (i : Int) < (n : Int) := by omega
      obtain ⟨b, off, x, rfl, hb, hx, c0⟩ := Ints.get (H.out.keep BL.out) hlt
      obtain ⟨x0, x9⟩ := OK.out x (List.mem_of_getElem? hx.out)
      have HS := hide2 (sideT_snoc hx.out)
      have HP := hide2 (sideT_len (xs.take i) 0 (by rw [List.length_take]; have := HL.out; omega) (fun y hy => (OK.out y (List.mem_of_mem_take hy)).2))
      have HPL := hide2 (show (sideT 0 (xs.take i)).length ≤ 100 by have h1 := HP.out; rw [List.length_take] at h1; omega)
      clear hx HP
      obtain ⟨k, rfl⟩ : ∃ k : Nat, x = (k : Int) := ⟨x.toNat, by omega⟩
      have hi100 : i < 100 := by omega
      have hk100 : k < 100 := by omega
      have IP := hide2 (fun (wx : World) => itoaS' (w := wx) hi100)
      have dl1 : (Lib.decDigits i).length ≤ 2 := dec_len hi100
      have dl2 : (Lib.decDigits k).length ≤ 2 := dec_len hk100
      by_cases hk0 : k = 0
      · subst hk0
        have BV2 := hide2 (show BldV wr w.heap.size w.heap.size (sideT 0 (xs.take (i + 1))) by rw [HS.out]; unfold oneT; rw [if_pos (show ((0 : Nat) : Int) = 0 from rfl), List.append_nil]; exact BV.out)
        go_wp2
        go_roundw
        case rel => exact ⟨i + 1, by go_num, by omega, BV2, BL⟩
        case measure => simp [intOf]; omega
      · have hk1 : ((k : Int) == 0) = false := by simp; omega
        have hk2 : ¬ (k : Int) = 0 := by omega
        have hk3 : (k == 0) = false := by simpa using hk0
        by_cases hk : 1 < k
        · have hki : (1 : Int) < (k : Int) := by omega
          have KP := hide2 (fun (wx : World) => itoaS' (w := wx) hk100)
          have e1 := hide2 (show (⟨#[32]⟩ : ByteArray) ++ ⟨(Lib.decDigits k).toArray⟩ ++ ⟨#[42]⟩ ++ ⟨(Lib.decDigits i).toArray⟩ = ⟨(oneT i (k : Int)).toArray⟩ by
            rw [show (⟨#[32]⟩ : ByteArray) = ⟨[32].toArray⟩ from rfl, show (⟨#[42]⟩ : ByteArray) = ⟨[42].toArray⟩ from rfl, cat2, cat2, cat2]
            unfold oneT
            rw [if_neg (by omega), if_pos hki, Int.toNat_natCast]
            simp)
          have WR := hide2 (write_calls' (m := oneT i (k : Int)) BV.out (by have := oneT_len (p := i) (n := (k : Int)) hi100 x9; have := HPL.out; omega) HW.out)
          have BV2 := hide2 (fun (w2 : World) (hv : BldV w2 w.heap.size w.heap.size (sideT 0 (xs.take i) ++ oneT i (k : Int))) => (show BldV w2 w.heap.size w.heap.size (sideT 0 (xs.take (i + 1))) by rw [HS.out]; exact hv))
          clear hk hk0
          go_wp2_with (first
            | (go_at_call 10; rw [e1.out]; (with_reducible refine WR.out.mono ?_); rintro e w2 ⟨⟨y, rfl⟩, hv, hb2⟩; have V2 := hide2 (BV2.out w2 hv); have B2 := hide2 (BL.out.trans hb2); clear hv hb2)
            | (go_at_call 11; first | ((with_reducible refine (KP.out _).mono ?_); rintro e w2 ⟨rfl, rfl⟩) | ((with_reducible refine (IP.out _).mono ?_); rintro e w2 ⟨rfl, rfl⟩)))
          go_roundw
          case rel => exact ⟨i + 1, by go_num, by omega, V2, B2⟩
          case measure => simp [intOf]; omega
        · have hkk : k = 1 := by omega
          subst hkk
          have e1 := hide2 (show (⟨#[32]⟩ : ByteArray) ++ ⟨(Lib.decDigits i).toArray⟩ = ⟨(oneT i 1).toArray⟩ by
            rw [show (⟨#[32]⟩ : ByteArray) = ⟨[32].toArray⟩ from rfl, cat2]
            unfold oneT
            rw [if_neg (by decide), if_neg (by decide)]
            simp)
          have WR := hide2 (write_calls' (m := oneT i 1) BV.out (by have := oneT_len (p := i) (n := 1) hi100 (by decide); have := HPL.out; omega) HW.out)
          have BV2 := hide2 (fun (w2 : World) (hv : BldV w2 w.heap.size w.heap.size (sideT 0 (xs.take i) ++ oneT i 1)) => (show BldV w2 w.heap.size w.heap.size (sideT 0 (xs.take (i + 1))) by rw [HS.out]; exact hv))
          clear hk hk0
          go_wp2_with (first
            | (go_at_call 10; rw [e1.out]; (with_reducible refine WR.out.mono ?_); rintro e w2 ⟨⟨y, rfl⟩, hv, hb2⟩; have V2 := hide2 (BV2.out w2 hv); have B2 := hide2 (BL.out.trans hb2); clear hv hb2)
            | (go_at_call 11; ((with_reducible refine (IP.out _).mono ?_); rintro e w2 ⟨rfl, rfl⟩)))
          go_roundw
          case rel => exact ⟨i + 1, by go_num, by omega, V2, B2⟩
          case measure => simp [intOf]; omega
    · obtain rfl : i = n := by omega
      have ST := hide2 (string_calls' BV.out HW.out)
      have HT := hide2 (show xs.take i = xs from List.take_of_length_le (by rw [HL.out]; exact Nat.le_refl _))
      clear hlt
      go_wp2_with (go_at_call 13; (with_reducible refine ST.out.mono ?_); rintro e w2 ⟨rfl, hb2⟩; have B2 := hide2 (BL.out.trans hb2); clear hb2)
      go_ret
      exact ⟨by first | rfl | (rw [HT.out]; rfl), B2.out⟩

set_option maxRecDepth 100000 in
set_option maxHeartbeats 8000000 in
theorem line_calls {w : World} {l : Int} {A1 A2 : Option Addr} {n1 c1 n2 c2 : Nat} {pre post : List Int} (h1 : Ints w A1 n1 c1 pre) (h2 : Ints w A2 n2 c2 post) (hn1 : n1 ≤ 16) (hn2 : n2 ≤ 16) (ho1 : ∀ x ∈ pre, 0 ≤ x ∧ x ≤ 9) (ho2 : ∀ x ∈ post, 0 ≤ x ∧ x ≤ 9) (l0 : 0 ≤ l) (l1 : l ≤ 26) :
    Calls Tryd.prog 12 #[.agg #[.int .i64 l, .slice A1 n1 c1, .slice A2 n2 c2]] w fun e w' => e = .returned (.string ⟨(lineT ⟨l, pre, post⟩).toArray⟩) ∧ Below w.heap.size w w' := by
  have H1 := hide2 (And.intro h1 (And.intro hn1 ho1))
  have H2 := hide2 (And.intro h2 (And.intro hn2 ho2))
  have hL1 : (sideT 0 pre).length ≤ 100 := by have := sideT_len pre 0 (by rw [Sl.len h1]; omega) (fun x hx => (ho1 x hx).2); rw [Sl.len h1] at this; omega
  have hL2 : (sideT 0 post).length ≤ 100 := by have := sideT_len post 0 (by rw [Sl.len h2]; omega) (fun x hx => (ho2 x hx).2); rw [Sl.len h2] at this; omega
  obtain ⟨cl, hcl, _⟩ := labT_is l0 l1
  have hL0 : (labT l).length ≤ 1 := by rw [hcl]; simp
  obtain ⟨s1, hs1⟩ : ∃ s1, s1 = labT l ++ [32, 58] := ⟨_, rfl⟩
  obtain ⟨s2, hs2⟩ : ∃ s2, s2 = s1 ++ sideT 0 pre := ⟨_, rfl⟩
  obtain ⟨s3, hs3⟩ : ∃ s3, s3 = s2 ++ [32, 62] := ⟨_, rfl⟩
  obtain ⟨s4, hs4⟩ : ∃ s4, s4 = s3 ++ sideT 0 post := ⟨_, rfl⟩
  have m1 : s1.length ≤ 10 := by rw [hs1, List.length_append]; simp; omega
  have m2 : s2.length ≤ 110 := by rw [hs2, List.length_append]; omega
  have m3 : s3.length ≤ 120 := by rw [hs3, List.length_append]; simp; omega
  have a1 : ∀ wx : World, (Op.stringOp .add ⟨(labT l).toArray⟩ ⟨#[32, 58]⟩).run Tryd.prog wx = .ok (.string ⟨s1.toArray⟩) wx := fun wx => by rw [hs1]; exact run_string_add_lists wx (labT l) [32, 58] (by omega) (by decide)
  have a2 : ∀ wx : World, (Op.stringOp .add ⟨s1.toArray⟩ ⟨(sideT 0 pre).toArray⟩).run Tryd.prog wx = .ok (.string ⟨s2.toArray⟩) wx := fun wx => by rw [hs2]; exact run_string_add_lists wx s1 (sideT 0 pre) (by omega) (by omega)
  have a3 : ∀ wx : World, (Op.stringOp .add ⟨s2.toArray⟩ ⟨#[32, 62]⟩).run Tryd.prog wx = .ok (.string ⟨s3.toArray⟩) wx := fun wx => by rw [hs3]; exact run_string_add_lists wx s2 [32, 62] (by omega) (by decide)
  have a4 : ∀ wx : World, (Op.stringOp .add ⟨s3.toArray⟩ ⟨(sideT 0 post).toArray⟩).run Tryd.prog wx = .ok (.string ⟨s4.toArray⟩) wx := fun wx => by rw [hs4]; exact run_string_add_lists wx s3 (sideT 0 post) (by omega) (by omega)
  have e1 := hide2 (show s4 = lineT ⟨l, pre, post⟩ by
    rw [hs4, hs3, hs2, hs1]
    unfold lineT
    simp)
  clear hs1 hs2 hs3 hs4 hL1 hL2 hL0 m1 m2 m3
  clear h1 h2 hn1 hn2 ho1 ho2 hcl
  have LC := hide2 (fun wx : World => label_calls wx l l0 l1)
  go_enter Tryd.func12, Tryd.ntmps12
  go_upto_region 1 with fail
  have B1 := hide2 (show Below w.heap.size w (w.alloc (.cells #[.int .i64 l, .slice A1 n1 c1, .slice A2 n2 c2] 44)) from (Below.refl _ _).alloc (Nat.le_refl _) _)
  have X1 := hide2 (Box.new w #[.int .i64 l, .slice A1 n1 c1, .slice A2 n2 c2] 44)
  generalize w.alloc (.cells #[.int .i64 l, .slice A1 n1 c1, .slice A2 n2 c2] 44) = w1 at *
  obtain ⟨z0, z1, z2⟩ := X1.out.three
  have S1 := hide2 (Box.lt X1.out)
  have D1 := hide2 (show Below w1.heap.size w1 w1.drew from (Below.refl _ _).drew)
  go_region_held3 (fun w' => w'.cell? ⟨w.heap.size, 0, none⟩ = some (.int .i64 l) ∧ w'.cell? ⟨w.heap.size, 1, none⟩ = some (.slice A1 n1 c1) ∧ w'.cell? ⟨w.heap.size, 2, none⟩ = some (.slice A2 n2 c2)) (first | go_keep) (first
    | (go_at_call 32; (with_reducible refine (LC.out _).mono ?_); rintro e w3 ⟨rfl, rfl⟩)
    | (go_at_call 33; (with_reducible refine (side_calls (H1.out.1.keep (B1.out.trans (D1.out.mono B1.out.size))) H1.out.2.1 H1.out.2.2).mono ?_); rintro e w4 ⟨rfl, hb⟩; have F4 := hide2 (D1.out.trans hb); have x0 := (F4.out.cell (p := ⟨w.heap.size, 0, none⟩) S1.out).trans z0; have x1 := (F4.out.cell (p := ⟨w.heap.size, 1, none⟩) S1.out).trans z1; have x2 := (F4.out.cell (p := ⟨w.heap.size, 2, none⟩) S1.out).trans z2; clear hb)
    | (go_at_call 33; (with_reducible refine (side_calls (H2.out.1.keep (B1.out.trans (F4.out.mono B1.out.size))) H2.out.2.1 H2.out.2.2).mono ?_); rintro e w5 ⟨rfl, hb⟩; have F5 := hide2 (F4.out.trans (hb.mono F4.out.size)); have y0 := (F5.out.cell (p := ⟨w.heap.size, 0, none⟩) S1.out).trans z0; have y1 := (F5.out.cell (p := ⟨w.heap.size, 1, none⟩) S1.out).trans z1; have y2 := (F5.out.cell (p := ⟨w.heap.size, 2, none⟩) S1.out).trans z2; clear hb))
  go_wp2
  go_ret
  exact ⟨by rw [← e1.out]; rfl, B1.out.trans (F5.out.mono B1.out.size)⟩
end Go.Proofs.YtcgdjpelcfofgaaDoor
