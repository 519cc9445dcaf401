/- The contract of the program's reading of a line. Conditions: the line has at most a million letters; at most sixteen places; the tables lie as they were laid. -/
import Derived.Test.YtcgdjpelcfofgaaDoorTextTellsK32
import Derived.Test.YtcgdjpelcfofgaaDoorTextTellsK12
import Derived.Test.YtcgdjpelcfofgaaDoorTextTellsK29
set_option linter.all false
namespace Go.Proofs.YtcgdjpelcfofgaaDoor
open Go.RowKit

set_option maxRecDepth 100000 in
set_option maxHeartbeats 16000000 in
theorem tranT_calls {w : World} {B : Nat} {s : List UInt8} {P : Nat} (hs : s.length ≤ 1100000) (T : Tabs B w) (hP : P ≤ 16) :
    Calls Tryd.prog 21 #[.string ⟨s.toArray⟩, .int .i64 (P : Int)] w fun e w' => AnsTranR w w' P s e := by
  have TT := hide2 T
  have HS := hide2 hs
  obtain ⟨name, rest, ok, hc1⟩ : ∃ a b c, Lib.cut s [32, 58] = (a, b, c) := ⟨_, _, _, rfl⟩
  obtain ⟨pre, post, two, hc2⟩ : ∃ a b c, Lib.cut rest [32, 62] = (a, b, c) := ⟨_, _, _, rfl⟩
  have TP := hide2 (show tranR P s = if ok = true ∧ two = true ∧ name.length = 1 then
    match weightsT P pre, weightsT P post with
    | some a, some b => if 0 ≤ labP name ∧ labP name ≤ 26 ∧ lineT ⟨labP name, a, b⟩ = s then some ⟨labP name, a, b⟩ else none
    | _, _ => none
  else none by
    rw [← tranP_is P hP s]
    unfold tranP
    rw [hc1]
    simp only
    rw [hc2]
    rfl)
  have RL := hide2 (show rest.length ≤ 1100000 by have := (cut_len s [32, 58]).2; rw [hc1] at this; simp only at this; omega)
  have PL := hide2 (show pre.length ≤ 1100000 ∧ post.length ≤ 1100000 by have := cut_len rest [32, 62]; rw [hc2] at this; simp only at this; have := RL.out; omega)
  have NL := hide2 (show name.length ≤ 1100000 by have := (cut_len s [32, 58]).1; rw [hc1] at this; simp only at this; omega)
  have C1 := hide2 hc1
  have C2 := hide2 hc2
  clear T hs hc1 hc2
  go_enter Tryd.func21, Tryd.ntmps21
  go_upto_region 1 with fail
  have B1 := hide2 (show Below w.heap.size w (w.alloc (.cells #[.int .i64 0, .slice none 0 0, .slice none 0 0] 44)) from (Below.refl _ _).alloc (Nat.le_refl _) _)
  have Z1 := hide2 (Box.new w #[.int .i64 0, .slice none 0 0, .slice none 0 0] 44)
  generalize w.alloc (.cells #[.int .i64 0, .slice none 0 0, .slice none 0 0] 44) = w1 at *
  have T1 := hide2 (TT.out.keep (B1.out.mono TT.out.1))
  have K1 : Hid (Calls Tryd.prog 40 #[.string ⟨s.toArray⟩, .string ⟨#[32, 58]⟩] w1 fun e w' => e = .returned (.tuple #[.string ⟨name.toArray⟩, .string ⟨rest.toArray⟩, .bool ok]) ∧ Below w1.heap.size w1 w') := by
    have := cut_calls (w := w1) (s := s) (by have := HS.out; omega) T1.out [32, 58]
    rw [C1.out] at this
    exact this
  go_upto_region 2 with (go_at_call 40; (with_reducible refine K1.out.mono ?_); rintro e2 w2 ⟨rfl, hb⟩; have B2 := hide2 (B1.out.trans (hb.mono B1.out.size)); have Z2 := hide2 (Z1.out.keep hb); clear hb K1)
  have T2 := hide2 (TT.out.keep (B2.out.mono TT.out.1))
  have K2 : Hid (Calls Tryd.prog 40 #[.string ⟨rest.toArray⟩, .string ⟨#[32, 62]⟩] w2 fun e w' => e = .returned (.tuple #[.string ⟨pre.toArray⟩, .string ⟨post.toArray⟩, .bool two]) ∧ Below w2.heap.size w2 w') := by
    have := cut_calls (w := w2) (s := rest) (by have := RL.out; omega) T2.out [32, 62]
    rw [C2.out] at this
    exact this
  go_upto_region 3 with (go_at_call 40; (with_reducible refine K2.out.mono ?_); rintro e3 w3 ⟨rfl, hb⟩; have B3 := hide2 (B2.out.trans (hb.mono B2.out.size)); have Z3 := hide2 (Z2.out.keep hb); clear hb K2)
  by_cases hgo : ok = true ∧ two = true ∧ name.length = 1
  · obtain ⟨rfl, rfl, hn1⟩ := hgo
    obtain ⟨c, rfl⟩ : ∃ c, name = [c] := by
      match name, hn1 with
      | [c], _ => exact ⟨c, rfl⟩
    have TQ := hide2 (show tranR P s = match weightsT P pre, weightsT P post with
      | some a, some b => if 0 ≤ labP [c] ∧ labP [c] ≤ 26 ∧ lineT ⟨labP [c], a, b⟩ = s then some ⟨labP [c], a, b⟩ else none
      | _, _ => none by rw [TP.out, if_pos ⟨rfl, rfl, rfl⟩])
    obtain ⟨nm, hnm⟩ : ∃ nm, nm = [c] := ⟨_, rfl⟩
    have hlt : 0 < nm.length := by rw [hnm]; exact Nat.zero_lt_one
    have hget : (⟨nm.toArray⟩ : ByteArray)[0]'(show 0 < nm.length from hlt) = c := by subst hnm; rfl
    have hn1i : ((nm.length : Nat) : Int) = 1 := by rw [hnm]; rfl
    rw [← hnm] at TQ ⊢
    have NM := hide2 hnm
    have hn2 : ((nm.length : Int) == 1) = true := by rw [hnm]; rfl
    have hn3 : (nm.length == 1) = true := by rw [hnm]; rfl
    clear hnm hn1
    go_upto_region 6 with fail
    have T3 := hide2 (TT.out.keep (B3.out.mono TT.out.1))
    have D4 := hide2 (show Below w3.heap.size w3 (w3.alloc (.cells #[.int .i64 0, .slice none 0 0, .slice none 0 0] 44)) from (Below.refl _ _).alloc (Nat.le_refl _) _)
    have X4 := hide2 (Box.new w3 #[.int .i64 0, .slice none 0 0, .slice none 0 0] 44)
    generalize w3.alloc (.cells #[.int .i64 0, .slice none 0 0, .slice none 0 0] 44) = w4 at *
    have B4 := hide2 (B3.out.trans (D4.out.mono B3.out.size))
    have Z4 := hide2 (Z3.out.keep D4.out)
    have HX := hide2 (show w.heap.size < w3.heap.size from Box.lt Z3.out)
    obtain ⟨X, hX⟩ : ∃ X, X = w3.heap.size := ⟨_, rfl⟩
    rw [← hX] at X4 HX ⊢
    clear hX D4 B3 Z3
    go_upto_if 41 with fail
    go_cut [] (fun wx => Hid (Below w.heap.size w wx) ∧ Hid (Box wx w.heap.size 44 #[.int .i64 0, .slice none 0 0, .slice none 0 0]) ∧ Hid (Box wx X 44 #[.int .i64 (labP nm), .slice none 0 0, .slice none 0 0]))
    case first =>
      by_cases h45 : c = 45
      · have k1 : (nm == [45]) = true := by rw [NM.out, h45]; rfl
        have k2 : nm = [45] := by rw [NM.out, h45]
        have X5 := hide2 (show Box w4 X 44 #[.int .i64 (labP nm), .slice none 0 0, .slice none 0 0] by rw [show labP nm = 0 by unfold labP; rw [if_pos k2]]; exact X4.out)
        have k3 : (nm.toArray == #[45]) = true := by rw [k2]; rfl
        have k4 : decide (nm = [45]) = true := decide_eq_true k2
        have k5 : (!nm == [45]) = false := by rw [k1]; rfl
        clear k2
        have K1 := hide2 k1
        have hc256 : c.toNat < 256 := c.toNat_lt
        obtain ⟨c0, _, _⟩ := X4.out.three
        have f0 := X4.out.frozen 0
        clear k1 k3 k4 k5 h45
        go_wp2
        all_goals first
          | (exfalso; rename_i h; rw [K1.out] at h; exact absurd h (by decide))
          | (go_meet; exact ⟨B4, Z4, X5⟩)
      · have k1 : (nm == [45]) = false := by rw [NM.out, beq_eq_false_iff_ne]; intro e; injection e with e; exact h45 e
        have hl : labP nm = (c.toNat : Int) - 97 + 1 := by unfold labP; rw [if_neg (by rw [NM.out]; intro e; injection e with e; exact h45 e), NM.out]; rfl
        have hc256 : c.toNat < 256 := c.toNat_lt
        obtain ⟨c0, _, _⟩ := X4.out.three
        have f0 := X4.out.frozen 0
        have X5 := hide2 (show Box (w4.setCell ⟨X, 0, none⟩ (.int .i64 ((c.toNat : Int) - 97 + 1))) X 44 #[.int .i64 (labP nm), .slice none 0 0, .slice none 0 0] by rw [hl]; exact X4.out.set 0 _)
        have g := grownSet w4 X 0 (.int .i64 ((c.toNat : Int) - 97 + 1))
        have B5 := hide2 (B4.out.grown g (Nat.le_of_lt (Box.lt Z4.out)) (fun k hk => by injection hk with hk; have := HX.out; omega))
        have Z5 := hide2 (Z4.out.grown g (fun e => by injection e; have := HX.out; omega))
        have k2 : ¬ nm = [45] := beq_eq_false_iff_ne.1 k1
        have k3 : ¬ nm.toArray = #[45] := fun e => k2 (by have := congrArg Array.toList e; simpa using this)
        have k4 : (nm.toArray == #[45]) = false := beq_eq_false_iff_ne.2 k3
        have k5 : (!nm == [45]) = true := by rw [k1]; rfl
        clear hl g
        have K1 := hide2 k1
        clear k1 k2 k3 k4 k5
        go_wp2
        all_goals first
          | (exfalso; rename_i h; rw [K1.out] at h; exact absurd h (by decide))
          | (go_meet; exact ⟨B5, Z5, X5⟩)
    case rest =>
      obtain ⟨B5, Z5, X5⟩ := hcut
      clear hget hn1i hn2 hn3
      have T5 := hide2 (TT.out.keep (B5.out.mono TT.out.1))
      have W1 := hide2 (wtSide_calls PL.out.1 T5.out hP)
      obtain ⟨x0, x1, x2⟩ := X5.out.three
      have g1 := X5.out.frozen 1
      cases hwa : weightsT P pre with
      | none =>
        have HWA := hide2 hwa
        clear hwa
        go_upto_region 10 with (go_at_call 41; (with_reducible refine W1.out.mono ?_); rintro e6 w6 ⟨hb, ⟨_, _, h1, _, _⟩ | ⟨_, he⟩⟩; (exact absurd (HWA.out.symm.trans h1) (by intro e; cases e)); subst he; have B6 := hide2 (B5.out.trans (hb.mono B5.out.size)); have Z6 := hide2 (Z5.out.keep hb); have X6 := hide2 (X5.out.keep hb); have q6 := X6.out.three; have x0 := q6.1; have x1 := q6.2.1; have x2 := q6.2.2; have g1 := X6.out.frozen 1; clear hb q6 W1)
        have gX := grownSet w6 X 1 (.slice none 0 0)
        skip
        have B7 := hide2 (B6.out.grown gX (Nat.le_of_lt (Box.lt Z6.out)) (fun k hk => by injection hk with hk; have := HX.out; omega))
        have Z7 := hide2 (Z6.out.grown gX (fun e => by injection e; have := HX.out; omega))
        have X7 := hide2 (show Box (w6.setCell ⟨X, 1, none⟩ (.slice none 0 0)) X 44 #[.int .i64 (labP nm), .slice none 0 0, .slice none 0 0] from X6.out.set 1 _)
        clear gX x0 x1 x2 g1 X6 Z6
        generalize w6.setCell ⟨X, 1, none⟩ (.slice none 0 0) = w7 at *
        have T7 := hide2 (TT.out.keep (B7.out.mono TT.out.1))
        have W2 := hide2 (wtSide_calls PL.out.2 T7.out hP)
        obtain ⟨x0, x1, x2⟩ := X7.out.three
        have g1 := X7.out.frozen 2
        cases hwb : weightsT P post with
        | none =>
          have HWB := hide2 hwb
          clear hwb
          go_upto_region 11 with (go_at_call 41; (with_reducible refine W2.out.mono ?_); rintro e8 w8 ⟨hb, ⟨_, _, h1, _, _⟩ | ⟨_, he⟩⟩; (exact absurd (HWB.out.symm.trans h1) (by intro e; cases e)); subst he; have B8 := hide2 (B7.out.trans (hb.mono B7.out.size)); have Z8 := hide2 (Z7.out.keep hb); have X8 := hide2 (X7.out.keep hb); have q8 := X8.out.three; have x0 := q8.1; have x1 := q8.2.1; have x2 := q8.2.2; have g1 := X8.out.frozen 2; clear hb q8 W2)
          have gX := grownSet w8 X 2 (.slice none 0 0)
          skip
          skip
          have B9 := hide2 (B8.out.grown gX (Nat.le_of_lt (Box.lt Z8.out)) (fun k hk => by injection hk with hk; have := HX.out; omega))
          have Z9 := hide2 (Z8.out.grown gX (fun e => by injection e; have := HX.out; omega))
          have X9 := hide2 (show Box (w8.setCell ⟨X, 2, none⟩ (.slice none 0 0)) X 44 #[.int .i64 (labP nm), .slice none 0 0, .slice none 0 0] from X8.out.set 2 _)
          clear gX x0 x1 x2 g1 X8 Z8
          generalize w8.setCell ⟨X, 2, none⟩ (.slice none 0 0) = w9 at *
          have HN := hide2 (show tranR P s = none by rw [TQ.out, HWA.out])
          have FIN := hide2 (show AnsTranR w (((w9.setCell ⟨w.heap.size, 0, none⟩ (.int .i64 0)).setCell ⟨w.heap.size, 1, none⟩ (.slice none 0 0)).setCell ⟨w.heap.size, 2, none⟩ (.slice none 0 0)) P s (.returned (.tuple #[.agg #[.int .i64 0, .slice none 0 0, .slice none 0 0], .bool false])) from ⟨((B9.out.setCell (p := ⟨w.heap.size, 0, none⟩) (Nat.le_refl _) _).setCell (p := ⟨w.heap.size, 1, none⟩) (Nat.le_refl _) _).setCell (p := ⟨w.heap.size, 2, none⟩) (Nat.le_refl _) _, .inr ⟨HN.out, 0, none, 0, 0, none, 0, 0, rfl⟩⟩)
          obtain ⟨y0, y1, y2⟩ := (Z9.out.set3 (.int .i64 0) (.slice none 0 0) (.slice none 0 0)).three
          obtain ⟨z0, z1, z2⟩ := Z9.out.three
          have f0 := Z9.out.frozen 0
          have f1 := Z9.out.frozen 1
          have f2 := Z9.out.frozen 2
          go_wp2
          exact bodyPost_ret (v := .tuple #[.agg #[.int .i64 0, .slice none 0 0, .slice none 0 0], .bool false]) (by simp [results, Tryd.results21, go_sem, y0, y1, y2]) rfl FIN.out
        | some b =>
          have HWB := hide2 hwb
          clear hwb
          go_upto_region 11 with (go_at_call 41; (with_reducible refine W2.out.mono ?_); rintro e8 w8 ⟨hb, ⟨b', gb, h1, he, o8⟩ | ⟨h1, _⟩⟩; rotate_left; (exact absurd (HWB.out.symm.trans h1) (by intro e; cases e)); (have h1 := HWB.out.symm.trans h1); injection h1 with h1; subst h1; subst he; have OB := hide2 o8; clear o8; have B8 := hide2 (B7.out.trans (hb.mono B7.out.size)); have Z8 := hide2 (Z7.out.keep hb); have X8 := hide2 (X7.out.keep hb); have q8 := X8.out.three; have x0 := q8.1; have x1 := q8.2.1; have x2 := q8.2.2; have g1 := X8.out.frozen 2; clear hb q8 W2)
          have gX := grownSet w8 X 2 (.slice (some ⟨gb, 0, none⟩) P P)
          skip
          have OB9 := hide2 (ownKeepS OB.out gX (Box.lt X7.out))
          have B9 := hide2 (B8.out.grown gX (Nat.le_of_lt (Box.lt Z8.out)) (fun k hk => by injection hk with hk; have := HX.out; omega))
          have Z9 := hide2 (Z8.out.grown gX (fun e => by injection e; have := HX.out; omega))
          have X9 := hide2 (show Box (w8.setCell ⟨X, 2, none⟩ (.slice (some ⟨gb, 0, none⟩) P P)) X 44 #[.int .i64 (labP nm), .slice none 0 0, .slice (some ⟨gb, 0, none⟩) P P] from X8.out.set 2 _)
          clear gX x0 x1 x2 g1 X8 Z8
          generalize w8.setCell ⟨X, 2, none⟩ (.slice (some ⟨gb, 0, none⟩) P P) = w9 at *
          have HN := hide2 (show tranR P s = none by rw [TQ.out, HWA.out])
          have FIN := hide2 (show AnsTranR w (((w9.setCell ⟨w.heap.size, 0, none⟩ (.int .i64 0)).setCell ⟨w.heap.size, 1, none⟩ (.slice none 0 0)).setCell ⟨w.heap.size, 2, none⟩ (.slice none 0 0)) P s (.returned (.tuple #[.agg #[.int .i64 0, .slice none 0 0, .slice none 0 0], .bool false])) from ⟨((B9.out.setCell (p := ⟨w.heap.size, 0, none⟩) (Nat.le_refl _) _).setCell (p := ⟨w.heap.size, 1, none⟩) (Nat.le_refl _) _).setCell (p := ⟨w.heap.size, 2, none⟩) (Nat.le_refl _) _, .inr ⟨HN.out, 0, none, 0, 0, none, 0, 0, rfl⟩⟩)
          obtain ⟨y0, y1, y2⟩ := (Z9.out.set3 (.int .i64 0) (.slice none 0 0) (.slice none 0 0)).three
          obtain ⟨z0, z1, z2⟩ := Z9.out.three
          have f0 := Z9.out.frozen 0
          have f1 := Z9.out.frozen 1
          have f2 := Z9.out.frozen 2
          go_wp2
          exact bodyPost_ret (v := .tuple #[.agg #[.int .i64 0, .slice none 0 0, .slice none 0 0], .bool false]) (by simp [results, Tryd.results21, go_sem, y0, y1, y2]) rfl FIN.out
      | some a =>
        have HWA := hide2 hwa
        clear hwa
        go_upto_region 10 with (go_at_call 41; (with_reducible refine W1.out.mono ?_); rintro e6 w6 ⟨hb, ⟨a', ga, h1, he, o6⟩ | ⟨h1, _⟩⟩; rotate_left; (exact absurd (HWA.out.symm.trans h1) (by intro e; cases e)); (have h1 := HWA.out.symm.trans h1); injection h1 with h1; subst h1; subst he; have OA := hide2 o6; clear o6; have B6 := hide2 (B5.out.trans (hb.mono B5.out.size)); have Z6 := hide2 (Z5.out.keep hb); have X6 := hide2 (X5.out.keep hb); have q6 := X6.out.three; have x0 := q6.1; have x1 := q6.2.1; have x2 := q6.2.2; have g1 := X6.out.frozen 1; clear hb q6 W1)
        have gX := grownSet w6 X 1 (.slice (some ⟨ga, 0, none⟩) P P)
        have OA := hide2 (ownKeepS OA.out gX (Box.lt X5.out))
        have B7 := hide2 (B6.out.grown gX (Nat.le_of_lt (Box.lt Z6.out)) (fun k hk => by injection hk with hk; have := HX.out; omega))
        have Z7 := hide2 (Z6.out.grown gX (fun e => by injection e; have := HX.out; omega))
        have X7 := hide2 (show Box (w6.setCell ⟨X, 1, none⟩ (.slice (some ⟨ga, 0, none⟩) P P)) X 44 #[.int .i64 (labP nm), .slice (some ⟨ga, 0, none⟩) P P, .slice none 0 0] from X6.out.set 1 _)
        clear gX x0 x1 x2 g1 X6 Z6
        generalize w6.setCell ⟨X, 1, none⟩ (.slice (some ⟨ga, 0, none⟩) P P) = w7 at *
        have T7 := hide2 (TT.out.keep (B7.out.mono TT.out.1))
        have W2 := hide2 (wtSide_calls PL.out.2 T7.out hP)
        obtain ⟨x0, x1, x2⟩ := X7.out.three
        have g1 := X7.out.frozen 2
        cases hwb : weightsT P post with
        | none =>
          have HWB := hide2 hwb
          clear hwb
          go_upto_region 11 with (go_at_call 41; (with_reducible refine W2.out.mono ?_); rintro e8 w8 ⟨hb, ⟨_, _, h1, _, _⟩ | ⟨_, he⟩⟩; (exact absurd (HWB.out.symm.trans h1) (by intro e; cases e)); subst he; have OA8 := hide2 (OA.out.keep IntR.kept hb); have B8 := hide2 (B7.out.trans (hb.mono B7.out.size)); have Z8 := hide2 (Z7.out.keep hb); have X8 := hide2 (X7.out.keep hb); have q8 := X8.out.three; have x0 := q8.1; have x1 := q8.2.1; have x2 := q8.2.2; have g1 := X8.out.frozen 2; clear hb q8 W2)
          have gX := grownSet w8 X 2 (.slice none 0 0)
          have OA9 := hide2 (ownKeepS OA8.out gX (Box.lt X5.out))
          skip
          have B9 := hide2 (B8.out.grown gX (Nat.le_of_lt (Box.lt Z8.out)) (fun k hk => by injection hk with hk; have := HX.out; omega))
          have Z9 := hide2 (Z8.out.grown gX (fun e => by injection e; have := HX.out; omega))
          have X9 := hide2 (show Box (w8.setCell ⟨X, 2, none⟩ (.slice none 0 0)) X 44 #[.int .i64 (labP nm), .slice (some ⟨ga, 0, none⟩) P P, .slice none 0 0] from X8.out.set 2 _)
          clear gX x0 x1 x2 g1 X8 Z8
          generalize w8.setCell ⟨X, 2, none⟩ (.slice none 0 0) = w9 at *
          have HN := hide2 (show tranR P s = none by rw [TQ.out, HWA.out, HWB.out])
          have FIN := hide2 (show AnsTranR w (((w9.setCell ⟨w.heap.size, 0, none⟩ (.int .i64 0)).setCell ⟨w.heap.size, 1, none⟩ (.slice none 0 0)).setCell ⟨w.heap.size, 2, none⟩ (.slice none 0 0)) P s (.returned (.tuple #[.agg #[.int .i64 0, .slice none 0 0, .slice none 0 0], .bool false])) from ⟨((B9.out.setCell (p := ⟨w.heap.size, 0, none⟩) (Nat.le_refl _) _).setCell (p := ⟨w.heap.size, 1, none⟩) (Nat.le_refl _) _).setCell (p := ⟨w.heap.size, 2, none⟩) (Nat.le_refl _) _, .inr ⟨HN.out, 0, none, 0, 0, none, 0, 0, rfl⟩⟩)
          obtain ⟨y0, y1, y2⟩ := (Z9.out.set3 (.int .i64 0) (.slice none 0 0) (.slice none 0 0)).three
          obtain ⟨z0, z1, z2⟩ := Z9.out.three
          have f0 := Z9.out.frozen 0
          have f1 := Z9.out.frozen 1
          have f2 := Z9.out.frozen 2
          go_wp2
          exact bodyPost_ret (v := .tuple #[.agg #[.int .i64 0, .slice none 0 0, .slice none 0 0], .bool false]) (by simp [results, Tryd.results21, go_sem, y0, y1, y2]) rfl FIN.out
        | some b =>
          have HWB := hide2 hwb
          clear hwb
          go_upto_region 11 with (go_at_call 41; (with_reducible refine W2.out.mono ?_); rintro e8 w8 ⟨hb, ⟨b', gb, h1, he, o8⟩ | ⟨h1, _⟩⟩; rotate_left; (exact absurd (HWB.out.symm.trans h1) (by intro e; cases e)); (have h1 := HWB.out.symm.trans h1); injection h1 with h1; subst h1; subst he; have OB := hide2 o8; clear o8; have OA8 := hide2 (OA.out.keep IntR.kept hb); have B8 := hide2 (B7.out.trans (hb.mono B7.out.size)); have Z8 := hide2 (Z7.out.keep hb); have X8 := hide2 (X7.out.keep hb); have q8 := X8.out.three; have x0 := q8.1; have x1 := q8.2.1; have x2 := q8.2.2; have g1 := X8.out.frozen 2; clear hb q8 W2)
          have gX := grownSet w8 X 2 (.slice (some ⟨gb, 0, none⟩) P P)
          have OA9 := hide2 (ownKeepS OA8.out gX (Box.lt X5.out))
          have OB9 := hide2 (ownKeepS OB.out gX (Box.lt X7.out))
          have B9 := hide2 (B8.out.grown gX (Nat.le_of_lt (Box.lt Z8.out)) (fun k hk => by injection hk with hk; have := HX.out; omega))
          have Z9 := hide2 (Z8.out.grown gX (fun e => by injection e; have := HX.out; omega))
          have X9 := hide2 (show Box (w8.setCell ⟨X, 2, none⟩ (.slice (some ⟨gb, 0, none⟩) P P)) X 44 #[.int .i64 (labP nm), .slice (some ⟨ga, 0, none⟩) P P, .slice (some ⟨gb, 0, none⟩) P P] from X8.out.set 2 _)
          clear gX x0 x1 x2 g1 X8 Z8
          generalize w8.setCell ⟨X, 2, none⟩ (.slice (some ⟨gb, 0, none⟩) P P) = w9 at *
          obtain ⟨a1, a2⟩ := weightsT_ok HWA.out
          obtain ⟨b1, b2⟩ := weightsT_ok HWB.out
          have TE := hide2 (show tranR P s = if 0 ≤ labP nm ∧ labP nm ≤ 26 ∧ lineT ⟨labP nm, a, b⟩ = s then some ⟨labP nm, a, b⟩ else none by rw [TQ.out, HWA.out, HWB.out])
          obtain ⟨t0, t1, t2⟩ := X9.out.three
          obtain ⟨lb, hlb⟩ : ∃ lb, lb = labP nm := ⟨_, rfl⟩
          rw [← hlb] at t0 TE
          have HLB := hide2 hlb
          clear hlb
          by_cases h1 : lb < 0
          · have HN := hide2 (show tranR P s = none by rw [TE.out, if_neg (by rintro ⟨h, _⟩; omega)])
            skip
            have FIN := hide2 (show AnsTranR w (((w9.setCell ⟨w.heap.size, 0, none⟩ (.int .i64 0)).setCell ⟨w.heap.size, 1, none⟩ (.slice none 0 0)).setCell ⟨w.heap.size, 2, none⟩ (.slice none 0 0)) P s (.returned (.tuple #[.agg #[.int .i64 0, .slice none 0 0, .slice none 0 0], .bool false])) from ⟨((B9.out.setCell (p := ⟨w.heap.size, 0, none⟩) (Nat.le_refl _) _).setCell (p := ⟨w.heap.size, 1, none⟩) (Nat.le_refl _) _).setCell (p := ⟨w.heap.size, 2, none⟩) (Nat.le_refl _) _, .inr ⟨HN.out, 0, none, 0, 0, none, 0, 0, rfl⟩⟩)
            obtain ⟨y0, y1, y2⟩ := (Z9.out.set3 (.int .i64 0) (.slice none 0 0) (.slice none 0 0)).three
            obtain ⟨z0, z1, z2⟩ := Z9.out.three
            have f0 := Z9.out.frozen 0
            have f1 := Z9.out.frozen 1
            have f2 := Z9.out.frozen 2
            go_wp2
            exact bodyPost_ret (v := .tuple #[.agg #[.int .i64 0, .slice none 0 0, .slice none 0 0], .bool false]) (by simp [results, Tryd.results21, go_sem, y0, y1, y2]) rfl FIN.out
          · by_cases h2 : 26 < lb
            · have HN := hide2 (show tranR P s = none by rw [TE.out, if_neg (by rintro ⟨_, h, _⟩; omega)])
              have FIN := hide2 (show AnsTranR w (((w9.setCell ⟨w.heap.size, 0, none⟩ (.int .i64 0)).setCell ⟨w.heap.size, 1, none⟩ (.slice none 0 0)).setCell ⟨w.heap.size, 2, none⟩ (.slice none 0 0)) P s (.returned (.tuple #[.agg #[.int .i64 0, .slice none 0 0, .slice none 0 0], .bool false])) from ⟨((B9.out.setCell (p := ⟨w.heap.size, 0, none⟩) (Nat.le_refl _) _).setCell (p := ⟨w.heap.size, 1, none⟩) (Nat.le_refl _) _).setCell (p := ⟨w.heap.size, 2, none⟩) (Nat.le_refl _) _, .inr ⟨HN.out, 0, none, 0, 0, none, 0, 0, rfl⟩⟩)
              obtain ⟨y0, y1, y2⟩ := (Z9.out.set3 (.int .i64 0) (.slice none 0 0) (.slice none 0 0)).three
              obtain ⟨z0, z1, z2⟩ := Z9.out.three
              have f0 := Z9.out.frozen 0
              have f1 := Z9.out.frozen 1
              have f2 := Z9.out.frozen 2
              go_wp2
              exact bodyPost_ret (v := .tuple #[.agg #[.int .i64 0, .slice none 0 0, .slice none 0 0], .bool false]) (by simp [results, Tryd.results21, go_sem, y0, y1, y2]) rfl FIN.out
            · have IA := hide2 (OA9.out.ints (by omega))
              have IB := hide2 (OB9.out.ints (by omega))
              have LC := hide2 (line_calls (l := lb) IA.out IB.out hP hP a2 b2 (by omega) (by omega))
              have KA := hide2 (fun (wx : World) (hx : Below w9.heap.size w9 wx) => OA9.out.keep IntR.kept hx)
              have KB := hide2 (fun (wx : World) (hx : Below w9.heap.size w9 wx) => OB9.out.keep IntR.kept hx)
              have BS := hide2 (show w.heap.size ≤ wc.heap.size ∧ w.heap.size ≤ w7.heap.size from ⟨B5.out.size, B7.out.size⟩)
              by_cases h3 : lineT ⟨lb, a, b⟩ = s
              · have HF := hide2 (show tranR P s = some ⟨lb, a, b⟩ by rw [TE.out, if_pos ⟨by omega, by omega, h3⟩])
                have hq : (lineT ⟨lb, a, b⟩ == s) = true := beq_iff_eq.2 h3
                clear h3
                go_upto_region 13 with (go_at_call 12; (with_reducible refine LC.out.mono ?_); rintro ec wd ⟨rfl, hb⟩; have BD := hide2 (B9.out.trans (hb.mono B9.out.size)); have ZD := hide2 (Z9.out.keep hb); have XD := hide2 (X9.out.keep hb); have PA := hide2 (KA.out wd hb); have PB := hide2 (KB.out wd hb); clear hb t0 t1 t2)
                obtain ⟨t0, t1, t2⟩ := XD.out.three
                rw [← HLB.out] at t0
                obtain ⟨z0, z1, z2⟩ := ZD.out.three
                have f0 := ZD.out.frozen 0
                have f1 := ZD.out.frozen 1
                have f2 := ZD.out.frozen 2
                have gZ := (grownSet wd w.heap.size 0 (.int .i64 lb)).trans ((grownSet _ w.heap.size 1 (.slice (some ⟨ga, 0, none⟩) P P)).trans (grownSet _ w.heap.size 2 (.slice (some ⟨gb, 0, none⟩) P P)))
                have ZL := hide2 (Box.lt Z5.out)
                have FIN := hide2 (show AnsTranR w (((wd.setCell ⟨w.heap.size, 0, none⟩ (.int .i64 lb)).setCell ⟨w.heap.size, 1, none⟩ (.slice (some ⟨ga, 0, none⟩) P P)).setCell ⟨w.heap.size, 2, none⟩ (.slice (some ⟨gb, 0, none⟩) P P)) P s (.returned (.tuple #[.agg #[.int .i64 lb, .slice (some ⟨ga, 0, none⟩) P P, .slice (some ⟨gb, 0, none⟩) P P], .bool true])) from ⟨BD.out.grown gZ (Nat.le_of_lt (Box.lt ZD.out)) (fun k hk => by injection hk with hk; omega), .inl ⟨⟨lb, a, b⟩, ga, gb, HF.out, rfl, (ownKeepS PA.out gZ ZL.out).base BS.out.1, (ownKeepS PB.out gZ (Box.lt Z7.out)).base BS.out.2⟩⟩)
                obtain ⟨y0, y1, y2⟩ := (ZD.out.set3 (.int .i64 lb) (.slice (some ⟨ga, 0, none⟩) P P) (.slice (some ⟨gb, 0, none⟩) P P)).three
                clear gZ
                go_wp2
                exact bodyPost_ret (v := .tuple #[.agg #[.int .i64 lb, .slice (some ⟨ga, 0, none⟩) P P, .slice (some ⟨gb, 0, none⟩) P P], .bool true]) (by simp [results, Tryd.results21, go_sem, y0, y1, y2]) rfl FIN.out
              · have HN := hide2 (show tranR P s = none by rw [TE.out, if_neg (by rintro ⟨_, _, h⟩; exact h3 h)])
                have hq : (lineT ⟨lb, a, b⟩ == s) = false := beq_eq_false_iff_ne.2 h3
                clear h3
                go_upto_region 12 with (go_at_call 12; (with_reducible refine LC.out.mono ?_); rintro ec wd ⟨rfl, hb⟩; have BD := hide2 (B9.out.trans (hb.mono B9.out.size)); have ZD := hide2 (Z9.out.keep hb); clear hb t0 t1 t2)
                have FIN := hide2 (show AnsTranR w (((wd.setCell ⟨w.heap.size, 0, none⟩ (.int .i64 0)).setCell ⟨w.heap.size, 1, none⟩ (.slice none 0 0)).setCell ⟨w.heap.size, 2, none⟩ (.slice none 0 0)) P s (.returned (.tuple #[.agg #[.int .i64 0, .slice none 0 0, .slice none 0 0], .bool false])) from ⟨((BD.out.setCell (p := ⟨w.heap.size, 0, none⟩) (Nat.le_refl _) _).setCell (p := ⟨w.heap.size, 1, none⟩) (Nat.le_refl _) _).setCell (p := ⟨w.heap.size, 2, none⟩) (Nat.le_refl _) _, .inr ⟨HN.out, 0, none, 0, 0, none, 0, 0, rfl⟩⟩)
                obtain ⟨y0, y1, y2⟩ := (ZD.out.set3 (.int .i64 0) (.slice none 0 0) (.slice none 0 0)).three
                obtain ⟨z0, z1, z2⟩ := ZD.out.three
                have f0 := ZD.out.frozen 0
                have f1 := ZD.out.frozen 1
                have f2 := ZD.out.frozen 2
                go_wp2
                exact bodyPost_ret (v := .tuple #[.agg #[.int .i64 0, .slice none 0 0, .slice none 0 0], .bool false]) (by simp [results, Tryd.results21, go_sem, y0, y1, y2]) rfl FIN.out
  · have HN := hide2 (show tranR P s = none by rw [TP.out, if_neg hgo])
    have key : ok = false ∨ (ok = true ∧ two = false) ∨ (ok = true ∧ two = true ∧ name.length ≠ 1) := by
      cases ok with
      | false => exact .inl rfl
      | true =>
        cases two with
        | false => exact .inr (.inl ⟨rfl, rfl⟩)
        | true => exact .inr (.inr ⟨rfl, rfl, fun h => hgo ⟨rfl, rfl, h⟩⟩)
    have FIN := hide2 (show AnsTranR w (((w3.setCell ⟨w.heap.size, 0, none⟩ (.int .i64 0)).setCell ⟨w.heap.size, 1, none⟩ (.slice none 0 0)).setCell ⟨w.heap.size, 2, none⟩ (.slice none 0 0)) P s (.returned (.tuple #[.agg #[.int .i64 0, .slice none 0 0, .slice none 0 0], .bool false])) from ⟨((B3.out.setCell (p := ⟨w.heap.size, 0, none⟩) (Nat.le_refl _) _).setCell (p := ⟨w.heap.size, 1, none⟩) (Nat.le_refl _) _).setCell (p := ⟨w.heap.size, 2, none⟩) (Nat.le_refl _) _, .inr ⟨HN.out, 0, none, 0, 0, none, 0, 0, rfl⟩⟩)
    obtain ⟨y0, y1, y2⟩ := (Z3.out.set3 (.int .i64 0) (.slice none 0 0) (.slice none 0 0)).three
    obtain ⟨z0, z1, z2⟩ := Z3.out.three
    have f0 := Z3.out.frozen 0
    have f1 := Z3.out.frozen 1
    have f2 := Z3.out.frozen 2
    clear hgo
    rcases key with rfl | ⟨rfl, rfl⟩ | ⟨rfl, rfl, hne⟩
    · go_wp2
      exact bodyPost_ret (v := .tuple #[.agg #[.int .i64 0, .slice none 0 0, .slice none 0 0], .bool false]) (by simp [results, Tryd.results21, go_sem, y0, y1, y2]) rfl FIN.out
    · go_wp2
      exact bodyPost_ret (v := .tuple #[.agg #[.int .i64 0, .slice none 0 0, .slice none 0 0], .bool false]) (by simp [results, Tryd.results21, go_sem, y0, y1, y2]) rfl FIN.out
    · have k1 : ((name.length : Int) == 1) = false := by simp; omega
      have k2 : ¬ (name.length : Int) = 1 := by omega
      have k3 : (name.length == 1) = false := by simpa using hne
      go_wp2
      exact bodyPost_ret (v := .tuple #[.agg #[.int .i64 0, .slice none 0 0, .slice none 0 0], .bool false]) (by simp [results, Tryd.results21, go_sem, y0, y1, y2]) rfl FIN.out
end Go.Proofs.YtcgdjpelcfofgaaDoor
