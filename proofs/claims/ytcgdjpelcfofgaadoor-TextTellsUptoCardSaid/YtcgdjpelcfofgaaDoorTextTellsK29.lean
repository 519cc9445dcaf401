/- The contract of the reference's reading of a line. Conditions: at most sixteen places; the tables lie as they were laid. -/
import Derived.Test.YtcgdjpelcfofgaaDoorTextTellsK28
import Derived.Test.YtcgdjpelcfofgaaDoorTextTellsK08
import Derived.BigRegion
set_option linter.all false
namespace Go.Proofs.YtcgdjpelcfofgaaDoor
open Go.RowKit

/-- What the reading of a line answers. -/
def AnsTranR (w w' : World) (P : Nat) (s : List UInt8) (e : Ending) : Prop :=
  Below w.heap.size w w' ∧ ((∃ t A B', tranR P s = some t ∧ e = .returned (.tuple #[.agg #[.int .i64 t.label, .slice (some ⟨A, 0, none⟩) P P, .slice (some ⟨B', 0, none⟩) P P], .bool true]) ∧ OwnInts w' w.heap.size (.slice (some ⟨A, 0, none⟩) P P) P t.pre ∧ OwnInts w' w.heap.size (.slice (some ⟨B', 0, none⟩) P P) P t.post) ∨
    (tranR P s = none ∧ ∃ l A n c A' n' c', e = .returned (.tuple #[.agg #[.int .i64 l, .slice A n c, .slice A' n' c'], .bool false])))
theorem tranR_bad {P : Nat} {s : List UInt8} (h : ∀ c r, s = c :: r → labOk c = false) : tranR P s = none := by
  unfold tranR
  split
  · rename_i c s2
    rw [if_neg (by rw [h c _ rfl]; decide)]
  · rfl
theorem tranR_skip {P : Nat} {c : UInt8} {r : List UInt8} (h : [(32 : UInt8), 58].isPrefixOf r = false) : tranR P (c :: r) = none := by
  unfold tranR
  split
  · rename_i c' s2 e
    injection e with _ e
    subst e
    simp [List.isPrefixOf] at h
  · rfl
theorem tranR_none1 {P : Nat} {c : UInt8} {s2 : List UInt8} (hc : labOk c = true) (h : sideR (P : Int) (s2.length + P) s2 (List.replicate P 0) (-1) = none) : tranR P (c :: 32 :: 58 :: s2) = none := by
  unfold tranR
  simp only
  rw [if_pos hc, h]
theorem tranR_no2 {P : Nat} {c : UInt8} {s2 rest : List UInt8} {o : List Int} (hc : labOk c = true) (h : sideR (P : Int) (s2.length + P) s2 (List.replicate P 0) (-1) = some (o, rest)) (h2 : [(32 : UInt8), 62].isPrefixOf rest = false) : tranR P (c :: 32 :: 58 :: s2) = none := by
  unfold tranR
  simp only
  rw [if_pos hc, h]
  split
  · rename_i a b e
    injection e with e
    injection e with _ e
    subst e
    simp [List.isPrefixOf] at h2
  · rfl
theorem tranR_none2 {P : Nat} {c : UInt8} {s2 s3 : List UInt8} {o : List Int} (hc : labOk c = true) (h : sideR (P : Int) (s2.length + P) s2 (List.replicate P 0) (-1) = some (o, 32 :: 62 :: s3)) (h2 : sideR (P : Int) (s3.length + P) s3 (List.replicate P 0) (-1) = none) : tranR P (c :: 32 :: 58 :: s2) = none := by
  unfold tranR
  simp only
  rw [if_pos hc, h]
  simp only
  rw [h2]
theorem tranR_end {P : Nat} {c : UInt8} {s2 s3 r3 : List UInt8} {o o2 : List Int} (hc : labOk c = true) (h : sideR (P : Int) (s2.length + P) s2 (List.replicate P 0) (-1) = some (o, 32 :: 62 :: s3)) (h2 : sideR (P : Int) (s3.length + P) s3 (List.replicate P 0) (-1) = some (o2, r3)) : tranR P (c :: 32 :: 58 :: s2) = if r3 = [] then some ⟨labOf c, o, o2⟩ else none := by
  unfold tranR
  simp only
  rw [if_pos hc, h]
  simp only
  rw [h2]
  cases r3 with
  | nil => rfl
  | cons _ _ => rfl
theorem drop_two {s : List UInt8} {j : Nat} {c d : UInt8} (h : [c, d].isPrefixOf (s.drop j) = true) : s.drop j = c :: d :: s.drop (j + 2) ∧ j + 2 ≤ s.length := by
  have h1 : [c].isPrefixOf (s.drop j) = true := by
    cases hd : s.drop j with
    | nil => rw [hd] at h; cases h
    | cons x r => rw [hd] at h; simp [List.isPrefixOf] at h ⊢; exact h.1
  obtain ⟨e1, l1⟩ := dropC h1
  have h2 : [d].isPrefixOf (s.drop (j + 1)) = true := by
    rw [e1] at h
    simp only [List.isPrefixOf, Bool.and_eq_true] at h
    exact h.2
  obtain ⟨e2, l2⟩ := dropC h2
  exact ⟨by rw [e1, e2], by omega⟩

theorem ownKeepS {w w' : World} {B b g P : Nat} {o : List Int} (h : OwnInts w B (.slice (some ⟨g, 0, none⟩) P P) P o) (hg : w.grownBy w' (some b)) (hb : b < B) : OwnInts w' B (.slice (some ⟨g, 0, none⟩) P P) P o :=
  OwnSl.kept h hg (.inr (ownNe (Nat.lt_of_lt_of_le hb (OwnSl.lt h g rfl).1))) (fun _ _ h => h)
theorem grown3 (w : World) (b : Nat) (v0 v1 v2 : Value) : w.grownBy ((((w.setCell ⟨b, 0, none⟩ v0).setCell ⟨b, 1, none⟩ v1).setCell ⟨b, 2, none⟩ v2).drew) (some b) :=
  ⟨rfl, rfl, rfl, by simp [World.setCell, World.drew], fun k _ hne => by
    have h := (grownSet w b 0 v0).trans ((grownSet _ b 1 v1).trans (grownSet _ b 2 v2))
    exact h.block k (by assumption) hne⟩
theorem rdOther {w : World} {b k : Nat} {s : List UInt8} (h : RdV w b s k) (p : Addr) (v : Value) (hne : b ≠ p.block) : RdV (w.setCell p v) b s k := Box.other h v hne
set_option maxRecDepth 100000 in
set_option maxHeartbeats 16000000 in
theorem otran_calls {w : World} {B : Nat} {s : List UInt8} {P : Nat} (hs : s.length ≤ 2000000) (T : Tabs B w) (hP : P ≤ 16) :
    Calls Tryd.prog 24 #[.string ⟨s.toArray⟩, .int .i64 (P : Int)] w fun e w' => AnsTranR w w' P s e := by
  have TT := hide2 T
  clear T
  by_cases h0 : s = []
  · subst h0
    have FIN := hide2 (show ∀ w', Below w.heap.size w w' → AnsTranR w w' P [] (.returned (.tuple #[.agg #[.int .i64 0, .slice none 0 0, .slice none 0 0], .bool false])) from fun w' hb => ⟨hb, .inr ⟨rfl, 0, none, 0, 0, none, 0, 0, rfl⟩⟩)
    go_enter Tryd.func24, Tryd.ntmps24
    go_wp2
    generalize hw1 : w.alloc (.cells #[.int .i64 0, .slice none 0 0, .slice none 0 0] 44) = w1
    have B1 := hide2 (show Below w.heap.size w w1 by rw [← hw1]; exact boxBelow _ _)
    obtain ⟨z0, z1, z2⟩ := Box.three (show Box w1 w.heap.size 44 #[.int .i64 0, .slice none 0 0, .slice none 0 0] by rw [← hw1]; exact Box.new _ _ _)
    exact bodyPost_ret (v := .tuple #[.agg #[.int .i64 0, .slice none 0 0, .slice none 0 0], .bool false]) (by simp [results, Tryd.results24, go_sem, z0, z1, z2]) rfl (FIN.out w1 B1.out)
  · obtain ⟨c, r, hcr⟩ : ∃ c r, s = c :: r := by cases s with
      | nil => exact absurd rfl h0
      | cons c r => exact ⟨c, r, rfl⟩
    have HCR := hide2 hcr
    have hlt : 0 < s.length := by rw [hcr]; simp
    have hget : (⟨s.toArray⟩ : ByteArray)[0]'(show 0 < s.length from hlt) = c := by
      have : s[0]'hlt = c := by simp [hcr]
      exact this
    have hli : (0 : Int) < (s.length : Int) := by omega
    have hle : ((s.length : Int) == 0) = false := by simp; omega
    have hle2 : ¬ (s.length : Int) = 0 := by omega
    have hle3 : (s.length == 0) = false := by simp; omega
    clear h0 hcr
    by_cases hc : labOk c = true
    · obtain ⟨l1, l2, l3⟩ := labT_of hc
      have HC := hide2 hc
      have HL := hide2 (show c.toNat = 45 ∧ labOf c = 0 ∨ (97 ≤ c.toNat ∧ c.toNat ≤ 122 ∧ c.toNat ≠ 45 ∧ labOf c = (c.toNat : Int) - 96) by
        unfold labOk at hc
        simp only [Bool.or_eq_true, Bool.and_eq_true, decide_eq_true_eq, beq_iff_eq] at hc
        unfold labOf
        rcases hc with rfl | ⟨h1, h2⟩
        · exact .inl ⟨rfl, rfl⟩
        · have h3 : c ≠ 45 := fun e => by rw [e] at h1; exact absurd h1 (by decide)
          exact .inr ⟨h1, h2, fun e => h3 (UInt8.toNat.inj (by simpa using e)), if_neg h3⟩)
      clear l1 l2 l3 hc
      go_enter Tryd.func24, Tryd.ntmps24
      go_upto_region 1 with fail
      generalize hw1 : w.alloc (.cells #[.int .i64 0, .slice none 0 0, .slice none 0 0] 44) = w1
      have B1 := hide2 (show Below w.heap.size w w1 by rw [← hw1]; exact boxBelow _ _)
      have R1 := hide2 (show Box w1 w.heap.size 44 #[.int .i64 0, .slice none 0 0, .slice none 0 0] by rw [← hw1]; exact Box.new _ _ _)
      have S1 : w1.heap.size = w.heap.size + 1 := by rw [← hw1]; exact Array.size_push _
      clear hw1
      go_cut [27] (fun v wx => v = .bool false ∧ wx = w1)
      case first =>
        rcases HL.out with ⟨h45, _⟩ | ⟨h97, h122, hne, _⟩
        · have k1 : ((c.toNat : Int) == 45) = true := by simp [h45]
          have k2 : (c.toNat : Int) = 45 := by omega
          go_wp2
          go_meet
          exact ⟨rfl, rfl⟩
        · have k1 : ((c.toNat : Int) == 45) = false := by simp; omega
          have k2 : ¬ (c.toNat : Int) = 45 := by omega
          have k3 : (c.toNat == 45) = false := by simpa using hne
          have k4 : ¬ (c.toNat : Int) < 97 := by omega
          have k5 : ¬ 122 < (c.toNat : Int) := by omega
          go_wp2
          go_meet
          exact ⟨rfl, rfl⟩
      case rest =>
        obtain ⟨rfl, rfl⟩ := hcut
        go_upto_region 4 with fail
        rw [show w.heap.size + 1 + 1 = w.heap.size + 2 from rfl]
        generalize hw2 : (wc.alloc (.cells #[.string ⟨s.toArray⟩, .int .i64 1] 57)).alloc (.cells #[.int .i64 0, .slice none 0 0, .slice none 0 0] 44) = w2
        have B2 := hide2 (show Below w.heap.size w w2 by rw [← hw2]; exact (B1.out.alloc (by omega) _).alloc (by rw [World.size_alloc]; omega) _)
        have Z2 := hide2 (show Box w2 w.heap.size 44 #[.int .i64 0, .slice none 0 0, .slice none 0 0] by rw [← hw2]; exact (R1.out.old _).old _)
        have R2 := hide2 (show RdV w2 (w.heap.size + 1) s 1 by rw [← hw2, ← S1]; exact (Box.new wc _ _).old _)
        have T2 := hide2 (show Box w2 (w.heap.size + 2) 44 #[.int .i64 0, .slice none 0 0, .slice none 0 0] by rw [← hw2]; exact Box.newAt (by rw [World.size_alloc]; omega) _ _)
        clear hw2 B1 R1 S1
        go_upto_if 35 with fail
        go_cut [] (fun wx => Hid (Below w.heap.size w wx) ∧ Hid (Box wx w.heap.size 44 #[.int .i64 0, .slice none 0 0, .slice none 0 0]) ∧ Hid (RdV wx (w.heap.size + 1) s 1) ∧ Hid (Box wx (w.heap.size + 2) 44 #[.int .i64 (labOf c), .slice none 0 0, .slice none 0 0]))
        case first =>
          rcases HL.out with ⟨h45, hl⟩ | ⟨h97, h122, hne, hl⟩
          · have k1 : ((c.toNat : Int) == 45) = true := by simp [h45]
            have k2 : (c.toNat : Int) = 45 := by omega
            have T3 := hide2 (show Box w2 (w.heap.size + 2) 44 #[.int .i64 (labOf c), .slice none 0 0, .slice none 0 0] by rw [hl]; exact T2.out)
            clear hl
            go_wp2
            go_meet
            exact ⟨B2, Z2, R2, T3⟩
          · have k1 : ((c.toNat : Int) == 45) = false := by simp; omega
            have k2 : ¬ (c.toNat : Int) = 45 := by omega
            have k3 : (c.toNat == 45) = false := by simpa using hne
            have k4 : 97 ≤ (c.toNat : Int) := by omega
            have k5 : (c.toNat : Int) ≤ 122 := by omega
            have c0 := T2.out.cell 0
            have f0 := T2.out.frozen 0
            have T3 := hide2 (show Box (w2.setCell ⟨w.heap.size + 2, 0, none⟩ (.int .i64 ((c.toNat : Int) - 96))) (w.heap.size + 2) 44 #[.int .i64 (labOf c), .slice none 0 0, .slice none 0 0] by rw [hl]; exact T2.out.set 0 _)
            have B3 := hide2 (B2.out.setCell (p := ⟨w.heap.size + 2, 0, none⟩) (by show w.heap.size ≤ w.heap.size + 2; omega) (.int .i64 ((c.toNat : Int) - 96)))
            have Z3 := hide2 (Z2.out.other (a := ⟨w.heap.size + 2, 0, none⟩) (.int .i64 ((c.toNat : Int) - 96)) (by show w.heap.size ≠ w.heap.size + 2; omega))
            have R3 := hide2 (show RdV (w2.setCell ⟨w.heap.size + 2, 0, none⟩ (.int .i64 ((c.toNat : Int) - 96))) (w.heap.size + 1) s 1 from rdOther R2.out ⟨w.heap.size + 2, 0, none⟩ _ (by show w.heap.size + 1 ≠ w.heap.size + 2; omega))
            clear hl
            go_wp2
            go_meet
            exact ⟨B3, Z3, R3, T3⟩
        case rest =>
          obtain ⟨B2, Z2, R2, T2⟩ := hcut
          clear hget hli hle hle2 hle3 HL
          have hlt1 : 1 ≤ s.length := hlt
          have HB := hide2 (show B ≤ w.heap.size + 1 ∧ B ≤ w.heap.size from ⟨by have := TT.out.1; omega, TT.out.1⟩)
          have SK : Hid (Calls Tryd.prog 22 #[.pointer (some ⟨w.heap.size + 1, 0, none⟩), .string ⟨#[32, 58]⟩] wc fun e w' => AnsSkip wc w' (w.heap.size + 1) s [32, 58] 1 e) := skip_calls (p := [32, 58]) R2.out hlt1 hs (by decide)
          cases hq : [(32 : UInt8), 58].isPrefixOf (s.drop 1) with
          | false =>
            have HN := hide2 (show tranR P s = none by rw [HCR.out] at hq ⊢; exact tranR_skip hq)
            have HQ := hide2 hq
            clear hq
            go_upto_region 11 with (go_at_call 22; (with_reducible refine SK.out.mono ?_); rintro e w3 ⟨he, r3, g3⟩; rw [HQ.out] at he r3; rw [if_neg (by decide)] at r3; subst he; have B3 := hide2 (B2.out.grown g3 (Nat.le_of_lt (Box.lt Z2.out)) (fun k hk => by injection hk with hk; omega)); have Z3 := hide2 (Z2.out.grown g3 (fun e => by injection e; omega)); have T3 := hide2 (T2.out.grown g3 (fun e => by injection e; omega)); have R3 := hide2 r3; clear r3 g3 SK)
            have B9 := B3; have Z9 := Z3; have T9 := T3
            obtain ⟨t0, t1, t2⟩ := T9.out.three
            obtain ⟨z0, z1, z2⟩ := Z9.out.three
            have f0 := Z9.out.frozen 0
            have f1 := Z9.out.frozen 1
            have f2 := Z9.out.frozen 2
            go_region
            have FIN := hide2 (show AnsTranR w ((((w3.setCell ⟨w.heap.size, 0, none⟩ (.int .i64 (labOf c))).setCell ⟨w.heap.size, 1, none⟩ (.slice none 0 0)).setCell ⟨w.heap.size, 2, none⟩ (.slice none 0 0)).drew) P s (.returned (.tuple #[.agg #[.int .i64 (labOf c), .slice none 0 0, .slice none 0 0], .bool false])) from ⟨B9.out.grown (grown3 w3 w.heap.size _ _ _) (Nat.le_of_lt (Box.lt Z9.out)) (fun k hk => by injection hk with hk; omega), .inr ⟨HN.out, labOf c, none, 0, 0, none, 0, 0, rfl⟩⟩)
            obtain ⟨y0, y1, y2⟩ := ((Z9.out.set3 (.int .i64 (labOf c)) (.slice none 0 0) (.slice none 0 0)).drew).three
            go_wp2
            exact bodyPost_ret (v := .tuple #[.agg #[.int .i64 (labOf c), .slice none 0 0, .slice none 0 0], .bool false]) (by simp [results, Tryd.results24, go_sem, y0, y1, y2]) rfl FIN.out
          | true =>
            obtain ⟨hd3, h3⟩ := drop_two hq
            have HS := hide2 (show s = c :: 32 :: 58 :: s.drop 3 by
              have e : s.drop 1 = r := by rw [HCR.out]; rfl
              rw [← hd3, e]; exact HCR.out)
            have HQ := hide2 hq
            clear hq hd3
            go_upto_region 8 with (go_at_call 22; (with_reducible refine SK.out.mono ?_); rintro e w3 ⟨he, r3, g3⟩; rw [HQ.out] at he r3; rw [if_pos rfl] at r3; subst he; have B3 := hide2 (B2.out.grown g3 (Nat.le_of_lt (Box.lt Z2.out)) (fun k hk => by injection hk with hk; omega)); have Z3 := hide2 (Z2.out.grown g3 (fun e => by injection e; omega)); have T3 := hide2 (T2.out.grown g3 (fun e => by injection e; omega)); have R3 := hide2 r3; clear r3 g3 SK)
            have HSZ := hide2 (show w.heap.size + 2 < w3.heap.size from Box.lt T3.out)
            have TB3 := hide2 (TT.out.keep (B3.out.mono HB.out.2))
            have SD := hide2 (sideR_calls (P := P) R3.out h3 hs TB3.out HB.out.1 hP)
            have f1 := T3.out.frozen 1
            have q1 := T3.out.cell 1
            simp only [List.getElem?_toArray, List.getElem?_cons_succ, List.getElem?_cons_zero] at q1
            cases hsd : sideR (P : Int) ((s.drop 3).length + P) (s.drop 3) (List.replicate P 0) (-1) with
            | none =>
              have HN := hide2 (show tranR P s = none by rw [HS.out]; exact tranR_none1 HC.out hsd)
              have HSD := hide2 hsd
              clear hsd
              go_upto_region 9 with (go_at_call 42; (with_reducible refine SD.out.mono ?_); rintro e w4 ⟨g4, ⟨_, _, _, h1, _⟩ | ⟨_, he, k4, hk4, r4⟩⟩; (exact absurd (HSD.out.symm.trans h1) (by intro e; cases e)); subst he; have B4 := hide2 (B3.out.grown g4 (Nat.le_of_lt (Box.lt Z3.out)) (fun k hk => by injection hk with hk; omega)); have Z4 := hide2 (Z3.out.grown g4 (fun e => by injection e; omega)); have T4 := hide2 (T3.out.grown g4 (fun e => by injection e; omega)); have R4 := hide2 r4; have f4 := T4.out.frozen 1; have q4 := T4.out.cell 1; simp only [List.getElem?_toArray, List.getElem?_cons_succ, List.getElem?_cons_zero] at q4; clear r4 g4 SD q1 f1)
              go_upto_region 11 with fail
              have g9 := grownSet w4 (w.heap.size + 2) 1 (.slice none 0 0)
              have B9 := hide2 (B4.out.grown g9 (Nat.le_of_lt (Box.lt Z4.out)) (fun k hk => by injection hk with hk; omega))
              have Z9 := hide2 (Z4.out.grown g9 (fun e => by injection e; omega))
              have T9 := hide2 (show Box (w4.setCell ⟨w.heap.size + 2, 1, none⟩ (.slice none 0 0)) (w.heap.size + 2) 44 #[.int .i64 (labOf c), .slice none 0 0, .slice none 0 0] from T4.out.set 1 _)
              clear g9 q4 f4
              generalize w4.setCell ⟨w.heap.size + 2, 1, none⟩ (.slice none 0 0) = w9 at *
              obtain ⟨t0, t1, t2⟩ := T9.out.three
              obtain ⟨z0, z1, z2⟩ := Z9.out.three
              have f0 := Z9.out.frozen 0
              have f1 := Z9.out.frozen 1
              have f2 := Z9.out.frozen 2
              go_region
              have FIN := hide2 (show AnsTranR w ((((w9.setCell ⟨w.heap.size, 0, none⟩ (.int .i64 (labOf c))).setCell ⟨w.heap.size, 1, none⟩ (.slice none 0 0)).setCell ⟨w.heap.size, 2, none⟩ (.slice none 0 0)).drew) P s (.returned (.tuple #[.agg #[.int .i64 (labOf c), .slice none 0 0, .slice none 0 0], .bool false])) from ⟨B9.out.grown (grown3 w9 w.heap.size _ _ _) (Nat.le_of_lt (Box.lt Z9.out)) (fun k hk => by injection hk with hk; omega), .inr ⟨HN.out, labOf c, none, 0, 0, none, 0, 0, rfl⟩⟩)
              obtain ⟨y0, y1, y2⟩ := ((Z9.out.set3 (.int .i64 (labOf c)) (.slice none 0 0) (.slice none 0 0)).drew).three
              go_wp2
              exact bodyPost_ret (v := .tuple #[.agg #[.int .i64 (labOf c), .slice none 0 0, .slice none 0 0], .bool false]) (by simp [results, Tryd.results24, go_sem, y0, y1, y2]) rfl FIN.out
            | some pr =>
              obtain ⟨pre, rest⟩ := pr
              have HSD := hide2 hsd
              clear hsd
              go_upto_region 9 with (go_at_call 42; (with_reducible refine SD.out.mono ?_); rintro e w4 ⟨g4, ⟨pre', rest', g, h1, he, o4, hrl, hrd, r4⟩ | ⟨h1, _⟩⟩; rotate_left; (exact absurd (HSD.out.symm.trans h1) (by intro e; cases e)); (have h1 := HSD.out.symm.trans h1); injection h1 with h1; injection h1 with h1 h1b; subst h1 h1b; subst he; have O4 := hide2 o4; have HR := hide2 (And.intro hrl hrd); have B4 := hide2 (B3.out.grown g4 (Nat.le_of_lt (Box.lt Z3.out)) (fun k hk => by injection hk with hk; omega)); have Z4 := hide2 (Z3.out.grown g4 (fun e => by injection e; omega)); have T4 := hide2 (T3.out.grown g4 (fun e => by injection e; omega)); have R4 := hide2 r4; have f4 := T4.out.frozen 1; have q4 := T4.out.cell 1; simp only [List.getElem?_toArray, List.getElem?_cons_succ, List.getElem?_cons_zero] at q4; clear r4 g4 SD q1 f1 o4 hrl hrd)
              have g5 := grownSet w4 (w.heap.size + 2) 1 (.slice (some ⟨g, 0, none⟩) P P)
              have B5 := hide2 (B4.out.grown g5 (Nat.le_of_lt (Box.lt Z4.out)) (fun k hk => by injection hk with hk; omega))
              have Z5 := hide2 (Z4.out.grown g5 (fun e => by injection e; omega))
              have R5 := hide2 (Box.grown R4.out g5 (fun e => by injection e; omega))
              have O5 := hide2 (ownKeepS O4.out g5 HSZ.out)
              have T5 := hide2 (show Box (w4.setCell ⟨w.heap.size + 2, 1, none⟩ (.slice (some ⟨g, 0, none⟩) P P)) (w.heap.size + 2) 44 #[.int .i64 (labOf c), .slice (some ⟨g, 0, none⟩) P P, .slice none 0 0] from T4.out.set 1 _)
              clear g5 q4 f4 B4 Z4 R4 O4 T4
              generalize w4.setCell ⟨w.heap.size + 2, 1, none⟩ (.slice (some ⟨g, 0, none⟩) P P) = w5 at *
              obtain ⟨k4, hk4⟩ : ∃ k4, k4 = s.length - rest.length := ⟨_, rfl⟩
              have HK4 := hide2 (show k4 ≤ s.length ∧ s.drop k4 = rest from ⟨by omega, by rw [hk4]; exact HR.out.2⟩)
              have R5 := hide2 (show RdV w5 (w.heap.size + 1) s k4 by rw [hk4]; exact R5.out)
              clear hk4
              have SK : Hid (Calls Tryd.prog 22 #[.pointer (some ⟨w.heap.size + 1, 0, none⟩), .string ⟨#[32, 62]⟩] w5 fun e w' => AnsSkip w5 w' (w.heap.size + 1) s [32, 62] k4 e) := skip_calls (p := [32, 62]) R5.out HK4.out.1 hs (by decide)
              cases hq2 : [(32 : UInt8), 62].isPrefixOf (s.drop k4) with
              | false =>
                have HN := hide2 (show tranR P s = none by rw [HS.out]; exact tranR_no2 HC.out HSD.out (by rw [← HK4.out.2]; exact hq2))
                have HQ2 := hide2 hq2
                clear hq2
                go_upto_region 11 with (go_at_call 22; (with_reducible refine SK.out.mono ?_); rintro e w6 ⟨he, r6, g6⟩; rw [HQ2.out] at he r6; rw [if_neg (by decide)] at r6; subst he; have B6 := hide2 (B5.out.grown g6 (Nat.le_of_lt (Box.lt Z5.out)) (fun k hk => by injection hk with hk; omega)); have Z6 := hide2 (Z5.out.grown g6 (fun e => by injection e; omega)); have T6 := hide2 (T5.out.grown g6 (fun e => by injection e; omega)); have R6 := hide2 r6; clear r6 g6 SK)
                have B9 := B6; have Z9 := Z6; have T9 := T6
                obtain ⟨t0, t1, t2⟩ := T9.out.three
                obtain ⟨z0, z1, z2⟩ := Z9.out.three
                have f0 := Z9.out.frozen 0
                have f1 := Z9.out.frozen 1
                have f2 := Z9.out.frozen 2
                go_region
                have FIN := hide2 (show AnsTranR w ((((w6.setCell ⟨w.heap.size, 0, none⟩ (.int .i64 (labOf c))).setCell ⟨w.heap.size, 1, none⟩ (.slice (some ⟨g, 0, none⟩) P P)).setCell ⟨w.heap.size, 2, none⟩ (.slice none 0 0)).drew) P s (.returned (.tuple #[.agg #[.int .i64 (labOf c), .slice (some ⟨g, 0, none⟩) P P, .slice none 0 0], .bool false])) from ⟨B9.out.grown (grown3 w6 w.heap.size _ _ _) (Nat.le_of_lt (Box.lt Z9.out)) (fun k hk => by injection hk with hk; omega), .inr ⟨HN.out, labOf c, some ⟨g, 0, none⟩, P, P, none, 0, 0, rfl⟩⟩)
                obtain ⟨y0, y1, y2⟩ := ((Z9.out.set3 (.int .i64 (labOf c)) (.slice (some ⟨g, 0, none⟩) P P) (.slice none 0 0)).drew).three
                go_wp2
                exact bodyPost_ret (v := .tuple #[.agg #[.int .i64 (labOf c), .slice (some ⟨g, 0, none⟩) P P, .slice none 0 0], .bool false]) (by simp [results, Tryd.results24, go_sem, y0, y1, y2]) rfl FIN.out
              | true =>
                obtain ⟨hd5, h5⟩ := drop_two hq2
                have HS2 := hide2 (show sideR (P : Int) ((s.drop 3).length + P) (s.drop 3) (List.replicate P 0) (-1) = some (pre, 32 :: 62 :: s.drop (k4 + 2)) by rw [← hd5, HK4.out.2]; exact HSD.out)
                have HQ2 := hide2 hq2
                clear hq2 hd5
                go_upto_region 10 with (go_at_call 22; (with_reducible refine SK.out.mono ?_); rintro e w6 ⟨he, r6, g6⟩; rw [HQ2.out] at he r6; rw [if_pos rfl] at r6; subst he; have B6 := hide2 (B5.out.grown g6 (Nat.le_of_lt (Box.lt Z5.out)) (fun k hk => by injection hk with hk; omega)); have Z6 := hide2 (Z5.out.grown g6 (fun e => by injection e; omega)); have T6 := hide2 (T5.out.grown g6 (fun e => by injection e; omega)); have R6 := hide2 r6; have O6 := hide2 (ownKeepS O5.out g6 (by have := HSZ.out; omega)); clear r6 g6 SK)
                have R6 := hide2 (show RdV w6 (w.heap.size + 1) s (k4 + 2) from R6.out)
                have TB6 := hide2 (TT.out.keep (B6.out.mono HB.out.2))
                have SD := hide2 (sideR_calls (P := P) R6.out h5 hs TB6.out HB.out.1 hP)
                have f1 := T6.out.frozen 2
                have q1 := T6.out.cell 2
                simp only [List.getElem?_toArray, List.getElem?_cons_succ, List.getElem?_cons_zero] at q1
                cases hsd : sideR (P : Int) ((s.drop (k4 + 2)).length + P) (s.drop (k4 + 2)) (List.replicate P 0) (-1) with
                | none =>
                  have HN := hide2 (show tranR P s = none by rw [HS.out]; exact tranR_none2 HC.out HS2.out hsd)
                  have HSD2 := hide2 hsd
                  clear hsd
                  go_upto_region 11 with (go_at_call 42; (with_reducible refine SD.out.mono ?_); rintro e w7 ⟨g7, ⟨_, _, _, h1, _⟩ | ⟨_, he, k7, hk7, r7⟩⟩; (exact absurd (HSD2.out.symm.trans h1) (by intro e; cases e)); subst he; have B7 := hide2 (B6.out.grown g7 (Nat.le_of_lt (Box.lt Z6.out)) (fun k hk => by injection hk with hk; omega)); have Z7 := hide2 (Z6.out.grown g7 (fun e => by injection e; omega)); have T7 := hide2 (T6.out.grown g7 (fun e => by injection e; omega)); have R7 := hide2 r7; have f4 := T7.out.frozen 2; have q4 := T7.out.cell 2; simp only [List.getElem?_toArray, List.getElem?_cons_succ, List.getElem?_cons_zero] at q4; clear r7 g7 SD q1 f1)
                  have g9 := grownSet w7 (w.heap.size + 2) 2 (.slice none 0 0)
                  have B9 := hide2 (B7.out.grown g9 (Nat.le_of_lt (Box.lt Z7.out)) (fun k hk => by injection hk with hk; omega))
                  have Z9 := hide2 (Z7.out.grown g9 (fun e => by injection e; omega))
                  have T9 := hide2 (show Box (w7.setCell ⟨w.heap.size + 2, 2, none⟩ (.slice none 0 0)) (w.heap.size + 2) 44 #[.int .i64 (labOf c), .slice (some ⟨g, 0, none⟩) P P, .slice none 0 0] from T7.out.set 2 _)
                  clear g9 q4 f4
                  generalize w7.setCell ⟨w.heap.size + 2, 2, none⟩ (.slice none 0 0) = w9 at *
                  obtain ⟨t0, t1, t2⟩ := T9.out.three
                  obtain ⟨z0, z1, z2⟩ := Z9.out.three
                  have f0 := Z9.out.frozen 0
                  have f1 := Z9.out.frozen 1
                  have f2 := Z9.out.frozen 2
                  go_region
                  have FIN := hide2 (show AnsTranR w ((((w9.setCell ⟨w.heap.size, 0, none⟩ (.int .i64 (labOf c))).setCell ⟨w.heap.size, 1, none⟩ (.slice (some ⟨g, 0, none⟩) P P)).setCell ⟨w.heap.size, 2, none⟩ (.slice none 0 0)).drew) P s (.returned (.tuple #[.agg #[.int .i64 (labOf c), .slice (some ⟨g, 0, none⟩) P P, .slice none 0 0], .bool false])) from ⟨B9.out.grown (grown3 w9 w.heap.size _ _ _) (Nat.le_of_lt (Box.lt Z9.out)) (fun k hk => by injection hk with hk; omega), .inr ⟨HN.out, labOf c, some ⟨g, 0, none⟩, P, P, none, 0, 0, rfl⟩⟩)
                  obtain ⟨y0, y1, y2⟩ := ((Z9.out.set3 (.int .i64 (labOf c)) (.slice (some ⟨g, 0, none⟩) P P) (.slice none 0 0)).drew).three
                  go_wp2
                  exact bodyPost_ret (v := .tuple #[.agg #[.int .i64 (labOf c), .slice (some ⟨g, 0, none⟩) P P, .slice none 0 0], .bool false]) (by simp [results, Tryd.results24, go_sem, y0, y1, y2]) rfl FIN.out
                | some pr =>
                  obtain ⟨post, rest3⟩ := pr
                  have HSD2 := hide2 hsd
                  clear hsd
                  go_upto_region 11 with (go_at_call 42; (with_reducible refine SD.out.mono ?_); rintro e w7 ⟨g7, ⟨post', rest', gb, h1, he, o7, hrl, hrd, r7⟩ | ⟨h1, _⟩⟩; rotate_left; (exact absurd (HSD2.out.symm.trans h1) (by intro e; cases e)); (have h1 := HSD2.out.symm.trans h1); injection h1 with h1; injection h1 with h1 h1b; subst h1 h1b; subst he; have P7 := hide2 o7; have O7 := hide2 (ownKeepS O6.out g7 (by have := HSZ.out; omega)); have HR3 := hide2 (And.intro hrl hrd); have H67 := hide2 g7.size; have B7 := hide2 (B6.out.grown g7 (Nat.le_of_lt (Box.lt Z6.out)) (fun k hk => by injection hk with hk; omega)); have Z7 := hide2 (Z6.out.grown g7 (fun e => by injection e; omega)); have T7 := hide2 (T6.out.grown g7 (fun e => by injection e; omega)); have R7 := hide2 r7; have f4 := T7.out.frozen 2; have q4 := T7.out.cell 2; simp only [List.getElem?_toArray, List.getElem?_cons_succ, List.getElem?_cons_zero] at q4; clear r7 g7 SD q1 f1 o7 hrl hrd)
                  have g9 := grownSet w7 (w.heap.size + 2) 2 (.slice (some ⟨gb, 0, none⟩) P P)
                  have B9 := hide2 (B7.out.grown g9 (Nat.le_of_lt (Box.lt Z7.out)) (fun k hk => by injection hk with hk; omega))
                  have Z9 := hide2 (Z7.out.grown g9 (fun e => by injection e; omega))
                  have R9 := hide2 (Box.grown R7.out g9 (fun e => by injection e; omega))
                  have O9 := hide2 (ownKeepS O7.out g9 HSZ.out)
                  have H6 := hide2 (show w.heap.size + 2 < w6.heap.size from Box.lt T6.out)
                  have P9 := hide2 (ownKeepS P7.out g9 H6.out)
                  have T9 := hide2 (show Box (w7.setCell ⟨w.heap.size + 2, 2, none⟩ (.slice (some ⟨gb, 0, none⟩) P P)) (w.heap.size + 2) 44 #[.int .i64 (labOf c), .slice (some ⟨g, 0, none⟩) P P, .slice (some ⟨gb, 0, none⟩) P P] from T7.out.set 2 _)
                  clear g9 q4 f4 B7 Z7 R7 O7 T7 P7
                  generalize w7.setCell ⟨w.heap.size + 2, 2, none⟩ (.slice (some ⟨gb, 0, none⟩) P P) = w9 at *
                  obtain ⟨s0, s1⟩ := Box.two R9.out
                  have HE := hide2 (show tranR P s = if rest3 = [] then some ⟨labOf c, pre, post⟩ else none by rw [HS.out]; exact tranR_end HC.out HS2.out HSD2.out)
                  by_cases hr3 : rest3 = []
                  · have HF := hide2 (show tranR P s = some ⟨labOf c, pre, post⟩ by rw [HE.out, if_pos hr3])
                    rw [hr3] at s1
                    have s1 : w9.cell? ⟨w.heap.size + 1, 1, none⟩ = some (.int .i64 (s.length : Int)) := s1
                    clear hr3
                    obtain ⟨t0, t1, t2⟩ := T9.out.three
                    obtain ⟨z0, z1, z2⟩ := Z9.out.three
                    have f0 := Z9.out.frozen 0
                    have f1 := Z9.out.frozen 1
                    have f2 := Z9.out.frozen 2
                    go_region
                    have FIN := hide2 (show AnsTranR w ((((w9.setCell ⟨w.heap.size, 0, none⟩ (.int .i64 (labOf c))).setCell ⟨w.heap.size, 1, none⟩ (.slice (some ⟨g, 0, none⟩) P P)).setCell ⟨w.heap.size, 2, none⟩ (.slice (some ⟨gb, 0, none⟩) P P)).drew) P s (.returned (.tuple #[.agg #[.int .i64 (labOf c), .slice (some ⟨g, 0, none⟩) P P, .slice (some ⟨gb, 0, none⟩) P P], .bool true])) from ⟨B9.out.grown (grown3 w9 w.heap.size _ _ _) (Nat.le_of_lt (Box.lt Z9.out)) (fun k hk => by injection hk with hk; omega), .inl ⟨⟨labOf c, pre, post⟩, g, gb, HF.out, rfl, (ownKeepS O9.out (grown3 w9 w.heap.size _ _ _) (by have := HSZ.out; omega)).base (by have := HSZ.out; omega), (ownKeepS P9.out (grown3 w9 w.heap.size _ _ _) (by have := H6.out; omega)).base (by have := H6.out; omega)⟩⟩)
                    obtain ⟨y0, y1, y2⟩ := ((Z9.out.set3 (.int .i64 (labOf c)) (.slice (some ⟨g, 0, none⟩) P P) (.slice (some ⟨gb, 0, none⟩) P P)).drew).three
                    go_wp2
                    exact bodyPost_ret (v := .tuple #[.agg #[.int .i64 (labOf c), .slice (some ⟨g, 0, none⟩) P P, .slice (some ⟨gb, 0, none⟩) P P], .bool true]) (by simp [results, Tryd.results24, go_sem, y0, y1, y2]) rfl FIN.out
                  · have HN := hide2 (show tranR P s = none by rw [HE.out, if_neg hr3])
                    have hne : ((((s.length - rest3.length : Nat) : Int)) == (s.length : Int)) = false := by
                      have h9 := HR3.out.1
                      have : rest3.length ≠ 0 := fun e => hr3 (List.eq_nil_of_length_eq_zero e)
                      simp only [beq_eq_false_iff_ne]
                      omega
                    obtain ⟨k6, hk6⟩ : ∃ k6, k6 = s.length - rest3.length := ⟨_, rfl⟩
                    rw [← hk6] at s1 hne
                    have hne2 : ¬ (k6 : Int) = (s.length : Int) := by simpa using hne
                    have hne3 : (k6 == s.length) = false := by simp; omega
                    clear hk6 hr3
                    obtain ⟨t0, t1, t2⟩ := T9.out.three
                    obtain ⟨z0, z1, z2⟩ := Z9.out.three
                    have f0 := Z9.out.frozen 0
                    have f1 := Z9.out.frozen 1
                    have f2 := Z9.out.frozen 2
                    go_region
                    have FIN := hide2 (show AnsTranR w ((((w9.setCell ⟨w.heap.size, 0, none⟩ (.int .i64 (labOf c))).setCell ⟨w.heap.size, 1, none⟩ (.slice (some ⟨g, 0, none⟩) P P)).setCell ⟨w.heap.size, 2, none⟩ (.slice (some ⟨gb, 0, none⟩) P P)).drew) P s (.returned (.tuple #[.agg #[.int .i64 (labOf c), .slice (some ⟨g, 0, none⟩) P P, .slice (some ⟨gb, 0, none⟩) P P], .bool false])) from ⟨B9.out.grown (grown3 w9 w.heap.size _ _ _) (Nat.le_of_lt (Box.lt Z9.out)) (fun k hk => by injection hk with hk; omega), .inr ⟨HN.out, labOf c, some ⟨g, 0, none⟩, P, P, some ⟨gb, 0, none⟩, P, P, rfl⟩⟩)
                    obtain ⟨y0, y1, y2⟩ := ((Z9.out.set3 (.int .i64 (labOf c)) (.slice (some ⟨g, 0, none⟩) P P) (.slice (some ⟨gb, 0, none⟩) P P)).drew).three
                    go_wp2
                    exact bodyPost_ret (v := .tuple #[.agg #[.int .i64 (labOf c), .slice (some ⟨g, 0, none⟩) P P, .slice (some ⟨gb, 0, none⟩) P P], .bool false]) (by simp [results, Tryd.results24, go_sem, y0, y1, y2]) rfl FIN.out
    · have hc' : c.toNat ≠ 45 ∧ ((c.toNat : Int) < 97 ∨ (¬ (c.toNat : Int) < 97 ∧ 122 < (c.toNat : Int))) := by
        unfold labOk at hc
        simp only [Bool.or_eq_true, Bool.and_eq_true, decide_eq_true_eq, beq_iff_eq, not_or, not_and] at hc
        refine ⟨fun e => hc.1 (UInt8.toNat.inj (by simpa using e)), ?_⟩
        by_cases h97 : 97 ≤ c.toNat
        · exact .inr ⟨by omega, by have := hc.2 h97; omega⟩
        · exact .inl (by omega)
      have FIN := hide2 (show ∀ w', Below w.heap.size w w' → AnsTranR w w' P s (.returned (.tuple #[.agg #[.int .i64 0, .slice none 0 0, .slice none 0 0], .bool false])) from fun w' hb => ⟨hb, .inr ⟨tranR_bad (fun c2 r2 e => by rw [HCR.out] at e; injection e with e _; subst e; simpa using hc), 0, none, 0, 0, none, 0, 0, rfl⟩⟩)
      clear hc
      obtain ⟨h45, h97⟩ := hc'
      have k1 : ((c.toNat : Int) == 45) = false := by simp; omega
      have k2 : ¬ (c.toNat : Int) = 45 := by omega
      have k3 : (c.toNat == 45) = false := by simpa using h45
      rcases h97 with h97 | ⟨h97, h122⟩
      all_goals
        go_enter Tryd.func24, Tryd.ntmps24
        go_wp2
        generalize hw1 : w.alloc (.cells #[.int .i64 0, .slice none 0 0, .slice none 0 0] 44) = w1
        have B1 := hide2 (show Below w.heap.size w w1 by rw [← hw1]; exact boxBelow _ _)
        obtain ⟨z0, z1, z2⟩ := Box.three (show Box w1 w.heap.size 44 #[.int .i64 0, .slice none 0 0, .slice none 0 0] by rw [← hw1]; exact Box.new _ _ _)
        exact bodyPost_ret (v := .tuple #[.agg #[.int .i64 0, .slice none 0 0, .slice none 0 0], .bool false]) (by simp [results, Tryd.results24, go_sem, z0, z1, z2]) rfl (FIN.out w1 B1.out)
end Go.Proofs.YtcgdjpelcfofgaaDoor
