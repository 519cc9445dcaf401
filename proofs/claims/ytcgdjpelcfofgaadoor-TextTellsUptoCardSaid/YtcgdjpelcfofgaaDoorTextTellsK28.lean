/- The contract of the reference's reading of a side. Conditions: the reader's block holds the text and a place within it; at most sixteen places; the tables lie as they were laid, below that block. -/
import Derived.Test.YtcgdjpelcfofgaaDoorTextTellsK26
import Derived.Test.YtcgdjpelcfofgaaDoorTextTellsK27
set_option linter.all false
namespace Go.Proofs.YtcgdjpelcfofgaaDoor
open Go.RowKit

theorem grownFar {w w1 w2 : World} {row : Option Nat} {g : Nat} (h : w.grownBy w1 row) (h2 : w1.grownBy w2 (some g)) (hg : w.heap.size ≤ g) : w.grownBy w2 row :=
  ⟨h2.os.trans h.os, h2.tape.trans h.tape, h2.output.trans h.output, Nat.le_trans h.size h2.size, fun k hk hne => (h2.block k (Nat.lt_of_lt_of_le hk h.size) (fun e => by injection e with e; omega)).trans (h.block k hk hne)⟩
/-- What the reading of a side answers. -/
def AnsSideR (w w' : World) (b : Nat) (s : List UInt8) (k P : Nat) (e : Ending) : Prop :=
  w.grownBy w' (some b) ∧ ((∃ out rest g, sideR (P : Int) ((s.drop k).length + P) (s.drop k) (List.replicate P 0) (-1) = some (out, rest) ∧ e = .returned (.tuple #[.slice (some ⟨g, 0, none⟩) P P, .bool true]) ∧ OwnInts w' w.heap.size (.slice (some ⟨g, 0, none⟩) P P) P out ∧ rest.length ≤ s.length ∧ s.drop (s.length - rest.length) = rest ∧ RdV w' b s (s.length - rest.length)) ∨
    (sideR (P : Int) ((s.drop k).length + P) (s.drop k) (List.replicate P 0) (-1) = none ∧ e = .returned (.tuple #[.slice none 0 0, .bool false]) ∧ ∃ k', k' ≤ s.length ∧ RdV w' b s k'))
theorem dropC {s : List UInt8} {j : Nat} {c : UInt8} (h : [c].isPrefixOf (s.drop j) = true) : s.drop j = c :: s.drop (j + 1) ∧ j < s.length := by
  cases hd : s.drop j with
  | nil => rw [hd] at h; cases h
  | cons x r =>
    rw [hd] at h
    simp [List.isPrefixOf] at h
    subst h
    have hl : j < s.length := by
      apply Classical.byContradiction
      intro hn
      rw [List.drop_of_length_le (by omega)] at hd
      cases hd
    refine ⟨?_, hl⟩
    rw [List.drop_eq_getElem_cons hl] at hd
    injection hd with _ hd
    rw [hd]
theorem drop_not {s : List UInt8} {j : Nat} {c : UInt8} (h : [c].isPrefixOf (s.drop j) = false) : (s.drop j).head? ≠ some c := by
  intro e
  cases hd : s.drop j with
  | nil => rw [hd] at e; cases e
  | cons x r =>
    rw [hd] at e h
    simp at e
    subst e
    simp [List.isPrefixOf] at h
theorem while_drop (s : List UInt8) (j : Nat) : s.drop (j + ((s.drop j).takeWhile dgt).length) = (s.drop j).dropWhile dgt ∧ (j ≤ s.length → j + ((s.drop j).takeWhile dgt).length ≤ s.length) := by
  have e1 := (take_drop_dgt (s.drop j)).1
  refine ⟨?_, fun hj => ?_⟩
  · rw [← List.drop_drop]
    have e2 := congrArg (List.drop ((s.drop j).takeWhile dgt).length) e1
    rw [List.drop_left] at e2
    exact e2.symm
  · have e2 := congrArg List.length e1
    rw [List.length_append, List.length_drop] at e2
    omega
theorem sideR_stop {P : Int} {f : Nat} {r : List UInt8} {out : List Int} {last : Int} (h : r.head? ≠ some 32) : sideR P f r out last = some (out, r) := sideR_end (.inr (fun c hc e => h (by rw [hc, e])))
/-- One round of the reading. -/
theorem sideR_round {P : Int} {f : Nat} {s1 : List UInt8} {out : List Int} {last : Int} : sideR P (f + 1) (32 :: s1) out last = if s1.head? = some 62 then some (out, 32 :: s1) else if (s1.dropWhile dgt).head? = some 42 then
          (if (numT (s1.takeWhile dgt)).1 < 2 ∨ 9 < (numT (s1.takeWhile dgt)).1 then none
          else if ((numT (s1.takeWhile dgt)).2 && (numT (((s1.dropWhile dgt).drop 1).takeWhile dgt)).2) = false ∨ (numT (((s1.dropWhile dgt).drop 1).takeWhile dgt)).1 ≤ last ∨ P ≤ (numT (((s1.dropWhile dgt).drop 1).takeWhile dgt)).1 then none
          else sideR P f (((s1.dropWhile dgt).drop 1).dropWhile dgt) (out.set (numT (((s1.dropWhile dgt).drop 1).takeWhile dgt)).1.toNat (numT (s1.takeWhile dgt)).1) (numT (((s1.dropWhile dgt).drop 1).takeWhile dgt)).1)
        else
          (if (numT (s1.takeWhile dgt)).2 = false ∨ (numT (s1.takeWhile dgt)).1 ≤ last ∨ P ≤ (numT (s1.takeWhile dgt)).1 then none
          else sideR P f (s1.dropWhile dgt) (out.set (numT (s1.takeWhile dgt)).1.toNat 1) (numT (s1.takeWhile dgt)).1) := rfl

theorem ownNe {g b n c : Nat} (hb : b < g) : (Value.slice (some ⟨g, 0, none⟩) n c).ownBlock ≠ some b := by
  intro e
  have : g = b := by simpa [Value.ownBlock] using e
  omega
theorem keepO {w wr w' : World} {b P : Nat} {o : List Int} (h : OwnInts wr w.heap.size (.slice (some ⟨w.heap.size, 0, none⟩) P P) P o) (g : wr.grownBy w' (some b)) (hb : b < w.heap.size) : OwnInts w' w.heap.size (.slice (some ⟨w.heap.size, 0, none⟩) P P) P o :=
  OwnSl.kept h g (.inr (ownNe hb)) (fun _ _ h => h)
set_option maxRecDepth 100000 in
set_option maxHeartbeats 8000000 in
theorem sideR_calls {w : World} {B b : Nat} {s : List UInt8} {k P : Nat} (R : RdV w b s k) (hk : k ≤ s.length) (hs : s.length ≤ 2000000) (T : Tabs B w) (hB : B ≤ b) (hP : P ≤ 16) :
    Calls Tryd.prog 42 #[.pointer (some ⟨b, 0, none⟩), .int .i64 (P : Int)] w fun e w' => AnsSideR w w' b s k P e := by
  have RR := hide2 R
  have TT := hide2 (And.intro T hB)
  have HK := hide2 hk
  clear R T hB hk
  go_enter Tryd.func42, Tryd.ntmps42
  go_upto_region 2 with (at_make; refine wpList_mk Tryd.underlying42 infoInt rfl rfl _ _ rfl P rfl rfl (by first | rfl | go_num) (by first | rfl | go_num) (by omega) (by omega) (Below.refl _ _) (Nat.le_refl _) ?_; intro w1 own1 hg1 hb1)
  have HB := hide2 (show b < w.heap.size from Box.lt RR.out)
  have OW := hide2 (show OwnInts w1 w.heap.size (.slice (some ⟨w.heap.size, 0, none⟩) P P) P (List.replicate P 0) from OwnInts.of_row (by rw [List.map_replicate]; exact own1))
  have RW := hide2 (show RdV w1 b s k from Box.keep RR.out hb1)
  have GW := hide2 (show w.grownBy w1 (some b) from grownOf hb1)
  clear own1 hg1 hb1
  go_loopg [7] ((s.drop k).length + P + 1) (fun gk v7 wr => ∃ (j : Nat) (o : List Int) (last : Int) (f : Nat), v7 = .int .i64 last ∧ -1 ≤ last ∧ last < (P : Int) ∧ j ≤ s.length ∧ (s.drop j).length ≤ f ∧ gk = f + 1 ∧
    Hid (sideR (P : Int) f (s.drop j) o last = sideR (P : Int) ((s.drop k).length + P) (s.drop k) (List.replicate P 0) (-1)) ∧ Hid (OwnInts wr w.heap.size (.slice (some ⟨w.heap.size, 0, none⟩) P P) P o) ∧ Hid (RdV wr b s j) ∧ Hid (w.grownBy wr (some b)))
  case atStart => exact ⟨k, List.replicate P 0, -1, _, rfl, by omega, by omega, HK.out, Nat.le_add_right _ _, rfl, rfl, OW.out, RW.out, GW.out⟩
  case round =>
    clear OW RW GW
    obtain ⟨j, o, last, f, rfl, hl0, hl1, hj, hf, rfl, EQ, OW, RW, GW⟩ := hrel
    have HJ := hide2 hj
    have HF := hide2 hf
    have SK : Hid (Calls Tryd.prog 22 #[.pointer (some ⟨b, 0, none⟩), .string ⟨#[32]⟩] wr fun e w' => AnsSkip wr w' b s [32] j e) := skip_calls (p := [32]) RW.out HJ.out hs (by decide)
    cases hq : [(32 : UInt8)].isPrefixOf (s.drop j) with
    | false =>
      have HQ := hide2 hq
      clear hq hj hf
      go_upto_region 2 with fail
      go_wp2_with (go_at_call 22; (with_reducible refine SK.out.mono ?_); rintro e w2 ⟨he, r2, g2⟩; rw [HQ.out] at he r2; rw [if_neg (by decide)] at r2; subst he; have OW2 := hide2 (keepO OW.out g2 HB.out); have RW2 := hide2 r2; have GW2 := hide2 (GW.out.trans g2); clear r2 g2)
      have FIN := hide2 (show AnsSideR w w2 b s k P (.returned (.tuple #[.slice (some ⟨w.heap.size, 0, none⟩) P P, .bool true])) from ⟨GW2.out, .inl ⟨o, s.drop j, w.heap.size, by rw [← EQ.out]; exact sideR_stop (drop_not HQ.out), rfl, OW2.out, by rw [List.length_drop]; omega, by rw [show s.length - (s.drop j).length = j by rw [List.length_drop]; have := HJ.out; omega], by rw [show s.length - (s.drop j).length = j by rw [List.length_drop]; have := HJ.out; omega]; exact RW2.out⟩⟩)
      exact bodyPost_ret (v := .tuple #[.slice (some ⟨w.heap.size, 0, none⟩) P P, .bool true]) (by simp [results, Tryd.results42, go_sem]) rfl FIN.out
    | true =>
      have HQ := hide2 hq
      have HS1 := hide2 (dropC hq).1
      have hjl : j < s.length := (dropC hq).2
      obtain ⟨f, rfl⟩ : ∃ g, f = g + 1 := ⟨f - 1, by rw [List.length_drop] at hf; omega⟩
      clear hq hf
      go_upto_region 3 with (go_at_call 22; (with_reducible refine SK.out.mono ?_); rintro e w2 ⟨he, r2, g2⟩; rw [HQ.out] at he r2; rw [if_pos rfl] at r2; subst he; have OW2 := hide2 (keepO OW.out g2 HB.out); have RW2 := hide2 r2; have GW2 := hide2 (GW.out.trans g2); clear r2 g2 OW RW GW SK)
      obtain ⟨c0, c1⟩ := Box.two RW2.out
      have f1 := Box.frozen RW2.out 1
      have hj1 : ((j + [(32 : UInt8)].length : Nat) : Int) = (j : Int) + 1 := by simp
      rw [hj1] at c1
      have RW3 := hide2 (show RdV w2 b s (j + 1) from RW2.out)
      clear RW2 hj1
      by_cases h62 : (s.drop (j + 1)).head? = some 62
      · have hx : s[j + 1]? = some 62 := by rw [← h62, List.head?_drop]
        have hlt : j + 1 < s.length := (List.getElem?_eq_some_iff.1 hx).1
        have hji : (j : Int) + 1 < (s.length : Int) := by omega
        have hget : (⟨s.toArray⟩ : ByteArray)[j + 1]'(show j + 1 < s.length from hlt) = 62 := by rw [List.getElem?_eq_getElem hlt] at hx; injection hx
        have H62 := hide2 h62
        clear hx h62
        go_quiet (fail)
        go_wp2
        have hw : (j : Int) + 1 - 1 = (j : Int) := by omega
        have FIN := hide2 (show AnsSideR w ((w2.drewN nq).setCell ⟨b, 1, none⟩ (.int .i64 (j : Int))) b s k P (.returned (.tuple #[.slice (some ⟨w.heap.size, 0, none⟩) P P, .bool true])) from ⟨(grown_drewN GW2.out nq).trans (grownSet _ _ _ _), .inl ⟨o, s.drop j, w.heap.size, by rw [← EQ.out, HS1.out, sideR_round, if_pos H62.out], rfl, OwnSl.kept OW2.out ((grown_drewN (World.grownBy.refl _ (some b)) nq).trans (grownSet _ b 1 (.int .i64 (j : Int)))) (.inr (ownNe HB.out)) (fun _ _ h => h), by rw [List.length_drop]; omega, by rw [show s.length - (s.drop j).length = j by rw [List.length_drop]; have := HJ.out; omega], by rw [show s.length - (s.drop j).length = j by rw [List.length_drop]; have := HJ.out; omega]; exact (Box.drewN RW3.out nq).set 1 (.int .i64 (j : Int))⟩⟩)
        exact bodyPost_ret (v := .tuple #[.slice (some ⟨w.heap.size, 0, none⟩) P P, .bool true]) (by simp [results, Tryd.results42, go_sem]) rfl FIN.out
      · have HN62 := hide2 h62
        have key : decide ((j : Int) + 1 < (s.length : Int)) = false ∧ decide (j + 1 < s.length) = false ∨ ∃ (x : UInt8) (hlt : j + 1 < s.length), (⟨s.toArray⟩ : ByteArray)[j + 1]'(show j + 1 < s.length from hlt) = x ∧ (j : Int) + 1 < (s.length : Int) ∧ ((x.toNat : Int) == 62) = false ∧ ¬ (x.toNat : Int) = 62 ∧ (x.toNat == 62) = false := by
          by_cases hlt : j + 1 < s.length
          · obtain ⟨x, hx⟩ : ∃ x, s[j + 1]? = some x := ⟨_, List.getElem?_eq_getElem hlt⟩
            have hne : x ≠ 62 := fun e => h62 (by rw [List.head?_drop, hx, e])
            have hn : x.toNat ≠ 62 := fun e => hne (UInt8.toNat.inj (by simpa using e))
            exact .inr ⟨x, hlt, by rw [List.getElem?_eq_getElem hlt] at hx; injection hx, by omega, by simp; omega, by omega, by simpa using hn⟩
          · exact .inl ⟨by rw [decide_eq_false_iff_not]; omega, by rw [decide_eq_false_iff_not]; omega⟩
        clear h62
        obtain ⟨n, ok, hnd⟩ : ∃ n ok, numT ((s.drop (j + 1)).takeWhile dgt) = (n, ok) := ⟨_, _, rfl⟩
        have EN := hide2 hnd
        obtain ⟨dl, hdl⟩ : ∃ dl, ((s.drop (j + 1)).takeWhile dgt).length = dl := ⟨_, rfl⟩
        have HD1 := hide2 (show s.drop (j + 1 + dl) = (s.drop (j + 1)).dropWhile dgt by rw [← hdl]; exact (while_drop s (j + 1)).1)
        have HD1L := hide2 (show j + 1 + dl ≤ s.length by rw [← hdl]; exact (while_drop s (j + 1)).2 hjl)
        have EDL := hide2 hdl
        clear hnd hdl
        rcases key with ⟨key, key1⟩ | ⟨x, hlt, hget, hji, key, key1, key2⟩
        all_goals
          go_quiet (fail)
          have RW4 := hide2 (show RdV (w2.drewN nq) b s (j + 1) from Box.drewN RW3.out nq)
          have OW4 := hide2 (keepO OW2.out (grown_drewN (World.grownBy.refl _ (some b)) nq) HB.out)
          have GW4 := hide2 (grown_drewN GW2.out nq)
          clear c0 c1 f1 RW3 OW2 GW2
          generalize w2.drewN nq = w4 at *
          have NM := hide2 (num_calls RW4.out hjl hs (TT.out.1.grown GW4.out TT.out.2) TT.out.2)
          go_upto_region 6 with fail
          go_upto_region 8 with (go_at_call 23; (with_reducible refine NM.out.mono ?_); rintro e w5 ⟨he, r5, g5⟩; rw [EN.out] at he; rw [EDL.out] at r5; subst he; have OW := hide2 (keepO OW4.out g5 HB.out); have RW := hide2 r5; have GW := hide2 (GW4.out.trans g5); clear r5 g5 OW4 RW4 GW4 NM)
          obtain ⟨jn, hjn⟩ : ∃ jn, jn = j + 1 + dl := ⟨_, rfl⟩
          have HJN := hide2 hjn
          rw [← hjn] at RW HD1 HD1L
          have HJ := hide2 (show jn ≤ s.length from HD1L.out)
          clear hjn HD1L
          have SK : Hid (Calls Tryd.prog 22 #[.pointer (some ⟨b, 0, none⟩), .string ⟨#[42]⟩] w5 fun e w' => AnsSkip w5 w' b s [42] jn e) := skip_calls (p := [42]) RW.out HJ.out hs (by decide)
          cases hq2 : [(42 : UInt8)].isPrefixOf (s.drop jn) with
          | false =>
            have HQ2 := hide2 hq2
            have H42 := hide2 (show ¬ ((s.drop (j + 1)).dropWhile dgt).head? = some 42 by rw [← HD1.out]; exact drop_not hq2)
            clear hq2
            go_upto_region 15 with (go_at_call 22; (with_reducible refine SK.out.mono ?_); rintro e w6 ⟨he, r6, g6⟩; rw [HQ2.out] at he r6; rw [if_neg (by decide)] at r6; subst he; have OW := hide2 (keepO OW.out g6 HB.out); have RW := hide2 r6; have GW := hide2 (GW.out.trans g6); clear r6 g6 SK)
            have f1 := Box.frozen RW.out 1
            by_cases hb1 : ok = false
            · skip
              have FIN := hide2 (show AnsSideR w w6 b s k P (.returned (.tuple #[.slice none 0 0, .bool false])) from ⟨GW.out, .inr ⟨by rw [← EQ.out]; rw [HS1.out, sideR_round, if_neg HN62.out, if_neg H42.out, EN.out, if_pos (.inl hb1)], rfl, jn, HJ.out, RW.out⟩⟩)
              go_wp2
              exact bodyPost_ret (v := .tuple #[.slice none 0 0, .bool false]) (by simp [results, Tryd.results42, go_sem]) rfl FIN.out
            · have hb1 : ok = true := by simpa using hb1
              by_cases hb2 : n ≤ last
              · skip
                have FIN := hide2 (show AnsSideR w w6 b s k P (.returned (.tuple #[.slice none 0 0, .bool false])) from ⟨GW.out, .inr ⟨by rw [← EQ.out]; rw [HS1.out, sideR_round, if_neg HN62.out, if_neg H42.out, EN.out, if_pos (.inr (.inl hb2))], rfl, jn, HJ.out, RW.out⟩⟩)
                go_wp2
                exact bodyPost_ret (v := .tuple #[.slice none 0 0, .bool false]) (by simp [results, Tryd.results42, go_sem]) rfl FIN.out
              · by_cases hb3 : (P : Int) ≤ n
                · skip
                  have FIN := hide2 (show AnsSideR w w6 b s k P (.returned (.tuple #[.slice none 0 0, .bool false])) from ⟨GW.out, .inr ⟨by rw [← EQ.out]; rw [HS1.out, sideR_round, if_neg HN62.out, if_neg H42.out, EN.out, if_pos (.inr (.inr hb3))], rfl, jn, HJ.out, RW.out⟩⟩)
                  go_wp2
                  exact bodyPost_ret (v := .tuple #[.slice none 0 0, .bool false]) (by simp [results, Tryd.results42, go_sem]) rfl FIN.out
                · obtain ⟨pn, rfl⟩ : ∃ pn : Nat, n = (pn : Int) := ⟨n.toNat, by omega⟩
                  have hpn : pn < P := by omega
                  have hpi : (pn : Int) < (P : Int) := by omega
                  have fr := OwnInts.frozen OW.out pn
                  obtain ⟨x0, hx0⟩ : ∃ x0, o[pn]? = some x0 := ⟨_, List.getElem?_eq_getElem (by rw [OwnSl.len OW.out]; exact hpn)⟩
                  have cx := OwnInts.at OW.out hx0
                  have EQ2 := hide2 (show sideR (P : Int) f (s.drop jn) (o.set pn 1) (pn : Int) = sideR (P : Int) ((s.drop k).length + P) (s.drop k) (List.replicate P 0) (-1) by rw [← EQ.out]; rw [HS1.out, sideR_round, if_neg HN62.out, if_neg H42.out, EN.out, if_neg (by simp only; intro h; rcases h with h | h | h; (rw [hb1] at h; cases h); omega; omega), ← HD1.out]; rfl)
                  have OW2 := hide2 (OwnInts.put OW.out pn (1))
                  have RW2 := hide2 (show RdV (w6.setCell ⟨w.heap.size, pn, none⟩ (.int .i64 (1))) b s jn from Box.other RW.out _ (Nat.ne_of_lt HB.out))
                  have GW2 := hide2 (grownFar GW.out (grownSet w6 w.heap.size pn (.int .i64 (1))) (Nat.le_refl _))
                  have HJ2 := hide2 (show jn ≤ s.length ∧ (s.drop jn).length ≤ f from ⟨HJ.out, by have h1 := HF.out; have h2 := HJN.out; rw [List.length_drop] at h1 ⊢; omega⟩)
                  go_wp2
                  go_roundg (f + 1)
                  case measure => exact Nat.lt_succ_self _
                  case rel => exact ⟨jn, o.set pn (1), (pn : Int), f, rfl, by omega, by omega, HJ2.out.1, HJ2.out.2, rfl, EQ2.out, OW2.out, RW2.out, GW2.out⟩
          | true =>
            have HQ2 := hide2 hq2
            have H42 := hide2 (show ((s.drop (j + 1)).dropWhile dgt).head? = some 42 by rw [← HD1.out, (dropC hq2).1]; rfl)
            have HC2 := hide2 (dropC hq2).1
            have hj2 : jn + 1 ≤ s.length := (dropC hq2).2
            clear hq2
            obtain ⟨p, ok2, hnd⟩ : ∃ n ok, numT ((s.drop (jn + 1)).takeWhile dgt) = (n, ok) := ⟨_, _, rfl⟩
            have EN2 := hide2 hnd
            obtain ⟨dl2, hdl⟩ : ∃ dl, ((s.drop (jn + 1)).takeWhile dgt).length = dl := ⟨_, rfl⟩
            have EDL2 := hide2 hdl
            have HD2 := hide2 (show s.drop (jn + 1 + dl2) = (s.drop (jn + 1)).dropWhile dgt by rw [← hdl]; exact (while_drop s (jn + 1)).1)
            have HJ := hide2 (show jn + 1 + dl2 ≤ s.length by rw [← hdl]; exact (while_drop s (jn + 1)).2 hj2)
            clear hnd hdl
            go_upto_region 9 with (go_at_call 22; (with_reducible refine SK.out.mono ?_); rintro e w6 ⟨he, r6, g6⟩; rw [HQ2.out] at he r6; rw [if_pos rfl] at r6; subst he; have OW4 := hide2 (keepO OW.out g6 HB.out); have RW4 := hide2 (show RdV w6 b s (jn + 1) from r6); have GW4 := hide2 (GW.out.trans g6); clear r6 g6 SK OW RW GW)
            by_cases hnb : n < 2 ∨ 9 < n
            · have HNB := hide2 hnb
              have FIN := hide2 (show AnsSideR w w6 b s k P (.returned (.tuple #[.slice none 0 0, .bool false])) from ⟨GW4.out, .inr ⟨by rw [← EQ.out, HS1.out, sideR_round, if_neg HN62.out, if_pos H42.out, EN.out, if_pos HNB.out], rfl, jn + 1, hj2, RW4.out⟩⟩)
              clear hnb
              by_cases hn2 : n < 2
              · go_wp2
                exact bodyPost_ret (v := .tuple #[.slice none 0 0, .bool false]) (by simp [results, Tryd.results42, go_sem]) rfl FIN.out
              · have hn9 : 9 < n := by have := HNB.out; omega
                go_wp2
                exact bodyPost_ret (v := .tuple #[.slice none 0 0, .bool false]) (by simp [results, Tryd.results42, go_sem]) rfl FIN.out
            · have HNB := hide2 hnb
              have hn2 : ¬ n < 2 := by omega
              have hn9 : ¬ 9 < n := by omega
              clear hnb
              have NM := hide2 (num_calls RW4.out hj2 hs (TT.out.1.grown GW4.out TT.out.2) TT.out.2)
              go_upto_region 13 with (go_at_call 23; (with_reducible refine NM.out.mono ?_); rintro e w7 ⟨he, r5, g5⟩; rw [EN2.out] at he; rw [EDL2.out] at r5; subst he; have OW := hide2 (keepO OW4.out g5 HB.out); have RW := hide2 r5; have GW := hide2 (GW4.out.trans g5); clear r5 g5 OW4 RW4 GW4 NM)
              cases ok with
              | false =>
                have FIN := hide2 (show AnsSideR w w7 b s k P (.returned (.tuple #[.slice none 0 0, .bool false])) from ⟨GW.out, .inr ⟨by rw [← EQ.out, HS1.out, sideR_round, if_neg HN62.out, if_pos H42.out, ← HD1.out, HC2.out, List.drop_succ_cons, List.drop_zero, EN.out, if_neg HNB.out, if_pos (.inl (by rw [Bool.false_and]))], rfl, jn + 1 + dl2, HJ.out, RW.out⟩⟩)
                go_wp2
                exact bodyPost_ret (v := .tuple #[.slice none 0 0, .bool false]) (by simp [results, Tryd.results42, go_sem]) rfl FIN.out
              | true =>
                skip
                have f1 := Box.frozen RW.out 1
                by_cases hb1 : ok2 = false
                · skip
                  have FIN := hide2 (show AnsSideR w w7 b s k P (.returned (.tuple #[.slice none 0 0, .bool false])) from ⟨GW.out, .inr ⟨by rw [← EQ.out]; rw [HS1.out, sideR_round, if_neg HN62.out, if_pos H42.out, ← HD1.out, HC2.out, List.drop_succ_cons, List.drop_zero, EN.out, if_neg HNB.out, EN2.out, Bool.true_and, if_pos (.inl hb1)], rfl, (jn + 1 + dl2), HJ.out, RW.out⟩⟩)
                  go_wp2
                  exact bodyPost_ret (v := .tuple #[.slice none 0 0, .bool false]) (by simp [results, Tryd.results42, go_sem]) rfl FIN.out
                · have hb1 : ok2 = true := by simpa using hb1
                  by_cases hb2 : p ≤ last
                  · skip
                    have FIN := hide2 (show AnsSideR w w7 b s k P (.returned (.tuple #[.slice none 0 0, .bool false])) from ⟨GW.out, .inr ⟨by rw [← EQ.out]; rw [HS1.out, sideR_round, if_neg HN62.out, if_pos H42.out, ← HD1.out, HC2.out, List.drop_succ_cons, List.drop_zero, EN.out, if_neg HNB.out, EN2.out, Bool.true_and, if_pos (.inr (.inl hb2))], rfl, (jn + 1 + dl2), HJ.out, RW.out⟩⟩)
                    go_wp2
                    exact bodyPost_ret (v := .tuple #[.slice none 0 0, .bool false]) (by simp [results, Tryd.results42, go_sem]) rfl FIN.out
                  · by_cases hb3 : (P : Int) ≤ p
                    · skip
                      have FIN := hide2 (show AnsSideR w w7 b s k P (.returned (.tuple #[.slice none 0 0, .bool false])) from ⟨GW.out, .inr ⟨by rw [← EQ.out]; rw [HS1.out, sideR_round, if_neg HN62.out, if_pos H42.out, ← HD1.out, HC2.out, List.drop_succ_cons, List.drop_zero, EN.out, if_neg HNB.out, EN2.out, Bool.true_and, if_pos (.inr (.inr hb3))], rfl, (jn + 1 + dl2), HJ.out, RW.out⟩⟩)
                      go_wp2
                      exact bodyPost_ret (v := .tuple #[.slice none 0 0, .bool false]) (by simp [results, Tryd.results42, go_sem]) rfl FIN.out
                    · obtain ⟨pn, rfl⟩ : ∃ pn : Nat, p = (pn : Int) := ⟨p.toNat, by omega⟩
                      have hpn : pn < P := by omega
                      have hpi : (pn : Int) < (P : Int) := by omega
                      have fr := OwnInts.frozen OW.out pn
                      obtain ⟨x0, hx0⟩ : ∃ x0, o[pn]? = some x0 := ⟨_, List.getElem?_eq_getElem (by rw [OwnSl.len OW.out]; exact hpn)⟩
                      have cx := OwnInts.at OW.out hx0
                      have EQ2 := hide2 (show sideR (P : Int) f (s.drop (jn + 1 + dl2)) (o.set pn n) (pn : Int) = sideR (P : Int) ((s.drop k).length + P) (s.drop k) (List.replicate P 0) (-1) by rw [← EQ.out]; rw [HS1.out, sideR_round, if_neg HN62.out, if_pos H42.out, ← HD1.out, HC2.out, List.drop_succ_cons, List.drop_zero, EN.out, if_neg HNB.out, EN2.out, Bool.true_and, if_neg (by simp only; intro h; rcases h with h | h | h; (rw [hb1] at h; cases h); omega; omega), ← HD2.out]; rfl)
                      have OW2 := hide2 (OwnInts.put OW.out pn (n))
                      have RW2 := hide2 (show RdV (w7.setCell ⟨w.heap.size, pn, none⟩ (.int .i64 (n))) b s (jn + 1 + dl2) from Box.other RW.out _ (Nat.ne_of_lt HB.out))
                      have GW2 := hide2 (grownFar GW.out (grownSet w7 w.heap.size pn (.int .i64 (n))) (Nat.le_refl _))
                      have HJ2 := hide2 (show (jn + 1 + dl2) ≤ s.length ∧ (s.drop (jn + 1 + dl2)).length ≤ f from ⟨HJ.out, by have h1 := HF.out; have h2 := HJN.out; rw [List.length_drop] at h1 ⊢; omega⟩)
                      go_wp2
                      go_roundg (f + 1)
                      case measure => exact Nat.lt_succ_self _
                      case rel => exact ⟨(jn + 1 + dl2), o.set pn (n), (pn : Int), f, rfl, by omega, by omega, HJ2.out.1, HJ2.out.2, rfl, EQ2.out, OW2.out, RW2.out, GW2.out⟩
end Go.Proofs.YtcgdjpelcfofgaaDoor
