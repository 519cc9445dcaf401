/- The contract of the reference's reader of numbers. Conditions: the reader's block holds the text and a place within it; the tables lie as they were laid, below that block. -/
import Derived.Test.YtcgdjpelcfofgaaDoorTextTellsK20
import Derived.Test.YtcgdjpelcfofgaaDoorTextTellsK25
set_option linter.all false
namespace Go.Proofs.YtcgdjpelcfofgaaDoor
open Go.RowKit

def AnsNum (w w' : World) (b : Nat) (s : List UInt8) (k : Nat) (e : Ending) : Prop :=
  e = .returned (.tuple #[.int .i64 (numT ((s.drop k).takeWhile dgt)).1, .bool (numT ((s.drop k).takeWhile dgt)).2]) ∧ RdV w' b s (k + ((s.drop k).takeWhile dgt).length) ∧ w.grownBy w' (some b)
theorem digits_at {s : List UInt8} {k j : Nat} (h1 : k ≤ j) (h2 : j ≤ k + ((s.drop k).takeWhile dgt).length) {x : UInt8} (hx : s[j]? = some x) :
    (dgt x = true → j + 1 ≤ k + ((s.drop k).takeWhile dgt).length) ∧ (dgt x = false → j = k + ((s.drop k).takeWhile dgt).length) := by
  have e := List.takeWhile_append_dropWhile (p := dgt) (l := s.drop k)
  have hxk : (s.drop k)[j - k]? = some x := by rw [List.getElem?_drop, show k + (j - k) = j by omega]; exact hx
  have hall : ∀ c ∈ (s.drop k).takeWhile dgt, dgt c = true := (take_drop_dgt _).2
  constructor
  · intro hd
    apply Classical.byContradiction
    intro hn
    have hj : j - k = ((s.drop k).takeWhile dgt).length := by omega
    rw [← e, List.getElem?_append_right (by omega), hj, Nat.sub_self] at hxk
    cases hw : (s.drop k).dropWhile dgt with
    | nil => rw [hw] at hxk; cases hxk
    | cons c r =>
      rw [hw] at hxk
      injection hxk with hxk
      subst hxk
      have := List.head?_dropWhile_not dgt (s.drop k)
      rw [hw] at this
      simp [hd] at this
  · intro hd
    apply Classical.byContradiction
    intro hn
    rw [← e, List.getElem?_append_left (by omega)] at hxk
    have := hall x (List.mem_of_getElem? hxk)
    rw [hd] at this
    cases this
theorem grownOf {w w' : World} {row : Option Nat} (hb : Below w.heap.size w w') : w.grownBy w' row := ⟨hb.os, hb.tape, hb.output, hb.size, fun k hk _ => hb.block k hk⟩
set_option maxRecDepth 100000 in
set_option maxHeartbeats 4000000 in
theorem num_calls {w : World} {B b : Nat} {s : List UInt8} {k : Nat} (R : RdV w b s k) (hk : k ≤ s.length) (hs : s.length ≤ 2000000) (T : Tabs B w) (hB : B ≤ b) :
    Calls Tryd.prog 23 #[.pointer (some ⟨b, 0, none⟩)] w fun e w' => AnsNum w w' b s k e := by
  have RR := hide2 R
  obtain ⟨_, c1⟩ := Box.two R
  clear R
  have TT := hide2 (And.intro T hB)
  clear T hB
  go_enter Tryd.func23, Tryd.ntmps23
  go_wp2_with fail
  go_loopg [] (s.length + 1 - k) (fun gk wr => ∃ j : Nat, k ≤ j ∧ j ≤ s.length ∧ gk = s.length + 1 - j ∧ Hid (j ≤ k + ((s.drop k).takeWhile dgt).length) ∧ Hid (RdV wr b s j) ∧ Hid (w.grownBy wr (some b)))
  case atStart => exact ⟨k, Nat.le_refl _, hk, rfl, Nat.le_add_right _ _, RR, World.grownBy.refl _ _⟩
  case round =>
    clear c1
    obtain ⟨j, hkj, hj, rfl, HD, RJ, GJ⟩ := hrel
    obtain ⟨c0, c1⟩ := Box.two RJ.out
    by_cases hgo : j < k + ((s.drop k).takeWhile dgt).length
    · have hlt : j < s.length := by
        have e1 := congrArg List.length (take_drop_dgt (s.drop k)).1
        rw [List.length_append, List.length_drop] at e1
        omega
      have hji : (j : Int) < (s.length : Int) := by omega
      obtain ⟨x, hx⟩ : ∃ x, s[j]? = some x := ⟨_, List.getElem?_eq_getElem hlt⟩
      have hget : (⟨s.toArray⟩ : ByteArray)[j]'(show j < s.length from hlt) = x := by rw [List.getElem?_eq_getElem hlt] at hx; injection hx
      have hd : dgt x = true := by
        cases hd : dgt x with
        | true => rfl
        | false => have := (digits_at hkj HD.out hx).2 hd; omega
      have DY := hide2 ((digits_at hkj HD.out hx).1 hd)
      have h1 : (48 : Int) ≤ (x.toNat : Int) := by unfold dgt at hd; simp at hd; omega
      have h2 : (x.toNat : Int) ≤ 57 := by unfold dgt at hd; simp at hd; omega
      clear hx hgo
      have f1 := Box.frozen RJ.out 1
      go_wp2_with fail
      go_quiet (fail)
      go_wp2
      have RN := hide2 (show RdV ((wr.drewN nq).setCell ⟨b, 1, none⟩ (.int .i64 ((j : Int) + 1))) b s (j + 1) by
        have := Box.set (Box.drewN RJ.out nq) 1 (.int .i64 ((j : Int) + 1))
        unfold RdV
        rw [show ((j + 1 : Nat) : Int) = (j : Int) + 1 by omega]
        exact this)
      have GN := hide2 ((grown_drewN GJ.out nq).trans (grownSet _ b 1 (.int .i64 ((j : Int) + 1))))
      go_roundg (s.length + 1 - (j + 1))
      case measure => omega
      case rel => exact ⟨j + 1, by omega, by omega, rfl, DY.out, RN.out, GN.out⟩
    · have hJ : j = k + ((s.drop k).takeWhile dgt).length := by have := HD.out; omega
      have HJ := hide2 hJ
      have key : (decide (j < s.length) = false) ∨ ∃ (x : UInt8) (hlt : j < s.length), (⟨s.toArray⟩ : ByteArray)[j]'(show j < s.length from hlt) = x ∧ (j : Int) < (s.length : Int) ∧ ((decide (48 ≤ x.toNat) = false ∧ decide ((48 : Int) ≤ (x.toNat : Int)) = false) ∨ ((48 : Int) ≤ (x.toNat : Int) ∧ decide (x.toNat ≤ 57) = false ∧ decide ((x.toNat : Int) ≤ 57) = false)) := by
        by_cases hlt : j < s.length
        · obtain ⟨x, hx⟩ : ∃ x, s[j]? = some x := ⟨_, List.getElem?_eq_getElem hlt⟩
          have hd : dgt x = false := by
            cases hd : dgt x with
            | false => rfl
            | true => have := (digits_at hkj HD.out hx).1 hd; omega
          refine .inr ⟨x, hlt, by rw [List.getElem?_eq_getElem hlt] at hx; injection hx, by omega, ?_⟩
          unfold dgt at hd
          simp only [Bool.and_eq_false_iff, decide_eq_false_iff_not] at hd ⊢
          omega
        · exact .inl (by rw [decide_eq_false_iff_not]; omega)
      have h0j : (0 : Int) ≤ (j : Int) := by omega
      have hkji : (k : Int) ≤ (j : Int) := by omega
      have hjli : (j : Int) ≤ (s.length : Int) := by omega
      have hex : (⟨s.toArray⟩ : ByteArray).extract k j = ⟨((s.drop k).takeWhile dgt).toArray⟩ := by
        rw [ext_bytes, show j - k = ((s.drop k).takeWhile dgt).length by omega]
        congr 2
        have e1 := (take_drop_dgt (s.drop k)).1
        have e2 := congrArg (List.take ((s.drop k).takeWhile dgt).length) e1
        rw [List.take_left] at e2
        exact e2.symm
      have hdl : ((s.drop k).takeWhile dgt).length ≤ 2000000 := by
        have e1 := congrArg List.length (take_drop_dgt (s.drop k)).1
        rw [List.length_append, List.length_drop] at e1
        omega
      clear hgo hJ
      obtain ⟨d, hd⟩ : ∃ d, d = (s.drop k).takeWhile dgt := ⟨_, rfl⟩
      have ED := hide2 hd
      rw [← hd] at hex hdl
      clear hd
      rcases key with key | ⟨x, hlt, hget, hji, ⟨key, key1⟩ | ⟨key0, key, key1⟩⟩
      all_goals
        go_wp2_with fail
        go_quiet (fail)
        have RQ := hide2 (show RdV (wr.drewN nq) b s j from Box.drewN RJ.out nq)
        have GQ := hide2 (grown_drewN GJ.out nq)
        clear c0 c1
        generalize wr.drewN nq = we at *
        obtain ⟨c0, c1⟩ := Box.two RQ.out
        have AT := hide2 (fun (wx : World) (hx : Below we.heap.size we wx) => atoi_calls hdl ((TT.out.1.grown GQ.out TT.out.2).later hx).now)
        have HB := hide2 (show b < we.heap.size from Box.lt RQ.out)
        go_upto_region 4 with fail
        by_cases hok : (atV d).2 = true
        · obtain ⟨hr1, hr2⟩ := atV_range hok
          have HOK := hide2 hok
          clear hok
          have IT := hide2 (fun (wx : World) (hx : Below we.heap.size we wx) => itoa_calls hr1 hr2 ((TT.out.1.grown GQ.out TT.out.2).later hx).now)
          clear hr1 hr2
          go_region_held3 (fun w' => w'.cell? ⟨b, 0, none⟩ = some (.string ⟨s.toArray⟩) ∧ w'.cell? ⟨b, 1, none⟩ = some (.int .i64 (j : Int))) (first | go_keep) (first
            | (go_at_call 19; (with_reducible refine (AT.out we.drew (Below.refl _ _).drew).mono ?_); rintro e w5 ⟨hat, hb⟩; rcases hat with ⟨_, rfl⟩ | ⟨hno, _⟩; rotate_left; (rw [HOK.out] at hno; cases hno); have F5 := hide2 (((Below.refl we.heap.size we).drew).trans hb); have x0 := (F5.out.cell (p := ⟨b, 0, none⟩) HB.out).trans c0; have x1 := (F5.out.cell (p := ⟨b, 1, none⟩) HB.out).trans c1; clear hb))
          have R5 := hide2 (show RdV w5 b s j from Box.keep RQ.out F5.out)
          clear c0 c1 AT
          go_upto_region 5 with fail
          go_region_held3 (fun w' => w'.cell? ⟨b, 0, none⟩ = some (.string ⟨s.toArray⟩) ∧ w'.cell? ⟨b, 1, none⟩ = some (.int .i64 (j : Int))) (first | go_keep) (first
            | (go_at_call 11; (with_reducible refine (IT.out w5.drew F5.out.drew).mono ?_); rintro e w6 ⟨rfl, hb⟩; have F6 := hide2 (((Below.refl w5.heap.size w5).drew).trans hb); have y0 := (F6.out.cell (p := ⟨b, 0, none⟩) (Box.lt R5.out)).trans x0; have y1 := (F6.out.cell (p := ⟨b, 1, none⟩) (Box.lt R5.out)).trans x1; clear hb))
          have FIN := hide2 (show AnsNum w w6 b s k (.returned (.tuple #[.int .i64 (atV d).1, .bool (Lib.itoa (atV d).1 == d)])) by
            refine ⟨?_, ?_, ?_⟩
            · rw [← ED.out, numT_at, HOK.out, Bool.true_and]
            · rw [← HJ.out]
              exact Box.keep R5.out F6.out
            · exact (GQ.out.trans (grownOf F5.out)).trans (grownOf F6.out))
          go_wp2
          exact bodyPost_ret (v := .tuple #[.int .i64 (atV d).1, .bool (Lib.itoa (atV d).1 == d)]) (by simp [results, Tryd.results23, go_sem]) rfl FIN.out
        · have hno : (atV d).2 = false := by simpa using hok
          have HOK := hide2 hno
          clear hok hno
          go_region_held3 (fun w' => w'.cell? ⟨b, 0, none⟩ = some (.string ⟨s.toArray⟩) ∧ w'.cell? ⟨b, 1, none⟩ = some (.int .i64 (j : Int))) (first | go_keep) (first
            | (go_at_call 19; (with_reducible refine (AT.out we.drew (Below.refl _ _).drew).mono ?_); rintro e w5 ⟨hat, hb⟩; rcases hat with ⟨hno, _⟩ | ⟨_, ty, Nb, rfl⟩; (rw [HOK.out] at hno; cases hno); have F5 := hide2 (((Below.refl we.heap.size we).drew).trans hb); have x0 := (F5.out.cell (p := ⟨b, 0, none⟩) HB.out).trans c0; have x1 := (F5.out.cell (p := ⟨b, 1, none⟩) HB.out).trans c1; clear hb))
          have R5 := hide2 (show RdV w5 b s j from Box.keep RQ.out F5.out)
          clear c0 c1 AT
          go_upto_region 5 with fail
          go_quiet (fail)
          have FIN := hide2 (show AnsNum w (w5.drewN nq) b s k (.returned (.tuple #[.int .i64 (atV d).1, .bool false])) by
            refine ⟨?_, ?_, ?_⟩
            · rw [← ED.out, numT_at, HOK.out, Bool.false_and]
            · rw [← HJ.out]
              exact Box.drewN R5.out nq
            · exact grown_drewN (GQ.out.trans (grownOf F5.out)) nq)
          go_wp2
          exact bodyPost_ret (v := .tuple #[.int .i64 (atV d).1, .bool false]) (by simp [results, Tryd.results23, go_sem]) rfl FIN.out
end Go.Proofs.YtcgdjpelcfofgaaDoor
