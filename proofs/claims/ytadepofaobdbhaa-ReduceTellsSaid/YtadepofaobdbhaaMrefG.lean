/- The contract of series of the reference's net by rows. Conditions: each row has two small numbers a label, the place is one of the rows. -/
import Derived.Test.YtadepofaobdbhaaMrefF
namespace Go.Proofs.Ytadepofaobdbhaa
open Go.RowKit

/-- What a step answers: the net, and whether there was one. -/
def AnsSer (B : Nat) (m : PM) (o : Option PM) (w : World) (e : Ending) (w' : World) : Prop :=
  ∃ L nl cl R nr cr, e = .returned (.tuple #[.agg #[.slice L nl cl, .slice R nr cr, .int .i64 (o.getD m).i, .int .i64 (o.getD m).o], .bool o.isSome]) ∧ MnR B w' L nl cl R nr cr (o.getD m) ∧ Below w.heap.size w w'
theorem cntL_one {f : Nat → Bool} {n : Nat} (h : cntL f n = 1) : ∃ k : Nat, k < n ∧ lastL f n = (k : Int) := by
  unfold cntL at h
  unfold lastL
  have h1 : ((List.range n).filter f).length = 1 := by omega
  obtain ⟨k, hk⟩ := List.length_eq_one_iff.1 h1
  have hm : k ∈ (List.range n).filter f := by rw [hk]; simp
  refine ⟨k, ?_, ?_⟩
  · have := (List.mem_filter.1 hm).1
    simpa using this
  · rw [hk]; rfl
theorem cntL_bound (f : Nat → Bool) (n : Nat) : 0 ≤ cntL f n ∧ cntL f n ≤ n := by
  unfold cntL
  have := List.length_filter_le f (List.range n)
  simp at this
  omega
theorem lastL_bound (f : Nat → Bool) (n : Nat) : -1 ≤ lastL f n ∧ lastL f n < n := by
  induction n with
  | zero => simp [lastL]
  | succ n ih =>
    rw [lastL_succ]
    split <;> omega
theorem AnsSer.no {B : Nat} {m : PM} {w w' : World} {L : Option Addr} {nl cl : Nat} {R : Option Addr} {nr cr : Nat} (h : MnR B w L nl cl R nr cr m) (hb : Below w.heap.size w w') : AnsSer B m none w (.returned (.tuple #[.agg #[.slice L nl cl, .slice R nr cr, .int .i64 m.i, .int .i64 m.o], .bool false])) w' :=
  ⟨L, nl, cl, R, nr, cr, rfl, h.keep hb, hb⟩
/-- A row of the net is appended as it stands. -/
theorem addRow_length (t u : Nat) (r : List Int) : (addRow t u r).length = r.length := by simp [addRow]

set_option maxRecDepth 100000 in
set_option maxHeartbeats 16000000 in
theorem serM_calls {B p : Nat} {w : World} {L : Option Addr} {nl cl : Nat} {R : Option Addr} {nr cr : Nat} {m : PM} (h : MnR B w L nl cl R nr cr m) (hBw : B ≤ w.heap.size) (hp : p < nr) (hrow : ∀ r ∈ m.rows, r.length = 2 * nl ∧ ∀ x ∈ r, 0 ≤ x ∧ x ≤ 9) (hi : 0 ≤ m.i ∧ m.i ≤ 1000) (ho : 0 ≤ m.o ∧ m.o ≤ 1000) :
    Calls Try.prog 121 #[.agg #[.slice L nl cl, .slice R nr cr, .int .i64 m.i, .int .i64 m.o], .int .i64 p] w (AnsSer B m (serM m p) w) := by
  obtain ⟨labels, rows, mi, mo⟩ := m
  have HM := hide2 h
  obtain ⟨hL, hR, hnl, hnr⟩ := h
  simp only at hL hR hrow hi ho
  have HR := hide2 (toOLists hR (by omega))
  have HLN := hide2 (OwnSl.len hR)
  have HLL := hide2 (OwnSl.len hL)
  have HRW := hide2 hrow
  have HI := hide2 hi
  have HO := hide2 ho
  generalize hw0 : (w.alloc (.cells #[.slice L nl cl, .slice R nr cr, .int .i64 mi, .int .i64 mo] 69)).alloc (.cells mn0 69) = w0
  have D0 := hide2 (show Below w.heap.size w w0 by rw [← hw0]; exact ((Below.refl _ _).alloc (Nat.le_refl _) _).alloc (by simp) _)
  have X0 := hide2 (show Box w0 w.heap.size 69 #[.slice L nl cl, .slice R nr cr, .int .i64 mi, .int .i64 mo] by rw [← hw0]; exact (Box.new _ _ _).old _)
  have X1 := hide2 (show Box w0 (w.heap.size + 1) 69 mn0 by rw [← hw0]; exact Box.newAt (by simp) _ _)
  have SZ0 := hide2 (show w0.heap.size = w.heap.size + 2 by rw [← hw0]; simp)
  obtain ⟨bl, off, xp, D, md, dd, rfl, hbl, hxp, q0, ox, ix, mx⟩ := OLists.get HR.out hp
  have hmd : md = 2 * nl := by rw [← ix.len]; exact (hrow xp (List.mem_of_getElem? hxp.out)).1
  have XG := hide2 (show rows.getD p [] = xp by simp [hxp.out])
  have XB := hide2 ((hrow xp (List.mem_of_getElem? hxp.out)).2)
  have IX := hide2 (Ints.keep ix D0.out)
  have q0' := (D0.out.cell (p := ⟨bl, off + p, none⟩) hbl).trans q0
  have HMD := hide2 hmd
  have hw2 : ∀ k : Nat, k < nl → IntKind.i64.wrap (2 * (k : Int)) = 2 * (k : Int) ∧ IntKind.i64.wrap (2 * (k : Int) + 1) = 2 * (k : Int) + 1 := fun k hk => by
    constructor
    · simp [IntKind.wrap, go_sem]; omega
    · simp [IntKind.wrap, go_sem]; omega
  have HW2 := hide2 hw2
  have GI := hide2 (show ∀ k : Nat, k < nl → ∃ b1 o1 y1 y2, D = some ⟨b1, o1, none⟩ ∧ w0.cell? ⟨b1, o1 + 2 * k, none⟩ = some (.int .i64 y1) ∧ w0.cell? ⟨b1, o1 + (2 * k + 1), none⟩ = some (.int .i64 y2) ∧ Hid (xp[2 * k]? = some y1) ∧ Hid (xp[2 * k + 1]? = some y2) from fun k hk => by
    obtain ⟨b1, o1, y1, hD1, hb1, hy1, d1⟩ := IX.out.get (show 2 * k < md by omega)
    obtain ⟨b2, o2, y2, hD2, hb2, hy2, d2⟩ := IX.out.get (show 2 * k + 1 < md by omega)
    rw [hD1] at hD2
    injection hD2 with hD2
    injection hD2 with ee1 ee2
    subst ee1 ee2
    exact ⟨b1, o1, y1, y2, hD1, d1, d2, hy1, hy2⟩)
  clear hL hR hrow q0 ix hmd hbl hw2 hi ho
  obtain ⟨a0, a1, a2, a3⟩ := box4 X0.out
  go_enter Try.func121, Try.ntmps121
  go_upto_region 1 with fail
  clear hw0
  go_wp2
  go_loopg [6, 7, 8, 9, 17] nl (fun gk vt vp vtt vu iv wr => ∃ (k : Nat) (tk pt ti ui : Int), k + gk = nl ∧ vt = .int .i64 tk ∧ vp = .int .i64 pt ∧ vtt = .int .i64 ti ∧ vu = .int .i64 ui ∧ iv = .int .i64 k ∧ Hid (tk = cntL (takesM ⟨labels, rows, mi, mo⟩ p) k) ∧ Hid (pt = cntL (putsM ⟨labels, rows, mi, mo⟩ p) k) ∧ Hid (ti = lastL (putsM ⟨labels, rows, mi, mo⟩ p) k) ∧ Hid (ui = lastL (takesM ⟨labels, rows, mi, mo⟩ p) k) ∧ Hid (wr = w0))
  case atStart => exact ⟨0, 0, 0, -1, -1, by omega, rfl, rfl, rfl, rfl, rfl, rfl, rfl, rfl, rfl, rfl⟩
  case round =>
    obtain ⟨k, tk, pt, ti, ui, hk, rfl, rfl, rfl, rfl, rfl, htk, hpt, hti, hui, hw⟩ := hrel
    obtain rfl := hw.out
    have htk0 : 0 ≤ tk ∧ tk ≤ 1000 := by have := cntL_bound (takesM ⟨labels, rows, mi, mo⟩ p) k; rw [← htk.out] at this; omega
    have hpt0 : 0 ≤ pt ∧ pt ≤ 1000 := by have := cntL_bound (putsM ⟨labels, rows, mi, mo⟩ p) k; rw [← hpt.out] at this; omega
    obtain ⟨hk1, hk2⟩ := htk0
    obtain ⟨hk3, hk4⟩ := hpt0
    by_cases hlt : k < nl
    · obtain ⟨b1, o1, y1, y2, rfl, d1, d2, hy1, hy2⟩ := GI.out k hlt
      obtain ⟨hw2, hw3⟩ := HW2.out k hlt
      have ht2k : (2 * (k : Int)).toNat = 2 * k := by omega
      have ht2k1 : (2 * (k : Int) + 1).toNat = 2 * k + 1 := by omega
      have hi3 : (0 : Int) ≤ 2 * (k : Int) := by omega
      have hi4 : (0 : Int) ≤ 2 * (k : Int) + 1 := by omega
      have hi1 : 2 * (k : Int) < (md : Int) := by have := HMD.out; omega
      have hi2 : 2 * (k : Int) + 1 < (md : Int) := by have := HMD.out; omega
      have ET := hide2 (show takesM ⟨labels, rows, mi, mo⟩ p k = decide (0 < y1) by show decide (0 < (rows.getD p []).getD (2 * k) 0) = _; rw [XG.out, getD_get hy1.out])
      have EP := hide2 (show putsM ⟨labels, rows, mi, mo⟩ p k = decide (0 < y2) by show decide (0 < (rows.getD p []).getD (2 * k + 1) 0) = _; rw [XG.out, getD_get hy2.out])
      have STEP := hide2 (show ∀ b c : Bool, decide (0 < y1) = b → decide (0 < y2) = c → ((if b = true then tk + 1 else tk) = cntL (takesM ⟨labels, rows, mi, mo⟩ p) (k + 1)) ∧ ((if c = true then pt + 1 else pt) = cntL (putsM ⟨labels, rows, mi, mo⟩ p) (k + 1)) ∧ ((if c = true then (k : Int) else ti) = lastL (putsM ⟨labels, rows, mi, mo⟩ p) (k + 1)) ∧ ((if b = true then (k : Int) else ui) = lastL (takesM ⟨labels, rows, mi, mo⟩ p) (k + 1)) from fun b c hb hc => by
        rw [cntL_succ, cntL_succ, lastL_succ, lastL_succ, ET.out, EP.out, hb, hc, ← htk.out, ← hpt.out, ← hti.out, ← hui.out]
        refine ⟨?_, ?_, rfl, rfl⟩
        · cases b <;> simp
        · cases c <;> simp)
      by_cases g1 : 0 < y1
      · by_cases g2 : 0 < y2
        · have ST := hide2 (STEP.out true true (decide_eq_true g1) (decide_eq_true g2))
          go_wp2
          go_roundg (gk - 1)
          case measure => omega
          case rel => exact ⟨k + 1, tk + 1, pt + 1, k, k, by omega, by simp, by simp, by simp, by simp, by simp, ST.out.1, ST.out.2.1, ST.out.2.2.1, ST.out.2.2.2, by first | exact hw | rfl⟩
        · have ST := hide2 (STEP.out true false (decide_eq_true g1) (decide_eq_false g2))
          go_wp2
          go_roundg (gk - 1)
          case measure => omega
          case rel => exact ⟨k + 1, tk + 1, pt, ti, k, by omega, by simp, by simp, by simp, by simp, by simp, ST.out.1, ST.out.2.1, ST.out.2.2.1, ST.out.2.2.2, by first | exact hw | rfl⟩
      · by_cases g2 : 0 < y2
        · have ST := hide2 (STEP.out false true (decide_eq_false g1) (decide_eq_true g2))
          go_wp2
          go_roundg (gk - 1)
          case measure => omega
          case rel => exact ⟨k + 1, tk, pt + 1, k, ui, by omega, by simp, by simp, by simp, by simp, by simp, ST.out.1, ST.out.2.1, ST.out.2.2.1, ST.out.2.2.2, by first | exact hw | rfl⟩
        · have ST := hide2 (STEP.out false false (decide_eq_false g1) (decide_eq_false g2))
          go_wp2
          go_roundg (gk - 1)
          case measure => omega
          case rel => exact ⟨k + 1, tk, pt, ti, ui, by omega, by simp, by simp, by simp, by simp, by simp, ST.out.1, ST.out.2.1, ST.out.2.2.1, ST.out.2.2.2, by first | exact hw | rfl⟩
    · obtain rfl : k = nl := by omega
      have SM := hide2 (show serM ⟨labels, rows, mi, mo⟩ p = if serQ ⟨labels, rows, mi, mo⟩ p tk pt ti ui = true then serR ⟨labels, rows, mi, mo⟩ p ti.toNat ui.toNat else none by
        have hl : (⟨labels, rows, mi, mo⟩ : PM).labels.length = k := HLL.out
        rw [serM, hl, ← htk.out, ← hpt.out, ← hti.out, ← hui.out])
      have NO := hide2 (show serQ ⟨labels, rows, mi, mo⟩ p tk pt ti ui = false → serM ⟨labels, rows, mi, mo⟩ p = none from fun hf => by rw [SM.out, if_neg (by rw [hf]; exact Bool.false_ne_true)])
      by_cases h1 : (p : Int) = mi
      · have NONE := hide2 (NO.out (by unfold serQ; simp [h1]))
        subst h1
        have r0 := X1.out.frozen 0
        have r1 := X1.out.frozen 1
        have r2 := X1.out.frozen 2
        have r3 := X1.out.frozen 3
        obtain ⟨z0, z1, z2, z3⟩ := box4 X1.out
        go_wp2
        obtain ⟨y0, y1, y2, y3⟩ := box4 (MnM.box4 X1.out (.slice L k cl) (.slice (some ⟨bl, off, none⟩) nr cr) (.int .i64 (p : Int)) (.int .i64 mo))
        refine bodyPost_ret (v := .tuple #[.agg #[.slice L k cl, .slice (some ⟨bl, off, none⟩) nr cr, .int .i64 (p : Int), .int .i64 mo], .bool false]) (by simp [results, Try.results121, go_sem, y0, y1, y2, y3]) rfl ?_
        rw [NONE.out]
        exact AnsSer.no HM.out (((((D0.out.setCell (p := ⟨w.heap.size + 1, 0, none⟩) (by simp) _).setCell (p := ⟨w.heap.size + 1, 1, none⟩) (by simp) _).setCell (p := ⟨w.heap.size + 1, 2, none⟩) (by simp) _).setCell (p := ⟨w.heap.size + 1, 3, none⟩) (by simp) _))
      · by_cases h2 : (p : Int) = mo
        · have NONE := hide2 (NO.out (by unfold serQ; simp [h2]))
          subst h2
          have r0 := X1.out.frozen 0
          have r1 := X1.out.frozen 1
          have r2 := X1.out.frozen 2
          have r3 := X1.out.frozen 3
          obtain ⟨z0, z1, z2, z3⟩ := box4 X1.out
          go_wp2
          obtain ⟨y0, y1, y2, y3⟩ := box4 (MnM.box4 X1.out (.slice L k cl) (.slice (some ⟨bl, off, none⟩) nr cr) (.int .i64 mi) (.int .i64 (p : Int)))
          refine bodyPost_ret (v := .tuple #[.agg #[.slice L k cl, .slice (some ⟨bl, off, none⟩) nr cr, .int .i64 mi, .int .i64 (p : Int)], .bool false]) (by simp [results, Try.results121, go_sem, y0, y1, y2, y3]) rfl ?_
          rw [NONE.out]
          exact AnsSer.no HM.out (((((D0.out.setCell (p := ⟨w.heap.size + 1, 0, none⟩) (by simp) _).setCell (p := ⟨w.heap.size + 1, 1, none⟩) (by simp) _).setCell (p := ⟨w.heap.size + 1, 2, none⟩) (by simp) _).setCell (p := ⟨w.heap.size + 1, 3, none⟩) (by simp) _))
        · have h1' : ((p : Int) == mi) = false := by simpa using h1
          have h2' : ((p : Int) == mo) = false := by simpa using h2
          by_cases h3 : tk = 1
          · by_cases h4 : pt = 1
            · obtain ⟨tn, htn, et⟩ := cntL_one (h4 ▸ hpt.out).symm
              obtain ⟨un, hun, eu⟩ := cntL_one (h3 ▸ htk.out).symm
              obtain rfl : ti = (tn : Int) := hti.out.trans et
              obtain rfl : ui = (un : Int) := hui.out.trans eu
              have H3 := hide2 h3
              have H4 := hide2 h4
              have H1 := hide2 h1
              have H2 := hide2 h2
              have h3' : (tk != 1) = false := by simp [h3]
              have h4' : (pt != 1) = false := by simp [h4]
              clear h1 h2 h3 h4 et eu
              by_cases h5 : tn = un
              · have NONE := hide2 (NO.out (by unfold serQ; simp [h5]))
                subst h5
                have r0 := X1.out.frozen 0
                have r1 := X1.out.frozen 1
                have r2 := X1.out.frozen 2
                have r3 := X1.out.frozen 3
                obtain ⟨z0, z1, z2, z3⟩ := box4 X1.out
                go_wp2
                obtain ⟨y0, y1, y2, y3⟩ := box4 (MnM.box4 X1.out (.slice L k cl) (.slice (some ⟨bl, off, none⟩) nr cr) (.int .i64 mi) (.int .i64 mo))
                refine bodyPost_ret (v := .tuple #[.agg #[.slice L k cl, .slice (some ⟨bl, off, none⟩) nr cr, .int .i64 mi, .int .i64 mo], .bool false]) (by simp [results, Try.results121, go_sem, y0, y1, y2, y3]) rfl ?_
                rw [NONE.out]
                exact AnsSer.no HM.out (((((D0.out.setCell (p := ⟨w.heap.size + 1, 0, none⟩) (by simp) _).setCell (p := ⟨w.heap.size + 1, 1, none⟩) (by simp) _).setCell (p := ⟨w.heap.size + 1, 2, none⟩) (by simp) _).setCell (p := ⟨w.heap.size + 1, 3, none⟩) (by simp) _))
              · have h5' : ((tn : Int) == (un : Int)) = false := by simpa using (show ¬ (tn : Int) = (un : Int) by omega)
                obtain ⟨b1, o1, yu, yu', hD1, du, du', hyu, hyu'⟩ := GI.out un hun
                obtain ⟨b2, o2, yt', yt, hD2, dt', dt, hyt', hyt⟩ := GI.out tn htn
                subst hD1
                injection hD2 with hD2
                injection hD2 with ee1 ee2
                subst ee1 ee2
                obtain ⟨hu2, hu3⟩ := HW2.out un hun
                obtain ⟨ht2, ht3⟩ := HW2.out tn htn
                have n1 : (2 * (un : Int)).toNat = 2 * un := by omega
                have n2 : (2 * (un : Int) + 1).toNat = 2 * un + 1 := by omega
                have n3 : (2 * (tn : Int)).toNat = 2 * tn := by omega
                have n4 : (2 * (tn : Int) + 1).toNat = 2 * tn + 1 := by omega
                have n5 : (0 : Int) ≤ 2 * (un : Int) := by omega
                have n6 : (0 : Int) ≤ 2 * (un : Int) + 1 := by omega
                have n7 : (0 : Int) ≤ 2 * (tn : Int) := by omega
                have n8 : (0 : Int) ≤ 2 * (tn : Int) + 1 := by omega
                have n9 : 2 * (un : Int) < (md : Int) := by have := HMD.out; omega
                have n10 : 2 * (un : Int) + 1 < (md : Int) := by have := HMD.out; omega
                have n11 : 2 * (tn : Int) + 1 < (md : Int) := by have := HMD.out; omega
                have SQ := hide2 (show serQ ⟨labels, rows, mi, mo⟩ p tk pt (tn : Int) (un : Int) = (decide (yu = 1) && decide (yt = 1)) by
                  unfold serQ
                  rw [show (⟨labels, rows, mi, mo⟩ : PM).rows.getD p [] = xp from XG.out, Int.toNat_natCast, Int.toNat_natCast, getD_get hyu.out, getD_get hyt.out]
                  rw [decide_eq_false H1.out, decide_eq_false H2.out, H3.out, H4.out, show decide ((tn : Int) = (un : Int)) = false from decide_eq_false (by omega)]
                  by_cases c1 : yu = 1 <;> by_cases c2 : yt = 1 <;> simp [c1, c2])
                by_cases h6 : yu = 1
                · by_cases h7 : yt = 1
                  · subst h6 h7
                    have SR := hide2 (show serM ⟨labels, rows, mi, mo⟩ p = serR ⟨labels, rows, mi, mo⟩ p tn un by rw [SM.out, if_pos (by rw [SQ.out]; rfl), Int.toNat_natCast, Int.toNat_natCast])
                    clear a0 a1 a2 a3
                    obtain ⟨a0, a1, a2, a3⟩ := box4 X0.out
                    go_upto_region 13 with fail
                    generalize hw1 : wr.alloc (.cells #[.slice L k cl, .slice none 0 0, .int .i64 mi, .int .i64 mo] 69) = w1
                    have M0 := hide2 (show MnM w.heap.size B (w.heap.size + 2) 69 #[.slice L k cl, .slice (some ⟨bl, off, none⟩) nr cr, .int .i64 mi, .int .i64 mo] w w1 L k cl labels none 0 0 ((rows.take 0).map (addRow tn un)) mi mo from by
                      have hs : wr.heap.size = w.heap.size + 2 := SZ0.out
                      have bb : Below wr.heap.size wr w1 := by rw [← hw1]; exact boxBelow _ _
                      have b2 := D0.out.trans (bb.mono (by omega))
                      exact ⟨X0.out.keep bb, X1.out.keep bb, by rw [← hw1, ← hs]; exact Box.new _ _ _, OwnSl.keep IntR.kept HM.out.1 b2, OwnSl.nil, b2, by omega, by decide, rfl⟩)
                    have hs2 := SZ0.out
                    rw [hs2]
                    clear hw1 hs2 a0 a1 a2 a3 du du' dt' dt q0'
                    obtain ⟨a0, a1, a2, a3⟩ := box4 M0.out.arg
                    go_wp2
                    clear a0 a1 a2 a3
                    go_loopg [107] nr (fun gk iv wr => ∃ (q : Nat) (S : Option Addr) (e : Nat), q + gk = nr ∧ iv = .int .i64 q ∧ Hid (∀ a, a < q → okRow p tn un a (rows.getD a []) = true) ∧ Hid (MnM w.heap.size B (w.heap.size + 2) 69 #[.slice L k cl, .slice (some ⟨bl, off, none⟩) nr cr, .int .i64 mi, .int .i64 mo] w wr L k cl labels S q e ((rows.take q).map (addRow tn un)) mi mo))
                    case atStart => exact ⟨0, none, 0, by omega, rfl, fun a ha => absurd ha (by omega), M0.out⟩
                    case round =>
                      obtain ⟨q, S, e, hq, rfl, hok, M⟩ := hrel
                      by_cases hqn : q < nr
                      · obtain ⟨b3, o3, x, C, mm, dd2, hA3, hb3, hx, q3, ox3, ix3, mx3⟩ := OLists.get HR.out hqn
                        injection hA3 with hA3
                        injection hA3 with ee1 ee2
                        subst ee1 ee2
                        have hxx := HRW.out x (List.mem_of_getElem? hx.out)
                        have hmm : mm = 2 * k := by rw [← ix3.len]; exact hxx.1
                        have q3' := (M.out.bel.cell (p := ⟨bl, off + q, none⟩) hb3).trans q3
                        obtain ⟨bc, oc, rfl, hbc, _⟩ := ix3.cells (by omega)
                        have IX3 := hide2 (Ints.keep ix3 M.out.bel)
                        have XL := hide2 hxx
                        have get : ∀ j : Nat, j < 2 * k → ∃ y, Hid (x[j]? = some y) ∧ 0 ≤ y ∧ y ≤ 9 := fun j hj => by
                          have hl : j < x.length := by rw [hxx.1]; exact hj
                          exact ⟨x[j], List.getElem?_eq_getElem hl, hxx.2 _ (List.getElem_mem hl)⟩
                        obtain ⟨x1, hx1, l10, l11⟩ := get (2 * un) (by omega)
                        obtain ⟨x2, hx2, l20, l21⟩ := get (2 * un + 1) (by omega)
                        obtain ⟨x3, hx3, l30, l31⟩ := get (2 * tn + 1) (by omega)
                        have HMM := hide2 hmm
                        have LX := hide2 hxx.1
                        have RG := hide2 (show rows.getD q [] = x by simp [hx.out])
                        have OKV := hide2 (show okRow p tn un q (rows.getD q []) = (decide (q = p) || (!decide (0 < x1) && !decide (9 < x3 + x2))) by rw [RG.out]; unfold okRow; rw [getD_get hx1.out, getD_get hx2.out, getD_get hx3.out])
                        have NEXT := hide2 (show okRow p tn un q (rows.getD q []) = true → ∀ a, a < q + 1 → okRow p tn un a (rows.getD a []) = true from fun h0 a ha => by
                          by_cases e : a = q
                          · subst e; exact h0
                          · exact hok.out a (by omega))
                        have STOP := hide2 (show okRow p tn un q (rows.getD q []) = false → serM ⟨labels, rows, mi, mo⟩ p = none from fun hf => by
                          rw [SR.out]
                          unfold serR
                          rw [if_neg]
                          intro hall
                          rw [List.all_eq_true] at hall
                          have hlen : (⟨labels, rows, mi, mo⟩ : PM).rows.length = nr := HLN.out
                          have := hall q (by rw [hlen]; simpa using hqn)
                          rw [show okRow p tn un q ((⟨labels, rows, mi, mo⟩ : PM).rows.getD q []) = okRow p tn un q (rows.getD q []) from rfl, hf] at this
                          cases this)
                        have SRR := hide2 (map_take_snoc (f := addRow tn un) hx.out)
                        have O := hide2 (OwnSl.empty (R := IntR) (sz := 1) (w := wr) (B := wr.heap.size) (e := 3) (Nat.le_refl _))
                        have HAL := hide2 (show ∀ o, Below wr.heap.size wr (wr.alloc o) from fun o => (Below.refl _ _).alloc (Nat.le_refl _) _)
                        have m11 : 2 * (tn : Int) + 1 < (mm : Int) := by omega
                        have m10 : 2 * (un : Int) + 1 < (mm : Int) := by omega
                        have m9 : 2 * (un : Int) < (mm : Int) := by omega
                        clear q3 ix3 hxx hb3 hbc get n9 n10 n11
                        have hmm2 : mm ≤ 2000 := by omega
                        have hmm0 : 0 < mm := by omega
                        have hqs : q ≤ 1000 := by omega
                        clear hmm
                        go_upto_region 17 with (at_builtin; refine wpList_appSl tyInts IntR.good rfl _ _ rfl rfl rfl O.out (Ints.keep IX3.out (HAL.out _)) (HAL.out _) (by simp) (by omega) (by omega) (fun _ _ _ _ h => h) ?_; intro v2 w2 own2 hg2 hb2; have own2' : OwnInts w2 wr.heap.size v2 mm x := (by simpa using own2); obtain ⟨g, cap, hv2, hlo2, hhi2⟩ := own2'.form (by omega); subst hv2)
                        have OW2 := hide2 own2'
                        have B2 := hide2 hb2
                        have LG := hide2 hlo2
                        have M2 := hide2 (M.out.keep hb2)
                        have c1 : w2.cell? ⟨g, 2 * un, none⟩ = some (.int .i64 x1) := own2'.at hx1.out
                        have c2 : w2.cell? ⟨g, 2 * un + 1, none⟩ = some (.int .i64 x2) := own2'.at hx2.out
                        have c3 : w2.cell? ⟨g, 2 * tn + 1, none⟩ = some (.int .i64 x3) := own2'.at hx3.out
                        have hsum : x3 + x2 ≤ 18 := by omega
                        have hsum0 : 0 ≤ x3 + x2 := by omega
                        have hwx : IntKind.i64.wrap (x3 + x2) = x3 + x2 := by simp [IntKind.wrap, go_sem]; omega
                        clear own2 own2' hg2 hb2 hlo2 hhi2 O HAL IX3 q3'
                        by_cases hqp : q = p
                        · have OKN := hide2 (NEXT.out (by rw [OKV.out, decide_eq_true hqp, Bool.true_or]))
                          obtain rfl : p = q := hqp.symm
                          go_upto_region 19 with fail
                          refine wp_region_script 13 [(0, 0), (0, 1), (0, 2), (0, 3), (0, 4), (0, 5), (0, 6), (0, 7), (0, 8), (0, 9), (0, 10), (0, 11), (0, 12), (2, 13), (2, 14)] (fun w' => w'.cell? ⟨g, 2 * tn + 1, none⟩ = some (.int .i64 x3) ∧ w'.cell? ⟨g, 2 * un + 1, none⟩ = some (.int .i64 x2)) (by kernel_rfl) (by kernel_rfl) (by kernel_rfl) (fun _ _ _ _ _ h => h) ⟨c3, c2⟩ (fun hHeld => ?_)
                          have MD := hide2 (show MnM w.heap.size B (w.heap.size + 2) 69 #[.slice L k cl, .slice (some ⟨bl, off, none⟩) nr cr, .int .i64 mi, .int .i64 mo] w w2.drew L k cl labels S p e ((rows.take p).map (addRow tn un)) mi mo from M2.out.keep (Below.refl _ _).drew)
                          have OD := hide2 (show OwnInts w2.drew wr.heap.size (.slice (some ⟨g, 0, none⟩) mm cap) mm x from OW2.out.keep IntR.kept (Below.refl _ _).drew)
                          have GB := hide2 (show wr.heap.size ≤ g from LG.out)
                          have BD := hide2 (show Below wr.heap.size wr w2.drew from B2.out.drew)
                          generalize w2.drew = w3 at *
                          iterate 13
                            refine scTake (v := ?_) rfl (by rfl) hHeld (fun w' hSw => ?_) ?_
                            rotate_left
                            · (go_simp; try with_reducible rfl)
                            try simp only [Act.put, List.setIfInBounds_toArray, List.set_cons_zero, List.set_cons_succ]
                          have c3' := OD.out.at hx3.out
                          have f3' : w3.frozen? ⟨g, 2 * tn + 1, none⟩ = false := OD.out.frozen _
                          refine scEnd rfl (fun K hK => ?_)
                          go_simp
                          refine hK.out _ _ ?_
                          clear hK
                          try simp only [Act.put, List.setIfInBounds_toArray, List.set_cons_zero, List.set_cons_succ]
                          refine scEnd rfl (fun K hK => ?_)
                          go_simp
                          refine hK.out _ _ ?_
                          clear hK
                          try simp only [Act.put, List.setIfInBounds_toArray, List.set_cons_zero, List.set_cons_succ]
                          simp only [wpScript]
                          have AD := hide2 (show x.set (2 * tn + 1) (x3 + x2) = addRow tn un x by unfold addRow; rw [getD_get hx3.out, getD_get hx2.out])
                          have OW4 := OD.out.put (2 * tn + 1) (x3 + x2)
                          rw [AD.out] at OW4
                          have M4 := M.out.keep (BD.out.setCell (p := ⟨g, 2 * tn + 1, none⟩) GB.out (.int .i64 (x3 + x2)))
                          have B4 := M4.bel
                          generalize hw4 : w3.setCell ⟨g, 2 * tn + 1, none⟩ (.int .i64 (x3 + x2)) = w4 at *
                          have HX4 := hide2 (show (addRow tn un x)[2 * tn + 1]? = some (x3 + x2) by rw [← AD.out, List.getElem?_set_self (by rw [LX.out]; omega)])
                          have c4 : w4.cell? ⟨g, 2 * tn + 1, none⟩ = some (.int .i64 (x3 + x2)) := OW4.at HX4.out
                          have O4 := hide2 OW4
                          have MM := hide2 M4
                          have HB4 := hide2 B4
                          clear hw4 OD BD OW4 M4 B4 MD c3' f3' c1 c2 c3
                          have t1 : w4.cell? ⟨w.heap.size + 2, 1, none⟩ = some (.slice S p e) := MM.out.own.cell 1
                          have RD := hide2 (show Reads (OwnListR B) 1 w4 [.slice (some ⟨g, 0, none⟩) mm cap] [addRow tn un x] from Reads.list1 ⟨mm, O4.out.base (Nat.le_trans hBw M.out.bel.size), mx3⟩)
                          have KP := hide2 (keepLists MM.out.rows)
                          have RW := hide2 MM.out.rows
                          go_wp2_with (at_builtin; refine wpList_appNew (v := .slice S p e) tyLists rfl _ _ rfl [addRow tn un x] #[.slice (some ⟨g, 0, none⟩) mm cap] rfl rfl (by first | rfl | simp) rfl (by simp [Value.oneCell']) RW.out RD.out rfl HB4.out HB4.out.size (by omega) (by omega) KP.out ?_; intro v5 w5 own5 hg5 hb5; obtain ⟨g5, cap5, hv5, _⟩ := own5.form (by omega); subst hv5; have XO := box_row MM.out.own RW.out (by decide) hg5; have j1 : w5.cell? ⟨w.heap.size + 2, 1, none⟩ = some (.slice S p e) := XO.cell 1; have jf : w5.frozen? ⟨w.heap.size + 2, 1, none⟩ = false := XO.frozen 1; rw [← SRR.out] at own5; have NX := hide2 (MM.out.row own5 hg5 hb5); clear own5 hg5 hb5 XO)
                          go_roundg (gk - 1)
                          case measure => omega
                          case rel => exact ⟨p + 1, some ⟨g5, 0, none⟩, cap5, by omega, by simp, OKN.out, NX.out⟩
                        · have hqp' : ((q : Int) == (p : Int)) = false := by simpa using (show ¬ (q : Int) = (p : Int) by omega)
                          by_cases g1 : 0 < x1
                          · have NONE := hide2 (STOP.out (by rw [OKV.out, decide_eq_false hqp, decide_eq_true g1]; rfl))
                            have XR1 := hide2 M2.out.res
                            have BL1 := hide2 M2.out.bel
                            obtain ⟨a0, a1, a2, a3⟩ := box4 M2.out.arg
                            have r0 := XR1.out.frozen 0
                            have r1 := XR1.out.frozen 1
                            have r2 := XR1.out.frozen 2
                            have r3 := XR1.out.frozen 3
                            obtain ⟨z0, z1, z2, z3⟩ := box4 XR1.out
                            go_wp2
                            obtain ⟨y0, y1, y2, y3⟩ := box4 (MnM.box4 XR1.out (.slice L k cl) (.slice (some ⟨bl, off, none⟩) nr cr) (.int .i64 mi) (.int .i64 mo))
                            refine bodyPost_ret (v := .tuple #[.agg #[.slice L k cl, .slice (some ⟨bl, off, none⟩) nr cr, .int .i64 mi, .int .i64 mo], .bool false]) (by simp [results, Try.results121, go_sem, y0, y1, y2, y3]) rfl ?_
                            rw [NONE.out]
                            exact AnsSer.no HM.out (((((BL1.out.setCell (p := ⟨w.heap.size + 1, 0, none⟩) (by simp) _).setCell (p := ⟨w.heap.size + 1, 1, none⟩) (by simp) _).setCell (p := ⟨w.heap.size + 1, 2, none⟩) (by simp) _).setCell (p := ⟨w.heap.size + 1, 3, none⟩) (by simp) _))
                          · by_cases g2 : 9 < x3 + x2
                            · have NONE := hide2 (STOP.out (by rw [OKV.out, decide_eq_false hqp, decide_eq_true g2, Bool.not_true, Bool.and_false]; rfl))
                              go_upto_region 19 with fail
                              refine wp_region_script 13 [(0, 0), (0, 1), (0, 2), (0, 3), (0, 4), (0, 5), (0, 6), (0, 7), (0, 8), (0, 9), (0, 10), (0, 11), (0, 12), (2, 13), (2, 14)] (fun w' => w'.cell? ⟨g, 2 * tn + 1, none⟩ = some (.int .i64 x3) ∧ w'.cell? ⟨g, 2 * un + 1, none⟩ = some (.int .i64 x2)) (by kernel_rfl) (by kernel_rfl) (by kernel_rfl) (fun _ _ _ _ _ h => h) ⟨c3, c2⟩ (fun hHeld => ?_)
                              have MD := hide2 (show MnM w.heap.size B (w.heap.size + 2) 69 #[.slice L k cl, .slice (some ⟨bl, off, none⟩) nr cr, .int .i64 mi, .int .i64 mo] w w2.drew L k cl labels S q e ((rows.take q).map (addRow tn un)) mi mo from M2.out.keep (Below.refl _ _).drew)
                              have OD := hide2 (show OwnInts w2.drew wr.heap.size (.slice (some ⟨g, 0, none⟩) mm cap) mm x from OW2.out.keep IntR.kept (Below.refl _ _).drew)
                              have GB := hide2 (show wr.heap.size ≤ g from LG.out)
                              have BD := hide2 (show Below wr.heap.size wr w2.drew from B2.out.drew)
                              generalize w2.drew = w3 at *
                              iterate 13
                                refine scTake (v := ?_) rfl (by rfl) hHeld (fun w' hSw => ?_) ?_
                                rotate_left
                                · (go_simp; try with_reducible rfl)
                                try simp only [Act.put, List.setIfInBounds_toArray, List.set_cons_zero, List.set_cons_succ]
                              have c3' := OD.out.at hx3.out
                              have f3' : w3.frozen? ⟨g, 2 * tn + 1, none⟩ = false := OD.out.frozen _
                              refine scEnd rfl (fun K hK => ?_)
                              go_simp
                              refine hK.out _ _ ?_
                              clear hK
                              try simp only [Act.put, List.setIfInBounds_toArray, List.set_cons_zero, List.set_cons_succ]
                              refine scEnd rfl (fun K hK => ?_)
                              go_simp
                              refine hK.out _ _ ?_
                              clear hK
                              try simp only [Act.put, List.setIfInBounds_toArray, List.set_cons_zero, List.set_cons_succ]
                              simp only [wpScript]
                              have AD := hide2 (show x.set (2 * tn + 1) (x3 + x2) = addRow tn un x by unfold addRow; rw [getD_get hx3.out, getD_get hx2.out])
                              have OW4 := OD.out.put (2 * tn + 1) (x3 + x2)
                              rw [AD.out] at OW4
                              have M4 := M.out.keep (BD.out.setCell (p := ⟨g, 2 * tn + 1, none⟩) GB.out (.int .i64 (x3 + x2)))
                              have B4 := M4.bel
                              generalize hw4 : w3.setCell ⟨g, 2 * tn + 1, none⟩ (.int .i64 (x3 + x2)) = w4 at *
                              have HX4 := hide2 (show (addRow tn un x)[2 * tn + 1]? = some (x3 + x2) by rw [← AD.out, List.getElem?_set_self (by rw [LX.out]; omega)])
                              have c4 : w4.cell? ⟨g, 2 * tn + 1, none⟩ = some (.int .i64 (x3 + x2)) := OW4.at HX4.out
                              have O4 := hide2 OW4
                              have MM := hide2 M4
                              have HB4 := hide2 B4
                              clear hw4 OD BD OW4 M4 B4 MD c3' f3' c1 c2 c3
                              have XR1 := hide2 MM.out.res
                              have BL1 := hide2 MM.out.bel
                              obtain ⟨a0, a1, a2, a3⟩ := box4 MM.out.arg
                              have r0 := XR1.out.frozen 0
                              have r1 := XR1.out.frozen 1
                              have r2 := XR1.out.frozen 2
                              have r3 := XR1.out.frozen 3
                              obtain ⟨z0, z1, z2, z3⟩ := box4 XR1.out
                              go_wp2
                              obtain ⟨y0, y1, y2, y3⟩ := box4 (MnM.box4 XR1.out (.slice L k cl) (.slice (some ⟨bl, off, none⟩) nr cr) (.int .i64 mi) (.int .i64 mo))
                              refine bodyPost_ret (v := .tuple #[.agg #[.slice L k cl, .slice (some ⟨bl, off, none⟩) nr cr, .int .i64 mi, .int .i64 mo], .bool false]) (by simp [results, Try.results121, go_sem, y0, y1, y2, y3]) rfl ?_
                              rw [NONE.out]
                              exact AnsSer.no HM.out (((((BL1.out.setCell (p := ⟨w.heap.size + 1, 0, none⟩) (by simp) _).setCell (p := ⟨w.heap.size + 1, 1, none⟩) (by simp) _).setCell (p := ⟨w.heap.size + 1, 2, none⟩) (by simp) _).setCell (p := ⟨w.heap.size + 1, 3, none⟩) (by simp) _))
                            · have OKN := hide2 (NEXT.out (by rw [OKV.out, decide_eq_false g1, decide_eq_false g2]; simp))
                              go_upto_region 19 with fail
                              refine wp_region_script 13 [(0, 0), (0, 1), (0, 2), (0, 3), (0, 4), (0, 5), (0, 6), (0, 7), (0, 8), (0, 9), (0, 10), (0, 11), (0, 12), (2, 13), (2, 14)] (fun w' => w'.cell? ⟨g, 2 * tn + 1, none⟩ = some (.int .i64 x3) ∧ w'.cell? ⟨g, 2 * un + 1, none⟩ = some (.int .i64 x2)) (by kernel_rfl) (by kernel_rfl) (by kernel_rfl) (fun _ _ _ _ _ h => h) ⟨c3, c2⟩ (fun hHeld => ?_)
                              have MD := hide2 (show MnM w.heap.size B (w.heap.size + 2) 69 #[.slice L k cl, .slice (some ⟨bl, off, none⟩) nr cr, .int .i64 mi, .int .i64 mo] w w2.drew L k cl labels S q e ((rows.take q).map (addRow tn un)) mi mo from M2.out.keep (Below.refl _ _).drew)
                              have OD := hide2 (show OwnInts w2.drew wr.heap.size (.slice (some ⟨g, 0, none⟩) mm cap) mm x from OW2.out.keep IntR.kept (Below.refl _ _).drew)
                              have GB := hide2 (show wr.heap.size ≤ g from LG.out)
                              have BD := hide2 (show Below wr.heap.size wr w2.drew from B2.out.drew)
                              generalize w2.drew = w3 at *
                              iterate 13
                                refine scTake (v := ?_) rfl (by rfl) hHeld (fun w' hSw => ?_) ?_
                                rotate_left
                                · (go_simp; try with_reducible rfl)
                                try simp only [Act.put, List.setIfInBounds_toArray, List.set_cons_zero, List.set_cons_succ]
                              have c3' := OD.out.at hx3.out
                              have f3' : w3.frozen? ⟨g, 2 * tn + 1, none⟩ = false := OD.out.frozen _
                              refine scEnd rfl (fun K hK => ?_)
                              go_simp
                              refine hK.out _ _ ?_
                              clear hK
                              try simp only [Act.put, List.setIfInBounds_toArray, List.set_cons_zero, List.set_cons_succ]
                              refine scEnd rfl (fun K hK => ?_)
                              go_simp
                              refine hK.out _ _ ?_
                              clear hK
                              try simp only [Act.put, List.setIfInBounds_toArray, List.set_cons_zero, List.set_cons_succ]
                              simp only [wpScript]
                              have AD := hide2 (show x.set (2 * tn + 1) (x3 + x2) = addRow tn un x by unfold addRow; rw [getD_get hx3.out, getD_get hx2.out])
                              have OW4 := OD.out.put (2 * tn + 1) (x3 + x2)
                              rw [AD.out] at OW4
                              have M4 := M.out.keep (BD.out.setCell (p := ⟨g, 2 * tn + 1, none⟩) GB.out (.int .i64 (x3 + x2)))
                              have B4 := M4.bel
                              generalize hw4 : w3.setCell ⟨g, 2 * tn + 1, none⟩ (.int .i64 (x3 + x2)) = w4 at *
                              have HX4 := hide2 (show (addRow tn un x)[2 * tn + 1]? = some (x3 + x2) by rw [← AD.out, List.getElem?_set_self (by rw [LX.out]; omega)])
                              have c4 : w4.cell? ⟨g, 2 * tn + 1, none⟩ = some (.int .i64 (x3 + x2)) := OW4.at HX4.out
                              have O4 := hide2 OW4
                              have MM := hide2 M4
                              have HB4 := hide2 B4
                              clear hw4 OD BD OW4 M4 B4 MD c3' f3' c1 c2 c3
                              have t1 : w4.cell? ⟨w.heap.size + 2, 1, none⟩ = some (.slice S q e) := MM.out.own.cell 1
                              have RD := hide2 (show Reads (OwnListR B) 1 w4 [.slice (some ⟨g, 0, none⟩) mm cap] [addRow tn un x] from Reads.list1 ⟨mm, O4.out.base (Nat.le_trans hBw M.out.bel.size), mx3⟩)
                              have KP := hide2 (keepLists MM.out.rows)
                              have RW := hide2 MM.out.rows
                              go_wp2_with (at_builtin; refine wpList_appNew (v := .slice S q e) tyLists rfl _ _ rfl [addRow tn un x] #[.slice (some ⟨g, 0, none⟩) mm cap] rfl rfl (by first | rfl | simp) rfl (by simp [Value.oneCell']) RW.out RD.out rfl HB4.out HB4.out.size (by omega) (by omega) KP.out ?_; intro v5 w5 own5 hg5 hb5; obtain ⟨g5, cap5, hv5, _⟩ := own5.form (by omega); subst hv5; have XO := box_row MM.out.own RW.out (by decide) hg5; have j1 : w5.cell? ⟨w.heap.size + 2, 1, none⟩ = some (.slice S q e) := XO.cell 1; have jf : w5.frozen? ⟨w.heap.size + 2, 1, none⟩ = false := XO.frozen 1; rw [← SRR.out] at own5; have NX := hide2 (MM.out.row own5 hg5 hb5); clear own5 hg5 hb5 XO)
                              go_roundg (gk - 1)
                              case measure => omega
                              case rel => exact ⟨q + 1, some ⟨g5, 0, none⟩, cap5, by omega, by simp, OKN.out, NX.out⟩
                      · obtain rfl : q = nr := by omega
                        have TK := hide2 (show (rows.take q).map (addRow tn un) = rows.map (addRow tn un) by rw [List.take_of_length_le (by rw [HLN.out]; omega)])
                        have MM := M
                        obtain ⟨b0, b1', b2', b3'⟩ := box4 M.out.own
                        have MR := hide2 (show MnR B wr L k cl S q e ⟨labels, rows.map (addRow tn un), mi, mo⟩ from by
                          have hs := M.out.rows
                          rw [TK.out] at hs
                          exact ⟨M.out.lab, hs.base hBw, hnl, hnr⟩)
                        have FIN := hide2 (show serM ⟨labels, rows, mi, mo⟩ p = some (noPlaceM (noTranM ⟨labels, rows.map (addRow tn un), mi, mo⟩ un) p) by
                          rw [SR.out]
                          unfold serR
                          rw [if_pos]
                          rw [List.all_eq_true]
                          intro a ha
                          have hlen : (⟨labels, rows, mi, mo⟩ : PM).rows.length = q := HLN.out
                          rw [hlen] at ha
                          exact hok.out a (by simpa using ha))
                        have CN := hide2 (noTran_calls (k := un) MR.out (Nat.le_trans hBw M.out.bel.size) hun (fun r hr => by
                          obtain ⟨r', hr', rfl⟩ := List.mem_map.1 (show r ∈ rows.map (addRow tn un) from hr)
                          rw [addRow_length]
                          exact (HRW.out r' hr').1))
                        clear M hok
                        go_wp2_with fail
                        (with_reducible refine CN.out.mono ?_)
                        rintro e1 w5 ⟨L5, nl5, cl5, R5, nr5, cr5, rfl, MR5, BL5⟩
                        have hn5 : nr5 = q := by
                          have h1 := OwnSl.len MR5.2.1
                          have h2 := OwnSl.len MR.out.2.1
                          simp only [noTranM, List.length_map] at h1 h2
                          omega
                        subst hn5
                        have M5 := hide2 (MM.out.keep BL5)
                        have CP := hide2 (noPlace_calls (p := p) MR5 (show B ≤ w5.heap.size by have := M5.out.bel.size; omega) hp HI.out HO.out)
                        clear MR5 BL5
                        go_wp2_with fail
                        (with_reducible refine CP.out.mono ?_)
                        rintro e2 w6 ⟨L6, nl6, cl6, R6, nr6, cr6, rfl, MR6, BL6⟩
                        have M6 := hide2 (M5.out.keep BL6)
                        have HR6 := hide2 MR6
                        clear MR6 BL6
                        have r0 := M6.out.res.frozen 0
                        have r1 := M6.out.res.frozen 1
                        have r2 := M6.out.res.frozen 2
                        have r3 := M6.out.res.frozen 3
                        obtain ⟨z0, z1, z2, z3⟩ := box4 M6.out.res
                        obtain ⟨fi, hfi⟩ : ∃ x, (noPlaceM (noTranM ⟨labels, rows.map (addRow tn un), mi, mo⟩ un) p).i = x := ⟨_, rfl⟩
                        obtain ⟨fo, hfo⟩ : ∃ x, (noPlaceM (noTranM ⟨labels, rows.map (addRow tn un), mi, mo⟩ un) p).o = x := ⟨_, rfl⟩
                        have HFI := hide2 hfi
                        have HFO := hide2 hfo
                        rw [hfi, hfo]
                        clear hfi hfo
                        go_wp2
                        obtain ⟨y0, y1, y2, y3⟩ := box4 (MnM.box4 M6.out.res (.slice L6 nl6 cl6) (.slice R6 nr6 cr6) (.int .i64 fi) (.int .i64 fo))
                        have g1 : w6.grownBy ((((w6.setCell ⟨w.heap.size + 1, 0, none⟩ (.slice L6 nl6 cl6)).setCell ⟨w.heap.size + 1, 1, none⟩ (.slice R6 nr6 cr6)).setCell ⟨w.heap.size + 1, 2, none⟩ (.int .i64 fi)).setCell ⟨w.heap.size + 1, 3, none⟩ (.int .i64 fo)) (some (w.heap.size + 1)) := grown_setB (grown_setB (grown_setB (grown_setB (grown_reflB w6 _))))
                        refine bodyPost_ret (v := .tuple #[.agg #[.slice L6 nl6 cl6, .slice R6 nr6 cr6, .int .i64 fi, .int .i64 fo], .bool true]) (by simp [results, Try.results121, go_sem, y0, y1, y2, y3]) rfl ?_
                        rw [FIN.out]
                        have BB := (((M6.out.bel.setCell (p := ⟨w.heap.size + 1, 0, none⟩) (by simp) (.slice L6 nl6 cl6)).setCell (p := ⟨w.heap.size + 1, 1, none⟩) (by simp) (.slice R6 nr6 cr6)).setCell (p := ⟨w.heap.size + 1, 2, none⟩) (by simp) (.int .i64 fi)).setCell (p := ⟨w.heap.size + 1, 3, none⟩) (by simp) (.int .i64 fo)
                        exact ⟨L6, nl6, cl6, R6, nr6, cr6, by show _ = Ending.returned (.tuple #[.agg #[_, _, .int .i64 (noPlaceM (noTranM ⟨labels, rows.map (addRow tn un), mi, mo⟩ un) p).i, .int .i64 (noPlaceM (noTranM ⟨labels, rows.map (addRow tn un), mi, mo⟩ un) p).o], _]); rw [HFI.out, HFO.out]; rfl, HR6.out.boxed M6.out.res (by decide) (by decide) g1, BB⟩
                  · have NONE := hide2 (NO.out (by rw [SQ.out, decide_eq_false h7, Bool.and_false]))
                    subst h6
                    have h7' : (yt != 1) = true := by simpa using h7
                    have h7'' : (yt == 1) = false := by simpa using h7
                    have r0 := X1.out.frozen 0
                    have r1 := X1.out.frozen 1
                    have r2 := X1.out.frozen 2
                    have r3 := X1.out.frozen 3
                    obtain ⟨z0, z1, z2, z3⟩ := box4 X1.out
                    go_wp2
                    obtain ⟨y0, y1, y2, y3⟩ := box4 (MnM.box4 X1.out (.slice L k cl) (.slice (some ⟨bl, off, none⟩) nr cr) (.int .i64 mi) (.int .i64 mo))
                    refine bodyPost_ret (v := .tuple #[.agg #[.slice L k cl, .slice (some ⟨bl, off, none⟩) nr cr, .int .i64 mi, .int .i64 mo], .bool false]) (by simp [results, Try.results121, go_sem, y0, y1, y2, y3]) rfl ?_
                    rw [NONE.out]
                    exact AnsSer.no HM.out (((((D0.out.setCell (p := ⟨w.heap.size + 1, 0, none⟩) (by simp) _).setCell (p := ⟨w.heap.size + 1, 1, none⟩) (by simp) _).setCell (p := ⟨w.heap.size + 1, 2, none⟩) (by simp) _).setCell (p := ⟨w.heap.size + 1, 3, none⟩) (by simp) _))
                · have NONE := hide2 (NO.out (by rw [SQ.out, decide_eq_false h6, Bool.false_and]))
                  have h6' : (yu != 1) = true := by simpa using h6
                  have h6'' : (yu == 1) = false := by simpa using h6
                  have r0 := X1.out.frozen 0
                  have r1 := X1.out.frozen 1
                  have r2 := X1.out.frozen 2
                  have r3 := X1.out.frozen 3
                  obtain ⟨z0, z1, z2, z3⟩ := box4 X1.out
                  go_wp2
                  obtain ⟨y0, y1, y2, y3⟩ := box4 (MnM.box4 X1.out (.slice L k cl) (.slice (some ⟨bl, off, none⟩) nr cr) (.int .i64 mi) (.int .i64 mo))
                  refine bodyPost_ret (v := .tuple #[.agg #[.slice L k cl, .slice (some ⟨bl, off, none⟩) nr cr, .int .i64 mi, .int .i64 mo], .bool false]) (by simp [results, Try.results121, go_sem, y0, y1, y2, y3]) rfl ?_
                  rw [NONE.out]
                  exact AnsSer.no HM.out (((((D0.out.setCell (p := ⟨w.heap.size + 1, 0, none⟩) (by simp) _).setCell (p := ⟨w.heap.size + 1, 1, none⟩) (by simp) _).setCell (p := ⟨w.heap.size + 1, 2, none⟩) (by simp) _).setCell (p := ⟨w.heap.size + 1, 3, none⟩) (by simp) _))
            · have NONE := hide2 (NO.out (by unfold serQ; simp [h4]))
              have h3' : (tk != 1) = false := by simp [h3]
              have h4' : (pt != 1) = true := by simpa using h4
              have h4'' : (pt == 1) = false := by simpa using h4
              clear h3
              have r0 := X1.out.frozen 0
              have r1 := X1.out.frozen 1
              have r2 := X1.out.frozen 2
              have r3 := X1.out.frozen 3
              obtain ⟨z0, z1, z2, z3⟩ := box4 X1.out
              go_wp2
              obtain ⟨y0, y1, y2, y3⟩ := box4 (MnM.box4 X1.out (.slice L k cl) (.slice (some ⟨bl, off, none⟩) nr cr) (.int .i64 mi) (.int .i64 mo))
              refine bodyPost_ret (v := .tuple #[.agg #[.slice L k cl, .slice (some ⟨bl, off, none⟩) nr cr, .int .i64 mi, .int .i64 mo], .bool false]) (by simp [results, Try.results121, go_sem, y0, y1, y2, y3]) rfl ?_
              rw [NONE.out]
              exact AnsSer.no HM.out (((((D0.out.setCell (p := ⟨w.heap.size + 1, 0, none⟩) (by simp) _).setCell (p := ⟨w.heap.size + 1, 1, none⟩) (by simp) _).setCell (p := ⟨w.heap.size + 1, 2, none⟩) (by simp) _).setCell (p := ⟨w.heap.size + 1, 3, none⟩) (by simp) _))
          · have NONE := hide2 (NO.out (by unfold serQ; simp [h3]))
            have h3' : (tk != 1) = true := by simpa using h3
            have h3'' : (tk == 1) = false := by simpa using h3
            have r0 := X1.out.frozen 0
            have r1 := X1.out.frozen 1
            have r2 := X1.out.frozen 2
            have r3 := X1.out.frozen 3
            obtain ⟨z0, z1, z2, z3⟩ := box4 X1.out
            go_wp2
            obtain ⟨y0, y1, y2, y3⟩ := box4 (MnM.box4 X1.out (.slice L k cl) (.slice (some ⟨bl, off, none⟩) nr cr) (.int .i64 mi) (.int .i64 mo))
            refine bodyPost_ret (v := .tuple #[.agg #[.slice L k cl, .slice (some ⟨bl, off, none⟩) nr cr, .int .i64 mi, .int .i64 mo], .bool false]) (by simp [results, Try.results121, go_sem, y0, y1, y2, y3]) rfl ?_
            rw [NONE.out]
            exact AnsSer.no HM.out (((((D0.out.setCell (p := ⟨w.heap.size + 1, 0, none⟩) (by simp) _).setCell (p := ⟨w.heap.size + 1, 1, none⟩) (by simp) _).setCell (p := ⟨w.heap.size + 1, 2, none⟩) (by simp) _).setCell (p := ⟨w.heap.size + 1, 3, none⟩) (by simp) _))
end Go.Proofs.Ytadepofaobdbhaa
