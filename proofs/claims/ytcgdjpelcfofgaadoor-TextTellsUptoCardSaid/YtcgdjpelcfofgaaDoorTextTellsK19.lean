/- The contract of the writing of a net: the reference's. Conditions: the net reads as data. -/
import Derived.Test.YtcgdjpelcfofgaaDoorTextTellsK18
set_option linter.all false
namespace Go.Proofs.YtcgdjpelcfofgaaDoor
open Go.RowKit

set_option maxRecDepth 100000 in
set_option maxHeartbeats 8000000 in
theorem oprint_calls {w : World} {P : Int} {A : Option Addr} {n c : Nat} {ts : List PTran} (h : Trans w A n c ts) :
    Calls Tryd.prog 5 #[.agg #[.int .i64 P, .slice A n c]] w fun e w' => AnsPrint ⟨P, ts⟩ w w' e := by
  have H := hide2 h
  have HL := hide2 (show ts.length = n from Sl.len h)
  clear h
  go_enter Tryd.func5, Tryd.ntmps5
  go_upto_region 1 with fail
  have B1 := hide2 (show Below w.heap.size w (w.alloc (.cells #[.int .i64 P, .slice A n c] 24)) from (Below.refl _ _).alloc (Nat.le_refl _) _)
  have X1 := hide2 (Box.new w #[.int .i64 P, .slice A n c] 24)
  generalize w.alloc (.cells #[.int .i64 P, .slice A n c] 24) = w1 at *
  obtain ⟨z0, z1⟩ := X1.out.two
  have NW := hide2 (refWrong_calls w1 P A n c ts (H.out.keep B1.out))
  by_cases hok : netOk ⟨P, ts⟩ = true
  · obtain ⟨q1, q2, q3, q4⟩ := (netOk_iff _).1 hok
    simp only at q1 q2 q3 q4
    have NW := hide2 (show Calls Tryd.prog 14 #[.agg #[.int .i64 P, .slice A n c]] w1 fun e w' => e = .returned (.int .i64 0) ∧ Below w1.heap.size w1 w' by rw [← wrongNet_ok hok]; exact NW.out)
    obtain ⟨p, rfl⟩ : ∃ p : Nat, P = (p : Int) := ⟨P.toNat, by omega⟩
    have hp : p ≤ 16 := by omega
    have hn : n ≤ 24 := by have := HL.out; omega
    have TO := hide2 q4
    have PE := hide2 (show printE ⟨(p : Int), ts⟩ = (headT (p : Int) ++ 10 :: bodyT ts, 0) by unfold printE; rw [if_pos hok]; rfl)
    clear hok q1 q2 q3 q4
    go_upto_region 4 with (go_at_call 14; (with_reducible refine NW.out.mono ?_); rintro e w2 ⟨rfl, hb⟩; have B2 := hide2 (B1.out.trans (hb.mono B1.out.size)); have X2 := hide2 (X1.out.keep hb); clear hb z0 z1)
    obtain ⟨z0, z1⟩ := X2.out.two
    have hdl := dec_len (k := p) (by omega)
    obtain ⟨s1, hs1⟩ : ∃ s1, s1 = [110, 101, 116, 32] ++ Lib.decDigits p := ⟨_, rfl⟩
    obtain ⟨s2, hs2⟩ : ∃ s2, s2 = s1 ++ [10] := ⟨_, rfl⟩
    have m1 : s1.length ≤ 10 := by rw [hs1, List.length_append]; simp; omega
    have m2 : s2.length ≤ 11 := by rw [hs2, List.length_append]; simp; omega
    have a1 : ∀ wx : World, (Op.stringOp .add ⟨#[110, 101, 116, 32]⟩ ⟨(Lib.decDigits p).toArray⟩).run Tryd.prog wx = .ok (.string ⟨s1.toArray⟩) wx := fun wx => by rw [hs1]; exact run_string_add_lists wx [110, 101, 116, 32] (Lib.decDigits p) (by decide) (by omega)
    have a2 : ∀ wx : World, (Op.stringOp .add ⟨s1.toArray⟩ ⟨#[10]⟩).run Tryd.prog wx = .ok (.string ⟨s2.toArray⟩) wx := fun wx => by rw [hs2]; exact run_string_add_lists wx s1 [10] (by omega) (by decide)
    have E2 := hide2 (show headT (p : Int) ++ [10] = s2 by rw [hs2, hs1]; unfold headT; rw [Int.toNat_natCast])
    have M2 := hide2 m2
    clear hs1 hs2 m1 m2 hdl
    have IP := hide2 (fun wx : World => itoaS' (w := wx) (k := p) (by omega))
    go_upto_region 6 with (go_at_call 11; (with_reducible refine (IP.out _).mono ?_); rintro e wz ⟨rfl, rfl⟩)
    clear a1 a2
    clear z0 z1
    go_loopw [5, 21] (fun v5 v wr => ∃ i : Nat, v = .int .i64 (i : Int) ∧ i ≤ n ∧ v5 = .string ⟨(s2 ++ bodyT (ts.take i)).toArray⟩ ∧ Hid (Below w.heap.size w wr)) (fun _ v _ => n - (intOf v).toNat)
    case atStart => exact ⟨0, rfl, Nat.zero_le _, by rw [List.take_zero]; unfold bodyT; simp, B2⟩
    case round =>
      obtain ⟨i, rfl, hi, rfl, BW⟩ := hrel
      by_cases hlt : i < n
      · have hji : (i : Int) < (n : Int) := by omega
        obtain ⟨b, off, t, A1, n1, c1, A2, n2, c2, rfl, hb, ht, y0, y1, y2, i1, i2, _, _⟩ := Trans.get (H.out.keep BW.out) hlt
        have hto := TO.out t (List.mem_of_getElem? ht.out)
        obtain ⟨g1, g2, g3, g4, g5, g6⟩ := sides_ok hto
        have I1 := hide2 i1
        have I2 := hide2 i2
        have N1 := hide2 (show n1 ≤ 16 ∧ n2 ≤ 16 from ⟨by have := Sl.len i1; omega, by have := Sl.len i2; omega⟩)
        have G := hide2 (And.intro g3 (And.intro g4 (And.intro g5 g6)))
        have LL := lineT_len hp hto
        have HS := hide2 (bodyT_snoc ht.out)
        have HBL := hide2 (show (s2 ++ bodyT (ts.take i)).length ≤ 10000 by
          have := bodyT_len hp (ts.take i) (fun x hx => TO.out x (List.mem_of_mem_take hx))
          have h2 := M2.out
          rw [List.length_take] at this
          rw [List.length_append]
          omega)
        obtain ⟨s3, hs3⟩ : ∃ s3, s3 = lineT t ++ [10] := ⟨_, rfl⟩
        obtain ⟨s4, hs4⟩ : ∃ s4, s4 = s2 ++ bodyT (ts.take i) := ⟨_, rfl⟩
        have M3 : s3.length ≤ 220 := by rw [hs3, List.length_append]; simp; omega
        have M4 : s4.length ≤ 10000 := by rw [hs4]; exact HBL.out
        have LT := hide2 (show lineT ⟨t.label, t.pre, t.post⟩ ++ [10] = s3 from hs3.symm)
        rw [← hs3] at HS
        have a3 : ∀ wx : World, (Op.stringOp .add ⟨s4.toArray⟩ ⟨s3.toArray⟩).run Tryd.prog wx = .ok (.string ⟨(s4 ++ s3).toArray⟩) wx := fun wx => run_string_add_lists wx s4 s3 (by omega) (by omega)
        have S4 := hide2 (show s4 ++ s3 = s2 ++ bodyT (ts.take (i + 1)) by rw [hs4, List.append_assoc, ← HS.out])
        rw [← hs4]
        clear ht hto g1 g2 g3 g4 g5 g6 i1 i2 hs3 hs4 M3 M4
        go_upto_region 8 with fail
        have D5 := hide2 (show Below wr.heap.size wr (wr.alloc (.cells #[.int .i64 t.label, .slice A1 n1 c1, .slice A2 n2 c2] 44)) from (Below.refl _ _).alloc (Nat.le_refl _) _)
        have X5 := hide2 (Box.new wr #[.int .i64 t.label, .slice A1 n1 c1, .slice A2 n2 c2] 44)
        generalize wr.alloc (.cells #[.int .i64 t.label, .slice A1 n1 c1, .slice A2 n2 c2] 44) = w5 at *
        have LC := hide2 (oline_calls (l := t.label) (I1.out.keep D5.out) (I2.out.keep D5.out) N1.out.1 N1.out.2 G.out.1 G.out.2.1 G.out.2.2.1 G.out.2.2.2)
        have B5 := hide2 (BW.out.trans (D5.out.mono BW.out.size))
        obtain ⟨k0, k1, k2⟩ := X5.out.three
        clear y0 y1 y2 I1 I2 N1 G LL
        go_wp2_with (go_at_call 15; (with_reducible refine LC.out.mono ?_); rintro e w6 ⟨rfl, hb⟩; rw [LT.out]; have W6 := hide2 (B5.out.trans (hb.mono B5.out.size)); clear hb)
        go_roundw
        case rel => exact ⟨i + 1, by go_num, by omega, by rw [S4.out], W6⟩
        case measure => simp [intOf]; omega
      · obtain rfl : i = n := by omega
        have HT := hide2 (show s2 ++ bodyT (ts.take i) = headT (p : Int) ++ 10 :: bodyT ts by rw [List.take_of_length_le (by rw [HL.out]; exact Nat.le_refl _), ← E2.out, List.append_assoc, List.singleton_append])
        clear hlt
        rw [HT.out]
        go_wp2
        have FIN := hide2 (show AnsPrint ⟨(p : Int), ts⟩ w wr (.returned (.tuple #[.string ⟨(headT (p : Int) ++ 10 :: bodyT ts).toArray⟩, .int .i64 0])) from ⟨by rw [PE.out], BW.out⟩)
        exact bodyPost_ret (v := .tuple #[.string ⟨(headT (p : Int) ++ 10 :: bodyT ts).toArray⟩, .int .i64 0]) (by simp [results, Tryd.results5, go_sem]) rfl FIN.out
  · have hno : netOk ⟨P, ts⟩ = false := by simpa using hok
    have NW := hide2 (show Calls Tryd.prog 14 #[.agg #[.int .i64 P, .slice A n c]] w1 fun e w' => e = .returned (.int .i64 2) ∧ Below w1.heap.size w1 w' by rw [← wrongNet_not hno]; exact NW.out)
    have PE := hide2 (show printE ⟨P, ts⟩ = ([], 2) by unfold printE; rw [if_neg hok, wrongNet_not hno])
    clear hok hno
    go_wp2_with (go_at_call 14; (with_reducible refine NW.out.mono ?_); rintro e w2 ⟨rfl, hb⟩; have B2 := hide2 (B1.out.trans (hb.mono B1.out.size)); clear hb)
    have FIN := hide2 (show AnsPrint ⟨P, ts⟩ w w2 (.returned (.tuple #[.string ⟨#[]⟩, .int .i64 2])) from ⟨by rw [PE.out], B2.out⟩)
    exact bodyPost_ret (v := .tuple #[.string ⟨#[]⟩, .int .i64 2]) (by simp [results, Tryd.results5, go_sem]) rfl FIN.out
end Go.Proofs.YtcgdjpelcfofgaaDoor
