/- The contract of the writing of a net: the program's. Conditions: the net reads as data. -/
import Derived.Test.YtcgdjpelcfofgaaDoorTextTellsK12
import Derived.Test.YtcgdjpelcfofgaaDoorTextTellsK14
set_option linter.all false
namespace Go.Proofs.YtcgdjpelcfofgaaDoor
open Go.RowKit

def bodyT (ts : List PTran) : List UInt8 := ts.flatMap fun t => lineT t ++ [10]
theorem bodyT_snoc {ts : List PTran} {i : Nat} {t : PTran} (h : ts[i]? = some t) : bodyT (ts.take (i + 1)) = bodyT (ts.take i) ++ (lineT t ++ [10]) := by
  unfold bodyT
  rw [List.take_add_one, h]
  simp
theorem lineT_len {P : Nat} (hP : P ≤ 16) {t : PTran} (h : tranOk (P : Int) t = true) : (lineT t).length ≤ 210 := by
  obtain ⟨h1, h2, h3, h4, h5, h6⟩ := sides_ok h
  obtain ⟨c, c1, _⟩ := labT_is h5 h6
  have a := sideT_len t.pre 0 (by omega) (fun x hx => (h3 x hx).2)
  have b := sideT_len t.post 0 (by omega) (fun x hx => (h4 x hx).2)
  unfold lineT
  rw [c1]
  simp only [List.length_append, List.length_cons, List.length_nil]
  omega
theorem bodyT_len {P : Nat} (hP : P ≤ 16) : ∀ (ts : List PTran), (∀ t ∈ ts, tranOk (P : Int) t = true) → (bodyT ts).length ≤ 211 * ts.length
  | [], _ => Nat.le_refl _
  | t :: ts, h => by
    have ih := bodyT_len hP ts (fun x hx => h x (by simp [hx]))
    have h1 := lineT_len hP (h t (by simp))
    have e : bodyT (t :: ts) = (lineT t ++ [10]) ++ bodyT ts := by unfold bodyT; rw [List.flatMap_cons]
    rw [e, List.length_append, List.length_append, List.length_cons]
    simp only [List.length_cons, List.length_nil]
    omega
theorem BldV.keep {w w' : World} {B b : Nat} {l : List UInt8} (h : BldV w B b l) (hb : Below w.heap.size w w') : BldV w' B b l := by
  have key : ∀ q, Lib.BuilderAt 36 5 B b q (Lib.byteCells l) w → Lib.BuilderAt 36 5 B b q (Lib.byteCells l) w' := fun q hq => by
    obtain ⟨k1, v, k2, k3, k4⟩ := hq
    exact ⟨k1, v, (hb.block b (Array.getElem?_eq_some_iff.1 k2).1).trans k2, k3.kept (row := none) ⟨hb.os, hb.tape, hb.output, hb.size, fun j hj _ => hb.block j hj⟩ (by cases v.ownBlock <;> simp), k4⟩
  rcases h with h | h
  · exact .inl (key _ h)
  · exact .inr (key _ h)
def AnsPrint (N : PNet) (w w' : World) (e : Ending) : Prop := e = .returned (.tuple #[.string ⟨(printE N).1.toArray⟩, .int .i64 (printE N).2]) ∧ Below w.heap.size w w'

set_option maxRecDepth 100000 in
set_option maxHeartbeats 8000000 in
theorem tPrint_calls {w : World} {P : Int} {A : Option Addr} {n c : Nat} {ts : List PTran} (h : Trans w A n c ts) :
    Calls Tryd.prog 4 #[.agg #[.int .i64 P, .slice A n c]] w fun e w' => AnsPrint ⟨P, ts⟩ w w' e := by
  have H := hide2 h
  have HL := hide2 (show ts.length = n from Sl.len h)
  clear h
  go_enter Tryd.func4, Tryd.ntmps4
  go_upto_region 1 with fail
  have B1 := hide2 (show Below w.heap.size w (w.alloc (.cells #[.int .i64 P, .slice A n c] 24)) from (Below.refl _ _).alloc (Nat.le_refl _) _)
  have X1 := hide2 (Box.new w #[.int .i64 P, .slice A n c] 24)
  generalize w.alloc (.cells #[.int .i64 P, .slice A n c] 24) = w1 at *
  obtain ⟨z0, z1⟩ := X1.out.two
  have NW := hide2 (netWrong_calls w1 P A n c ts (H.out.keep B1.out))
  by_cases hok : netOk ⟨P, ts⟩ = true
  · obtain ⟨q1, q2, q3, q4⟩ := (netOk_iff _).1 hok
    simp only at q1 q2 q3 q4
    have NW := hide2 (show Calls Tryd.prog 9 #[.agg #[.int .i64 P, .slice A n c]] w1 fun e w' => e = .returned (.int .i64 0) ∧ Below w1.heap.size w1 w' by rw [← wrongNet_ok hok]; exact NW.out)
    obtain ⟨p, rfl⟩ : ∃ p : Nat, P = (p : Int) := ⟨P.toNat, by omega⟩
    have hp : p ≤ 16 := by omega
    have hn : n ≤ 24 := by have := HL.out; omega
    have TO := hide2 q4
    have PE := hide2 (show printE ⟨(p : Int), ts⟩ = (headT (p : Int) ++ 10 :: bodyT ts, 0) by unfold printE; rw [if_pos hok]; rfl)
    clear hok q1 q2 q3 q4
    go_upto_region 5 with (go_at_call 9; (with_reducible refine NW.out.mono ?_); rintro e w2 ⟨rfl, hb⟩; have B2 := hide2 (B1.out.trans (hb.mono B1.out.size)); have X2 := hide2 (X1.out.keep hb); clear hb z0 z1)
    have D3 := hide2 (show Below w2.heap.size w2 (w2.alloc (.cells #[.pointer none, .slice none 0 0] 36)) from (Below.refl _ _).alloc (Nat.le_refl _) _)
    have V3 := hide2 (show BldV (w2.alloc (.cells #[.pointer none, .slice none 0 0] 36)) w2.heap.size w2.heap.size [] from Lib.fresh_isBuilder _ _ w2)
    generalize w2.alloc (.cells #[.pointer none, .slice none 0 0] 36) = w3 at *
    obtain ⟨z0, z1⟩ := (X2.out.keep D3.out).two
    have hdl := dec_len (k := p) (by omega)
    obtain ⟨s1, hs1⟩ : ∃ s1, s1 = [110, 101, 116, 32] ++ Lib.decDigits p := ⟨_, rfl⟩
    obtain ⟨s2, hs2⟩ : ∃ s2, s2 = s1 ++ [10] := ⟨_, rfl⟩
    have m1 : s1.length ≤ 10 := by rw [hs1, List.length_append]; simp; omega
    have m2 : s2.length ≤ 11 := by rw [hs2, List.length_append]; simp; omega
    have a1 : ∀ wx : World, (Op.stringOp .add ⟨#[110, 101, 116, 32]⟩ ⟨(Lib.decDigits p).toArray⟩).run Tryd.prog wx = .ok (.string ⟨s1.toArray⟩) wx := fun wx => by rw [hs1]; exact run_string_add_lists wx [110, 101, 116, 32] (Lib.decDigits p) (by decide) (by omega)
    have a2 : ∀ wx : World, (Op.stringOp .add ⟨s1.toArray⟩ ⟨#[10]⟩).run Tryd.prog wx = .ok (.string ⟨s2.toArray⟩) wx := fun wx => by rw [hs2]; exact run_string_add_lists wx s1 [10] (by omega) (by decide)
    have E2 := hide2 (show headT (p : Int) ++ [10] = s2 by rw [hs2, hs1]; unfold headT; rw [Int.toNat_natCast])
    have M2 := hide2 m2
    clear hs1 hs2 m1 m2 hdl
    have IP := hide2 (fun wx : World => itoaS' (w := wx) (k := p) (by omega))
    have WR := hide2 (write_calls' (m := s2) V3.out (by have := M2.out; simp; omega) D3.out.size)
    go_upto_region 6 with (first
      | (go_at_call 10; (with_reducible refine WR.out.mono ?_); rintro e w4 ⟨⟨y, rfl⟩, hv, hb2⟩; have V4 := hide2 (show BldV w4 w2.heap.size w2.heap.size (s2 ++ bodyT (ts.take 0)) from (by rw [List.nil_append] at hv; rw [List.take_zero]; unfold bodyT; rw [List.flatMap_nil, List.append_nil]; exact hv)); have D4 := hide2 (D3.out.trans hb2); clear hv hb2 WR a1 a2 z0 z1)
      | (go_at_call 11; (with_reducible refine (IP.out _).mono ?_); rintro e wz ⟨rfl, rfl⟩))
    obtain ⟨z0, z1⟩ := (X2.out.keep D4.out).two
    go_wp2_with fail
    clear z0 z1
    go_loopw [22] (fun v wr => ∃ i : Nat, v = .int .i64 (i : Int) ∧ i ≤ n ∧ Hid (BldV wr w2.heap.size w2.heap.size (s2 ++ bodyT (ts.take i))) ∧ Hid (Below w2.heap.size w2 wr)) (fun v _ => n - (intOf v).toNat)
    case atStart => exact ⟨0, rfl, Nat.zero_le _, V4, D4⟩
    case round =>
      clear V4 D4
      obtain ⟨i, rfl, hi, BV, BL⟩ := hrel
      have BW := hide2 (B2.out.trans (BL.out.mono B2.out.size))
      by_cases hlt : i < n
      · have hji : (i : Int) < (n : Int) := by omega
        obtain ⟨b, off, t, A1, n1, c1, A2, n2, c2, rfl, hb, ht, y0, y1, y2, i1, i2, _, _⟩ := Trans.get (H.out.keep BW.out) hlt
        have hto := TO.out t (List.mem_of_getElem? ht.out)
        obtain ⟨g1, g2, g3, g4, g5, g6⟩ := sides_ok hto
        have I1 := hide2 i1
        have I2 := hide2 i2
        have N1 := hide2 (show n1 ≤ 16 ∧ n2 ≤ 16 from ⟨by have := Sl.len i1; omega, by have := Sl.len i2; omega⟩)
        have G := hide2 (And.intro g3 (And.intro g4 (And.intro g5 g6)))
        have LL := lineT_len hp hto
        have HS := hide2 (bodyT_snoc ht.out)
        have HBL := hide2 (show (s2 ++ bodyT (ts.take i)).length ≤ 10000 by
          have := bodyT_len hp (ts.take i) (fun x hx => TO.out x (List.mem_of_mem_take hx))
          have h2 := M2.out
          rw [List.length_take] at this
          rw [List.length_append]
          omega)
        obtain ⟨s3, hs3⟩ : ∃ s3, s3 = lineT t ++ [10] := ⟨_, rfl⟩
        have a3 : ∀ wx : World, (Op.stringOp .add ⟨(lineT t).toArray⟩ ⟨#[10]⟩).run Tryd.prog wx = .ok (.string ⟨s3.toArray⟩) wx := fun wx => by rw [hs3]; exact run_string_add_lists wx (lineT t) [10] (by omega) (by decide)
        have M3 := hide2 (show s3.length ≤ 220 by rw [hs3, List.length_append]; simp; omega)
        rw [← hs3] at HS
        clear ht hto g1 g2 g3 g4 g5 g6 i1 i2 hs3
        go_upto_region 9 with fail
        have D5 := hide2 (show Below wr.heap.size wr (wr.alloc (.cells #[.int .i64 t.label, .slice A1 n1 c1, .slice A2 n2 c2] 44)) from (Below.refl _ _).alloc (Nat.le_refl _) _)
        have X5 := hide2 (Box.new wr #[.int .i64 t.label, .slice A1 n1 c1, .slice A2 n2 c2] 44)
        generalize wr.alloc (.cells #[.int .i64 t.label, .slice A1 n1 c1, .slice A2 n2 c2] 44) = w5 at *
        have HW5 := hide2 (show w2.heap.size ≤ w5.heap.size from Nat.le_trans BL.out.size D5.out.size)
        have LC := hide2 (line_calls (l := t.label) (I1.out.keep D5.out) (I2.out.keep D5.out) N1.out.1 N1.out.2 G.out.1 G.out.2.1 G.out.2.2.1 G.out.2.2.2)
        have WR := hide2 (fun (w6 : World) (hb : Below w5.heap.size w5 w6) => write_calls' (m := s3) ((BV.out.keep D5.out).keep hb) (by have := HBL.out; have := M3.out; omega) (Nat.le_trans HW5.out hb.size))
        have EA := hide2 (show (⟨t.label, t.pre, t.post⟩ : PTran) = t from rfl)
        have CP := X5
        obtain ⟨k0, k1, k2⟩ := X5.out.three
        clear y0 y1 y2 I1 I2 N1 G LL
        go_wp2_with (first
          | (go_at_call 12; (with_reducible refine LC.out.mono ?_); rintro e w6 ⟨rfl, hb⟩; have W6 := hide2 hb; clear hb)
          | (go_at_call 10; (with_reducible refine (WR.out _ W6.out).mono ?_); rintro e w7 ⟨⟨y7, rfl⟩, hv, hb2⟩; have V7 := hide2 (show BldV w7 w2.heap.size w2.heap.size (s2 ++ bodyT (ts.take (i + 1))) by rw [HS.out, ← List.append_assoc]; exact hv); have D7 := hide2 (((BL.out.trans (D5.out.mono BL.out.size)).trans (W6.out.mono HW5.out)).trans hb2); clear hv hb2))
        go_roundw
        case rel => exact ⟨i + 1, by go_num, by omega, V7, D7⟩
        case measure => simp [intOf]; omega
      · obtain rfl : i = n := by omega
        have ST := hide2 (string_calls' BV.out BL.out.size)
        have HT := hide2 (show s2 ++ bodyT (ts.take i) = headT (p : Int) ++ 10 :: bodyT ts by rw [List.take_of_length_le (by rw [HL.out]; exact Nat.le_refl _), ← E2.out, List.append_assoc, List.singleton_append])
        clear hlt
        go_wp2_with (go_at_call 13; (with_reducible refine ST.out.mono ?_); rintro e w6 ⟨rfl, hb2⟩; rw [HT.out]; have F6 := hide2 (B2.out.trans ((BL.out.trans hb2).mono B2.out.size)); clear hb2)
        have FIN := hide2 (show AnsPrint ⟨(p : Int), ts⟩ w w6 (.returned (.tuple #[.string ⟨(headT (p : Int) ++ 10 :: bodyT ts).toArray⟩, .int .i64 0])) from ⟨by rw [PE.out], F6.out⟩)
        exact bodyPost_ret (v := .tuple #[.string ⟨(headT (p : Int) ++ 10 :: bodyT ts).toArray⟩, .int .i64 0]) (by simp [results, Tryd.results4, go_sem]) rfl FIN.out
  · have hno : netOk ⟨P, ts⟩ = false := by simpa using hok
    have NW := hide2 (show Calls Tryd.prog 9 #[.agg #[.int .i64 P, .slice A n c]] w1 fun e w' => e = .returned (.int .i64 2) ∧ Below w1.heap.size w1 w' by rw [← wrongNet_not hno]; exact NW.out)
    have PE := hide2 (show printE ⟨P, ts⟩ = ([], 2) by unfold printE; rw [if_neg hok, wrongNet_not hno])
    clear hok hno
    go_wp2_with (go_at_call 9; (with_reducible refine NW.out.mono ?_); rintro e w2 ⟨rfl, hb⟩; have B2 := hide2 (B1.out.trans (hb.mono B1.out.size)); clear hb)
    have FIN := hide2 (show AnsPrint ⟨P, ts⟩ w w2 (.returned (.tuple #[.string ⟨#[]⟩, .int .i64 2])) from ⟨by rw [PE.out], B2.out⟩)
    exact bodyPost_ret (v := .tuple #[.string ⟨#[]⟩, .int .i64 2]) (by simp [results, Tryd.results4, go_sem]) rfl FIN.out
end Go.Proofs.YtcgdjpelcfofgaaDoor
