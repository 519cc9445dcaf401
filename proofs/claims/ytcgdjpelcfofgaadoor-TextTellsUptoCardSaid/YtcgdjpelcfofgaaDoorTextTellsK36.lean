/- The contract of the program's reading of a net's text. Conditions: the text has at most a million letters; the tables lie as they were laid. -/
import Derived.Test.YtcgdjpelcfofgaaDoorTextTellsK35
set_option linter.all false
namespace Go.Proofs.YtcgdjpelcfofgaaDoor
open Go.RowKit

theorem trim_pre (d : List UInt8) : Lib.trimPrefix ([110, 101, 116, 32] ++ d) [110, 101, 116, 32] = d := by
  unfold Lib.trimPrefix Lib.hasPrefix
  rw [if_pos (by rw [List.isPrefixOf_iff_prefix]; exact List.prefix_append _ _)]
  rfl
theorem trim_len (s q : List UInt8) : (Lib.trimPrefix s q).length ≤ s.length := by
  unfold Lib.trimPrefix
  split
  · rw [List.length_drop]; omega
  · exact Nat.le_refl _
theorem trimPre_calls {w : World} (s q : List UInt8) : Calls Tryd.prog 20 #[.string ⟨s.toArray⟩, .string ⟨q.toArray⟩] w fun e w' => e = .returned (.string ⟨(Lib.trimPrefix s q).toArray⟩) ∧ w' = w := strings_TrimPrefix ⟨s.toArray⟩ ⟨q.toArray⟩ w

theorem endTrans2 {wr : World} {B b n c : Nat} {A : Option Addr} {ts : List PTran} {u v : Value} (h : OwnSl (OwnTranR B) 3 wr B 44 (.slice A n c) n ts) (hB : b < B) (hn : n ≤ 1000) : Trans ((wr.setCell ⟨b, 0, none⟩ u).setCell ⟨b, 1, none⟩ v) A n c ts := by
  have h1 := (turnedEnd h (g0 := b) hB (j := 0) (u := u)).out
  have h2 := (turnedEnd h1 (g0 := b) hB (j := 1) (u := v)).out
  obtain ⟨A', c', hA, t'⟩ := (OwnSl.ofOwnTran h2).sl (by omega)
  injection hA with hA1 hA2 hA3
  subst hA1 hA3
  exact t'
set_option maxRecDepth 100000 in
set_option maxHeartbeats 16000000 in
theorem txtParse_calls {w : World} {B : Nat} {s : List UInt8} (hs : s.length ≤ 1100000) (T : Tabs B w) :
    Calls Tryd.prog 6 #[.string ⟨s.toArray⟩] w fun e w' => AnsParse w w' s e := by
  have TT := hide2 T
  have HS := hide2 hs
  clear T hs
  obtain ⟨m, hm⟩ : ∃ m, m = (pieces s).length := ⟨_, rfl⟩
  obtain ⟨ls, hls⟩ : ∃ ls, ls = (linesT s).1 := ⟨_, rfl⟩
  obtain ⟨tl, htl⟩ : ∃ tl, tl = (linesT s).2 := ⟨_, rfl⟩
  have HM := hide2 (show m = ls.length + 1 by rw [hm, hls, pieces_len])
  have LE := hide2 (show ∀ (i : Nat) l, ls[i]? = some l → (pieces s)[i]? = some (l ++ [10]) ∧ l.length ≤ s.length ∧ ∀ c ∈ l, c ≠ 10 from fun i l h => by
    rw [hls] at h
    have := (linesT_sum s).1 l (List.mem_of_getElem? h)
    exact ⟨pieces_line h, this.1, this.2⟩)
  have TE := hide2 (show (pieces s)[ls.length]? = some tl ∧ tl.length ≤ s.length ∧ ∀ c ∈ tl, c ≠ 10 by rw [hls, htl]; exact ⟨pieces_tail s, (linesT_sum s).2⟩)
  have E0 := hide2 (show parseL tl (ls.drop 0) 0 0 [] = parseT s by rw [hls, htl, List.drop_zero]; rfl)
  have HM2 := hide2 hm
  have ML := hide2 (show ls.length ≤ 1100000 by rw [hls, lines_count]; exact Nat.le_trans List.count_le_length HS.out)
  clear hm hls htl
  go_enter Tryd.func6, Tryd.ntmps6
  go_upto_region 1 with fail
  have B1 := hide2 (show Below w.heap.size w (w.alloc (.cells #[.int .i64 0, .slice none 0 0] 24)) from (Below.refl _ _).alloc (Nat.le_refl _) _)
  have Z1 := hide2 (Box.new w #[.int .i64 0, .slice none 0 0] 24)
  generalize w.alloc (.cells #[.int .i64 0, .slice none 0 0] 24) = w1 at *
  have SC := hide2 (show Calls Tryd.prog 16 #[.string ⟨s.toArray⟩, .string ⟨#[10]⟩] w1 (fun e w' => ∃ A, e = .returned (.slice (some ⟨A, 0, none⟩) m m) ∧ w1.heap.size ≤ A ∧ A < w'.heap.size ∧ (∀ (i : Nat) f, (pieces s)[i]? = some f → w'.cell? ⟨A, i, none⟩ = some (.string ⟨f.toArray⟩)) ∧ Below w1.heap.size w1 w') by
    rw [HM2.out]
    exact splitAfter_calls HS.out (TT.out.keep (B1.out.mono TT.out.1)))
  go_upto_region 3 with (go_at_call 16; (with_reducible refine SC.out.mono ?_); rintro e2 w2 ⟨A, rfl, _, hA, hcl, hb⟩; have CL := hide2 (And.intro hA hcl); have B2 := hide2 (B1.out.trans (hb.mono B1.out.size)); have Z2 := hide2 (Z1.out.keep hb); clear hb hA hcl SC)
  go_upto_region 4 with fail
  have D3 := hide2 (show Below w2.heap.size w2 (w2.alloc (.cells #[.int .i64 0, .slice none 0 0] 24)) from (Below.refl _ _).alloc (Nat.le_refl _) _)
  have N3 := hide2 (Box.new w2 #[.int .i64 0, .slice none 0 0] 24)
  have S3 := hide2 (show (w2.alloc (.cells #[.int .i64 0, .slice none 0 0] 24)).heap.size = w2.heap.size + 1 from Array.size_push _)
  generalize w2.alloc (.cells #[.int .i64 0, .slice none 0 0] 24) = w3 at *
  have ZL := hide2 (show w.heap.size < w2.heap.size from Box.lt Z2.out)
  go_wp2_with fail
  go_loopg [20] (ls.length + 1) (fun gk v20 wr => ∃ (i P : Nat) (Q : Option Addr) (c : Nat) (ts : List PTran), v20 = .int .i64 (i : Int) ∧ gk + i = ls.length + 1 ∧ i ≤ ls.length ∧ i ≤ 25 ∧ P ≤ 16 ∧ ts.length ≤ i ∧ (i = 0 → ts = [] ∧ Q = none ∧ c = 0) ∧
    Hid (parseL tl (ls.drop i) i P ts = parseT s) ∧ Hid (Below w2.heap.size w2 wr) ∧ Hid (Box wr w2.heap.size 24 #[.int .i64 (P : Int), .slice Q ts.length c]) ∧ Hid (OwnSl (OwnTranR w3.heap.size) 3 wr w3.heap.size 44 (.slice Q ts.length c) ts.length ts))
  case atStart => exact ⟨0, 0, none, 0, [], rfl, rfl, Nat.zero_le _, by omega, by omega, by simp, fun _ => ⟨rfl, rfl, rfl⟩, E0, D3, N3, OwnSl.nil⟩
  case round =>
    clear D3 N3 E0
    obtain ⟨i, P, Q, c, ts, rfl, hgk, hi, hi25, hP, hts, hi0, EQ, BR, NR, OR⟩ := hrel
    have HI0 := hide2 hi0
    have HT := hide2 hts
    have GK := hide2 hgk
    clear hi0 hts hgk
    have BW := hide2 (B2.out.trans (BR.out.mono B2.out.size))
    have ZR := hide2 (Z2.out.keep BR.out)
    have mlb := ML.out
    have hmi : (m : Int) = (ls.length : Int) + 1 := by have := HM.out; omega
    have hji : (i : Int) < (m : Int) := by omega
    clear hmi
    by_cases hlt : i < ls.length
    · obtain ⟨l, hl⟩ : ∃ l, ls[i]? = some l := ⟨_, List.getElem?_eq_getElem hlt⟩
      have LI := hide2 (LE.out i l hl)
      have cf : wr.cell? ⟨A, i, none⟩ = some (.string ⟨(l ++ [10]).toArray⟩) := (BR.out.cell (p := ⟨A, i, none⟩) CL.out.1).trans (CL.out.2 i _ LI.out.1)
      have HD := hide2 (show ls.drop i = l :: ls.drop (i + 1) by
        rw [List.drop_eq_getElem_cons hlt]
        rw [List.getElem?_eq_getElem hlt] at hl
        injection hl with hl
        rw [hl])
      have CS := hide2 (show Calls Tryd.prog 18 #[.string ⟨(l ++ [10]).toArray⟩, .string ⟨#[10]⟩] wr (fun e w' => e = .returned (.tuple #[.string ⟨l.toArray⟩, .bool true]) ∧ w' = wr) by
        have c := cutSuf_calls (w := wr) (s := l ++ [10]) (by rw [List.length_append]; have := LI.out.2.1; have := HS.out; simp; omega)
        rw [(suffix_yes l).1, (suffix_yes l).2] at c
        exact c)
      have LL := hide2 (show l.length ≤ 1100000 from Nat.le_trans LI.out.2.1 HS.out)
      have PL := hide2 (show parseL tl (ls.drop i) i P ts = if 24 < i then noT i else if i = 0 then (match headR l with
          | some p => parseL tl (ls.drop (i + 1)) 1 p ts
          | none => noT i) else (match tranR P l with
          | some t => parseL tl (ls.drop (i + 1)) (i + 1) P (ts ++ [t])
          | none => noT i) by rw [HD.out]; rfl)
      have HLT := hide2 hlt
      clear hl hlt
      go_upto_region 12 with (go_at_call 18; (with_reducible refine CS.out.mono ?_); rintro e4 w4 ⟨rfl, hw⟩; subst hw; clear CS)
      clear cf
      go_cut [51] from 52 to 61 (fun v wx => v = .bool false ∧ wx = w4)
      case first =>
        by_cases hi1 : i = 0
        · have k1 : decide ((0 : Int) < (i : Int)) = false := by rw [decide_eq_false_iff_not]; omega
          have k2 : decide (0 < i) = false := by rw [decide_eq_false_iff_not]; omega
          have k3 : ¬ (0 : Int) < (i : Int) := by omega
          clear hi1
          go_wp2
          go_meet
          exact ⟨rfl, rfl⟩
        · have k3 : (0 : Int) < (i : Int) := by omega
          have k4 : 0 < i := by omega
          clear hi1
          cases l with
          | nil =>
            go_wp2
            go_meet
            exact ⟨rfl, rfl⟩
          | cons x l =>
            go_wp2
            go_meet
            exact ⟨rfl, rfl⟩
      case rest =>
        obtain ⟨rfl, rfl⟩ := hcut
        have ZF := ZR
        by_cases h24 : 24 < i
        · have h24i : (24 : Int) < (i : Int) := by omega
          have PN := hide2 (show parseL tl (ls.drop i) i P ts = noT i by rw [PL.out, if_pos h24])
          clear h24
          have NC := hide2 (txtNo_calls (w := wc) (i : Int))
          go_wp2_with (go_at_call 17; (with_reducible refine NC.out.mono ?_); rintro eq wq ⟨rfl, hb⟩; have BQ := hide2 (BW.out.trans (hb.mono BW.out.size)); have ZQ := hide2 (Box.keep ZF.out hb); clear hb NC; obtain ⟨c0, c1⟩ := Box.two ZQ.out; have f0 := ZQ.out.frozen 0; have f1 := ZQ.out.frozen 1)
          have FIN := hide2 (show AnsParse w ((wq.setCell ⟨w.heap.size, 0, none⟩ (.int .i64 0)).setCell ⟨w.heap.size, 1, none⟩ (.slice none 0 0)) s (.returned (.tuple #[.agg #[.int .i64 0, .slice none 0 0], .int .i64 (i : Int), .int .i64 1])) from ⟨(BQ.out.setCell (p := ⟨w.heap.size, 0, none⟩) (Nat.le_refl _) _).setCell (p := ⟨w.heap.size, 1, none⟩) (Nat.le_refl _) _, none, 0, 0, by rw [← EQ.out, PN.out]; rfl, by rw [← EQ.out, PN.out]; exact transNil _⟩)
          obtain ⟨y0, y1⟩ := Box.two (ZQ.out.set2 (.int .i64 0) (.slice none 0 0))
          exact bodyPost_ret (v := .tuple #[.agg #[.int .i64 0, .slice none 0 0], .int .i64 (i : Int), .int .i64 1]) (by simp [results, Tryd.results6, go_sem, y0, y1]) rfl FIN.out
        · have h24i : ¬ (24 : Int) < (i : Int) := by omega
          have H24 := hide2 h24
          clear h24
          by_cases hi1 : i = 0
          · subst hi1
            obtain ⟨rfl, rfl, rfl⟩ := HI0.out rfl
            have EQ : Hid (parseL tl (ls.drop 0) 0 P [] = parseT s) := EQ
            have PL2 := hide2 (show parseL tl (ls.drop 0) 0 P [] = (match headR l with
                | some p => parseL tl (ls.drop (0 + 1)) 1 p []
                | none => noT 0) by rw [PL.out, if_neg (by omega), if_pos rfl])
            obtain ⟨d, hd⟩ : ∃ d, d = Lib.trimPrefix l [110, 101, 116, 32] := ⟨_, rfl⟩
            have TC : Hid (Calls Tryd.prog 20 #[.string ⟨l.toArray⟩, .string ⟨#[110, 101, 116, 32]⟩] wc fun e w' => e = .returned (.string ⟨d.toArray⟩) ∧ w' = wc) := by rw [hd]; exact trimPre_calls l [110, 101, 116, 32]
            have DL := hide2 (show d.length ≤ 1100000 by rw [hd]; exact Nat.le_trans (trim_len _ _) LL.out)
            obtain ⟨pv, okp, hpv⟩ : ∃ n ok, atV d = (n, ok) := ⟨_, _, rfl⟩
            have HP := hide2 hpv
            have BAD := hide2 (show ∀ q : Nat, headR l = some q → okp = true ∧ pv = (q : Int) ∧ q ≤ 16 ∧ l = headT (q : Int) from fun q hq => by
              obtain ⟨h1, h2⟩ := headR_some.1 hq
              have h3 : d = Lib.decDigits q := by rw [hd, h2]; unfold headT; rw [Int.toNat_natCast]; exact trim_pre _
              rw [h3, atV_dec (by omega)] at hpv
              injection hpv with e1 e2
              exact ⟨e2.symm, e1.symm, h1, h2⟩)
            clear hd hpv
            have TBW := hide2 (TT.out.keep (BW.out.mono TT.out.1))
            have AC := hide2 (atoi_calls (w := wc) (d := d) (by have := DL.out; omega) TBW.out.now)
            cases okp with
            | false =>
              go_upto_region 18 with (first
                | (go_at_call 20; (with_reducible refine TC.out.mono ?_); rintro et wt ⟨rfl, rfl⟩)
                | (go_at_call 19; (with_reducible refine AC.out.mono ?_); rintro ea w6 ⟨hat, hb⟩; rcases hat with ⟨hno, _⟩ | ⟨_, tq, Nq, he⟩; (rw [HP.out] at hno; cases hno); rw [HP.out] at he; subst he; have D6 := hide2 (BR.out.trans (hb.mono BR.out.size)); have B6 := hide2 (BW.out.trans (hb.mono BW.out.size)); have ZF := hide2 (ZR.out.keep hb); have N6 := hide2 (NR.out.keep hb); clear hb))
              have PN := hide2 (show parseL tl (ls.drop 0) 0 P [] = noT 0 by rw [PL2.out]; cases hh : headR l with | none => rfl | some q => (obtain ⟨q1, q2, q3, q4⟩ := BAD.out q hh; cases q1))
              have NC : Hid (Calls Tryd.prog 17 #[.int .i64 0] w6 fun e w' => e = .returned (.tuple #[.agg #[.int .i64 0, .slice none 0 0], .int .i64 0, .int .i64 1]) ∧ Below w6.heap.size w6 w') := txtNo_calls 0
              go_wp2_with (first
                | (go_at_call 17; (with_reducible refine NC.out.mono ?_); rintro eq wq ⟨rfl, hb⟩; have BQ := hide2 (B6.out.trans (hb.mono B6.out.size)); have ZQ := hide2 (Box.keep ZF.out hb); clear hb NC; obtain ⟨c0, c1⟩ := Box.two ZQ.out; have f0 := ZQ.out.frozen 0; have f1 := ZQ.out.frozen 1)
                | (go_at_call 11; (with_reducible refine (IT.out _).mono ?_); rintro ez wz ⟨rfl, rfl⟩))
              have FIN := hide2 (show AnsParse w ((wq.setCell ⟨w.heap.size, 0, none⟩ (.int .i64 0)).setCell ⟨w.heap.size, 1, none⟩ (.slice none 0 0)) s (.returned (.tuple #[.agg #[.int .i64 0, .slice none 0 0], .int .i64 0, .int .i64 1])) from ⟨(BQ.out.setCell (p := ⟨w.heap.size, 0, none⟩) (Nat.le_refl _) _).setCell (p := ⟨w.heap.size, 1, none⟩) (Nat.le_refl _) _, none, 0, 0, by rw [← EQ.out, PN.out]; rfl, by rw [← EQ.out, PN.out]; exact transNil _⟩)
              obtain ⟨y0, y1⟩ := Box.two (ZQ.out.set2 (.int .i64 0) (.slice none 0 0))
              exact bodyPost_ret (v := .tuple #[.agg #[.int .i64 0, .slice none 0 0], .int .i64 0, .int .i64 1]) (by simp [results, Tryd.results6, go_sem, y0, y1]) rfl FIN.out
            | true =>
              go_upto_region 18 with (first
                | (go_at_call 20; (with_reducible refine TC.out.mono ?_); rintro et wt ⟨rfl, rfl⟩)
                | (go_at_call 19; (with_reducible refine AC.out.mono ?_); rintro ea w6 ⟨hat, hb⟩; rcases hat with ⟨_, he⟩ | ⟨hno, _⟩; rotate_left; (rw [HP.out] at hno; cases hno); rw [HP.out] at he; subst he; have D6 := hide2 (BR.out.trans (hb.mono BR.out.size)); have B6 := hide2 (BW.out.trans (hb.mono BW.out.size)); have ZF := hide2 (ZR.out.keep hb); have N6 := hide2 (NR.out.keep hb); clear hb))
              by_cases g1 : pv < 0
              · skip
                have PN := hide2 (show parseL tl (ls.drop 0) 0 P [] = noT 0 by rw [PL2.out]; cases hh : headR l with | none => rfl | some q => (obtain ⟨q1, q2, q3, q4⟩ := BAD.out q hh; exact absurd g1 (by omega)))
                have NC : Hid (Calls Tryd.prog 17 #[.int .i64 0] w6 fun e w' => e = .returned (.tuple #[.agg #[.int .i64 0, .slice none 0 0], .int .i64 0, .int .i64 1]) ∧ Below w6.heap.size w6 w') := txtNo_calls 0
                go_wp2_with (first
                  | (go_at_call 17; (with_reducible refine NC.out.mono ?_); rintro eq wq ⟨rfl, hb⟩; have BQ := hide2 (B6.out.trans (hb.mono B6.out.size)); have ZQ := hide2 (Box.keep ZF.out hb); clear hb NC; obtain ⟨c0, c1⟩ := Box.two ZQ.out; have f0 := ZQ.out.frozen 0; have f1 := ZQ.out.frozen 1)
                  | (go_at_call 11; (with_reducible refine (IT.out _).mono ?_); rintro ez wz ⟨rfl, rfl⟩))
                have FIN := hide2 (show AnsParse w ((wq.setCell ⟨w.heap.size, 0, none⟩ (.int .i64 0)).setCell ⟨w.heap.size, 1, none⟩ (.slice none 0 0)) s (.returned (.tuple #[.agg #[.int .i64 0, .slice none 0 0], .int .i64 0, .int .i64 1])) from ⟨(BQ.out.setCell (p := ⟨w.heap.size, 0, none⟩) (Nat.le_refl _) _).setCell (p := ⟨w.heap.size, 1, none⟩) (Nat.le_refl _) _, none, 0, 0, by rw [← EQ.out, PN.out]; rfl, by rw [← EQ.out, PN.out]; exact transNil _⟩)
                obtain ⟨y0, y1⟩ := Box.two (ZQ.out.set2 (.int .i64 0) (.slice none 0 0))
                exact bodyPost_ret (v := .tuple #[.agg #[.int .i64 0, .slice none 0 0], .int .i64 0, .int .i64 1]) (by simp [results, Tryd.results6, go_sem, y0, y1]) rfl FIN.out
              · by_cases g2 : 16 < pv
                · skip
                  have PN := hide2 (show parseL tl (ls.drop 0) 0 P [] = noT 0 by rw [PL2.out]; cases hh : headR l with | none => rfl | some q => (obtain ⟨q1, q2, q3, q4⟩ := BAD.out q hh; exact absurd g2 (by omega)))
                  have NC : Hid (Calls Tryd.prog 17 #[.int .i64 0] w6 fun e w' => e = .returned (.tuple #[.agg #[.int .i64 0, .slice none 0 0], .int .i64 0, .int .i64 1]) ∧ Below w6.heap.size w6 w') := txtNo_calls 0
                  go_wp2_with (first
                    | (go_at_call 17; (with_reducible refine NC.out.mono ?_); rintro eq wq ⟨rfl, hb⟩; have BQ := hide2 (B6.out.trans (hb.mono B6.out.size)); have ZQ := hide2 (Box.keep ZF.out hb); clear hb NC; obtain ⟨c0, c1⟩ := Box.two ZQ.out; have f0 := ZQ.out.frozen 0; have f1 := ZQ.out.frozen 1)
                    | (go_at_call 11; (with_reducible refine (IT.out _).mono ?_); rintro ez wz ⟨rfl, rfl⟩))
                  have FIN := hide2 (show AnsParse w ((wq.setCell ⟨w.heap.size, 0, none⟩ (.int .i64 0)).setCell ⟨w.heap.size, 1, none⟩ (.slice none 0 0)) s (.returned (.tuple #[.agg #[.int .i64 0, .slice none 0 0], .int .i64 0, .int .i64 1])) from ⟨(BQ.out.setCell (p := ⟨w.heap.size, 0, none⟩) (Nat.le_refl _) _).setCell (p := ⟨w.heap.size, 1, none⟩) (Nat.le_refl _) _, none, 0, 0, by rw [← EQ.out, PN.out]; rfl, by rw [← EQ.out, PN.out]; exact transNil _⟩)
                  obtain ⟨y0, y1⟩ := Box.two (ZQ.out.set2 (.int .i64 0) (.slice none 0 0))
                  exact bodyPost_ret (v := .tuple #[.agg #[.int .i64 0, .slice none 0 0], .int .i64 0, .int .i64 1]) (by simp [results, Tryd.results6, go_sem, y0, y1]) rfl FIN.out
                · obtain ⟨pn, rfl⟩ : ∃ pn : Nat, pv = (pn : Int) := ⟨pv.toNat, by omega⟩
                  have hpn : pn < 100 := by omega
                  have IT := hide2 (fun wx : World => itoaS' (w := wx) hpn)
                  obtain ⟨hs, hhs⟩ : ∃ hs, hs = headT (pn : Int) := ⟨_, rfl⟩
                  have dl := dec_len hpn
                  have a1 : ∀ wx : World, (Op.stringOp .add ⟨#[110, 101, 116, 32]⟩ ⟨(Lib.decDigits pn).toArray⟩).run Tryd.prog wx = .ok (.string ⟨hs.toArray⟩) wx := fun wx => by
                    rw [hhs]
                    unfold headT
                    rw [Int.toNat_natCast]
                    exact run_string_add_lists wx [110, 101, 116, 32] (Lib.decDigits pn) (by decide) (by omega)
                  by_cases g3 : l = hs
                  · have g4 : (l == hs) = true := beq_iff_eq.2 g3
                    have EQ2 := hide2 (show parseL tl (ls.drop (0 + 1)) 1 pn [] = parseT s by
                      rw [← EQ.out, PL2.out, show headR l = some pn from headR_some.2 ⟨by omega, by rw [g3, hhs]⟩])
                    have G4 := hide2 g4
                    have HP16 := hide2 (show pn ≤ 16 by omega)
                    obtain ⟨n0, n1⟩ := N6.out.two
                    have fn := N6.out.frozen 0
                    have N7 := hide2 (show Box (w6.setCell ⟨w2.heap.size, 0, none⟩ (.int .i64 (pn : Int))) w2.heap.size 24 #[.int .i64 (pn : Int), .slice none 0 0] from N6.out.set 0 _)
                    have D7 := hide2 (D6.out.setCell (p := ⟨w2.heap.size, 0, none⟩) (Nat.le_refl _) (.int .i64 (pn : Int)))
                    have HG := hide2 (show gk - 1 < gk ∧ (gk - 1) + 1 = ls.length + 1 ∧ 1 ≤ ls.length from by have := GK.out; have := HLT.out; exact ⟨by omega, by omega, by omega⟩)
                    clear hhs g3
                    go_wp2_with (go_at_call 11; (with_reducible refine (IT.out _).mono ?_); rintro ez wz ⟨rfl, rfl⟩)
                    go_roundg (gk - 1)
                    case measure => exact HG.out.1
                    case rel => exact ⟨1, pn, none, 0, [], by go_num, HG.out.2.1, HG.out.2.2, by omega, HP16.out, by simp, fun h => by omega, EQ2, D7, N7, OwnSl.nil⟩
                  · have g4 : (l == hs) = false := beq_eq_false_iff_ne.2 g3
                    have PN := hide2 (show parseL tl (ls.drop 0) 0 P [] = noT 0 by rw [PL2.out]; cases hh : headR l with | none => rfl | some q => (obtain ⟨q1, q2, q3, q4⟩ := BAD.out q hh; exact absurd q4 (by rw [show (q : Int) = (pn : Int) from q2.symm, ← hhs]; exact g3)))
                    clear hhs g3
                    have NC : Hid (Calls Tryd.prog 17 #[.int .i64 0] w6 fun e w' => e = .returned (.tuple #[.agg #[.int .i64 0, .slice none 0 0], .int .i64 0, .int .i64 1]) ∧ Below w6.heap.size w6 w') := txtNo_calls 0
                    go_wp2_with (first
                      | (go_at_call 17; (with_reducible refine NC.out.mono ?_); rintro eq wq ⟨rfl, hb⟩; have BQ := hide2 (B6.out.trans (hb.mono B6.out.size)); have ZQ := hide2 (Box.keep ZF.out hb); clear hb NC; obtain ⟨c0, c1⟩ := Box.two ZQ.out; have f0 := ZQ.out.frozen 0; have f1 := ZQ.out.frozen 1)
                      | (go_at_call 11; (with_reducible refine (IT.out _).mono ?_); rintro ez wz ⟨rfl, rfl⟩))
                    have FIN := hide2 (show AnsParse w ((wq.setCell ⟨w.heap.size, 0, none⟩ (.int .i64 0)).setCell ⟨w.heap.size, 1, none⟩ (.slice none 0 0)) s (.returned (.tuple #[.agg #[.int .i64 0, .slice none 0 0], .int .i64 0, .int .i64 1])) from ⟨(BQ.out.setCell (p := ⟨w.heap.size, 0, none⟩) (Nat.le_refl _) _).setCell (p := ⟨w.heap.size, 1, none⟩) (Nat.le_refl _) _, none, 0, 0, by rw [← EQ.out, PN.out]; rfl, by rw [← EQ.out, PN.out]; exact transNil _⟩)
                    obtain ⟨y0, y1⟩ := Box.two (ZQ.out.set2 (.int .i64 0) (.slice none 0 0))
                    exact bodyPost_ret (v := .tuple #[.agg #[.int .i64 0, .slice none 0 0], .int .i64 0, .int .i64 1]) (by simp [results, Tryd.results6, go_sem, y0, y1]) rfl FIN.out
          · skip
            have k1 : ((i : Int) == 0) = false := by simp; omega
            have k2 : ¬ (i : Int) = 0 := by omega
            have k3 : (i == 0) = false := by simp; omega
            have PL2 := hide2 (show parseL tl (ls.drop i) i P ts = (match tranR P l with
                  | some t => parseL tl (ls.drop (i + 1)) (i + 1) P (ts ++ [t])
                  | none => noT i) by rw [PL.out, if_neg H24.out, if_neg hi1])
            have TBW := hide2 (TT.out.keep (BW.out.mono TT.out.1))
            have TC := hide2 (tranT_calls (w := wc) (s := l) (P := P) LL.out TBW.out hP)
            obtain ⟨n0, n1⟩ := NR.out.two
            clear hi1
            cases htr : tranR P l with
            | none =>
              have HTR := hide2 htr
              have PN := hide2 (show parseL tl (ls.drop i) i P ts = noT i by rw [PL2.out, htr])
              clear htr
              go_upto_region 9 with (go_at_call 21; (with_reducible refine TC.out.mono ?_); rintro e5 w5 ⟨hb, ⟨_, _, _, h1, _⟩ | ⟨_, lq, A3, m3, c3, A4, m4, c4, he⟩⟩; (exact absurd (HTR.out.symm.trans h1) (by intro e; cases e)); subst he; have B5 := hide2 (BW.out.trans (hb.mono BW.out.size)); have Z5 := hide2 (ZR.out.keep hb); clear hb TC)
              have D6 := hide2 (show Below w5.heap.size w5 (w5.alloc (.cells #[.int .i64 lq, .slice A3 m3 c3, .slice A4 m4 c4] 44)) from (Below.refl _ _).alloc (Nat.le_refl _) _)
              generalize w5.alloc (.cells #[.int .i64 lq, .slice A3 m3 c3, .slice A4 m4 c4] 44) = w6 at *
              have B6 := hide2 (B5.out.trans (D6.out.mono B5.out.size))
              have ZF := hide2 (Z5.out.keep D6.out)
              have NC := hide2 (txtNo_calls (w := w6) (i : Int))
              go_wp2_with (go_at_call 17; (with_reducible refine NC.out.mono ?_); rintro eq wq ⟨rfl, hb⟩; have BQ := hide2 (B6.out.trans (hb.mono B6.out.size)); have ZQ := hide2 (Box.keep ZF.out hb); clear hb NC; obtain ⟨c0, c1⟩ := Box.two ZQ.out; have f0 := ZQ.out.frozen 0; have f1 := ZQ.out.frozen 1)
              have FIN := hide2 (show AnsParse w ((wq.setCell ⟨w.heap.size, 0, none⟩ (.int .i64 0)).setCell ⟨w.heap.size, 1, none⟩ (.slice none 0 0)) s (.returned (.tuple #[.agg #[.int .i64 0, .slice none 0 0], .int .i64 (i : Int), .int .i64 1])) from ⟨(BQ.out.setCell (p := ⟨w.heap.size, 0, none⟩) (Nat.le_refl _) _).setCell (p := ⟨w.heap.size, 1, none⟩) (Nat.le_refl _) _, none, 0, 0, by rw [← EQ.out, PN.out]; rfl, by rw [← EQ.out, PN.out]; exact transNil _⟩)
              obtain ⟨y0, y1⟩ := Box.two (ZQ.out.set2 (.int .i64 0) (.slice none 0 0))
              exact bodyPost_ret (v := .tuple #[.agg #[.int .i64 0, .slice none 0 0], .int .i64 (i : Int), .int .i64 1]) (by simp [results, Tryd.results6, go_sem, y0, y1]) rfl FIN.out
            | some t =>
              have HTR := hide2 htr
              have EQ2 := hide2 (show parseL tl (ls.drop (i + 1)) (i + 1) P (ts ++ [t]) = parseT s by rw [← EQ.out, PL2.out, htr])
              clear htr
              go_upto_region 9 with (go_at_call 21; (with_reducible refine TC.out.mono ?_); rintro e5 w5 ⟨hb, ⟨t', A3, A4, h1, he, o3, o4⟩ | ⟨h1, _⟩⟩; rotate_left; (exact absurd (HTR.out.symm.trans h1) (by intro e; cases e)); (have h1 := HTR.out.symm.trans h1); injection h1 with h1; subst h1; subst he; have O3 := hide2 o3; have O4 := hide2 o4; have D5 := hide2 (BR.out.trans (hb.mono BR.out.size)); have N5 := hide2 (NR.out.keep hb); have O5 := hide2 (OR.out.keep (OwnTranR.kept _) hb); clear hb TC o3 o4)
              have D6 := hide2 (show Below w5.heap.size w5 (w5.alloc (.cells #[.int .i64 t.label, .slice (some ⟨A3, 0, none⟩) P P, .slice (some ⟨A4, 0, none⟩) P P] 44)) from (Below.refl _ _).alloc (Nat.le_refl _) _)
              have X6 := hide2 (Box.new w5 #[.int .i64 t.label, .slice (some ⟨A3, 0, none⟩) P P, .slice (some ⟨A4, 0, none⟩) P P] 44)
              generalize w5.alloc (.cells #[.int .i64 t.label, .slice (some ⟨A3, 0, none⟩) P P, .slice (some ⟨A4, 0, none⟩) P P] 44) = w7 at *
              have D7 := hide2 (D5.out.trans (D6.out.mono D5.out.size))
              have N7 := hide2 (N5.out.keep D6.out)
              have O7 := hide2 (O5.out.keep (OwnTranR.kept _) D6.out)
              have S3w := hide2 (show w3.heap.size ≤ wc.heap.size from by have := Box.lt NR.out; have := S3.out; omega)
              have RD7 := hide2 (show OwnTranR w3.heap.size w7 (fun j => [Value.int .i64 t.label, .slice (some ⟨A3, 0, none⟩) P P, .slice (some ⟨A4, 0, none⟩) P P].getD j undef) t from ⟨rfl, P, P, OwnSl.base (O3.out.keep IntR.kept D6.out) S3w.out, OwnSl.base (O4.out.keep IntR.kept D6.out) S3w.out, by omega, by omega⟩)
              have KP7 := hide2 (keepTran O7.out)
              have S7 := hide2 (show w3.heap.size ≤ w7.heap.size from by have := Box.lt N7.out; have := S3.out; omega)
              have hts := HT.out
              obtain ⟨x0, x1, x2⟩ := X6.out.three
              obtain ⟨n0, n1⟩ := N7.out.two
              clear O3 O4
              go_upto_region 21 with (at_builtin; refine wpList_appNew (v := .slice Q ts.length c) tyTrans rfl _ _ rfl [t] #[.int .i64 t.label, .slice (some ⟨A3, 0, none⟩) P P, .slice (some ⟨A4, 0, none⟩) P P] rfl rfl (by first | rfl | simp) rfl (by simp [Value.oneCell']) O7.out (Reads.tran RD7.out) rfl (Below.refl w3.heap.size w7) S7.out (by omega) (by omega) KP7.out ?_; intro vn w8 own8 hg8 hb8; obtain ⟨Cn, cn, hvn, _⟩ := own8.sl (by omega); subst hvn; have D8 := hide2 (D7.out.trans (hb8.mono (by have := S3.out; omega))); have N8 := hide2 (N7.out.keepB hb8 (by have := S3.out; omega)); have O8 := hide2 own8; clear own8 hg8 hb8 n0 n1 x0 x1 x2; have d1 := N8.out.cell 1; have g1 := N8.out.frozen 1; simp only [List.getElem?_toArray, List.getElem?_cons_succ, List.getElem?_cons_zero] at d1)
              have D9 := hide2 (D8.out.setCell (p := ⟨w2.heap.size, 1, none⟩) (Nat.le_refl _) (.slice Cn (ts.length + 1) cn))
              have N9 := hide2 (show Box (w8.setCell ⟨w2.heap.size, 1, none⟩ (.slice Cn (ts.length + 1) cn)) w2.heap.size 24 #[.int .i64 (P : Int), .slice Cn (ts ++ [t]).length cn] by rw [List.length_append]; exact N8.out.set 1 _)
              have O9 := hide2 (show OwnSl (OwnTranR w3.heap.size) 3 (w8.setCell ⟨w2.heap.size, 1, none⟩ (.slice Cn (ts.length + 1) cn)) w3.heap.size 44 (.slice Cn (ts ++ [t]).length cn) (ts ++ [t]).length (ts ++ [t]) by rw [List.length_append]; exact (turnedEnd O8.out (g0 := w2.heap.size) (by have := S3.out; omega) (j := 1) (u := .slice Cn (ts.length + 1) cn)).out)
              clear d1 g1
              generalize w8.setCell ⟨w2.heap.size, 1, none⟩ (.slice Cn (ts.length + 1) cn) = w9 at *
              have HTS := hide2 (show (ts ++ [t]).length ≤ i + 1 by rw [List.length_append]; simp; omega)
              have HG := hide2 (show gk - 1 < gk ∧ (gk - 1) + (i + 1) = ls.length + 1 ∧ i + 1 ≤ ls.length ∧ i + 1 ≤ 25 from by have := GK.out; have := HLT.out; have := H24.out; exact ⟨by omega, by omega, by omega, by omega⟩)
              go_wp2
              go_roundg (gk - 1)
              case measure => exact HG.out.1
              case rel => exact ⟨i + 1, P, Cn, cn, ts ++ [t], by go_num, HG.out.2.1, HG.out.2.2.1, HG.out.2.2.2, hP, HTS.out, fun h => by omega, EQ2, D9, N9, O9⟩
    · have hie : i = ls.length := by omega
      have HIE := hide2 hie
      have cf : wr.cell? ⟨A, i, none⟩ = some (.string ⟨tl.toArray⟩) := (BR.out.cell (p := ⟨A, i, none⟩) CL.out.1).trans (CL.out.2 i _ (by rw [hie]; exact TE.out.1))
      have CS := hide2 (show Calls Tryd.prog 18 #[.string ⟨tl.toArray⟩, .string ⟨#[10]⟩] wr (fun e w' => e = .returned (.tuple #[.string ⟨tl.toArray⟩, .bool false]) ∧ w' = wr) by
        have c := cutSuf_calls (w := wr) (s := tl) (by have := TE.out.2.1; have := HS.out; omega)
        rw [(suffix_no TE.out.2.2).1, (suffix_no TE.out.2.2).2] at c
        exact c)
      have HD := hide2 (show parseL tl (ls.drop i) i P ts = if 0 < i ∧ tl = [] then (⟨(P : Int), ts⟩, 0, 0) else noT i by rw [hie, List.drop_length]; rfl)
      have ZF := ZR
      clear hlt hie
      by_cases hi1 : i = 0
      · have k1 : decide ((0 : Int) < (i : Int)) = false := by rw [decide_eq_false_iff_not]; omega
        have k2 : decide (0 < i) = false := by rw [decide_eq_false_iff_not]; omega
        have k3 : ¬ (0 : Int) < (i : Int) := by omega
        have PN := hide2 (show parseL tl (ls.drop i) i P ts = noT i by rw [HD.out, if_neg (by rintro ⟨h, _⟩; omega)])
        clear hi1
        go_upto_region 14 with (go_at_call 18; (with_reducible refine CS.out.mono ?_); rintro e4 w4 ⟨rfl, hw⟩; subst hw; clear CS)
        have NC := hide2 (txtNo_calls (w := w4) (i : Int))
        go_wp2_with (go_at_call 17; (with_reducible refine NC.out.mono ?_); rintro eq wq ⟨rfl, hb⟩; have BQ := hide2 (BW.out.trans (hb.mono BW.out.size)); have ZQ := hide2 (Box.keep ZF.out hb); clear hb NC; obtain ⟨c0, c1⟩ := Box.two ZQ.out; have f0 := ZQ.out.frozen 0; have f1 := ZQ.out.frozen 1)
        have FIN := hide2 (show AnsParse w ((wq.setCell ⟨w.heap.size, 0, none⟩ (.int .i64 0)).setCell ⟨w.heap.size, 1, none⟩ (.slice none 0 0)) s (.returned (.tuple #[.agg #[.int .i64 0, .slice none 0 0], .int .i64 (i : Int), .int .i64 1])) from ⟨(BQ.out.setCell (p := ⟨w.heap.size, 0, none⟩) (Nat.le_refl _) _).setCell (p := ⟨w.heap.size, 1, none⟩) (Nat.le_refl _) _, none, 0, 0, by rw [← EQ.out, PN.out]; rfl, by rw [← EQ.out, PN.out]; exact transNil _⟩)
        obtain ⟨y0, y1⟩ := Box.two (ZQ.out.set2 (.int .i64 0) (.slice none 0 0))
        exact bodyPost_ret (v := .tuple #[.agg #[.int .i64 0, .slice none 0 0], .int .i64 (i : Int), .int .i64 1]) (by simp [results, Tryd.results6, go_sem, y0, y1]) rfl FIN.out
      · have k3 : (0 : Int) < (i : Int) := by omega
        have k4 : 0 < i := by omega
        cases tl with
        | nil =>
          have PE := hide2 (show parseT s = (⟨(P : Int), ts⟩, 0, 0) by rw [← EQ.out, HD.out, if_pos ⟨k4, rfl⟩])
          clear hi1
          go_upto_region 13 with (go_at_call 18; (with_reducible refine CS.out.mono ?_); rintro e4 w4 ⟨rfl, hw⟩; subst hw; clear CS)
          obtain ⟨n0, n1⟩ := NR.out.two
          obtain ⟨c0, c1⟩ := ZF.out.two
          have f0 := ZF.out.frozen 0
          have f1 := ZF.out.frozen 1
          go_wp2
          obtain ⟨y0, y1⟩ := Box.two (ZF.out.set2 (.int .i64 (P : Int)) (.slice Q ts.length c))
          have FIN := hide2 (show AnsParse w ((w4.setCell ⟨w.heap.size, 0, none⟩ (.int .i64 (P : Int))).setCell ⟨w.heap.size, 1, none⟩ (.slice Q ts.length c)) s (.returned (.tuple #[.agg #[.int .i64 (P : Int), .slice Q ts.length c], .int .i64 0, .int .i64 0])) from ⟨(BW.out.setCell (p := ⟨w.heap.size, 0, none⟩) (Nat.le_refl _) _).setCell (p := ⟨w.heap.size, 1, none⟩) (Nat.le_refl _) _, Q, ts.length, c, by rw [PE.out], by rw [PE.out]; exact endTrans2 OR.out (by have := S3.out; have := ZL.out; omega) (by have := HT.out; omega)⟩)
          exact bodyPost_ret (v := .tuple #[.agg #[.int .i64 (P : Int), .slice Q ts.length c], .int .i64 0, .int .i64 0]) (by simp [results, Tryd.results6, go_sem, y0, y1]) rfl FIN.out
        | cons x tl =>
          have PN := hide2 (show parseL (x :: tl) (ls.drop i) i P ts = noT i by rw [HD.out, if_neg (by rintro ⟨_, h⟩; cases h)])
          clear hi1
          go_upto_region 14 with (go_at_call 18; (with_reducible refine CS.out.mono ?_); rintro e4 w4 ⟨rfl, hw⟩; subst hw; clear CS)
          have NC := hide2 (txtNo_calls (w := w4) (i : Int))
          go_wp2_with (go_at_call 17; (with_reducible refine NC.out.mono ?_); rintro eq wq ⟨rfl, hb⟩; have BQ := hide2 (BW.out.trans (hb.mono BW.out.size)); have ZQ := hide2 (Box.keep ZF.out hb); clear hb NC; obtain ⟨c0, c1⟩ := Box.two ZQ.out; have f0 := ZQ.out.frozen 0; have f1 := ZQ.out.frozen 1)
          have FIN := hide2 (show AnsParse w ((wq.setCell ⟨w.heap.size, 0, none⟩ (.int .i64 0)).setCell ⟨w.heap.size, 1, none⟩ (.slice none 0 0)) s (.returned (.tuple #[.agg #[.int .i64 0, .slice none 0 0], .int .i64 (i : Int), .int .i64 1])) from ⟨(BQ.out.setCell (p := ⟨w.heap.size, 0, none⟩) (Nat.le_refl _) _).setCell (p := ⟨w.heap.size, 1, none⟩) (Nat.le_refl _) _, none, 0, 0, by rw [← EQ.out, PN.out]; rfl, by rw [← EQ.out, PN.out]; exact transNil _⟩)
          obtain ⟨y0, y1⟩ := Box.two (ZQ.out.set2 (.int .i64 0) (.slice none 0 0))
          exact bodyPost_ret (v := .tuple #[.agg #[.int .i64 0, .slice none 0 0], .int .i64 (i : Int), .int .i64 1]) (by simp [results, Tryd.results6, go_sem, y0, y1]) rfl FIN.out
end Go.Proofs.YtcgdjpelcfofgaaDoor
