/- The contract of bench.Log. Conditions: the text is not too long. -/
import Derived.Test.YtadepofaobdbhaaBenE
import Derived.Test.YtadepofaobdbhaaRowsL
namespace Go.Proofs.Ytadepofaobdbhaa
open Go.RowKit

/-- What both logs answer. -/
def AnsLog (s : List UInt8) (w : World) (e : Ending) (w' : World) : Prop :=
  ∃ A n c, e = .returned (.tuple #[.slice A n c, .int .i64 (logL s).2.1, .int .i64 (logL s).2.2]) ∧ OwnSl (OwnListR w.heap.size) 1 w' w.heap.size 41 (.slice A n c) n (logL s).1 ∧ Below w.heap.size w w'

set_option maxRecDepth 100000 in
set_option maxHeartbeats 8000000 in
theorem log_calls (s : List UInt8) (hs : s.length ≤ 1048576) (w : World) :
    Calls Try.prog 14 #[.string ⟨s.toArray⟩] w (AnsLog s w) := by
  go_enter Try.func14, Try.ntmps14
  go_upto_region 3 with fail
  go_loopg [0, 5, 6] (s.length + 1) (fun gk u0 u5 u6 wr => ∃ (r : List UInt8) (out : List (List Int)), u0 = .string ⟨r.toArray⟩ ∧ u6 = .int .i64 (out.length : Int) ∧ r.length < gk ∧ gk + out.length = s.length + 1 ∧ Hid (logR r out [] = logL s) ∧ Hid (OwnSl (OwnListR w.heap.size) 1 wr w.heap.size 41 u5 out.length out) ∧ Hid (Below w.heap.size w wr))
  case atStart => exact ⟨s, [], rfl, rfl, by omega, by simp, rfl, OwnSl.nil, Below.refl _ _⟩
  case round =>
    obtain ⟨r, out, rfl, rfl, hrg, hgo, HL, OW, X⟩ := hrel
    by_cases hr0 : r = []
    · subst hr0
      have HF := hide2 (show logL s = (out, 0, 0) by rw [← HL.out]; rfl)
      obtain ⟨A, c, rfl, _⟩ := OW.out.sl (by omega)
      go_wp2
      go_ret3
      exact ⟨A, out.length, c, by rw [HF.out]; rfl, by rw [HF.out]; exact OW.out, X.out⟩
    · have hrl : 0 < r.length := List.length_pos_iff.2 hr0
      have hrl' : (0 : Int) < (r.length : Int) := by omega
      have CC := hide2 (cut_calls r (by omega) wr)
      obtain ⟨p1, p2, p3⟩ := cutN_parts r
      obtain ⟨⟨l, rr, b⟩, hcut⟩ : ∃ x, cutN r = x := ⟨_, rfl⟩
      rw [hcut] at CC p1 p2 p3
      simp only at p1 p2 p3 CC
      clear hcut
      cases b with
      | false =>
        have HF := hide2 (show logL s = ([], (out.length : Int), 1) by rw [← HL.out]; rw [p2 rfl] at p3; exact logR_none out r [] p3 (.inl hr0))
        clear p1 p2 p3
        go_wp2_with (go_at_call 53; (with_reducible refine CC.out.mono ?_); rintro e w4 ⟨rfl, hb⟩; have X4 := hide2 (X.out.trans (hb.mono X.out.size)); clear hb)
        go_ret3
        exact ⟨none, 0, 0, by rw [HF.out]; rfl, by rw [HF.out]; exact OwnSl.nil, X4.out⟩
      | true =>
        have hre := p1 rfl
        have hll : l.length + rr.length + 1 = r.length := by rw [hre]; simp; omega
        have HLN := hide2 (show logL s = if l.all letB = true then logR rr (out ++ [l.map numB]) [] else ([], (out.length : Int), 1) by rw [← HL.out, hre, logR_line rr out l [] p3]; rfl)
        clear p1 p2 p3 hre hr0
        go_upto_region 8 with (go_at_call 53; (with_reducible refine CC.out.mono ?_); rintro e w4 ⟨rfl, hb⟩; have X4 := hide2 (X.out.trans (hb.mono X.out.size)); have OW4 := hide2 (OW.out.keep (OwnListR.kept _) hb); clear hb)
        have O0 := hide2 (OwnSl.empty (R := IntR) (sz := 1) (w := w4) (B := w4.heap.size) (e := 3) (Nat.le_refl _))
        have B5 := hide2 (newBelow w4 (.cells #[] 3))
        go_upto_region 10 with fail
        generalize hw5 : w4.alloc (.cells #[] 3) = w5 at *
        obtain ⟨H, hH⟩ : ∃ q, w5.heap.size = q := ⟨_, rfl⟩
        obtain ⟨cc, w6, hconv, hbt, hb6⟩ := conv_run l w5
        rw [hH] at hconv hbt
        have BT6 := hide2 hbt
        have B6 := hide2 (B5.out.trans (hb6.mono B5.out.size))
        have O6 := hide2 (OwnSl.keep IntR.kept O0.out hb6)
        clear hbt hb6 hw5 O0
        go_upto_region 11 with fail
        clear hconv
        go_loopw [10, 32] (fun u10 u32 wi => ∃ j : Nat, j ≤ l.length ∧ u32 = .int .i64 (j : Int) ∧ Hid ((l.take j).all letB = true) ∧ Hid (OwnInts wi w4.heap.size u10 j ((l.take j).map numB)) ∧ Hid (BtRow wi H l) ∧ Hid (Below w4.heap.size w4 wi)) (fun _ v _ => l.length - (intOf v).toNat)
        case atStart => exact ⟨0, Nat.zero_le _, rfl, rfl, O6, BT6, B6⟩
        case round =>
          clear O6 BT6 B6 B5
          obtain ⟨j, hj, rfl, AL, OI, BT, BI⟩ := hrel
          by_cases hlt : j < l.length
          · have hji : (j : Int) < (l.length : Int) := by omega
            obtain ⟨x, hx⟩ : ∃ x, l[j]? = some x := ⟨_, List.getElem?_eq_getElem hlt⟩
            have c0 := BT.out.cell hx
            have HX := hide2 hx
            have hx0 : x.toNat < 256 := x.toNat_lt
            by_cases hlet : letB x = true
            · obtain ⟨n1, n2, n3, n4, n5⟩ := num_wrap x hlet
              have HT := hide2 (show (l.take (j + 1)).map numB = (l.take j).map numB ++ [numB x] by rw [List.take_add_one, hx]; simp)
              have HA := hide2 (show (l.take (j + 1)).all letB = true by rw [List.take_add_one, hx, List.all_append, AL.out]; simp [hlet])
              clear hx
              go_wp2_with (at_builtin; refine wpList_appInt (y := numB x) rfl _ _ rfl rfl rfl (by first | rfl | simp) OI.out BI.out BI.out.size (by omega) ?_; intro v2 w2 own2 hg2 hb2; have O2 := hide2 own2; have BT2 := hide2 (BT.out.grown (by decide) OI.out hg2); have BI2 := hide2 hb2; clear own2 hg2 hb2)
              go_roundw
              case rel => exact ⟨j + 1, by omega, by go_num, HA, by rw [HT.out]; exact O2, BT2, BI2⟩
              case measure => simp [intOf]; omega
            · have HF := hide2 (show logL s = ([], (out.length : Int), 1) by
                rw [HLN.out, if_neg]
                intro ha
                exact hlet (List.all_eq_true.1 ha x (List.mem_of_getElem? hx)))
              have XF := hide2 (X4.out.trans (BI.out.mono X4.out.size))
              clear hx
              by_cases h97 : (x.toNat : Int) < 97
              · go_wp2
                go_ret3
                exact ⟨none, 0, 0, by rw [HF.out]; rfl, by rw [HF.out]; exact OwnSl.nil, XF.out⟩
              · have h122 : 122 < (x.toNat : Int) := by
                  have : ¬ (97 ≤ x.toNat ∧ x.toNat ≤ 122) := fun hh => hlet (by unfold letB; simp [hh.1, hh.2])
                  omega
                go_wp2
                go_ret3
                exact ⟨none, 0, 0, by rw [HF.out]; rfl, by rw [HF.out]; exact OwnSl.nil, XF.out⟩
          · obtain rfl : j = l.length := by omega
            have HF := hide2 (show logR rr (out ++ [l.map numB]) [] = logL s by
              have := AL.out
              rw [List.take_length] at this
              rw [HLN.out, if_pos this])
            obtain ⟨A, m, rfl, _⟩ := OI.out.sl (by omega)
            have OI' := hide2 (show OwnInts wr w.heap.size (.slice A l.length m) l.length (l.map numB) by have := OI.out; rw [List.take_length] at this; exact this.base X4.out.size)
            have OWI := hide2 (OW4.out.keep (OwnListR.kept _) BI.out)
            have XI := hide2 (X4.out.trans (BI.out.mono X4.out.size))
            have RD := hide2 (show Reads (OwnListR w.heap.size) 1 wr [.slice A l.length m] [l.map numB] from Reads.list1 ⟨l.length, OI'.out, by omega⟩)
            have KP := hide2 (keepLists OWI.out)
            clear AL OI BT BI OW4 X4 HLN
            go_wp2_with (at_builtin; refine wpList_appNew (v := u5) tyLists rfl _ _ rfl [l.map numB] #[.slice A l.length m] rfl rfl (by first | rfl | simp) rfl (by simp [Value.oneCell']) OWI.out RD.out rfl XI.out XI.out.size (by omega) (by omega) KP.out ?_; intro v1 w1 own1 hg1 hb1; have O1 := hide2 own1; have X1 := hide2 hb1; clear own1 hg1 hb1)
            go_roundg (gk - 1)
            case measure => omega
            case rel => exact ⟨rr, out ++ [l.map numB], rfl, by simp, by omega, by simp; omega, HF, by simpa using O1, X1⟩
end Go.Proofs.Ytadepofaobdbhaa
