/- The contract of the program's reading of a side. Conditions: the text has at most a million letters; at most sixteen places; the tables lie as they were laid. -/
import Derived.Test.YtcgdjpelcfofgaaDoorTextTellsK25
import Derived.Test.YtcgdjpelcfofgaaDoorTextTellsK28
set_option linter.all false
namespace Go.Proofs.YtcgdjpelcfofgaaDoor
open Go.RowKit

theorem fieldsGoD_len : ∀ (n : Nat) (cur l : List UInt8), ∀ f ∈ Lib.fieldsGoD n cur l, f.length ≤ cur.length + l.length
  | 0, cur, l, f, hf => by
    unfold Lib.fieldsGoD at hf
    split at hf
    · cases hf
    · rw [List.mem_singleton.1 hf]; omega
  | n + 1, cur, l, f, hf => by
    unfold Lib.fieldsGoD at hf
    split at hf
    · split at hf
      · cases hf
      · rw [List.mem_singleton.1 hf]; omega
    · split at hf
      · rcases List.mem_append.1 hf with hf | hf
        · split at hf
          · cases hf
          · rw [List.mem_singleton.1 hf]; omega
        · have := fieldsGoD_len n _ _ f hf
          rw [List.length_drop] at this
          simp only [List.length_nil] at this
          omega
      · have := fieldsGoD_len n _ _ f hf
        rw [List.length_append, List.length_take, List.length_drop] at this
        omega
theorem fieldsGoD_count : ∀ (n : Nat) (cur l : List UInt8), (Lib.fieldsGoD n cur l).length ≤ n + 1
  | 0, cur, l => by
    unfold Lib.fieldsGoD
    split
    · simp
    · simp
  | n + 1, cur, l => by
    unfold Lib.fieldsGoD
    split
    · split
      · simp
      · simp
    · split
      · have := fieldsGoD_count n [] (l.drop (Lib.decodeL l).2)
        rw [List.length_append]
        split
        · simp only [List.length_nil]; omega
        · simp only [List.length_cons, List.length_nil]; omega
      · have := fieldsGoD_count n (cur ++ l.take (Lib.decodeL l).2) (l.drop (Lib.decodeL l).2)
        omega
theorem fieldsD_count (l : List UInt8) : (Lib.fieldsD l).length ≤ l.length + 2 := by
  have := fieldsGoD_count (l.length + 1) [] l
  exact this
theorem fieldsD_len {l f : List UInt8} (h : f ∈ Lib.fieldsD l) : f.length ≤ l.length := by
  have := fieldsGoD_len _ _ _ f h
  simpa using this
theorem cut_len (s p : List UInt8) : (Lib.cut s p).1.length ≤ s.length ∧ (Lib.cut s p).2.1.length ≤ s.length := by
  unfold Lib.cut
  split
  · simp only [List.length_take, List.length_drop]; omega
  · simp
theorem many_len (f : List UInt8) : (manyT f).length ≤ f.length + 1 ∧ (placeT f).length ≤ f.length := by
  have := cut_len f [42]
  unfold manyT placeT
  constructor
  · split
    · omega
    · simp
  · split
    · omega
    · omega
theorem cut_calls {w : World} {B : Nat} {s : List UInt8} (hs : s.length ≤ 2000000) (T : Tabs B w) (p : List UInt8) : Calls Tryd.prog 40 #[.string ⟨s.toArray⟩, .string ⟨p.toArray⟩] w fun e w' => e = .returned (.tuple #[.string ⟨(Lib.cut s p).1.toArray⟩, .string ⟨(Lib.cut s p).2.1.toArray⟩, .bool (Lib.cut s p).2.2]) ∧ Below w.heap.size w w' := by
  obtain ⟨_, _, _, _, _, m, hm⟩ := T.now
  refine (strings_Cut ⟨s.toArray⟩ ⟨p.toArray⟩ m w (by show s.length < _; omega) hm).mono ?_
  rintro e w' ⟨rfl, n, rfl⟩
  exact ⟨rfl, ⟨rfl, rfl, rfl, Nat.le_refl _, fun _ _ => rfl⟩⟩
/-- What the reading of a side answers. -/
def AnsWt (w w' : World) (P : Nat) (s : List UInt8) (e : Ending) : Prop :=
  Below w.heap.size w w' ∧ ((∃ o g, weightsT P s = some o ∧ e = .returned (.tuple #[.slice (some ⟨g, 0, none⟩) P P, .bool true]) ∧ OwnInts w' w.heap.size (.slice (some ⟨g, 0, none⟩) P P) P o) ∨ (weightsT P s = none ∧ e = .returned (.tuple #[.slice none 0 0, .bool false])))

set_option maxRecDepth 100000 in
set_option maxHeartbeats 16000000 in
theorem wtSide_calls {w : World} {B : Nat} {s : List UInt8} {P : Nat} (hs : s.length ≤ 1100000) (T : Tabs B w) (hP : P ≤ 16) :
    Calls Tryd.prog 41 #[.string ⟨s.toArray⟩, .int .i64 (P : Int)] w fun e w' => AnsWt w w' P s e := by
  have TT := hide2 T
  have HS := hide2 hs
  clear T hs
  go_enter Tryd.func41, Tryd.ntmps41
  go_upto_region 2 with (at_make; refine wpList_mk Tryd.underlying42 infoInt rfl rfl _ _ rfl P rfl rfl (by first | rfl | go_num) (by first | rfl | go_num) (by omega) (by omega) (Below.refl _ _) (Nat.le_refl _) ?_; intro w1 own1 hg1 hb1)
  have OW := hide2 (show OwnInts w1 w.heap.size (.slice (some ⟨w.heap.size, 0, none⟩) P P) P (List.replicate P 0) from OwnInts.of_row (by rw [List.map_replicate]; exact own1))
  have B1 := hide2 hb1
  have T1 := hide2 (TT.out.later hb1)
  have LT1 := hide2 (show w.heap.size < w1.heap.size from (OwnSl.lt OW.out w.heap.size rfl).2)
  clear own1 hg1 hb1
  obtain ⟨fs, hfs⟩ : ∃ fs, fs = Lib.fieldsD s := ⟨_, rfl⟩
  have HF := hide2 hfs
  obtain ⟨m, hm⟩ : ∃ m, m = fs.length := ⟨_, rfl⟩
  have HM := hide2 hm
  have FC := hide2 (show Calls Tryd.prog 58 #[.string ⟨s.toArray⟩] w1 (fun e w' => ∃ A, e = .returned (.slice (some ⟨A, 0, none⟩) m m) ∧ w1.heap.size ≤ A ∧ w'.ownsRow w1.heap.size 9 1 (.slice (some ⟨A, 0, none⟩) m m) m (fs.map fun x => Value.string ⟨x.toArray⟩) ∧ Below w1.heap.size w1 w') by
    rw [hm, hfs]
    exact strings_Fields_any ⟨s.toArray⟩ w1 (by show s.length < _; have := HS.out; omega) T1.out.now.2.1 T1.out.now.2.2.1)
  clear hfs hm
  go_upto_region 3 with (go_at_call 58; (with_reducible refine FC.out.mono ?_); rintro e2 w2 ⟨A, rfl, hA, row2, hb2⟩; have RW2 := hide2 row2; have HA := hide2 (And.intro hA (row2.lt A rfl).2); have OW2 := hide2 (OW.out.keep IntR.kept hb2); have B2 := hide2 (B1.out.trans (hb2.mono B1.out.size)); have LT2 := hide2 (Nat.lt_of_lt_of_le LT1.out hb2.size); clear row2 hb2 hA FC)
  have E0 := hide2 (show foldW P (fs.drop 0) (List.replicate P 0) = weightsT P s by rw [List.drop_zero, HF.out]; rfl)
  go_loopg [21] (m + 1) (fun gk v21 wr => ∃ (i : Nat) (o : List Int), v21 = .int .i64 (i : Int) ∧ gk + i = m + 1 ∧ i ≤ m ∧ Hid (foldW P (fs.drop i) o = weightsT P s) ∧ Hid (OwnInts wr w.heap.size (.slice (some ⟨w.heap.size, 0, none⟩) P P) P o) ∧ Hid (w2.grownBy wr (some w.heap.size)) ∧ Hid (Below w.heap.size w wr))
  case atStart => exact ⟨0, _, rfl, rfl, Nat.zero_le _, E0.out, OW2, World.grownBy.refl _ _, B2⟩
  case round =>
    clear OW OW2 E0 B2
    obtain ⟨i, o, rfl, hgk, hi, EQ, OW, GW, BW⟩ := hrel
    by_cases hlt : i < m
    · have hji : (i : Int) < (m : Int) := by omega
      obtain ⟨f, hf⟩ : ∃ f, fs[i]? = some f := ⟨_, List.getElem?_eq_getElem (by rw [← HM.out]; exact hlt)⟩
      have cf : wr.cell? ⟨A, i, none⟩ = some (.string ⟨f.toArray⟩) := by
        rw [World.cell?_of_block (GW.out.block A HA.out.2 (fun e => by injection e with e; have := HA.out.1; have := LT1.out; omega))]
        rw [RW2.out.cellAt i (by omega), List.getElem?_map, hf]
        rfl
      have HFL := hide2 (show f.length ≤ 1100000 from Nat.le_trans (fieldsD_len (by rw [← HF.out]; exact List.mem_of_getElem? hf)) HS.out)
      have HD := hide2 (show fs.drop i = f :: fs.drop (i + 1) by
        rw [List.drop_eq_getElem_cons (by rw [← HM.out]; exact hlt)]
        rw [List.getElem?_eq_getElem (by rw [← HM.out]; exact hlt)] at hf
        injection hf with hf
        rw [hf])
      have TR := hide2 (TT.out.keep (BW.out.mono TT.out.1))
      have CC : Hid (Calls Tryd.prog 40 #[.string ⟨f.toArray⟩, .string ⟨#[42]⟩] wr fun e w' => e = .returned (.tuple #[.string ⟨(Lib.cut f [42]).1.toArray⟩, .string ⟨(Lib.cut f [42]).2.1.toArray⟩, .bool (Lib.cut f [42]).2.2]) ∧ Below wr.heap.size wr w') := cut_calls (by have := HFL.out; omega) TR.out [42]
      have GI := hide2 (And.intro hgk hlt)
      clear hf hgk hlt
      go_upto_if 32 with (go_at_call 40; (with_reducible refine CC.out.mono ?_); rintro e3 w3 ⟨rfl, hb3⟩; have D3 := hide2 hb3; clear hb3 CC)
      go_cut [9, 10, 11, 25, 27, 30, 31, 32, 33] (fun v9 v10 _ _ _ _ _ _ _ wx => v9 = .string ⟨(manyT f).toArray⟩ ∧ v10 = .string ⟨(placeT f).toArray⟩ ∧ wx = w3)
      case first =>
        cases hfd : (Lib.cut f [42]).2.2 with
        | true =>
          have M1 := hide2 (show manyT f = (Lib.cut f [42]).1 by unfold manyT; rw [if_pos hfd])
          have M2 := hide2 (show placeT f = (Lib.cut f [42]).2.1 by unfold placeT; rw [if_pos hfd])
          go_wp2
          go_meet
          exact ⟨by rw [M1.out], by rw [M2.out], rfl⟩
        | false =>
          have M1 := hide2 (show manyT f = [49] by unfold manyT; rw [hfd]; rfl)
          have M2 := hide2 (show placeT f = f by unfold placeT; rw [hfd]; rfl)
          go_wp2
          go_meet
          exact ⟨by rw [M1.out], by rw [M2.out], rfl⟩
      case rest =>
        obtain ⟨rfl, rfl, rfl⟩ := hcut
        obtain ⟨n, okn, hnn⟩ : ∃ n ok, atV (manyT f) = (n, ok) := ⟨_, _, rfl⟩
        obtain ⟨q, okq, hqq⟩ : ∃ n ok, atV (placeT f) = (n, ok) := ⟨_, _, rfl⟩
        have HN := hide2 hnn
        have HQ := hide2 hqq
        have ML := hide2 (many_len f)
        have T3 := hide2 (TR.out.later D3.out)
        have AM := hide2 (atoi_calls (w := wc) (d := manyT f) (by have := ML.out.1; have := HFL.out; omega) T3.out.now)
        have AQ := hide2 (fun (wx : World) (hx : Below wc.heap.size wc wx) => atoi_calls (w := wx) (d := placeT f) (by have := ML.out.2; have := HFL.out; omega) (T3.out.later hx).now)
        clear hnn hqq
        cases okn with
        | false =>
          cases okq with
          | false =>
            go_upto_region 9 with (go_at_call 19; (with_reducible refine AM.out.mono ?_); rintro e5 w5 ⟨hat, hb⟩; rcases hat with ⟨hno, _⟩ | ⟨_, t1, N1, he⟩; (rw [HN.out] at hno; cases hno); rw [HN.out] at he; subst he; have D5 := hide2 hb; clear hb)
            go_upto_region 10 with (go_at_call 19; (with_reducible refine (AQ.out _ D5.out).mono ?_); rintro e6 w6 ⟨hat, hb⟩; rcases hat with ⟨hno, _⟩ | ⟨_, t2, N2, he⟩; (rw [HQ.out] at hno; cases hno); rw [HQ.out] at he; subst he; have D6 := hide2 (D5.out.trans (hb.mono D5.out.size)); clear hb)
            have OW6 := hide2 ((OW.out.keep IntR.kept D3.out).keep IntR.kept D6.out)
            have BW6 := hide2 (BW.out.trans ((D3.out.trans (D6.out.mono D3.out.size)).mono BW.out.size))
            have GW6 := hide2 (GW.out.trans (grownOf (D3.out.trans (D6.out.mono D3.out.size))))
            have FIN := hide2 (show AnsWt w w6 P s (.returned (.tuple #[.slice none 0 0, .bool false])) from ⟨BW6.out, .inr ⟨by rw [← EQ.out, HD.out, foldW]; unfold stepW; rw [HN.out, HQ.out, if_pos (.inl rfl)], rfl⟩⟩)
            go_wp2
            exact bodyPost_ret (v := .tuple #[.slice none 0 0, .bool false]) (by simp [results, Tryd.results41, go_sem]) rfl FIN.out
          | true =>
            go_upto_region 9 with (go_at_call 19; (with_reducible refine AM.out.mono ?_); rintro e5 w5 ⟨hat, hb⟩; rcases hat with ⟨hno, _⟩ | ⟨_, t1, N1, he⟩; (rw [HN.out] at hno; cases hno); rw [HN.out] at he; subst he; have D5 := hide2 hb; clear hb)
            go_upto_region 10 with (go_at_call 19; (with_reducible refine (AQ.out _ D5.out).mono ?_); rintro e6 w6 ⟨hat, hb⟩; rcases hat with ⟨_, he⟩ | ⟨hno, _⟩; rotate_left; (rw [HQ.out] at hno; cases hno); rw [HQ.out] at he; subst he; have D6 := hide2 (D5.out.trans (hb.mono D5.out.size)); clear hb)
            have OW6 := hide2 ((OW.out.keep IntR.kept D3.out).keep IntR.kept D6.out)
            have BW6 := hide2 (BW.out.trans ((D3.out.trans (D6.out.mono D3.out.size)).mono BW.out.size))
            have GW6 := hide2 (GW.out.trans (grownOf (D3.out.trans (D6.out.mono D3.out.size))))
            have FIN := hide2 (show AnsWt w w6 P s (.returned (.tuple #[.slice none 0 0, .bool false])) from ⟨BW6.out, .inr ⟨by rw [← EQ.out, HD.out, foldW]; unfold stepW; rw [HN.out, HQ.out, if_pos (.inl rfl)], rfl⟩⟩)
            go_wp2
            exact bodyPost_ret (v := .tuple #[.slice none 0 0, .bool false]) (by simp [results, Tryd.results41, go_sem]) rfl FIN.out
        | true =>
          cases okq with
          | false =>
            go_upto_region 9 with (go_at_call 19; (with_reducible refine AM.out.mono ?_); rintro e5 w5 ⟨hat, hb⟩; rcases hat with ⟨_, he⟩ | ⟨hno, _⟩; rotate_left; (rw [HN.out] at hno; cases hno); rw [HN.out] at he; subst he; have D5 := hide2 hb; clear hb)
            go_upto_region 10 with (go_at_call 19; (with_reducible refine (AQ.out _ D5.out).mono ?_); rintro e6 w6 ⟨hat, hb⟩; rcases hat with ⟨hno, _⟩ | ⟨_, t2, N2, he⟩; (rw [HQ.out] at hno; cases hno); rw [HQ.out] at he; subst he; have D6 := hide2 (D5.out.trans (hb.mono D5.out.size)); clear hb)
            have OW6 := hide2 ((OW.out.keep IntR.kept D3.out).keep IntR.kept D6.out)
            have BW6 := hide2 (BW.out.trans ((D3.out.trans (D6.out.mono D3.out.size)).mono BW.out.size))
            have GW6 := hide2 (GW.out.trans (grownOf (D3.out.trans (D6.out.mono D3.out.size))))
            have FIN := hide2 (show AnsWt w w6 P s (.returned (.tuple #[.slice none 0 0, .bool false])) from ⟨BW6.out, .inr ⟨by rw [← EQ.out, HD.out, foldW]; unfold stepW; rw [HN.out, HQ.out, if_pos (.inr (.inl rfl))], rfl⟩⟩)
            go_wp2
            exact bodyPost_ret (v := .tuple #[.slice none 0 0, .bool false]) (by simp [results, Tryd.results41, go_sem]) rfl FIN.out
          | true =>
            go_upto_region 9 with (go_at_call 19; (with_reducible refine AM.out.mono ?_); rintro e5 w5 ⟨hat, hb⟩; rcases hat with ⟨_, he⟩ | ⟨hno, _⟩; rotate_left; (rw [HN.out] at hno; cases hno); rw [HN.out] at he; subst he; have D5 := hide2 hb; clear hb)
            go_upto_region 10 with (go_at_call 19; (with_reducible refine (AQ.out _ D5.out).mono ?_); rintro e6 w6 ⟨hat, hb⟩; rcases hat with ⟨_, he⟩ | ⟨hno, _⟩; rotate_left; (rw [HQ.out] at hno; cases hno); rw [HQ.out] at he; subst he; have D6 := hide2 (D5.out.trans (hb.mono D5.out.size)); clear hb)
            have OW6 := hide2 ((OW.out.keep IntR.kept D3.out).keep IntR.kept D6.out)
            have BW6 := hide2 (BW.out.trans ((D3.out.trans (D6.out.mono D3.out.size)).mono BW.out.size))
            have GW6 := hide2 (GW.out.trans (grownOf (D3.out.trans (D6.out.mono D3.out.size))))
            by_cases h1 : q < 0
            · skip
              have FIN := hide2 (show AnsWt w w6 P s (.returned (.tuple #[.slice none 0 0, .bool false])) from ⟨BW6.out, .inr ⟨by rw [← EQ.out, HD.out, foldW]; unfold stepW; rw [HN.out, HQ.out, if_pos (.inr (.inr (.inl h1)))], rfl⟩⟩)
              go_wp2
              exact bodyPost_ret (v := .tuple #[.slice none 0 0, .bool false]) (by simp [results, Tryd.results41, go_sem]) rfl FIN.out
            · by_cases h2 : (P : Int) ≤ q
              · skip
                have FIN := hide2 (show AnsWt w w6 P s (.returned (.tuple #[.slice none 0 0, .bool false])) from ⟨BW6.out, .inr ⟨by rw [← EQ.out, HD.out, foldW]; unfold stepW; rw [HN.out, HQ.out, if_pos (.inr (.inr (.inr (.inl h2))))], rfl⟩⟩)
                go_wp2
                exact bodyPost_ret (v := .tuple #[.slice none 0 0, .bool false]) (by simp [results, Tryd.results41, go_sem]) rfl FIN.out
              · by_cases h3 : n < 1
                · skip
                  have FIN := hide2 (show AnsWt w w6 P s (.returned (.tuple #[.slice none 0 0, .bool false])) from ⟨BW6.out, .inr ⟨by rw [← EQ.out, HD.out, foldW]; unfold stepW; rw [HN.out, HQ.out, if_pos (.inr (.inr (.inr (.inr (.inl h3)))))], rfl⟩⟩)
                  go_wp2
                  exact bodyPost_ret (v := .tuple #[.slice none 0 0, .bool false]) (by simp [results, Tryd.results41, go_sem]) rfl FIN.out
                · by_cases h4 : 9 < n
                  · skip
                    have FIN := hide2 (show AnsWt w w6 P s (.returned (.tuple #[.slice none 0 0, .bool false])) from ⟨BW6.out, .inr ⟨by rw [← EQ.out, HD.out, foldW]; unfold stepW; rw [HN.out, HQ.out, if_pos (.inr (.inr (.inr (.inr (.inr h4)))))], rfl⟩⟩)
                    go_wp2
                    exact bodyPost_ret (v := .tuple #[.slice none 0 0, .bool false]) (by simp [results, Tryd.results41, go_sem]) rfl FIN.out
                  · obtain ⟨pn, rfl⟩ : ∃ pn : Nat, q = (pn : Int) := ⟨q.toNat, by omega⟩
                    have hpn : pn < P := by omega
                    have hpi : (pn : Int) < (P : Int) := by omega
                    have fr := OwnInts.frozen OW6.out pn
                    obtain ⟨x0, hx0⟩ : ∃ x0, o[pn]? = some x0 := ⟨_, List.getElem?_eq_getElem (by rw [OwnSl.len OW6.out]; exact hpn)⟩
                    have cx := OwnInts.at OW6.out hx0
                    have EQ2 := hide2 (show foldW P (fs.drop (i + 1)) (o.set pn n) = weightsT P s by
                      rw [← EQ.out, HD.out, foldW]
                      unfold stepW
                      rw [HN.out, HQ.out, if_neg (by simp only; intro h; rcases h with h | h | h | h | h | h; cases h; cases h; omega; omega; omega; omega)]
                      rfl)
                    have OW7 := hide2 (OwnInts.put OW6.out pn n)
                    have GW7 := hide2 (GW6.out.trans (grownSet w6 w.heap.size pn (.int .i64 n)))
                    have BW7 := hide2 (BW6.out.setCell (p := ⟨w.heap.size, pn, none⟩) (Nat.le_refl _) (.int .i64 n))
                    have HG := hide2 (show gk - 1 < gk ∧ (gk - 1) + (i + 1) = m + 1 ∧ i + 1 ≤ m from by have := GI.out; exact ⟨by omega, by omega, by omega⟩)
                    have hmb : m ≤ 2000000 := by rw [HM.out, HF.out]; have := fieldsD_count s; have := HS.out; omega
                    go_wp2
                    go_roundg (gk - 1)
                    case measure => exact HG.out.1
                    case rel => exact ⟨i + 1, o.set pn n, by go_num, HG.out.2.1, HG.out.2.2, EQ2, OW7, GW7, BW7⟩
    · obtain rfl : i = m := by omega
      have FIN := hide2 (show AnsWt w wr P s (.returned (.tuple #[.slice (some ⟨w.heap.size, 0, none⟩) P P, .bool true])) from ⟨BW.out, .inl ⟨o, w.heap.size, by rw [← EQ.out, List.drop_of_length_le (by rw [← HM.out]; exact Nat.le_refl _)]; rfl, rfl, OW.out⟩⟩)
      clear hlt hgk
      go_wp2
      exact bodyPost_ret (v := .tuple #[.slice (some ⟨w.heap.size, 0, none⟩) P P, .bool true]) (by simp [results, Tryd.results41, go_sem]) rfl FIN.out
end Go.Proofs.YtcgdjpelcfofgaaDoor
