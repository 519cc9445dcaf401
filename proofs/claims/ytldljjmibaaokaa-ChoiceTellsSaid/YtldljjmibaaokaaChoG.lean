/- The contract of the reference's NClusters. Conditions: the net reads as a list. -/
import Derived.Test.YtldljjmibaaokaaChoF
import Derived.Test.YtldljjmibaaokaaHeldB
namespace Go.Proofs.Ytldljjmibaaokaa
open Go.RowKit

theorem ini_eq {n : Nat} {hd : List Int} (hl : hd.length = n) (h : ∀ i, i < n → hdA hd i = (i : Int)) : hd = iniH n := by
  apply List.ext_getElem?
  intro i
  by_cases hi : i < n
  · have h1 := h i hi
    unfold hdA at h1
    rw [List.getD_eq_getElem?_getD, List.getElem?_eq_getElem (by omega)] at h1
    simp only [Option.getD_some] at h1
    unfold iniH
    rw [List.getElem?_eq_getElem (by omega), List.getElem?_map, List.getElem?_range hi, h1]; rfl
  · rw [List.getElem?_eq_none (by omega), List.getElem?_eq_none (by simp [iniH]; omega)]
theorem hdA_at {hd : List Int} {i : Nat} {x : Int} (h : hd[i]? = some x) : hdA hd i = x := by unfold hdA; rw [List.getD_eq_getElem?_getD, h]; rfl
def grpK (hd : List Int) (h k : Nat) : List Int := ((List.range k).filter fun i => hdA hd i == (h : Int)).map fun i : Nat => (i : Int)
theorem grpK_succ (hd : List Int) (h k : Nat) : grpK hd h (k + 1) = if hdA hd k = (h : Int) then grpK hd h k ++ [(k : Int)] else grpK hd h k := by
  unfold grpK
  rw [List.range_succ, List.filter_append, List.map_append]
  by_cases e : hdA hd k = (h : Int)
  · simp [e]
  · simp [e]
theorem grpK_len (hd : List Int) (h k : Nat) : (grpK hd h k).length ≤ k := by
  unfold grpK
  rw [List.length_map]
  exact Nat.le_trans (List.length_filter_le _ _) (by simp)
def grpsK (n : Nat) (hd : List Int) (k : Nat) : List (List Int) := ((List.range k).map (grpL n hd)).filter fun l => !l.isEmpty
theorem grpsK_succ (n : Nat) (hd : List Int) (k : Nat) : grpsK n hd (k + 1) = if (grpL n hd k).length = 0 then grpsK n hd k else grpsK n hd k ++ [grpL n hd k] := by
  unfold grpsK
  rw [List.range_succ, List.map_append, List.filter_append]
  cases hg : grpL n hd k with
  | nil => simp [hg]
  | cons a l => simp [hg]
theorem grpsK_len (n : Nat) (hd : List Int) (k : Nat) : (grpsK n hd k).length ≤ k := by
  unfold grpsK
  exact Nat.le_trans (List.length_filter_le _ _) (by simp)

set_option maxRecDepth 100000 in
set_option maxHeartbeats 16000000 in
theorem nclusters_calls {w : World} {P : Int} {A : Option Addr} {n c : Nat} {ts : List PTran} (h : Trans w A n c ts) :
    Calls Try.prog 28 #[.agg #[.int .i64 P, .slice A n c]] w fun e w' => ∃ L, ClustP ⟨P, ts⟩ L ∧ AnsOwnLists L w e w' := by
  have X0 := hide2 (Box.new w #[.int .i64 P, .slice A n c] 24)
  have B0 := hide2 (boxBelow w (.cells #[.int .i64 P, .slice A n c] 24))
  have hns := h.small
  have HL := hide2 h.len
  have H := hide2 h
  clear h
  obtain ⟨r, hr⟩ : ∃ r, netOk ⟨P, ts⟩ = r := ⟨_, rfl⟩
  have HR := hide2 hr
  cases r
  · have W0 := hide2 (wrongNet_not hr)
    clear hr
    go_enter Try.func28, Try.ntmps28
    go_upto_region 1 with fail
    generalize w.alloc (.cells #[.int .i64 P, .slice A n c] 24) = w0 at *
    obtain ⟨c0, c1⟩ := X0.out.two
    go_wp2_with fail
    refine (refWrong_calls _ P A n c ts (H.out.keep B0.out)).mono ?_
    rw [W0.out]
    rintro e w1 ⟨rfl, hb⟩
    have B1 := hide2 (B0.out.trans (hb.mono B0.out.size))
    clear hb
    go_wp2
    go_ret
    exact ⟨[], by rw [ClustP, HR.out]; rfl, _, 0, rfl, OwnSl.nil, by omega, B1.out⟩
  · have W0 := hide2 (wrongNet_ok hr)
    have hn24 : n ≤ 24 := by have := ((netOk_iff _).1 hr).2.2.1; rw [HL.out] at this; exact this
    obtain ⟨p, rfl⟩ : ∃ p : Nat, P = (p : Int) := ⟨P.toNat, by have := ((netOk_iff _).1 hr).1; simp only [] at this; omega⟩
    clear hr
    go_enter Try.func28, Try.ntmps28
    go_upto_region 1 with fail
    generalize w.alloc (.cells #[.int .i64 (p : Int), .slice A n c] 24) = w0 at *
    obtain ⟨c0, c1⟩ := X0.out.two
    go_wp2_with fail
    refine (refWrong_calls _ (p : Int) A n c ts (H.out.keep B0.out)).mono ?_
    rw [W0.out]
    rintro e w1 ⟨rfl, hb⟩
    have X1 := hide2 (X0.out.keep hb)
    have B1 := hide2 (B0.out.trans (hb.mono B0.out.size))
    clear hb c0 c1 X0
    obtain ⟨c0, c1⟩ := X1.out.two
    go_upto_region 4 with (at_make; refine wpList_mk Try.underlying25 infoInt rfl rfl _ _ rfl n rfl rfl rfl rfl (by omega) (by omega) (Below.refl _ _) (Nat.le_refl _) ?_; intro w2 own1 hg1 hb1)
    have O0 := hide2 (OwnInts.of_row (xs := List.replicate n 0) (by simpa using own1))
    have E0 := hide2 hb1
    have N1 := hide2 X1.out.lt
    clear own1 hg1 hb1 c0 c1
    go_wp2
    go_loopw [21] (fun v wr => ∃ (k : Nat) (hd : List Int), k ≤ n ∧ v = .int .i64 k ∧ Hid (OwnInts wr w1.heap.size (.slice (some ⟨w1.heap.size, 0, none⟩) n n) n hd) ∧ Hid (∀ i, i < k → hdA hd i = (i : Int)) ∧ Hid (Below w1.heap.size w1 wr)) (fun v _ => n - (intOf v).toNat)
    case atStart => exact ⟨0, _, Nat.zero_le _, rfl, O0, fun i hi => absurd hi (by omega), E0⟩
    case round =>
      obtain ⟨k, hd, hk, rfl, OH, HI, D⟩ := hrel
      by_cases hlt : k < n
      · have hki : (k : Int) < (n : Int) := by omega
        have c5 := OH.out.at (List.getElem?_eq_getElem (show k < hd.length by rw [OH.out.len]; exact hlt))
        have f5 := OH.out.frozen k
        go_wp2
        go_roundw
        case rel =>
          refine ⟨k + 1, hd.set k k, by omega, by go_num, OH.out.put k k, fun i hi => ?_, D.out.setCell (p := ⟨w1.heap.size, k, none⟩) (Nat.le_refl _) _⟩
          rw [hdA_set (by rw [OH.out.len]; exact hlt)]
          split
          · rename_i e; rw [e]
          · exact HI.out i (by omega)
        case measure => simp [intOf]; omega
      · obtain rfl : k = n := by omega
        have GR := hide2 (show GoodR (shS ts) k 0 hd by
          rw [ini_eq OH.out.len (fun i hi => HI.out i hi)]
          exact GoodR.ini)
        clear HI hlt
        go_wp2
        go_loopw [31] (fun v wq => ∃ (r : Nat) (hd : List Int), r ≤ k ∧ v = .int .i64 r ∧ Hid (OwnInts wq w1.heap.size (.slice (some ⟨w1.heap.size, 0, none⟩) k k) k hd) ∧ Hid (GoodR (shS ts) k r hd) ∧ Hid (Below w1.heap.size w1 wq)) (fun v _ => k - (intOf v).toNat)
        case atStart => exact ⟨0, hd, Nat.zero_le _, rfl, OH, GR, D⟩
        case round =>
          clear OH GR D
          obtain ⟨r, hd0, hr, rfl, OH, GR, D⟩ := hrel
          by_cases hrn : r < k
          · have hri : (r : Int) < (k : Int) := by omega
            have RP := hide2 (RndP.start GR.out.1)
            go_wp2
            obtain ⟨wo, hwo⟩ : ∃ wo : World, wo = wr := ⟨_, rfl⟩
            subst hwo
            go_loopw [35] (fun v wq => ∃ (i : Nat) (cur : List Int), i ≤ k ∧ v = .int .i64 i ∧ Hid (OwnInts wq w1.heap.size (.slice (some ⟨w1.heap.size, 0, none⟩) k k) k cur) ∧ Hid (RndP (shS ts) k hd0 i 0 cur) ∧ Hid (Below w1.heap.size w1 wq)) (fun v _ => k - (intOf v).toNat)
            case atStart => exact ⟨0, hd0, Nat.zero_le _, rfl, OH, RP, D⟩
            case round =>
              clear OH D RP
              obtain ⟨i, cur0, hi, rfl, OH, RP, D⟩ := hrel
              by_cases hin : i < k
              · have hii : (i : Int) < (k : Int) := by omega
                go_wp2
                obtain ⟨wo2, hwo⟩ : ∃ wo : World, wo = wr := ⟨_, rfl⟩
                subst hwo
                go_loopw [40] (fun v wq => ∃ (j : Nat) (cur : List Int), j ≤ k ∧ v = .int .i64 j ∧ Hid (OwnInts wq w1.heap.size (.slice (some ⟨w1.heap.size, 0, none⟩) k k) k cur) ∧ Hid (RndP (shS ts) k hd0 i j cur) ∧ Hid (Below w1.heap.size w1 wq)) (fun v _ => k - (intOf v).toNat)
                case atStart => exact ⟨0, cur0, Nat.zero_le _, rfl, OH, RP, D⟩
                case round =>
                  clear OH D RP
                  obtain ⟨j, cur, hj, rfl, OH, RP, D⟩ := hrel
                  by_cases hjn : j < k
                  · have hji : (j : Int) < (k : Int) := by omega
                    have BR := hide2 (B1.out.trans (D.out.mono B1.out.size))
                    obtain ⟨a, ha⟩ : ∃ a, ts[i]? = some a := ⟨_, List.getElem?_eq_getElem (by rw [HL.out]; exact hin)⟩
                    obtain ⟨b, hb⟩ : ∃ b, ts[j]? = some b := ⟨_, List.getElem?_eq_getElem (by rw [HL.out]; exact hjn)⟩
                    have HA := hide2 ha
                    have HB := hide2 hb
                    have SE := hide2 (show shS ts i j = shareT a b by rw [shS, tranD ha, tranD hb])
                    clear ha hb
                    obtain ⟨s, hs⟩ : ∃ s, shareT a b = s := ⟨_, rfl⟩
                    have HS := hide2 hs
                    clear hs
                    obtain ⟨c0, c1⟩ := (X1.out.keep D.out).two
                    go_wp2_with fail
                    refine (nshare_calls (H.out.keep BR.out) HR.out HA.out HB.out).mono ?_
                    rw [HS.out]
                    rintro e w5 ⟨rfl, hb5⟩
                    have D5 := hide2 (D.out.trans (hb5.mono D.out.size))
                    have O5 := hide2 (OH.out.keep IntR.kept hb5)
                    clear hb5 c0 c1
                    cases s
                    · have NX := hide2 (RP.out.pass (j0 := j) (by rw [SE.out, HS.out]))
                      go_wp2
                      go_roundw
                      case rel => exact ⟨j + 1, cur, by omega, by go_num, O5, NX, D5⟩
                      case measure => simp [intOf]; omega
                    · obtain ⟨x, hx⟩ : ∃ x, cur[i]? = some x := ⟨_, List.getElem?_eq_getElem (by rw [O5.out.len]; exact hin)⟩
                      obtain ⟨y, hy⟩ : ∃ y, cur[j]? = some y := ⟨_, List.getElem?_eq_getElem (by rw [O5.out.len]; exact hjn)⟩
                      have HX := hide2 hx
                      have HY := hide2 hy
                      obtain ⟨z, hz⟩ : ∃ z, min x y = z := ⟨_, rfl⟩
                      have NX := hide2 (RP.out.take (j0 := j) hin hjn (by rw [SE.out, HS.out]) (y := z) (by rw [hdA_at hx, hdA_at hy]; exact hz.symm))
                      have DR := hide2 (Below.refl w5.heap.size w5).drew
                      have O6 := hide2 (O5.out.keep IntR.kept DR.out)
                      have D6 := hide2 (D5.out.trans (DR.out.mono D5.out.size))
                      have q0 := OwnInts.at O6.out hx
                      have q1 := OwnInts.at O6.out hy
                      have qf := OwnInts.frozen O6.out i
                      clear hx hy
                      go_upto_region 18 with fail
                      refine wp_region_scr 11 (.takes [0, 1, 2, 3, 4, 5, 6, 7, 8, 9] (.one 10 (.fins [11, 12] .done))) (fun w' => w'.cell? ⟨w1.heap.size, i, none⟩ = some (.int .i64 x) ∧ w'.cell? ⟨w1.heap.size, j, none⟩ = some (.int .i64 y)) (by kernel_rfl) (by kernel_rfl) (by kernel_rfl) (fun _ _ _ _ _ h => h) ⟨q0, q1⟩ (fun hHeld => ?_)
                      simp only [Scr.takes, Scr.fins]
                      generalize w5.drew = w6 at *
                      iterate 10
                        refine tkTake (v := ?_) rfl (by rfl) hHeld (fun w' hSw => ?_) ?_
                        rotate_left
                        · (go_simp; try with_reducible rfl)
                        simp only [Act.put, List.setIfInBounds_toArray, List.set_cons_zero, List.set_cons_succ]
                      refine tkOne rfl (fun K hK => ?_)
                      go_simp
                      refine hK.out _ _ hHeld (fun hHeld => ?_)
                      clear hK
                      try simp only [Act.put, List.setIfInBounds_toArray, List.set_cons_zero, List.set_cons_succ]
                      clear hHeld q1
                      iterate 2
                        refine tkEnd rfl (fun K hK => ?_)
                        go_simp
                        refine hK.out _ _ ?_
                        clear hK
                        try simp only [Act.put, List.setIfInBounds_toArray, List.set_cons_zero, List.set_cons_succ]
                      refine tkDone ?_
                      clear q0 qf
                      go_wp2
                      go_roundw
                      case rel => exact ⟨j + 1, cur.set i z, by omega, by go_num, OwnInts.put O6.out i z, NX, D6.out.setCell (p := ⟨w1.heap.size, i, none⟩) (Nat.le_refl _) _⟩
                      case measure => simp [intOf]; omega
                  · obtain rfl : j = k := by omega
                    have NX := hide2 RP.out.next
                    go_wp2
                    go_roundw
                    case rel => exact ⟨i + 1, cur, by omega, by go_num, OH, NX, D⟩
                    case measure => simp [intOf]; omega
              · obtain rfl : i = k := by omega
                have GN := hide2 (GR.out.step (shS_symm ts) RP.out)
                go_wp2
                go_roundw
                case rel => exact ⟨r + 1, cur0, by omega, by go_num, OH, GN, D⟩
                case measure => simp [intOf]; omega
          · obtain rfl : r = k := by omega
            have FH := hide2 (GR.out.fin (shS_symm ts))
            have NW := hide2 B1.out.size
            clear GR
            go_wp2
            go_loopw [7, 64] (fun u7 v wq => ∃ (q m7 : Nat), q ≤ r ∧ v = .int .i64 q ∧ Hid (OwnSl (OwnListR w.heap.size) 1 wq w1.heap.size 25 u7 m7 (grpsK r hd0 q)) ∧ Hid (OwnInts wq w1.heap.size (.slice (some ⟨w1.heap.size, 0, none⟩) r r) r hd0) ∧ Hid (Below w1.heap.size w1 wq)) (fun _ v _ => r - (intOf v).toNat)
            case atStart => exact ⟨0, 0, Nat.zero_le _, rfl, OwnSl.nil, OH, D⟩
            case round =>
              clear OH D
              obtain ⟨q, m7, hq, rfl, O7, OH, D⟩ := hrel
              have h7 : m7 ≤ 24 := by rw [← O7.out.len]; exact Nat.le_trans (grpsK_len _ _ _) (by omega)
              by_cases hqr : q < r
              · have hqi : (q : Int) < (r : Int) := by omega
                go_wp2
                obtain ⟨wo, hwo⟩ : ∃ wo : World, wo = wr := ⟨_, rfl⟩
                subst hwo
                go_loopw [9, 69] (fun u9 v wq => ∃ (j m9 : Nat), j ≤ r ∧ v = .int .i64 j ∧ Hid (OwnInts wq wo.heap.size u9 m9 (grpK hd0 q j)) ∧ Hid (Below wo.heap.size wo wq)) (fun _ v _ => r - (intOf v).toNat)
                case atStart => exact ⟨0, 0, Nat.zero_le _, rfl, OwnSl.nil, Below.refl _ _⟩
                case round =>
                  obtain ⟨j, m9, hj, rfl, O9, E⟩ := hrel
                  have h9 : m9 ≤ 24 := by rw [← O9.out.len]; exact Nat.le_trans (grpK_len _ _ _) (by omega)
                  by_cases hjr : j < r
                  · have hji : (j : Int) < (r : Int) := by omega
                    obtain ⟨x, hx⟩ : ∃ x, hd0[j]? = some x := ⟨_, List.getElem?_eq_getElem (by rw [OH.out.len]; exact hjr)⟩
                    have GS := hide2 (show grpK hd0 q (j + 1) = if x = (q : Int) then grpK hd0 q j ++ [(j : Int)] else grpK hd0 q j by rw [grpK_succ, hdA_at hx])
                    have q0 := OwnInts.at (OwnSl.keep IntR.kept OH.out E.out) hx
                    clear hx
                    by_cases e : x = (q : Int)
                    · subst e
                      have G1 := hide2 (show grpK hd0 q (j + 1) = grpK hd0 q j ++ [(j : Int)] by rw [GS.out, if_pos rfl])
                      go_wp2_with (at_builtin; refine wpList_appInt rfl _ _ rfl rfl rfl rfl O9.out E.out E.out.size (by omega) ?_; intro v8 w8 own8 hg8 hb8; have O98 := hide2 own8; have E8 := hide2 hb8; clear own8 hg8 hb8)
                      go_roundw
                      case rel => exact ⟨j + 1, m9 + 1, by omega, by go_num, by rw [G1.out]; exact O98, E8⟩
                      case measure => simp [intOf]; omega
                    · have G1 := hide2 (show grpK hd0 q (j + 1) = grpK hd0 q j by rw [GS.out, if_neg e])
                      have hxb : (x == (q : Int)) = false := by simpa using e
                      clear e
                      go_wp2
                      go_roundw
                      case rel => exact ⟨j + 1, m9, by omega, by go_num, by rw [G1.out]; exact O9, E⟩
                      case measure => simp [intOf]; omega
                  · obtain rfl : j = r := by omega
                    have LE := hide2 (show (grpL j hd0 q).length = m9 from O9.out.len)
                    have O72 := hide2 (OwnSl.keep (OwnListR.kept _) O7.out E.out)
                    have OH2 := hide2 (OwnSl.keep IntR.kept OH.out E.out)
                    have D2 := hide2 (D.out.trans (E.out.mono D.out.size))
                    obtain ⟨A9, c9, rfl, _⟩ := O9.out.sl (by omega)
                    by_cases h0 : m9 = 0
                    · subst h0
                      have G1 := hide2 (show grpsK j hd0 (q + 1) = grpsK j hd0 q by rw [grpsK_succ, if_pos LE.out])
                      go_wp2
                      go_roundw
                      case rel => exact ⟨q + 1, m7, by omega, by go_num, by rw [G1.out]; exact O72, OH2, D2⟩
                      case measure => simp [intOf]; omega
                    · have G1 := hide2 (show grpsK j hd0 (q + 1) = grpsK j hd0 q ++ [grpL j hd0 q] by rw [grpsK_succ, if_neg (by rw [LE.out]; exact h0)])
                      have hpos : (0 : Int) < (m9 : Int) := by omega
                      have RX := hide2 (show OwnListR w.heap.size wr (fun _ => .slice A9 m9 c9) (grpL j hd0 q) from ⟨m9, O9.out.base (Nat.le_trans NW.out (Nat.le_trans D.out.size (Nat.le_refl _))), by omega⟩)
                      have KL := hide2 (keepLists O72.out)
                      go_wp2_with (at_builtin; refine wpList_appNew (v := u7) tyLists rfl _ _ rfl [grpL j hd0 q] #[.slice A9 m9 c9] rfl rfl rfl rfl (by simp [Value.oneCell']) O72.out (Reads.list1 RX.out) rfl D2.out D2.out.size (by omega) (by omega) KL.out ?_; intro v8 w8 own8 hg8 hb8; have O78 := hide2 own8; have OH8 := hide2 (OwnSl.kept OH2.out hg8 (own_ne (OwnInts.row OH2.out) (Exists.choose_spec O72.out).1 (by decide)) (fun _ _ h => h)); have D8 := hide2 hb8; clear own8 hg8 hb8)
                      go_roundw
                      case rel => exact ⟨q + 1, m7 + 1, by omega, by go_num, by rw [G1.out]; exact O78, OH8, D8⟩
                      case measure => simp [intOf]; omega
              · obtain rfl : q = r := by omega
                have CL := hide2 (show IsCl (shS ts) ts.length (grpsK q hd0 q) by
                  rw [HL.out]
                  exact groups_cl (shS_symm ts) FH.out)
                go_wp2
                go_ret
                exact ⟨_, by rw [ClustP, HR.out]; exact CL.out, _, m7, rfl, O7.out.base NW.out, h7, B1.out.trans (D.out.mono B1.out.size)⟩
end Go.Proofs.Ytldljjmibaaokaa
