/- The contract of the reference's NFree. Conditions: the net reads as a list. -/
import Derived.Test.YtldljjmibaaokaaChoC
import Derived.Test.YtldljjmibaaokaaHeldB
namespace Go.Proofs.Ytldljjmibaaokaa
open Go.RowKit

/-- An operation that is not wanted. -/
theorem tkPassC {P : Program} {ops : Array Oper} {Q : Exit → Act → World → Prop} {S : World → Prop} {i : Nat} {r : Scr} {a : Act} {w : World} {o : Oper} (ho : nth ops.toList i = some o) (hw : Region.wanted o (yielded ops a.tmps) = false) (hS : S w)
    (h : wpScr P ops Q S r (a.put o.dst undef) w) : wpScr P ops Q S (.take i r) a w :=
  ⟨o, undef, nth_ops ho, .inr ⟨hw, rfl⟩, hS, h⟩

set_option maxRecDepth 100000 in
set_option maxHeartbeats 8000000 in
theorem nfree_calls {w : World} {P : Int} {A : Option Addr} {n c : Nat} {ts : List PTran} (h : Trans w A n c ts) :
    Calls Try.prog 26 #[.agg #[.int .i64 P, .slice A n c]] w fun e w' => e = .returned (.bool (freeB ⟨P, ts⟩)) ∧ Below w.heap.size w w' := by
  have X0 := hide2 (Box.new w #[.int .i64 P, .slice A n c] 24)
  have B0 := hide2 (boxBelow w (.cells #[.int .i64 P, .slice A n c] 24))
  have hns := h.small
  have HL := hide2 h.len
  have H := hide2 h
  clear h
  obtain ⟨r, hr⟩ : ∃ r, netOk ⟨P, ts⟩ = r := ⟨_, rfl⟩
  have HR := hide2 hr
  cases r
  · have W0 := hide2 (wrongNet_not hr)
    have FN := hide2 (freeB_bad hr)
    clear hr
    go_enter Try.func26, Try.ntmps26
    go_upto_region 1 with fail
    generalize w.alloc (.cells #[.int .i64 P, .slice A n c] 24) = w0 at *
    obtain ⟨c0, c1⟩ := X0.out.two
    go_wp2_with fail
    refine (refWrong_calls _ P A n c ts (H.out.keep B0.out)).mono ?_
    rw [W0.out]
    rintro e w1 ⟨rfl, hb⟩
    have B1 := hide2 (B0.out.trans (hb.mono B0.out.size))
    clear hb
    go_wp2
    go_ret
    exact ⟨ret_bool FN.out.symm, B1.out⟩
  · have W0 := hide2 (wrongNet_ok hr)
    obtain ⟨p, rfl⟩ : ∃ p : Nat, P = (p : Int) := ⟨P.toNat, by have := ((netOk_iff _).1 hr).1; simp only [] at this; omega⟩
    clear hr
    go_enter Try.func26, Try.ntmps26
    go_upto_region 1 with fail
    generalize w.alloc (.cells #[.int .i64 (p : Int), .slice A n c] 24) = w0 at *
    obtain ⟨c0, c1⟩ := X0.out.two
    go_wp2_with fail
    refine (refWrong_calls _ (p : Int) A n c ts (H.out.keep B0.out)).mono ?_
    rw [W0.out]
    rintro e w1 ⟨rfl, hb⟩
    have X1 := hide2 (X0.out.keep hb)
    have B1 := hide2 (B0.out.trans (hb.mono B0.out.size))
    clear hb c0 c1 X0
    obtain ⟨c0, c1⟩ := X1.out.two
    go_wp2
    clear c0 c1
    go_loopw [11] (fun v wr => ∃ k : Nat, k ≤ n ∧ v = .int .i64 k ∧ Hid (∀ (i j : Nat) (a b : PTran), i < k → ts[i]? = some a → ts[j]? = some b → offT a b = false) ∧ Hid (Below w1.heap.size w1 wr)) (fun v _ => n - (intOf v).toNat)
    case atStart => exact ⟨0, Nat.zero_le _, rfl, fun i j a b hi => absurd hi (by omega), Below.refl _ _⟩
    case round =>
      obtain ⟨k, hk, rfl, hlow, D⟩ := hrel
      have BR := hide2 (B1.out.trans (D.out.mono B1.out.size))
      by_cases hlt : k < n
      · have hki : (k : Int) < (n : Int) := by omega
        obtain ⟨c0, c1⟩ := (X1.out.keep D.out).two
        go_wp2
        clear c0 c1
        obtain ⟨wo, hwo⟩ : ∃ wo : World, wo = wr := ⟨_, rfl⟩
        subst hwo
        go_loopw [17] (fun v wq => ∃ q : Nat, q ≤ n ∧ v = .int .i64 q ∧ Hid (∀ (j : Nat) (a b : PTran), j < q → ts[k]? = some a → ts[j]? = some b → offT a b = false) ∧ Hid (Below wo.heap.size wo wq)) (fun v _ => n - (intOf v).toNat)
        case atStart => exact ⟨0, Nat.zero_le _, rfl, fun j a b hj => absurd hj (by omega), Below.refl _ _⟩
        case round =>
          obtain ⟨q, hq, rfl, hlo2, E⟩ := hrel
          have D2 := hide2 (D.out.trans (E.out.mono D.out.size))
          have BQ := hide2 (B1.out.trans (D2.out.mono B1.out.size))
          by_cases hqn : q < n
          · have hqi : (q : Int) < (n : Int) := by omega
            have DR := hide2 (BQ.out.trans ((Below.refl wr.heap.size wr).drew.mono BQ.out.size))
            have DQ := hide2 (D2.out.trans ((Below.refl wr.heap.size wr).drew.mono D2.out.size))
            have EQ := hide2 (E.out.trans ((Below.refl wr.heap.size wr).drew.mono E.out.size))
            obtain ⟨b, off, t, A1, n1, d1, A2, n2, d2, rfl, hb, ht, q0, q1, q2, i1, i2, _, _⟩ := Trans.get (H.out.keep DR.out) hlt
            obtain ⟨b', off', u, A3, n3, d3, A4, n4, d4, e2, hb', hu, r0, r1, r2, i3, i4, _, _⟩ := Trans.get (H.out.keep DR.out) hqn
            injection e2 with e2
            injection e2 with e2 e3
            subst e2 e3
            have HT := hide2 ht.out
            have HU := hide2 hu.out
            have J1 := hide2 i1
            have J3 := hide2 i3
            obtain ⟨c0, c1⟩ := (X1.out.keep DQ.out).two
            have KEEP := hide2 (show ∀ w', Below wr.drew.heap.size wr.drew w' → w'.cell? ⟨w.heap.size, 0, none⟩ = some (.int .i64 (p : Int)) ∧ w'.cell? ⟨w.heap.size, 1, none⟩ = some (.slice (some ⟨b, off, none⟩) n c) ∧ w'.cell? ⟨b, off + k * 3 + 1, none⟩ = some (.slice A1 n1 d1) ∧ w'.cell? ⟨b, off + q * 3 + 1, none⟩ = some (.slice A3 n3 d3) from fun w' hb2 => by
              obtain ⟨x0, x1⟩ := (X1.out.keep (DQ.out.trans (hb2.mono DQ.out.size))).two
              exact ⟨x0, x1, (hb2.cell (p := ⟨b, _, none⟩) hb).trans q1, (hb2.cell (p := ⟨b, _, none⟩) hb).trans r1⟩)
            clear i1 i2 i3 i4 ht hu q0 q2 r0 r2
            have OF := hide2 (show offT t u = (shareT t u && !(t.pre == u.pre)) from rfl)
            obtain ⟨s, hs⟩ : ∃ s, shareT t u = s := ⟨_, rfl⟩
            obtain ⟨v, hv⟩ : ∃ v, (t.pre == u.pre) = v := ⟨_, rfl⟩
            have HS := hide2 hs
            have HV := hide2 hv
            have DW := hide2 (Below.refl wr.drew.heap.size wr.drew)
            clear hs hv
            have NX := hide2 (show offT t u = false → ∀ (j : Nat) (a b : PTran), j < q + 1 → ts[k]? = some a → ts[j]? = some b → offT a b = false from fun hf j a b hj ha hjb => by
              by_cases e : j = q
              · subst e
                rw [HU.out] at hjb
                rw [HT.out] at ha
                injection hjb with hjb
                injection ha with ha
                rw [← hjb, ← ha]; exact hf
              · exact hlo2.out j a b (by omega) ha hjb)
            clear hlo2
            go_upto_region 9 with fail
            cases s
            · refine wp_region_scr 19 (.takes [0, 1, 2] (.one 3 (.takes [4, 5, 6, 7, 8, 9, 10, 11, 12, 13, 14, 15, 16] (.one 17 (.take 18 (.fin 19 .done)))))) (fun w' => w'.cell? ⟨w.heap.size, 0, none⟩ = some (.int .i64 (p : Int)) ∧ w'.cell? ⟨w.heap.size, 1, none⟩ = some (.slice (some ⟨b, off, none⟩) n c) ∧ w'.cell? ⟨b, off + k * 3 + 1, none⟩ = some (.slice A1 n1 d1) ∧ w'.cell? ⟨b, off + q * 3 + 1, none⟩ = some (.slice A3 n3 d3)) (by kernel_rfl) (by kernel_rfl) (by kernel_rfl) (fun _ _ _ _ _ h => h) ⟨c0, c1, q1, r1⟩ (fun hHeld => ?_)
              simp only [Scr.takes]
              iterate 3
                refine tkTake (v := ?_) rfl (by rfl) hHeld (fun w' hSw => ?_) ?_
                rotate_left
                · (go_simp; try with_reducible rfl)
                simp only [Act.put, List.setIfInBounds_toArray, List.set_cons_zero, List.set_cons_succ]
              refine tkOne rfl (fun K hK => ?_)
              go_simp
              refine (nshare_calls (H.out.keep DR.out) HR.out HT.out HU.out).mono ?_
              rw [HS.out]
              rintro e w5 ⟨rfl, hb5⟩
              have F5 := hide2 hb5
              refine hK.out _ _ (KEEP.out w5 hb5) (fun hHeld => ?_)
              clear hK hb5 c0 c1 q1 r1
              try simp only [Act.put, List.setIfInBounds_toArray, List.set_cons_zero, List.set_cons_succ]
              refine tkTake (v := .bool false) rfl (by rfl) hHeld (fun w' hSw => ?_) ?_
              · (go_simp; try with_reducible rfl)
              simp only [Act.put, List.setIfInBounds_toArray, List.set_cons_zero, List.set_cons_succ]
              iterate 12
                refine tkPassC rfl (by rfl) hHeld ?_
                simp only [Act.put, List.setIfInBounds_toArray, List.set_cons_zero, List.set_cons_succ]
              refine tkOne rfl (fun K hK => ?_)
              go_simp
              refine hK.out _ _ hHeld (fun hHeld => ?_)
              clear hK
              try simp only [Act.put, List.setIfInBounds_toArray, List.set_cons_zero, List.set_cons_succ]
              refine tkPassC rfl (by rfl) hHeld ?_
              simp only [Act.put, List.setIfInBounds_toArray, List.set_cons_zero, List.set_cons_succ]
              refine tkEnd rfl (fun K hK => ?_)
              go_simp
              refine hK.out _ _ ?_
              clear hK
              try simp only [Act.put, List.setIfInBounds_toArray, List.set_cons_zero, List.set_cons_succ]
              refine tkDone ?_
              have N1 := hide2 (NX.out (by rw [OF.out, HS.out]; rfl))
              go_wp2
              go_roundw
              case rel => exact ⟨q + 1, by omega, by go_num, N1, hide2 (EQ.out.trans (F5.out.mono EQ.out.size))⟩
              case measure => simp [intOf]; omega
            · go_region_held3 (fun w' => w'.cell? ⟨w.heap.size, 0, none⟩ = some (.int .i64 (p : Int)) ∧ w'.cell? ⟨w.heap.size, 1, none⟩ = some (.slice (some ⟨b, off, none⟩) n c) ∧ w'.cell? ⟨b, off + k * 3 + 1, none⟩ = some (.slice A1 n1 d1) ∧ w'.cell? ⟨b, off + q * 3 + 1, none⟩ = some (.slice A3 n3 d3))
                (first | go_keep)
                (first
                  | (go_at_call 78; (with_reducible refine (nshare_calls (H.out.keep DR.out) HR.out HT.out HU.out).mono ?_); rw [HS.out]; rintro e w5 ⟨rfl, hb5⟩; have F5 := hide2 hb5; clear hb5 c0 c1 q1 r1; obtain ⟨c0, c1, q1, r1⟩ := KEEP.out w5 F5.out)
                  | (go_at_call 21; (with_reducible refine (equalInts_calls (J1.out.keep F5.out) (J3.out.keep F5.out)).mono ?_); rw [HV.out]; rintro e w6 ⟨rfl, hd⟩; have F6 := hide2 (F5.out.trans (hd.below.mono F5.out.size)); clear hd c0 c1 q1 r1; obtain ⟨c0, c1, q1, r1⟩ := KEEP.out w6 F6.out))
              all_goals
                cases v
                · have FF := hide2 (freeB_false (N := ⟨(p : Int), ts⟩) HT.out HU.out (by rw [OF.out, HS.out, HV.out]; rfl))
                  go_wp2
                  go_ret
                  exact ⟨ret_bool FF.out.symm, DR.out.trans (F6.out.mono DR.out.size)⟩
                · have N1 := hide2 (NX.out (by rw [OF.out, HS.out, HV.out]; rfl))
                  go_wp2
                  go_roundw
                  case rel => exact ⟨q + 1, by omega, by go_num, N1, hide2 (EQ.out.trans (F6.out.mono EQ.out.size))⟩
                  case measure => simp [intOf]; omega
          · obtain rfl : q = n := by omega
            go_wp2
            go_roundw
            case rel =>
              refine ⟨k + 1, by omega, by go_num, fun i j a b hi ha hb => ?_, D2⟩
              by_cases e : i = k
              · subst e
                exact hlo2.out j a b (by rw [← HL.out]; exact (List.getElem?_eq_some_iff.1 hb).1) ha hb
              · exact hlow.out i j a b (by omega) ha hb
            case measure => simp [intOf]; omega
      · obtain rfl : k = n := by omega
        have FT := hide2 (freeB_true (N := ⟨(p : Int), ts⟩) HR.out (fun i j a b ha hb => hlow.out i j a b (by rw [← HL.out]; exact (List.getElem?_eq_some_iff.1 ha).1) ha hb))
        clear hlow
        go_wp2
        go_ret
        exact ⟨ret_bool FT.out.symm, BR.out⟩
end Go.Proofs.Ytldljjmibaaokaa
