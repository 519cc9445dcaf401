/- The contract of DPath. Conditions: the net, the mark and the goal read as lists. -/
import Derived.Test.YtmnacahoamkokaaAppW
import Derived.Test.YtmnacahoamkokaaPlainM
import Derived.Test.YtmnacahoamkokaaHeldB
import Derived.Test.YtmnacahoamkokaaReachI
namespace Go.Proofs.Ytmnacahoamkokaa
open Go.RowKit

set_option maxRecDepth 100000 in
set_option maxHeartbeats 4000000 in
theorem refPath_calls {w : World} {P : Int} {A B D : Option Addr} {n c m d l q : Nat} {ts : List PTran} {xs goal : List Int} (most : Int) (h : Trans w A n c ts) (g : Ints w B m d xs) (k : Ints w D l q goal) :
    Calls Try.prog 25 #[.agg #[.int .i64 P, .slice A n c], .slice B m d, .slice D l q, .int .i64 most] w (AnsIE (pathL ⟨P, ts⟩ xs goal most) w) := by
  generalize hw : w.alloc (.cells #[.int .i64 P, .slice A n c] 27) = w0
  have HB := hide2 (show Below w.heap.size w w0 by rw [← hw]; exact (Below.refl _ _).alloc (Nat.le_refl _) _)
  have X0 := hide2 (show Box w0 w.heap.size 27 #[.int .i64 P, .slice A n c] by rw [← hw]; exact Box.new _ _ _)
  have CS := hide2 (refGraph_calls (P := P) most (h.keep HB.out) (g.keep HB.out))
  have GL := hide2 (k.keep HB.out)
  have PE := hide2 (fun (s : PSp) (k : Int) => pathL_err (N := ⟨P, ts⟩) (m := xs) (goal := goal) (most := most) (s := s) (k := k))
  have PN := hide2 (fun (s : PSp) => pathL_none (N := ⟨P, ts⟩) (m := xs) (goal := goal) (most := most) (s := s))
  have PS := hide2 (fun (s : PSp) (k : Nat) => pathL_some (N := ⟨P, ts⟩) (m := xs) (goal := goal) (most := most) (s := s) (k := k))
  have M3 := hide2 (fun (h : (graphL ⟨P, ts⟩ xs most).2 = 0) => graphL_most h)
  clear h g k
  obtain ⟨r, hr⟩ : ∃ r, graphL ⟨P, ts⟩ xs most = r := ⟨_, rfl⟩
  rw [hr] at CS M3
  simp only [hr] at PE PN PS
  clear hr
  obtain ⟨s, e0⟩ := r
  generalize pathL ⟨P, ts⟩ xs goal most = R at *
  go_enter Try.func25, Try.ntmps25
  go_upto_region 1 with fail
  clear hw
  obtain ⟨a0, a1⟩ := X0.out.two
  go_upto_region 2 with (go_at_call 23; go_loud ((with_reducible refine CS.out.mono ?_); rintro e w1 ⟨U, cu, V, cv, rfl, hL, hA, B1⟩; have LL := hide2 hL; have LA := hide2 hA; have BB := hide2 B1; clear hL hA B1))
  by_cases hk : e0 = 0
  · subst hk
    obtain ⟨hm, sp⟩ := M3.out rfl
    have SP := hide2 sp
    have hms : s.marks.length ≤ 300 := by have := sp.few; omega
    clear sp CS PE M3 X0 a0 a1
    generalize hw2 : w1.alloc (.cells #[.slice U s.marks.length cu, .slice V s.arcs.length cv] 48) = w2
    have hb2 : Below w1.heap.size w1 w2 := by rw [← hw2]; exact (Below.refl _ _).alloc (Nat.le_refl _) _
    have X1 := hide2 (show Box w2 w1.heap.size 48 #[.slice U s.marks.length cu, .slice V s.arcs.length cv] by rw [← hw2]; exact Box.new _ _ _)
    have BZ2 := hide2 ((HB.out.trans (BB.out.mono HB.out.size)).trans (hb2.mono (HB.out.trans (BB.out.mono HB.out.size)).size))
    have LL2 := hide2 (Sl.keep ListR.kept LL.out hb2)
    have LA2 := hide2 (Sl.keep ArcR.kept LA.out hb2)
    have GL2 := hide2 (Sl.keep IntR.kept (Sl.keep IntR.kept GL.out BB.out) hb2)
    clear hw2 hb2 LL LA GL BB HB
    generalize w1.heap.size = bs at *
    have c0 : w2.cell? ⟨bs, 0, none⟩ = some (.slice U s.marks.length cu) := X1.out.cell 0
    obtain ⟨L1, hL1⟩ : ∃ L1, s.marks.length = L1 := ⟨_, rfl⟩
    have HL1 := hide2 hL1
    rw [hL1] at c0 LL2 X1 hms
    clear hL1
    go_wp2
    go_loopw [12, 31] (fun tv jv wr => ∃ j : Nat, j ≤ L1 ∧ jv = .int .i64 j ∧ tv = .int .i64 (toV (findL (s.marks.take j) goal)) ∧ Hid (Below w2.heap.size w2 wr)) (fun _ jv _ => L1 - (intOf jv).toNat)
    case atStart => exact ⟨0, Nat.zero_le _, rfl, rfl, hide2 (Below.refl _ _)⟩
    case round =>
      obtain ⟨j, hj, rfl, rfl, BI⟩ := hrel
      by_cases hlj : j < L1
      · have hji : (j : Int) < (L1 : Int) := by omega
        obtain ⟨b, off, y, A2, n2, c2, rfl, hb, hy, q0, i2, _⟩ := Lists.get (Sl.keep ListR.kept LL2.out BI.out) hlj
        have TS := hide2 (toV_succ (x := goal) SP.out.nodup hy.out)
        have I2 := hide2 i2
        have IX := hide2 (Sl.keep IntR.kept GL2.out BI.out)
        clear hy i2
        cases hxy : (goal == y)
        all_goals
          have HXY := hide2 hxy
          rw [hxy] at TS
          clear hxy
          go_wp2_with ((with_reducible refine (equalInts_calls IX.out I2.out).mono ?_); rw [HXY.out]; rintro e w4 ⟨rfl, dr⟩; have BD := hide2 dr.below; clear dr)
          go_roundw
          case rel => exact ⟨j + 1, by omega, by go_num, by rw [TS.out]; rfl, hide2 (BI.out.trans (BD.out.mono BI.out.size))⟩
          case measure => simp [intOf]; omega
      · obtain rfl : j = L1 := by omega
        have hfull : s.marks.take j = s.marks := List.take_of_length_le (by rw [HL1.out]; exact Nat.le_refl _)
        rw [hfull]
        clear hfull c0
        have X3 := hide2 (X1.out.keep BI.out)
        have LA3 := hide2 (Sl.keep ArcR.kept LA2.out BI.out)
        have BZ3 := hide2 (BZ2.out.trans (BI.out.mono BZ2.out.size))
        clear LA2 GL2 LL2 X1 BZ2 BI
        cases hfi : findL s.marks goal with
        | none =>
          have RE := hide2 (PN.out s rfl hfi)
          go_wp2
          exact bodyPost_ret (v := .tuple #[.slice none 0 0, .int .i64 3]) (by simp [results, Try.results25, go_sem]) rfl (by rw [RE.out]; exact ⟨none, 0, 0, rfl, Sl.nil0, BZ3.out⟩)
        | some K =>
          have RE := hide2 (PS.out s K rfl hfi)
          have hK : K < j := by have := findL_lt hfi; rw [HL1.out] at this; exact this
          clear hfi PN PS
          obtain ⟨wo, hwo⟩ : ∃ wo : World, wo = wr := ⟨_, rfl⟩
          subst hwo
          go_wp2
          go_loopw [12, 15] (fun kv ov wr => ∃ (k : Nat) (A2 : Option Addr) (n2 c2 : Nat) (L : List Int), kv = .int .i64 k ∧ ov = .slice A2 n2 c2 ∧ k < j ∧ n2 + k ≤ K ∧ Hid (Ints wr A2 n2 c2 L) ∧ Hid (Below wo.heap.size wo wr) ∧ Hid (backL s K K = backL s k k ++ L)) (fun kv _ _ => (intOf kv).toNat)
          case atStart => exact ⟨K, none, 0, 0, [], rfl, rfl, hK, by omega, Sl.nil0, Below.refl _ _, hide2 (by simp)⟩
          case round =>
            obtain ⟨k, A2, n2, c2, L, rfl, rfl, hkl, hLk, OW, BW, BK⟩ := hrel
            by_cases h0 : 0 < k
            · have hki : ¬ ((k : Int) = 0) := by omega
              obtain ⟨j0, a, hj1, hto, hf0, hf1, hlow, hfind⟩ := SP.out.find h0 (by rw [HL1.out]; exact hkl)
              have STEP := hide2 (backL_step SP.out h0 (by rw [HL1.out]; exact hkl) hfind ⟨hf0, hf1⟩)
              have hsm := LA3.out.small
              have hjl : j0 < s.arcs.length := (List.getElem?_eq_some_iff.1 hj1).1
              obtain ⟨f, hf⟩ : ∃ f : Nat, a.from_ = (f : Int) := ⟨a.from_.toNat, by omega⟩
              have HF := hide2 hf
              have HJ1 := hide2 hj1
              have HTO := hide2 hto
              have HLOW := hide2 hlow
              rw [hf] at hf0 hf1 STEP
              have hfk := hide2 (show f < k by omega)
              have c1 : wr.cell? ⟨bs, 1, none⟩ = some (.slice V s.arcs.length cv) := (X3.out.keep BW.out).cell 1
              obtain ⟨wq, hwq⟩ : ∃ wq : World, wq = wr := ⟨_, rfl⟩
              subst hwq
              clear hj1 hto hlow hfind hf
              go_wp2
              go_loopw [12, 15, 48] (fun kv ov jv wr => ∃ i : Nat, kv = .int .i64 k ∧ ov = .slice A2 n2 c2 ∧ jv = .int .i64 i ∧ i ≤ j0 ∧ Hid (Below wq.heap.size wq wr)) (fun _ _ jv _ => s.arcs.length - (intOf jv).toNat)
              case atStart => exact ⟨0, rfl, rfl, rfl, Nat.zero_le _, Below.refl _ _⟩
              case round =>
                obtain ⟨i, rfl, rfl, rfl, hij, BQ⟩ := hrel
                have hil : i < s.arcs.length := by omega
                have hili : (i : Int) < (s.arcs.length : Int) := by omega
                obtain ⟨b, off, x, rfl, hb, hx, x0, x1, x2, _⟩ := Arcs.get (Sl.keep ArcR.kept LA3.out (BW.out.trans (BQ.out.mono BW.out.size))) hil
                by_cases hlt : i < j0
                · have hne : ¬ (x.to_ = (k : Int)) := HLOW.out i hlt x hx.out
                  clear hx
                  go_wp2
                  go_roundw
                  case rel => exact ⟨i + 1, rfl, rfl, by go_num, by omega, BQ.out.alloc BQ.out.size _⟩
                  case measure => simp [intOf]; omega
                · obtain rfl : i = j0 := by omega
                  obtain rfl : x = a := by have := hx.out; rw [HJ1.out] at this; injection this with this; exact this.symm
                  rw [HF.out] at x0
                  rw [HTO.out] at x2
                  clear hx hlt
                  go_upto_region 19 with fail
                  generalize hw3 : wr.alloc (.cells #[.int .i64 f, .int .i64 x.tran, .int .i64 k] 147) = w3
                  have B3 := hide2 (show Below wr.heap.size wr w3 by rw [← hw3]; exact (Below.refl _ _).alloc (Nat.le_refl _) _)
                  have X9 := hide2 (show Box w3.drew wr.heap.size 147 #[.int .i64 f, .int .i64 x.tran, .int .i64 k] by rw [← hw3]; exact (Box.new _ _ _).drew)
                  have BQ3 := hide2 (((BW.out.trans (BQ.out.mono BW.out.size)).trans (B3.out.mono (BW.out.trans (BQ.out.mono BW.out.size)).size)).drew)
                  have OW3 := hide2 (show Ints w3.drew A2 n2 c2 L from Sl.keep IntR.kept (Sl.keep IntR.kept OW.out BQ.out) B3.out.drew)
                  have hn300 : n2 ≤ 300 := by omega
                  have t0 := X9.out.cell 0
                  have t1 := X9.out.cell 1
                  simp only [List.getElem?_toArray, List.getElem?_cons_zero, List.getElem?_cons_succ] at t0 t1
                  clear hw3 x0 x1 x2 OW BW B3 BQ c1
                  generalize wr.heap.size = b9 at *
                  refine wp_region_scr 8 (.takes [0, 1, 5, 6, 3] (.one 2 (.one 4 (.one 7 (.fin 8 .done))))) (fun w' => w'.cell? ⟨b9, 0, none⟩ = some (.int .i64 f) ∧ w'.cell? ⟨b9, 1, none⟩ = some (.int .i64 x.tran)) (by kernel_rfl) (by kernel_rfl) (by kernel_rfl) (fun _ _ _ _ _ h => h) ⟨t0, t1⟩ (fun hHeld => ?_)
                  simp only [Scr.takes]
                  generalize w3.drew = u0 at *
                  iterate 5
                    refine tkTake (v := ?_) rfl (by rfl) hHeld (fun w' hSw => ?_) ?_
                    rotate_left
                    · (go_simp; try with_reducible rfl)
                    simp only [Act.put, List.setIfInBounds_toArray, List.set_cons_zero, List.set_cons_succ]
                  have X8 := hide2 (show Box (u0.alloc (.cells #[.int .i64 x.tran] 3)) b9 147 #[.int .i64 f, .int .i64 x.tran, .int .i64 k] from X9.out.old _)
                  have OR := hide2 (show OwnInts (u0.alloc (.cells #[.int .i64 x.tran] 3)) u0.heap.size (.slice (some ⟨u0.heap.size, 0, none⟩) 1 1) 1 [x.tran] from OwnSl.row (Nat.le_refl _) rfl (by decide) (Reads.one (vs := fun _ => .int .i64 x.tran) rfl rfl (fun j hj => (by obtain rfl : j = 0 := (by omega); rfl))) rfl)
                  have hbu := hide2 (show Below u0.heap.size u0 (u0.alloc (.cells #[.int .i64 x.tran] 3)) from (Below.refl _ _).alloc (Nat.le_refl _) _)
                  have hsz := hide2 (show b9 < u0.heap.size from X9.out.lt)
                  clear t0 t1
                  have t0 := X8.out.cell 0
                  have t1 := X8.out.cell 1
                  simp only [List.getElem?_toArray, List.getElem?_cons_zero, List.getElem?_cons_succ] at t0 t1
                  refine tkOne rfl (fun Kf hKf => ?_)
                  go_simp
                  refine hKf.out _ _ ⟨t0, t1⟩ (fun hHeld => ?_)
                  clear hKf
                  try simp only [Act.put, List.setIfInBounds_toArray, List.set_cons_zero, List.set_cons_succ]
                  refine tkOne rfl (fun Kf hKf => ?_)
                  refine step_appAny tyInts IntR.good rfl (.tmp 58) (.tmp 59) rfl rfl rfl OR.out (Sl.keep IntR.kept OW3.out hbu.out) (by simp) (by omega) (by omega) (fun _ _ _ _ h => h) hbu.out (Nat.le_refl _) ?_
                  intro v1 w4 own1 hg1 hb1 _
                  have X7 := hide2 (Box.grown (row := some u0.heap.size) X8.out hg1 (fun e => by have h1 := hsz.out; injection e with e; omega))
                  obtain ⟨A3, c3, hv, i3⟩ := own1.sl (by omega)
                  subst hv
                  have I3 := hide2 i3
                  have B4 := hide2 (BQ3.out.trans (hb1.mono BQ3.out.size))
                  clear own1 hg1 hb1 i3 t0 t1
                  have t0 := X7.out.cell 0
                  have t1 := X7.out.cell 1
                  simp only [List.getElem?_toArray, List.getElem?_cons_zero, List.getElem?_cons_succ] at t0 t1
                  refine hKf.out _ _ ⟨t0, t1⟩ (fun hHeld => ?_)
                  clear hKf
                  try simp only [Act.put, List.setIfInBounds_toArray, List.set_cons_zero, List.set_cons_succ]
                  refine tkOne rfl (fun Kf hKf => ?_)
                  go_simp
                  refine hKf.out _ _ ⟨t0, t1⟩ (fun hHeld => ?_)
                  clear hKf
                  try simp only [Act.put, List.setIfInBounds_toArray, List.set_cons_zero, List.set_cons_succ]
                  refine tkEnd rfl (fun Kf hKf => ?_)
                  go_simp
                  refine hKf.out _ _ ?_
                  clear hKf
                  try simp only [Act.put, List.setIfInBounds_toArray, List.set_cons_zero, List.set_cons_succ]
                  refine tkDone ?_
                  clear hHeld t0 t1
                  go_wp2
                  go_roundw
                  case rel => have hfk2 := hfk.out; exact ⟨f, A3, 1 + n2, c3, [x.tran] ++ L, by go_num, rfl, by omega, by omega, I3, B4, hide2 (by rw [BK.out, STEP.out]; simp)⟩
                  case measure => have hfk2 := hfk.out; simp [intOf]; omega
            · obtain rfl : k = 0 := by omega
              have RR := hide2 (show R = (L, 0) by rw [RE.out, BK.out, backL_zero]; rfl)
              go_wp2
              exact bodyPost_ret (v := .tuple #[.slice A2 n2 c2, .int .i64 0]) (by simp [results, Try.results25, go_sem]) rfl (by rw [RR.out]; exact ⟨A2, n2, c2, rfl, OW.out, BZ3.out.trans (BW.out.mono BZ3.out.size)⟩)
  · have RE := hide2 (PE.out s e0 rfl hk)
    go_wp2
    exact bodyPost_ret (v := .tuple #[.slice none 0 0, .int .i64 e0]) (by simp [results, Try.results25, go_sem]) rfl (by rw [RE.out]; exact ⟨none, 0, 0, rfl, Sl.nil0, (HB.out.trans (BB.out.mono HB.out.size)).alloc (HB.out.trans (BB.out.mono HB.out.size)).size _⟩)
end Go.Proofs.Ytmnacahoamkokaa
