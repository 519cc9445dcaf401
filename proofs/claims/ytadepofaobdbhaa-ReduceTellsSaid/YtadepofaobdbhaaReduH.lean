/- The contract of the third rule of reduce's small net: series. Conditions: the net is right. -/
import Derived.Test.YtadepofaobdbhaaReduF
namespace Go.Proofs.Ytadepofaobdbhaa
open Go.RowKit Go.Maps

theorem findSome_range_some {α : Type} {n k : Nat} {f : Nat → Option α} {x : α} (hk : k < n) (h0 : ∀ a, a < k → f a = none) (hx : f k = some x) : (List.range n).findSome? f = some x := by
  rw [List.findSome?_eq_some_iff]
  refine ⟨List.range k, k, (List.range (n - k - 1)).map (k + 1 + ·), ?_, hx, fun a ha => h0 a (by simpa using ha)⟩
  rw [show n = k + (1 + (n - k - 1)) by omega, List.range_add, List.range_add]
  simp [Nat.add_assoc]
theorem findSome_range_none {α : Type} {n : Nat} {f : Nat → Option α} (h0 : ∀ a, a < n → f a = none) : (List.range n).findSome? f = none := by
  rw [List.findSome?_eq_none_iff]
  exact fun a ha => h0 a (by simpa using ha)
theorem Box.set3 {w : World} {b ty : Nat} {u0 u1 u2 : Value} (h : Box w b ty #[u0, u1, u2]) (v0 v1 v2 : Value) : Box (((w.setCell ⟨b, 0, none⟩ v0).setCell ⟨b, 1, none⟩ v1).setCell ⟨b, 2, none⟩ v2) b ty #[v0, v1, v2] := by
  have := ((h.set 0 v0).set 1 v1).set 2 v2
  simpa using this
theorem Box.other3 {w : World} {b q ty : Nat} {cs : Array Value} (h : Box w q ty cs) (hne : q ≠ b) (v0 v1 v2 : Value) : Box (((w.setCell ⟨b, 0, none⟩ v0).setCell ⟨b, 1, none⟩ v1).setCell ⟨b, 2, none⟩ v2) q ty cs :=
  ((h.other v0 hne).other v1 hne).other v2 hne
theorem below_set3 {B b : Nat} {w w' : World} (h : Below B w w') (hB : B ≤ b) (v0 v1 v2 : Value) : Below B w (((w'.setCell ⟨b, 0, none⟩ v0).setCell ⟨b, 1, none⟩ v1).setCell ⟨b, 2, none⟩ v2) :=
  ((h.setCell hB v0).setCell hB v1).setCell hB v2

theorem grown_far {a b c : World} {r : Option Nat} {q : Nat} (h : a.grownBy b r) (g : b.grownBy c (some q)) (hq : a.heap.size ≤ q) : a.grownBy c r :=
  ⟨g.os.trans h.os, g.tape.trans h.tape, g.output.trans h.output, Nat.le_trans h.size g.size, fun k hk hne => (g.block k (Nat.lt_of_lt_of_le hk h.size) (by simp; omega)).trans (h.block k hk hne)⟩
theorem grown_refl_below (w : World) (B : Nat) : Below B w w.drew := (Below.refl _ _).drew
/-- Transition k of an owned row: its cells are what they are. -/
theorem ownAt {B bl off n c k : Nat} {w : World} {ts : List PTran} {t : PTran} {v1 : Value} (h : Sl (OwnTranR B) 3 w (some ⟨bl, off, none⟩) n c ts) (hk : k < n) (ht : ts[k]? = some t) (q1 : w.cell? ⟨bl, off + k * 3 + 1, none⟩ = some v1) : ∃ vs : Nat → Value, True ∧ vs 1 = v1 ∧ OwnTranR B w vs t := by
  obtain ⟨b', off', t', vs, e, _, ht', hc, r⟩ := h.get hk
  injection e with e
  injection e with e1 e2
  subst e1 e2
  rw [ht] at ht'
  injection ht' with ht'
  subst ht'
  have := hc 1 (by omega)
  rw [← Nat.add_assoc, q1] at this
  injection this with this
  exact ⟨vs, trivial, this.symm, r⟩
theorem ownCells {B B2 e g n cap k : Nat} {w : World} {ts : List PTran} (h : OwnSl (OwnTranR B) 3 w B2 e (.slice (some ⟨g, 0, none⟩) n cap) n ts) (hk : k < n) :
    (∃ v, w.cell? ⟨g, k * 3, none⟩ = some v) ∧ (∃ v, w.cell? ⟨g, k * 3 + 1, none⟩ = some v) ∧ (∃ v, w.cell? ⟨g, k * 3 + 2, none⟩ = some v) ∧ w.frozen? ⟨g, k * 3, none⟩ = false ∧ w.frozen? ⟨g, k * 3 + 1, none⟩ = false ∧ w.frozen? ⟨g, k * 3 + 2, none⟩ = false := by
  obtain ⟨cells, o, _⟩ := h
  have hl := o.1
  have hc : ∀ j, j < n * 3 → ∃ v, w.cell? ⟨g, j, none⟩ = some v := fun j hj => ⟨_, (o.cellAt j hj).trans (List.getElem?_eq_getElem (by omega))⟩
  exact ⟨hc _ (by omega), hc _ (by omega), hc _ (by omega), o.frozenAt _, o.frozenAt _, o.frozenAt _⟩

set_option maxRecDepth 100000 in
set_option maxHeartbeats 16000000 in
theorem series_calls {B b : Nat} {w : World} {s : PSm} (h : SmM B b w s) (hok : netOk s.net = true) (hi : 0 ≤ s.i ∧ s.i ≤ 1000) (ho : 0 ≤ s.o ∧ s.o ≤ 1000) :
    Calls Try.prog 42 #[.pointer (some ⟨b, 0, none⟩)] w (AnsSt B b s w (stS s)) := by
  have HS := hide2 h
  have HOK := hide2 hok
  have HI := hide2 hi
  have HO := hide2 ho
  obtain ⟨A, n, c, hB, hb, own, hn⟩ := h
  have hl := own.len
  have hP := ((netOk_iff _).1 hok)
  obtain ⟨P, hPP⟩ : ∃ P : Nat, s.net.places = (P : Int) := ⟨s.net.places.toNat, by have := hP.1; omega⟩
  have hP16 : P ≤ 16 := by have := hP.2.1; omega
  obtain ⟨A', c', hv, hs⟩ := own.sl (by omega)
  injection hv with e1 e2 e3
  subst e1 e3
  have H := hide2 (hs.imp (R' := TranR) fun _ _ h => h.tran)
  have HSL := hide2 hs
  have BLW := hide2 (show B ≤ b ∧ b < w.heap.size from ⟨hB, hb.lt⟩)
  have HOWN := hide2 own
  have HL := hide2 hl
  have HX := hide2 (show Box w b 66 #[.int .i64 P, .slice A n c, .int .i64 s.i, .int .i64 s.o] by rw [← hPP]; exact hb)
  have u0 : w.cell? ⟨b, 0, none⟩ = some (.int .i64 P) := HX.out.cell 0
  have HPP := hide2 hPP
  have F0 := hide2 (show ∀ k x, k < P → (∀ a, a < k → serP s a = none) → serP s k = some x → stS s = some x from fun k x hk h0 hx => by
    unfold stS
    rw [hPP]
    exact findSome_range_some hk h0 hx)
  have F1 := hide2 (show (∀ a, a < P → serP s a = none) → stS s = none from fun h0 => by
    unfold stS
    rw [hPP]
    exact findSome_range_none h0)
  clear hb own hs hl hB hok hi ho hP hPP
  go_enter Try.func42, Try.ntmps42
  go_wp2
  go_loopg [15] P (fun gk i wr => ∃ k : Nat, k + gk = P ∧ i = .int .i64 k ∧ Hid (∀ a, a < k → serP s a = none) ∧ Hid (Below w.heap.size w wr))
  case atStart => exact ⟨0, by omega, rfl, fun a ha => absurd ha (by omega), Below.refl _ _⟩
  case round =>
    obtain ⟨k, hk, rfl, hnp, hb⟩ := hrel
    by_cases hlt : k < P
    · have GO := hide2 (show serP s k = none → ∀ a, a < k + 1 → serP s a = none from fun h0 a ha => by
        by_cases e : a = k
        · subst e; exact h0
        · exact hnp.out a (by omega))
      have F2 := hide2 (show ∀ x, serP s k = some x → stS s = some x from fun x hx => F0.out k x hlt hnp.out hx)
      obtain ⟨va, hva⟩ : ∃ v, onlyL (postW s.net.trans k) = v := ⟨_, rfl⟩
      obtain ⟨vb, hvb⟩ : ∃ v, onlyL (preW s.net.trans k) = v := ⟨_, rfl⟩
      have hca := onlyL_cases (postW s.net.trans k)
      have hcb := onlyL_cases (preW s.net.trans k)
      obtain ⟨vi, hvi⟩ : ∃ v, innerB s k = v := ⟨_, rfl⟩
      have SV := hide2 (show serP s k = if serOk s k va vb = true then some (serDo s k va.toNat vb.toNat) else none by unfold serP; rw [hva, hvb])
      have VI := hide2 hvi
      rw [hva, postW, List.length_map, HL.out] at hca
      rw [hvb, preW, List.length_map, HL.out] at hcb
      have HCA := hide2 hca
      have HCB := hide2 hcb
      have HVA := hide2 (show onlyL (s.net.trans.map fun t => t.post.getD k 0) = va from hva)
      have HVB := hide2 (show onlyL (s.net.trans.map fun t => t.pre.getD k 0) = vb from hvb)
      clear hva hvb hca hcb
      go_upto_region 4 with fail
      generalize hw1 : wr.alloc (.cells #[.int .i64 k] 3) = w1
      have D1 := hide2 (show Below w.heap.size w w1 by rw [← hw1]; exact hb.out.alloc hb.out.size _)
      have XP := hide2 (show Box w1 wr.heap.size 3 #[.int .i64 k] by rw [← hw1]; exact Box.new _ _ _)
      obtain ⟨bp, hbp⟩ : ∃ q, wr.heap.size = q := ⟨_, rfl⟩
      have NPB := hide2 (show bp ≠ b by have := hb.out.size; have := BLW.out; omega)
      rw [hbp] at XP
      rw [hbp]
      have X1 := hide2 (HX.out.keep D1.out)
      have x1 : w1.cell? ⟨b, 1, none⟩ = some (.slice A n c) := X1.out.cell 1
      have C1 := hide2 (only_calls (Trans.keep H.out D1.out) (wtpost_is HOK.out (by rw [HPP.out]; omega) XP.out) hn)
      rw [HVA.out] at C1
      clear hw1 hb hbp hnp
      go_wp2_with fail
      (with_reducible refine C1.out.mono ?_)
      rintro e w2 ⟨rfl, hb⟩
      have D2 := hide2 (D1.out.trans (hb.mono D1.out.size))
      have XP2 := hide2 (XP.out.keep hb)
      have X2 := hide2 (HX.out.keep D2.out)
      have x2 : w2.cell? ⟨b, 1, none⟩ = some (.slice A n c) := X2.out.cell 1
      have C2 := hide2 (only_calls (Trans.keep H.out D2.out) (wtpre_is HOK.out (by rw [HPP.out]; omega) XP2.out) hn)
      rw [HVB.out] at C2
      clear hb x1 X1 C1
      go_wp2_with fail
      (with_reducible refine C2.out.mono ?_)
      rintro e w3 ⟨rfl, hb⟩
      have D3 := hide2 (D2.out.trans (hb.mono D2.out.size))
      have XP3 := hide2 (XP2.out.keep hb)
      have X3 := hide2 (HX.out.keep D3.out)
      have x3 : w3.cell? ⟨b, 1, none⟩ = some (.slice A n c) := X3.out.cell 1
      have y3 : w3.cell? ⟨bp, 0, none⟩ = some (.int .i64 k) := XP3.out.cell 0
      have C3 := hide2 (inner_calls (p := k) (HS.out.keep D3.out))
      have T3 := hide2 (Trans.keep H.out D3.out)
      clear hb x2 X2 C2 XP XP2
      rw [hvi] at C3
      clear hvi
      have NO := hide2 (show serOk s k va vb = false → ∀ a, a < k + 1 → serP s a = none from fun hf => GO.out (by rw [SV.out, if_neg (by rw [hf]; exact Bool.false_ne_true)]))
      cases vi
      · have GG := hide2 (NO.out (by unfold serOk; rw [VI.out]; rfl))
        go_wp2_with ((with_reducible refine C3.out.mono ?_); rintro e w4 ⟨rfl, hq⟩; obtain rfl : w3 = w4 := hq.symm; clear hq)
        go_roundg (gk - 1)
        case measure => omega
        case rel => exact ⟨k + 1, by omega, by simp, GG.out, D3.out⟩
      · rcases HCA.out with rfl | ⟨ka, rfl, hka⟩
        · have GG := hide2 (NO.out (by unfold serOk; simp))
          go_wp2_with ((with_reducible refine C3.out.mono ?_); rintro e w4 ⟨rfl, hq⟩; obtain rfl : w3 = w4 := hq.symm; clear hq)
          go_roundg (gk - 1)
          case measure => omega
          case rel => exact ⟨k + 1, by omega, by simp, GG.out, D3.out⟩
        · rcases HCB.out with rfl | ⟨kb, rfl, hkb⟩
          · have GG := hide2 (NO.out (by unfold serOk; simp))
            go_wp2_with ((with_reducible refine C3.out.mono ?_); rintro e w4 ⟨rfl, hq⟩; obtain rfl : w3 = w4 := hq.symm; clear hq)
            go_roundg (gk - 1)
            case measure => omega
            case rel => exact ⟨k + 1, by omega, by simp, GG.out, D3.out⟩
          · by_cases hab : ka = kb
            · subst hab
              have GG := hide2 (NO.out (by unfold serOk; simp))
              go_wp2_with ((with_reducible refine C3.out.mono ?_); rintro e w4 ⟨rfl, hq⟩; obtain rfl : w3 = w4 := hq.symm; clear hq)
              go_roundg (gk - 1)
              case measure => omega
              case rel => exact ⟨k + 1, by omega, by simp, GG.out, D3.out⟩
            · have hab' : ((ka : Int) == (kb : Int)) = false := by simpa using (show ¬ (ka : Int) = (kb : Int) by omega)
              obtain ⟨bl, off, t, A1, n1, c1, A2, n2, c2, rfl, hbl, ht, q0, q1, q2, i1, i2, m1, m2⟩ := Trans.get T3.out hka
              obtain ⟨bl', off', u, A3, n3, c3, A4, n4, c4, hA', hbl', hu, r0, r1, r2, i3, i4, m3, m4⟩ := Trans.get T3.out hkb
              injection hA' with hA'
              injection hA' with e1 e2
              subst e1 e2
              have UO := (tranOk_iff _ _).1 (((netOk_iff _).1 HOK.out).2.2.2 u (List.mem_of_getElem? hu.out))
              have hn3 : n3 ≤ 1000 := by have := UO.2.2.1; rw [i3.len, HPP.out] at this; omega
              have C4 := hide2 (sum_calls i3 (fun x hx => badW_false (by have := UO.2.2.2.2.1; rw [List.any_eq_false] at this; simpa using this x hx)) hn3)
              have I1 := hide2 i1
              have I2 := hide2 i2
              have I3 := hide2 i3
              have I4 := hide2 i4
              have HBL := hide2 hbl
              obtain ⟨S, hS⟩ : ∃ S, u.pre.sum = S := ⟨_, rfl⟩
              rw [hS] at C4
              have HT := hide2 (tAt_get ht.out)
              have HU := hide2 (tAt_get hu.out)
              have HSum := hide2 hS
              clear i1 i2 i3 i4 UO hS hbl hbl'
              by_cases hS1 : S = 1
              · subst hS1
                go_upto_region 7 with (first | ((with_reducible refine C3.out.mono ?_); rintro e w4 ⟨rfl, hq⟩; obtain rfl : w3 = w4 := hq.symm; clear hq) | ((with_reducible refine C4.out.mono ?_); rintro e w4 ⟨rfl, hq⟩; obtain rfl : w3 = w4 := hq.symm; clear hq))
                have BLT := hide2 X3.out.lt
                have KEEP3 := hide2 (show ∀ w', Below w3.heap.size w3 w' → w'.cell? ⟨b, 1, none⟩ = some (.slice (some ⟨bl, off, none⟩) n c) ∧ w'.cell? ⟨bl, off + ka * 3, none⟩ = some (.int .i64 t.label) ∧ w'.cell? ⟨bl, off + ka * 3 + 1, none⟩ = some (.slice A1 n1 c1) ∧ w'.cell? ⟨bl, off + ka * 3 + 2, none⟩ = some (.slice A2 n2 c2) ∧ w'.cell? ⟨bl, off + kb * 3, none⟩ = some (.int .i64 u.label) ∧ w'.cell? ⟨bl, off + kb * 3 + 1, none⟩ = some (.slice A3 n3 c3) ∧ w'.cell? ⟨bl, off + kb * 3 + 2, none⟩ = some (.slice A4 n4 c4) from fun w' hb => by
                  have h4 := hb
                  exact ⟨(h4.cell (p := ⟨b, 1, none⟩) BLT.out).trans x3, (h4.cell (p := ⟨bl, off + ka * 3, none⟩) HBL.out).trans q0, (h4.cell (p := ⟨bl, off + ka * 3 + 1, none⟩) HBL.out).trans q1, (h4.cell (p := ⟨bl, off + ka * 3 + 2, none⟩) HBL.out).trans q2, (h4.cell (p := ⟨bl, off + kb * 3, none⟩) HBL.out).trans r0, (h4.cell (p := ⟨bl, off + kb * 3 + 1, none⟩) HBL.out).trans r1, (h4.cell (p := ⟨bl, off + kb * 3 + 2, none⟩) HBL.out).trans r2⟩)
                refine wp_region_scr 19 (.takes [0, 1, 2, 3, 4, 5, 6, 7, 8, 9, 10, 11, 12, 13, 14, 15] (.two 16 (.one 17 (.one 18 (.fin 19 .done))) 17 (.one 16 (.one 18 (.fin 19 .done))))) (fun w' => w'.cell? ⟨b, 1, none⟩ = some (.slice (some ⟨bl, off, none⟩) n c) ∧ w'.cell? ⟨bl, off + ka * 3, none⟩ = some (.int .i64 t.label) ∧ w'.cell? ⟨bl, off + ka * 3 + 1, none⟩ = some (.slice A1 n1 c1) ∧ w'.cell? ⟨bl, off + ka * 3 + 2, none⟩ = some (.slice A2 n2 c2) ∧ w'.cell? ⟨bl, off + kb * 3, none⟩ = some (.int .i64 u.label) ∧ w'.cell? ⟨bl, off + kb * 3 + 1, none⟩ = some (.slice A3 n3 c3) ∧ w'.cell? ⟨bl, off + kb * 3 + 2, none⟩ = some (.slice A4 n4 c4)) (by kernel_rfl) (by kernel_rfl) (by kernel_rfl) (fun _ _ _ _ _ h => by exact h) (KEEP3.out w3 (Below.refl _ _)) (fun hHeld => ?_)
                simp only [Scr.takes]
                generalize hwd : w3.drew = w4 at *
                have W4 := hide2 (show Below w3.heap.size w3 w4 by rw [← hwd]; exact (Below.refl _ _).drew)
                have KEEP := hide2 (fun (w' : World) (hb : Below w4.heap.size w4 w') => KEEP3.out w' (W4.out.trans (hb.mono W4.out.size)))
                clear hwd
                iterate 16
                  refine tkTake (v := ?_) rfl (by rfl) hHeld (fun w' hSw => ?_) ?_
                  rotate_left
                  · (go_simp; try with_reducible rfl)
                  try simp only [Act.put, List.setIfInBounds_toArray, List.set_cons_zero, List.set_cons_succ]
                refine scrEnd (.one 18 (.fin 19 .done)) (fun a0 a' w' => ∃ b6 b7 : Nat, a' = (a0.put (some 6) (.pointer (some ⟨b6, 0, none⟩))).put (some 7) (.pointer (some ⟨b7, 0, none⟩)) ∧ Hid (b6 ≠ b7) ∧ Hid (w4.heap.size ≤ b6 ∧ w4.heap.size ≤ b7) ∧ Hid (Box w' b6 76 #[.int .i64 0, .slice none 0 0, .slice none 0 0]) ∧ Hid (Box w' b7 76 #[.int .i64 0, .slice none 0 0, .slice none 0 0]) ∧ Hid (Below w4.heap.size w4 w')) ?_ (fun EN => ?_)
                rotate_left
                · refine tkTwo rfl rfl (fun K hK => ?_) (fun K hK => ?_)
                  · go_simp
                    have B1 := hide2 (show Below w4.heap.size w4 (w4.alloc (.cells #[.int .i64 0, .slice none 0 0, .slice none 0 0] 76)) from boxBelow _ _)
                    refine hK.out _ _ (KEEP.out _ B1.out) (fun hHeld => ?_)
                    clear hK
                    try simp only [Act.put, List.setIfInBounds_toArray, List.set_cons_zero, List.set_cons_succ]
                    refine tkOne rfl (fun K hK => ?_)
                    go_simp
                    have B2 := hide2 (show Below w4.heap.size w4 ((w4.alloc (.cells #[.int .i64 0, .slice none 0 0, .slice none 0 0] 76)).alloc (.cells #[.int .i64 0, .slice none 0 0, .slice none 0 0] 76)) from B1.out.alloc B1.out.size _)
                    refine hK.out _ _ (KEEP.out _ B2.out) (fun hHeld => ?_)
                    clear hK
                    try simp only [Act.put, List.setIfInBounds_toArray, List.set_cons_zero, List.set_cons_succ]
                    exact EN.out _ _ ⟨w4.heap.size, w4.heap.size + 1, rfl, hide2 (by omega), hide2 (by omega), hide2 ((Box.new _ _ _).old _), hide2 (Box.newAt (by simp) _ _), B2⟩ hHeld
                  · go_simp
                    have B1 := hide2 (show Below w4.heap.size w4 (w4.alloc (.cells #[.int .i64 0, .slice none 0 0, .slice none 0 0] 76)) from boxBelow _ _)
                    refine hK.out _ _ (KEEP.out _ B1.out) (fun hHeld => ?_)
                    clear hK
                    try simp only [Act.put, List.setIfInBounds_toArray, List.set_cons_zero, List.set_cons_succ]
                    refine tkOne rfl (fun K hK => ?_)
                    go_simp
                    have B2 := hide2 (show Below w4.heap.size w4 ((w4.alloc (.cells #[.int .i64 0, .slice none 0 0, .slice none 0 0] 76)).alloc (.cells #[.int .i64 0, .slice none 0 0, .slice none 0 0] 76)) from B1.out.alloc B1.out.size _)
                    refine hK.out _ _ (KEEP.out _ B2.out) (fun hHeld => ?_)
                    clear hK
                    try simp only [Act.put, List.setIfInBounds_toArray, List.set_cons_zero, List.set_cons_succ]
                    exact EN.out _ _ ⟨w4.heap.size + 1, w4.heap.size, rfl, hide2 (by omega), hide2 (by omega), hide2 (Box.newAt (by simp) _ _), hide2 ((Box.new _ _ _).old _), B2⟩ hHeld
                rintro a' w5 ⟨b6, b7, rfl, hne, hlo, SX6, SX7, SB⟩ hHeld
                try simp only [Act.put, List.setIfInBounds_toArray, List.set_cons_zero, List.set_cons_succ]
                have f60 := SX6.out.frozen 0
                have f61 := SX6.out.frozen 1
                have f62 := SX6.out.frozen 2
                obtain ⟨g60, g61, g62⟩ := SX6.out.three
                refine tkOne rfl (fun K hK => ?_)
                go_simp
                have SY6 := hide2 (SX6.out.set3 (.int .i64 t.label) (.slice A1 n1 c1) (.slice A2 n2 c2))
                have SY7 := hide2 (SX7.out.other3 (Ne.symm hne.out) (.int .i64 t.label) (.slice A1 n1 c1) (.slice A2 n2 c2))
                have SB6 := hide2 (below_set3 SB.out hlo.out.1 (.int .i64 t.label) (.slice A1 n1 c1) (.slice A2 n2 c2))
                refine hK.out _ _ (KEEP.out _ SB6.out) (fun hHeld => ?_)
                clear hK
                try simp only [Act.put, List.setIfInBounds_toArray, List.set_cons_zero, List.set_cons_succ]
                clear f60 f61 f62 g60 g61 g62 SX6 SX7 SB
                generalize ((w5.setCell ⟨b6, 0, none⟩ (.int .i64 t.label)).setCell ⟨b6, 1, none⟩ (.slice A1 n1 c1)).setCell ⟨b6, 2, none⟩ (.slice A2 n2 c2) = w6 at *
                have f70 := SY7.out.frozen 0
                have f71 := SY7.out.frozen 1
                have f72 := SY7.out.frozen 2
                obtain ⟨g70, g71, g72⟩ := SY7.out.three
                refine tkEnd rfl (fun K hK => ?_)
                go_simp
                have SZ7 := hide2 (SY7.out.set3 (.int .i64 u.label) (.slice A3 n3 c3) (.slice A4 n4 c4))
                have SZ6 := hide2 (SY6.out.other3 hne.out (.int .i64 u.label) (.slice A3 n3 c3) (.slice A4 n4 c4))
                have SB7 := hide2 (below_set3 SB6.out hlo.out.2 (.int .i64 u.label) (.slice A3 n3 c3) (.slice A4 n4 c4))
                refine hK.out _ _ ?_
                clear hK
                try simp only [Act.put, List.setIfInBounds_toArray, List.set_cons_zero, List.set_cons_succ]
                clear f70 f71 f72 g70 g71 g72 SY6 SY7 SB6
                generalize ((w6.setCell ⟨b7, 0, none⟩ (.int .i64 u.label)).setCell ⟨b7, 1, none⟩ (.slice A3 n3 c3)).setCell ⟨b7, 2, none⟩ (.slice A4 n4 c4) = w7 at *
                refine tkDone ?_
                clear hHeld KEEP KEEP3
                have D7 := hide2 (D3.out.trans ((W4.out.trans (SB7.out.mono W4.out.size)).mono D3.out.size))
                have B37 := hide2 (W4.out.trans (SB7.out.mono W4.out.size))
                have J2 := hide2 (Ints.keep I2.out B37.out)
                have C5 := hide2 (cloneInts_calls J2.out m2)
                have LT := hide2 (SmM.lens HOK.out ht.out)
                have LU := hide2 (SmM.lens HOK.out hu.out)
                have hn2 : n2 = P := by have := LT.out.2; rw [I2.out.len, HPP.out] at this; omega
                have hn4 : n4 = P := by have := LU.out.2; rw [I4.out.len, HPP.out] at this; omega
                subst hn2
                have hn4' := hide2 hn4
                have e62 : w7.cell? ⟨b6, 2, none⟩ = some (.slice A2 n2 c2) := SZ6.out.cell 2
                clear hn4
                go_wp2_with fail
                (with_reducible refine C5.out.mono ?_)
                rintro e w8 ⟨v8, rfl, o8, hb8⟩
                obtain ⟨g8, cap8, hv8, hg8, hlt8⟩ := o8.form (by omega)
                subst hv8
                have Q6 := hide2 (SZ6.out.keep hb8)
                have Q7 := hide2 (SZ7.out.keep hb8)
                have QB := hide2 (X3.out.keep (B37.out.trans (hb8.mono B37.out.size)))
                have QP := hide2 (XP3.out.keep (B37.out.trans (hb8.mono B37.out.size)))
                have O8 := hide2 o8
                have B78 := hide2 hb8
                have N6 := hide2 (show g8 ≠ b6 by have := SZ6.out.lt; omega)
                have N7 := hide2 (show g8 ≠ b7 by have := SZ7.out.lt; omega)
                have NP := hide2 (show g8 ≠ bp by have := (XP3.out.keep B37.out).lt; omega)
                have NB := hide2 (show g8 ≠ b by have := (X3.out.keep B37.out).lt; omega)
                have G8 := hide2 hg8
                have J4 := hide2 (Ints.keep I4.out B37.out)
                have N6B := hide2 (show b6 ≠ b by have := hlo.out.1; have := BLT.out; have := W4.out.size; omega)
                have LEN := hide2 I2.out.len
                clear e62 hb8 o8 hlt8 SZ6 SZ7 SB7
                go_wp2
                obtain ⟨wo, hwo⟩ : ∃ wo : World, wo = w8 := ⟨_, rfl⟩
                subst hwo
                obtain ⟨gO, hgO⟩ : ∃ g : Nat, g = gk := ⟨_, rfl⟩
                subst hgO
                go_loopg [83] n2 (fun gj i wr => ∃ q : Nat, q + gj = n2 ∧ i = .int .i64 q ∧ Hid (OwnInts wr w7.heap.size (.slice (some ⟨g8, 0, none⟩) n2 cap8) n2 (mixQ t.post u.post q)) ∧ Hid (Below w7.heap.size w7 wr) ∧ Hid (Beside g8 wo wr))
                case atStart => exact ⟨0, by omega, rfl, by rw [mixQ_zero]; exact O8.out, B78.out, ⟨rfl, fun _ _ => rfl⟩⟩
                case round =>
                  obtain ⟨q, hq, rfl, own, hb, bes⟩ := hrel
                  by_cases hqn : q < n2
                  · obtain ⟨x, hx⟩ : ∃ x, t.post[q]? = some x := ⟨_, List.getElem?_eq_getElem (by rw [LEN.out]; exact hqn)⟩
                    have hq4 : q < n4 := by have := hn4'.out; omega
                    obtain ⟨b4, o4, y, hA4, hb4, hy, d4⟩ := Ints.get J4.out hq4
                    subst hA4
                    have hxb := badW_false (any_false_get ((tranOk_iff _ _).1 (((netOk_iff _).1 HOK.out).2.2.2 t (List.mem_of_getElem? ht.out))).2.2.2.2.2 hx)
                    have hyb := badW_false (any_false_get ((tranOk_iff _ _).1 (((netOk_iff _).1 HOK.out).2.2.2 u (List.mem_of_getElem? hu.out))).2.2.2.2.2 hy.out)
                    have hx0 := hxb.1
                    have hx9 := hxb.2
                    have hy0 := hyb.1
                    have hy9 := hyb.2
                    have c8 : wr.cell? ⟨g8, q, none⟩ = some (.int .i64 x) := own.out.at (mixQ_get hx)
                    have f8 : wr.frozen? ⟨g8, q, none⟩ = false := own.out.frozen q
                    have c7 : wr.cell? ⟨b7, 2, none⟩ = some (.slice (some ⟨b4, o4, none⟩) n4 c4) := (bes.out.box Q7.out (Ne.symm N7.out)).cell 2
                    have d4' := (hb.out.cell (p := ⟨b4, o4 + q, none⟩) hb4).trans d4
                    have NX := hide2 (mixQ_set hx hy.out)
                    have OD := hide2 (show OwnInts wr.drew w7.heap.size (.slice (some ⟨g8, 0, none⟩) n2 cap8) n2 (mixQ t.post u.post q) from own.out.keep IntR.kept (Below.refl _ _).drew)
                    have HB := hide2 (show Below w7.heap.size w7 wr.drew from hb.out.drew)
                    have BE := hide2 (show Beside g8 wo wr.drew from bes.out)
                    clear hxb hyb hx d4 own hb bes
                    go_upto_region 12 with fail
                    refine wp_region_script 10 [(0, 0), (0, 1), (0, 2), (0, 3), (0, 4), (0, 5), (0, 6), (0, 7), (0, 8), (0, 9), (2, 10), (2, 11)] (fun w' => w'.cell? ⟨g8, q, none⟩ = some (.int .i64 x) ∧ w'.cell? ⟨b7, 2, none⟩ = some (.slice (some ⟨b4, o4, none⟩) n4 c4) ∧ w'.cell? ⟨b4, o4 + q, none⟩ = some (.int .i64 y)) (by kernel_rfl) (by kernel_rfl) (by kernel_rfl) (fun _ _ _ _ _ h => h) ⟨c8, c7, d4'⟩ (fun hHeld => ?_)
                    iterate 10
                      refine scTake (v := ?_) rfl (by rfl) hHeld (fun w' hSw => ?_) ?_
                      rotate_left
                      · (go_simp; try with_reducible rfl)
                      try simp only [Act.put, List.setIfInBounds_toArray, List.set_cons_zero, List.set_cons_succ]
                    refine scEnd rfl (fun K hK => ?_)
                    go_simp
                    refine hK.out _ _ ?_
                    clear hK
                    try simp only [Act.put, List.setIfInBounds_toArray, List.set_cons_zero, List.set_cons_succ]
                    refine scEnd rfl (fun K hK => ?_)
                    go_simp
                    refine hK.out _ _ ?_
                    clear hK
                    try simp only [Act.put, List.setIfInBounds_toArray, List.set_cons_zero, List.set_cons_succ]
                    simp only [wpScript]
                    go_wp2
                    go_roundg (gk - 1)
                    case measure => omega
                    case rel => exact ⟨q + 1, by omega, by simp, by rw [← NX.out]; exact OD.out.put q (x + y), HB.out.setCell (p := ⟨g8, q, none⟩) G8.out _, BE.out.trans (Beside.set _ _ _ _)⟩
                  · obtain rfl : q = n2 := by omega
                    have ADD := hide2 (show mixQ t.post u.post q = addL t.post u.post by rw [← LEN.out]; exact mixQ_all _ _)
                    have O9 := hide2 (show OwnInts wr w7.heap.size (.slice (some ⟨g8, 0, none⟩) q cap8) q (addL t.post u.post) by rw [← ADD.out]; exact own.out)
                    have hkl : k < (addL t.post u.post).length := by rw [O9.out.len]; exact hlt
                    have c8 := O9.out.at (List.getElem?_eq_getElem hkl)
                    have f8 : wr.frozen? ⟨g8, k, none⟩ = false := O9.out.frozen k
                    have R6 := hide2 (bes.out.box Q6.out (Ne.symm N6.out))
                    have RP := hide2 (bes.out.box QP.out (Ne.symm NP.out))
                    have RB := hide2 (bes.out.box QB.out (Ne.symm NB.out))
                    have cp : wr.cell? ⟨bp, 0, none⟩ = some (.int .i64 k) := RP.out.cell 0
                    have B79 := hide2 hb.out
                    clear own hb bes
                    go_upto_region 15 with fail
                    generalize hw10 : wr.setCell ⟨g8, k, none⟩ (.int .i64 0) = w10
                    have BE10 : Beside g8 wr w10 := by rw [← hw10]; exact Beside.set _ _ _ _
                    have O10 := hide2 (show OwnInts w10 w7.heap.size (.slice (some ⟨g8, 0, none⟩) q cap8) q (mergeT t u k).post by rw [← hw10]; exact O9.out.put k 0)
                    have T6 := hide2 (BE10.box R6.out (Ne.symm N6.out))
                    have TP := hide2 (BE10.box RP.out (Ne.symm NP.out))
                    have TB := hide2 (BE10.box RB.out (Ne.symm NB.out))
                    have B710 := hide2 (show Below w7.heap.size w7 w10 by rw [← hw10]; exact B79.out.setCell (p := ⟨g8, k, none⟩) G8.out _)
                    have D10 := hide2 (D7.out.trans (B710.out.mono D7.out.size))
                    obtain ⟨C10, e10, hv10, i10⟩ := O10.out.sl (by omega)
                    injection hv10 with a1 a2 a3
                    subst a1 a3
                    have CM := hide2 (max_calls i10 (by omega))
                    have SOK := hide2 (show serOk s k ka kb = (mergeT t u k).post.all fun x => decide (x ≤ 9) by
                      unfold serOk
                      rw [VI.out, Int.toNat_natCast, Int.toNat_natCast, HT.out, HU.out, HSum.out]
                      have z1 : decide ((ka : Int) < 0) = false := by simp
                      have z2 : decide ((kb : Int) < 0) = false := by simp
                      have z3 : decide ((ka : Int) = (kb : Int)) = false := decide_eq_false (by omega)
                      rw [z1, z2, z3]
                      simp)
                    clear hw10 BE10 c8 f8 cp i10 O9 R6 RP RB B79
                    go_wp2_with fail
                    (with_reducible refine CM.out.mono ?_)
                    rintro e w10' ⟨m, rfl, hq, hm1, hm2⟩
                    obtain rfl : w10 = w10' := hq.symm
                    clear hq
                    have HM1 := hide2 hm1
                    have HM2 := hide2 hm2
                    clear hm1 hm2
                    by_cases h9 : 9 < m
                    · have GG := hide2 (NO.out (by rw [SOK.out, List.all_eq_false]; exact ⟨m, HM1.out, by simpa using h9⟩))
                      go_wp2
                      go_roundg (gO - 1)
                      case measure => omega
                      case rel => exact ⟨k + 1, by omega, by simp, GG.out, D10.out⟩
                    · have SOT := hide2 (show serOk s k ka kb = true by rw [SOK.out, List.all_eq_true]; exact fun x hx => by have := HM2.out x hx; simp; omega)
                      have CT := hide2 (cloneOwn_calls (Sl.keep (OwnTranR.kept B) HSL.out D10.out) (by omega))
                      have tb : w10.cell? ⟨b, 1, none⟩ = some (.slice (some ⟨bl, off, none⟩) n c) := TB.out.cell 1
                      go_wp2_with fail
                      (with_reducible refine CT.out.mono ?_)
                      rintro e w11 ⟨v11, rfl, o11, hb11⟩
                      obtain ⟨g11, cap11, hv11, hg11, hlt11⟩ := o11.form (by omega)
                      subst hv11
                      have U6 := hide2 (T6.out.keep hb11)
                      have UP := hide2 (TP.out.keep hb11)
                      have UB := hide2 (TB.out.keep hb11)
                      have O11 := hide2 (O10.out.keep IntR.kept hb11)
                      have OT11 := hide2 o11
                      have B310 := B37.out.trans (B710.out.mono B37.out.size)
                      have B311 := hide2 (B310.trans (hb11.mono B310.size))
                      clear B310
                      have D11 := hide2 (D10.out.trans (hb11.mono D10.out.size))
                      have M6 := hide2 (show g11 ≠ b6 by have := T6.out.lt; omega)
                      have MP := hide2 (show g11 ≠ bp by have := TP.out.lt; omega)
                      have MB := hide2 (show g11 ≠ b by have := TB.out.lt; omega)
                      have MG := hide2 (show w.heap.size ≤ g11 by have := D10.out.size; omega)
                      have ub1 : w11.cell? ⟨b, 1, none⟩ = some (.slice (some ⟨bl, off, none⟩) n c) := UB.out.cell 1
                      have uf1 := UB.out.frozen 1
                      clear hb11 o11 hg11 hlt11 tb
                      go_upto_region 17 with fail
                      generalize hw12 : w11.setCell ⟨b, 1, none⟩ (.slice (some ⟨g11, 0, none⟩) n cap11) = w12
                      have gr12 : w11.grownBy w12 (some b) := by rw [← hw12]; exact grown_setB (grown_reflB w11 _)
                      have V6 := hide2 (U6.out.grown gr12 (by simpa using Ne.symm N6B.out))
                      have VP := hide2 (UP.out.grown gr12 (by simpa using Ne.symm NPB.out))
                      have VB := hide2 (show Box w12 b 66 #[.int .i64 q, .slice (some ⟨g11, 0, none⟩) n cap11, .int .i64 s.i, .int .i64 s.o] by
                        rw [← hw12]
                        have := UB.out.set 1 (.slice (some ⟨g11, 0, none⟩) n cap11)
                        simpa using this)
                      have OT12 := hide2 (own_box UB.out gr12 OT11.out)
                      obtain ⟨vs, V0, V1, RT⟩ := ownAt (Sl.keep (OwnTranR.kept B) HSL.out D3.out) hka ht.out q1
                      have RT12 := (OwnTranR.kept B _ _ _ _ B311.out RT).box UB.out (by decide) gr12
                      have O12 := (O11.out.kept gr12 (row_ne_box O11.out UB.out (by decide)) (fun _ _ h => h)).base (B' := B) (by have := D7.out.size; have := BLW.out; omega)
                      have NEWT := hide2 (show OwnTranR B w12.drew (fun j => [Value.int .i64 t.label, .slice A1 n1 c1, .slice (some ⟨g8, 0, none⟩) q cap8].getD j undef) (mergeT t u k) from by
                        refine OwnTranR.kept B w12 _ _ _ (Below.refl _ _).drew ?_
                        obtain ⟨r0, k1, k2, r1, r2, r3, r4⟩ := RT12
                        rw [V1] at r1
                        have hk1 : k1 = n1 := by
                          obtain ⟨C, cc, hv, _⟩ := r1.sl (by omega)
                          injection hv with _ e _
                          exact e.symm
                        subst hk1
                        exact ⟨rfl, k1, q, r1, O12, r3, by omega⟩)
                      have gr11 := hide2 (grown_transB (grown_below (grown_reflB w (some b)) D11.out) gr12)
                      have OTd := hide2 (OT12.out.keep (OwnTranR.kept _) (show Below w12.heap.size w12 w12.drew from (Below.refl _ _).drew))
                      have KPd := hide2 (keepTran2 OTd.out)
                      obtain ⟨⟨z0, s0⟩, ⟨z1, s1⟩, ⟨z2, s2⟩, sf0, sf1, sf2⟩ := ownCells OTd.out hka
                      have vb1 : w12.cell? ⟨b, 1, none⟩ = some (.slice (some ⟨g11, 0, none⟩) n cap11) := VB.out.cell 1
                      have v60 : w12.cell? ⟨b6, 0, none⟩ = some (.int .i64 t.label) := V6.out.cell 0
                      have v61 : w12.cell? ⟨b6, 1, none⟩ = some (.slice A1 n1 c1) := V6.out.cell 1
                      clear hw12 gr12 ub1 uf1 RT RT12 O12 V0 V1
                      refine wp_region_script 12 [(0, 0), (0, 1), (0, 2), (0, 3), (0, 4), (0, 5), (0, 6), (0, 7), (0, 8), (0, 9), (0, 10), (0, 11), (2, 12), (2, 13)] (fun w' => w'.cell? ⟨b, 1, none⟩ = some (.slice (some ⟨g11, 0, none⟩) n cap11) ∧ w'.cell? ⟨b6, 0, none⟩ = some (.int .i64 t.label) ∧ w'.cell? ⟨b6, 1, none⟩ = some (.slice A1 n1 c1)) (by kernel_rfl) (by kernel_rfl) (by kernel_rfl) (fun _ _ _ _ _ h => h) ⟨vb1, v60, v61⟩ (fun hHeld => ?_)
                      have VPd := hide2 (show Box w12.drew bp 3 #[.int .i64 k] from VP.out)
                      have VBd := hide2 (show Box w12.drew b 66 #[.int .i64 q, .slice (some ⟨g11, 0, none⟩) n cap11, .int .i64 s.i, .int .i64 s.o] from VB.out)
                      have GRd := hide2 (show w.grownBy w12.drew (some b) from grown_below gr11.out (grown_refl_below w12 w.heap.size))
                      clear VP VB V6 gr11 OT12 
                      generalize w12.drew = w12d at *
                      iterate 12
                        refine scTake (v := ?_) rfl (by rfl) hHeld (fun w' hSw => ?_) ?_
                        rotate_left
                        · (go_simp; try with_reducible rfl)
                        try simp only [Act.put, List.setIfInBounds_toArray, List.set_cons_zero, List.set_cons_succ]
                      refine scEnd rfl (fun K hK => ?_)
                      go_simp
                      refine hK.out _ _ ?_
                      clear hK
                      try simp only [Act.put, List.setIfInBounds_toArray, List.set_cons_zero, List.set_cons_succ]
                      refine scEnd rfl (fun K hK => ?_)
                      go_simp
                      refine hK.out _ _ ?_
                      clear hK
                      try simp only [Act.put, List.setIfInBounds_toArray, List.set_cons_zero, List.set_cons_succ]
                      simp only [wpScript]
                      generalize hw13 : ((w12d.setCell ⟨g11, ka * 3, none⟩ (.int .i64 t.label)).setCell ⟨g11, ka * 3 + 1, none⟩ (.slice A1 n1 c1)).setCell ⟨g11, ka * 3 + 2, none⟩ (.slice (some ⟨g8, 0, none⟩) q cap8) = w13
                      have PT := OwnSl.put3 OTd.out hka hw13.symm KPd.out NEWT.out
                      have XPf := hide2 (VPd.out.grown PT.2 (by simpa using MP.out))
                      have XBf := hide2 (VBd.out.grown PT.2 (by simpa using MB.out))
                      have GR13 := hide2 (grown_far GRd.out PT.2 MG.out)
                      have OK13 := hide2 (show netOk ⟨s.net.places, s.net.trans.set ka (mergeT t u k)⟩ = true from netOk_set HOK.out (merge_ok (((netOk_iff _).1 HOK.out).2.2.2 t (List.mem_of_getElem? ht.out)) (((netOk_iff _).1 HOK.out).2.2.2 u (List.mem_of_getElem? hu.out)) (fun x hx => by have := HM2.out x hx; omega)))
                      have SM13 := hide2 (show SmM B b w13 { s with net := ⟨s.net.places, s.net.trans.set ka (mergeT t u k)⟩ } from ⟨_, n, cap11, BLW.out.1, by show Box w13 b 66 #[.int .i64 s.net.places, _, .int .i64 s.i, .int .i64 s.o]; rw [HPP.out]; exact XBf.out, PT.1.base (by have := BLW.out; have := D10.out.size; omega), hn⟩)
                      have DT := hide2 (dropTran_calls (k := kb) SM13.out (by show kb < (s.net.trans.set ka (mergeT t u k)).length; rw [List.length_set, HL.out]; exact hkb))
                      clear PT hw13 OTd KPd NEWT VPd VBd GRd s0 s1 s2 sf0 sf1 sf2
                      go_wp2_with fail
                      (with_reducible refine DT.out.mono ?_)
                      rintro e w14 ⟨rfl, hs14, hg14⟩
                      have XP14 := hide2 (XPf.out.grown hg14 (by simpa using Ne.symm NPB.out))
                      have GR14 := hide2 (grown_transB GR13.out hg14)
                      have cp14 : w14.cell? ⟨bp, 0, none⟩ = some (.int .i64 k) := XP14.out.cell 0
                      have DP := hide2 (dropPlace_calls (p := k) hs14 (netOk_erase OK13.out kb) (by show (k : Int) < s.net.places; rw [HPP.out]; omega) HI.out HO.out)
                      clear hs14 hg14
                      go_wp2_with fail
                      (with_reducible refine DP.out.mono ?_)
                      rintro e w15 ⟨rfl, hs15, hg15⟩
                      have R15 := hide2 hs15
                      have GR15 := hide2 (grown_transB GR14.out hg15)
                      have FF := hide2 (F2.out _ (by rw [SV.out, if_pos SOT.out, Int.toNat_natCast, Int.toNat_natCast]))
                      clear hs15 hg15
                      go_wp2
                      go_ret
                      exact ⟨by rw [FF.out]; rfl, by rw [FF.out]; show SmM B b w15 (serDo s k ka kb); unfold serDo; rw [HT.out, HU.out]; exact R15.out, GR15.out⟩
              · have GG := hide2 (NO.out (by unfold serOk; rw [Int.toNat_natCast, HU.out, HSum.out, decide_eq_false hS1]; simp))
                have hS2 : (S == 1) = false := by simpa using hS1
                have hS3 : (S != 1) = true := by simpa using hS1
                go_wp2_with (first | ((with_reducible refine C3.out.mono ?_); rintro e w4 ⟨rfl, hq⟩; obtain rfl : w3 = w4 := hq.symm; clear hq) | ((with_reducible refine C4.out.mono ?_); rintro e w4 ⟨rfl, hq⟩; obtain rfl : w3 = w4 := hq.symm; clear hq))
                go_roundg (gk - 1)
                case measure => omega
                case rel => exact ⟨k + 1, by omega, by simp, GG.out, D3.out⟩
    · obtain rfl : k = P := by omega
      have E := hide2 (F1.out hnp.out)
      go_wp2
      go_ret
      exact ⟨by rw [E.out]; rfl, by rw [E.out]; exact HS.out.keep hb.out, grown_below (grown_reflB w _) hb.out⟩
end Go.Proofs.Ytadepofaobdbhaa
