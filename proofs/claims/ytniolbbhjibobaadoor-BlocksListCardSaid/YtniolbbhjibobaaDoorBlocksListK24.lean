/- The contract of blocks' after: a loop (the drawn region is printed by gen/bwR.py). Conditions: the block reads as one and is right; what it holds lies below M. -/
import Derived.Test.YtniolbbhjibobaaDoorBlocksListK23
import Derived.Test.YtniolbbhjibobaaDoorBlocksListK05
set_option linter.all false
namespace Go.Proofs.YtniolbbhjibobaaDoor
open Go.RowKit

theorem scrEndW {P : Program} {ops : Array Oper} {Q : Exit → Act → World → Prop} {S : World → Prop} {T : Scr} (Tend : Scr) {a0 : Act} {w0 : World} (F : Act → Act → World → Prop) (hF : ∀ a' w', F a0 a' w' → S w' → wpScr P ops Q S Tend a' w')
    (h : Hid (∀ a' w', F a0 a' w' → S w' → wpScr P ops Q S Tend a' w') → wpScr P ops Q S T a0 w0) : wpScr P ops Q S T a0 w0 := h hF
set_option maxRecDepth 100000 in
set_option maxHeartbeats 16000000 in
theorem bwAft_loop {S : Nat → Prop} {f : Nat} {l a : Int} {A : Option Addr} {n c : Nat} {x y : PBlk} {w : World} {M : Nat} (hA : AftA S f) (hz : szB x + szB y ≤ f) (hf : f ≤ 100000) (hwx : wfB x) (hwy : wfB y) (hM : M ≤ w.heap.size) (h : BX (fun q => q < M ∧ S q) w A n c [x, y]) : Calls Tryd.prog 21 #[.agg #[.int .i64 6, .int .i64 l, .slice A n c], .int .i64 a] w (AnsL S M (afterB (.mk 6 l [x, y]) a) w) := by
  obtain rfl : n = 2 := h.2.len.symm
  have B1 := hide2 (boxBelow w (.cells #[.int .i64 6, .int .i64 l, .slice A 2 c] 24))
  have BB := hide2 (Box.new w #[.int .i64 6, .int .i64 l, .slice A 2 c] 24)
  have H := hide2 (h.keep B1.out)
  have HA := hide2 hA
  have M1 := hide2 (Nat.le_trans hM B1.out.size)
  have NB := hide2 (show w.heap.size < (w.alloc (.cells #[.int .i64 6, .int .i64 l, .slice A 2 c] 24)).heap.size by simp)
  have WX := hide2 hwx
  have WY := hide2 hwy
  clear hA h hwx hwy
  go_enter Tryd.func21, Tryd.ntmps21
  go_upto_region 1 with fail
  generalize w.alloc (.cells #[.int .i64 6, .int .i64 l, .slice A 2 c] 24) = w1 at *
  obtain ⟨bl, off, kx, lx, ksx, X, nx, cx, rfl, hbl, hbM, hx, q0, q1, q2, KX⟩ := H.out.get (k := 0) (by omega)
  obtain ⟨bl', off', ky, ly, ksy, Y, ny, cy, e', _, _, hy, p0, p1, p2, KY⟩ := H.out.get (k := 1) (by omega)
  injection e' with e'
  injection e' with e1 e2
  subst e1 e2
  obtain rfl : x = .mk kx lx ksx := by injection hx.out
  obtain rfl : y = .mk ky ly ksy := by injection hy.out
  simp only [Nat.zero_mul, Nat.one_mul, Nat.add_zero, Nat.add_assoc, Nat.reduceAdd] at q0 q1 q2 p0 p1 p2
  obtain ⟨z0, z1, z2⟩ := BB.out.three
  go_upto_region 30 with fail
  obtain ⟨TY, hTY⟩ : ∃ TY, thnB (.mk ky ly ksy) (.mk 6 l [.mk kx lx ksx, .mk ky ly ksy]) = TY := ⟨_, rfl⟩
  have ETY := hide2 hTY
  have Bu0 := hide2 (show Below w1.heap.size w1 w1.drew from (Below.refl _ _).drew)
  have BX0 := hide2 (show M ≤ w.heap.size ∧ w.heap.size < w1.heap.size from ⟨hM, NB.out⟩)
  have CT := hide2 (fun (u : World) (hb : Below w1.heap.size w1 u) => show Calls _ _ _ _ (AnsB (fun q => (q < M ∧ S q) ∨ u.heap.size ≤ q) TY u) by rw [← hTY]; exact bwThn_calls (k := ky) (l := ly) (k2 := 6) (l2 := l) (KY.keep hb) (H.out.keep hb))
  have HS := hide2 (fun (u : World) (hb : Below w1.heap.size w1 u) => show u.cell? ⟨w.heap.size, 0, none⟩ = some (.int .i64 6) ∧ u.cell? ⟨w.heap.size, 1, none⟩ = some (.int .i64 l) ∧ u.cell? ⟨w.heap.size, 2, none⟩ = some (.slice (some ⟨bl, off, none⟩) 2 c) ∧ u.cell? ⟨bl, off + 3, none⟩ = some (.int .i64 ky) ∧ u.cell? ⟨bl, off + 4, none⟩ = some (.int .i64 ly) ∧ u.cell? ⟨bl, off + 5, none⟩ = some (.slice Y ny cy) from by
    have hbk := hb.block bl hbl
    have hbw := hb.block w.heap.size NB.out
    exact ⟨(World.cell?_of_block (a := ⟨w.heap.size, 0, none⟩) hbw).trans z0, (World.cell?_of_block (a := ⟨w.heap.size, 1, none⟩) hbw).trans z1, (World.cell?_of_block (a := ⟨w.heap.size, 2, none⟩) hbw).trans z2, (World.cell?_of_block (a := ⟨bl, off + 3, none⟩) hbk).trans p0, (World.cell?_of_block (a := ⟨bl, off + 4, none⟩) hbk).trans p1, (World.cell?_of_block (a := ⟨bl, off + 5, none⟩) hbk).trans p2⟩)
  clear z0 z1 z2 hTY
  refine wp_region_scr 10 (.takes [1, 2, 3, 4, 5] (.two 0 (.two 6 (.two 7 (.take 8 (.one 9 (.fin 10 .done))) 9 (.one 7 (.take 8 (.fin 10 .done)))) 9 (.one 6 (.one 7 (.take 8 (.fin 10 .done))))) 9 (.one 0 (.one 6 (.one 7 (.take 8 (.fin 10 .done))))))) (fun u => u.cell? ⟨w.heap.size, 0, none⟩ = some (.int .i64 6) ∧ u.cell? ⟨w.heap.size, 1, none⟩ = some (.int .i64 l) ∧ u.cell? ⟨w.heap.size, 2, none⟩ = some (.slice (some ⟨bl, off, none⟩) 2 c) ∧ u.cell? ⟨bl, off + 3, none⟩ = some (.int .i64 ky) ∧ u.cell? ⟨bl, off + 4, none⟩ = some (.int .i64 ly) ∧ u.cell? ⟨bl, off + 5, none⟩ = some (.slice Y ny cy)) (by kernel_rfl) (by kernel_rfl) (by kernel_rfl) (fun _ _ _ _ _ h => h) (HS.out _ Bu0.out) (fun hHeld => ?_)
  simp only [Scr.takes]
  generalize w1.drew = u0 at *
  iterate 5
    refine tkTake (v := ?_) rfl (by rfl) hHeld (fun w' hSw => ?_) ?_
    rotate_left
    · (obtain ⟨s0, s1, s2, s3, s4, s5⟩ := hSw; go_simp; try with_reducible rfl)
    try simp only [Act.put, List.setIfInBounds_toArray, List.set_cons_zero, List.set_cons_succ]
  refine scrEndW (.fin 10 .done) (fun a0 a' w' => ∃ (A2 : Option Addr) (n2 c2 : Nat) (A3 : Option Addr) (n3 c3 h4 b14 : Nat), a' = ((((a0.put (some 87) (.agg #[.int .i64 silB.kind, .int .i64 silB.label, .slice A2 n2 c2])).put (some 93) (.agg #[.int .i64 TY.kind, .int .i64 TY.label, .slice A3 n3 c3])).put (some 94) (.slice (some ⟨h4, 0, none⟩) 2 2)).put (some 95) (.agg #[.int .i64 4, .int .i64 0, .slice (some ⟨h4, 0, none⟩) 2 2])).put (some 14) (.pointer (some ⟨b14, 0, none⟩)) ∧ Hid (Box w' b14 24 #[.int .i64 0, .int .i64 0, .slice none 0 0]) ∧ Hid (w1.heap.size ≤ b14) ∧ Hid (BX (fun q => ((q < M ∧ S q) ∨ w.heap.size ≤ q) ∧ q ≠ b14) w' (some ⟨h4, 0, none⟩) 2 2 [.mk silB.kind silB.label [], .mk TY.kind TY.label TY.kids]) ∧ Hid (Below w1.heap.size w1 w')) ?_ (fun EN => ?_)
  rotate_left
  · refine tkTwo rfl rfl (fun Kf hKf => ?_) (fun Kf hKf => ?_)
    · go_simp; go_at_call 31
      (with_reducible refine (bwSil_calls (fun q => q < M ∧ S q) u0).mono ?_)
      rintro e u1 ⟨A2, n2, c2, rfl, hs, hb⟩
      have S2 := hide2 hs
      have Bu1 := hide2 (Bu0.out.trans (hb.mono Bu0.out.size))
      clear hs hb
      refine hKf.out _ _ (HS.out _ Bu1.out) (fun hHeld => ?_)
      clear hKf
      try simp only [Act.put, List.setIfInBounds_toArray, List.set_cons_zero, List.set_cons_succ]
      refine tkTwo rfl rfl (fun Kf hKf => ?_) (fun Kf hKf => ?_)
      · go_simp; go_at_call 34
        (with_reducible refine (CT.out u1 Bu1.out).mono ?_)
        rintro e u2 ⟨A3, n3, c3, rfl, hs, hb⟩
        have Tu2 := hide2 (hs.mono (T := fun q => ((q < M ∧ S q) ∨ w.heap.size ≤ q) ∧ q < u2.heap.size) (fun q hq h => ⟨h.elim .inl (fun h => .inr (by have := BX0.out; have := Bu1.out.size; omega)), hq⟩))
        have Bu2 := hide2 (Bu1.out.trans (hb.mono Bu1.out.size))
        clear hs hb
        refine hKf.out _ _ (HS.out _ Bu2.out) (fun hHeld => ?_)
        clear hKf
        try simp only [Act.put, List.setIfInBounds_toArray, List.set_cons_zero, List.set_cons_succ]
        refine tkTwo rfl rfl (fun Kf hKf => ?_) (fun Kf hKf => ?_)
        · go_simp
          have Bu3 := hide2 (Bu2.out.trans ((boxBelow u2 (.cells #[.int .i64 silB.kind, .int .i64 silB.label, .slice A2 n2 c2, .int .i64 TY.kind, .int .i64 TY.label, .slice A3 n3 c3] 24)).mono Bu2.out.size))
          have Nu3 := hide2 (Box.new u2 #[.int .i64 silB.kind, .int .i64 silB.label, .slice A2 n2 c2, .int .i64 TY.kind, .int .i64 TY.label, .slice A3 n3 c3] 24)
          have Tu3 := hide2 (Tu2.out.keep (boxBelow u2 (.cells #[.int .i64 silB.kind, .int .i64 silB.label, .slice A2 n2 c2, .int .i64 TY.kind, .int .i64 TY.label, .slice A3 n3 c3] 24)))
          have hzu3 := hide2 (show u2.heap.size < (u2.alloc (.cells #[.int .i64 silB.kind, .int .i64 silB.label, .slice A2 n2 c2, .int .i64 TY.kind, .int .i64 TY.label, .slice A3 n3 c3] 24)).heap.size by simp)
          have H4 := hide2 (show w.heap.size ≤ u2.heap.size by have := BX0.out; have := Bu2.out.size; omega)
          obtain ⟨h4, hh4⟩ : ∃ h4, u2.heap.size = h4 := ⟨_, rfl⟩
          rw [hh4] at Nu3 H4 hzu3
          try rw [hh4]
          refine hKf.out _ _ (HS.out _ Bu3.out) (fun hHeld => ?_)
          clear hKf
          generalize u2.alloc (.cells #[.int .i64 silB.kind, .int .i64 silB.label, .slice A2 n2 c2, .int .i64 TY.kind, .int .i64 TY.label, .slice A3 n3 c3] 24) = u3 at *
          try simp only [Act.put, List.setIfInBounds_toArray, List.set_cons_zero, List.set_cons_succ]
          refine tkTake (v := ?_) rfl (by rfl) hHeld (fun w' hSw => ?_) ?_
          rotate_left
          · (go_simp; try with_reducible rfl)
          try simp only [Act.put, List.setIfInBounds_toArray, List.set_cons_zero, List.set_cons_succ]
          refine tkOne rfl (fun Kf hKf => ?_)
          go_simp
          have Bu4 := hide2 (Bu3.out.trans ((boxBelow u3 (.cells #[.int .i64 0, .int .i64 0, .slice none 0 0] 24)).mono Bu3.out.size))
          have Xu4 := hide2 (Box.new u3 #[.int .i64 0, .int .i64 0, .slice none 0 0] 24)
          obtain ⟨b14, hb14⟩ : ∃ b14, u3.heap.size = b14 := ⟨_, rfl⟩
          have BB14 := hide2 (show w1.heap.size ≤ b14 by have := Bu3.out.size; omega)
          have Tu4 := hide2 ((Tu3.out.mono (T := fun q => ((q < M ∧ S q) ∨ w.heap.size ≤ q) ∧ q ≠ b14) (fun q hq h => ⟨h.1, by omega⟩)).keep (boxBelow u3 (.cells #[.int .i64 0, .int .i64 0, .slice none 0 0] 24)))
          have Nu4 := hide2 (Nu3.out.old (.cells #[.int .i64 0, .int .i64 0, .slice none 0 0] 24))
          replace H4 := hide2 (show ((h4 < M ∧ S h4) ∨ w.heap.size ≤ h4) ∧ h4 ≠ b14 from ⟨.inr H4.out, by have := Nu3.out.lt; omega⟩)
          rw [hb14] at Xu4
          try rw [hb14]
          refine hKf.out _ _ (HS.out _ Bu4.out) (fun hHeld => ?_)
          clear hKf
          generalize u3.alloc (.cells #[.int .i64 0, .int .i64 0, .slice none 0 0] 24) = u4 at *
          try simp only [Act.put, List.setIfInBounds_toArray, List.set_cons_zero, List.set_cons_succ]
          exact EN.out _ _ ⟨A2, n2, c2, A3, n3, c3, h4, b14, rfl, Xu4, BB14, hide2 (bx_two Nu4.out H4.out (BX.empty S2.out) Tu4.out), Bu4⟩ hHeld
        · go_simp
          have Bu3 := hide2 (Bu2.out.trans ((boxBelow u2 (.cells #[.int .i64 0, .int .i64 0, .slice none 0 0] 24)).mono Bu2.out.size))
          have Xu3 := hide2 (Box.new u2 #[.int .i64 0, .int .i64 0, .slice none 0 0] 24)
          obtain ⟨b14, hb14⟩ : ∃ b14, u2.heap.size = b14 := ⟨_, rfl⟩
          have BB14 := hide2 (show w1.heap.size ≤ b14 by have := Bu2.out.size; omega)
          have Tu3 := hide2 ((Tu2.out.mono (T := fun q => ((q < M ∧ S q) ∨ w.heap.size ≤ q) ∧ q ≠ b14) (fun q hq h => ⟨h.1, by omega⟩)).keep (boxBelow u2 (.cells #[.int .i64 0, .int .i64 0, .slice none 0 0] 24)))
          rw [hb14] at Xu3
          try rw [hb14]
          refine hKf.out _ _ (HS.out _ Bu3.out) (fun hHeld => ?_)
          clear hKf
          generalize u2.alloc (.cells #[.int .i64 0, .int .i64 0, .slice none 0 0] 24) = u3 at *
          try simp only [Act.put, List.setIfInBounds_toArray, List.set_cons_zero, List.set_cons_succ]
          refine tkOne rfl (fun Kf hKf => ?_)
          go_simp
          have Bu4 := hide2 (Bu3.out.trans ((boxBelow u3 (.cells #[.int .i64 silB.kind, .int .i64 silB.label, .slice A2 n2 c2, .int .i64 TY.kind, .int .i64 TY.label, .slice A3 n3 c3] 24)).mono Bu3.out.size))
          have Nu4 := hide2 (Box.new u3 #[.int .i64 silB.kind, .int .i64 silB.label, .slice A2 n2 c2, .int .i64 TY.kind, .int .i64 TY.label, .slice A3 n3 c3] 24)
          have Tu4 := hide2 (Tu3.out.keep (boxBelow u3 (.cells #[.int .i64 silB.kind, .int .i64 silB.label, .slice A2 n2 c2, .int .i64 TY.kind, .int .i64 TY.label, .slice A3 n3 c3] 24)))
          have hzu4 := hide2 (show u3.heap.size < (u3.alloc (.cells #[.int .i64 silB.kind, .int .i64 silB.label, .slice A2 n2 c2, .int .i64 TY.kind, .int .i64 TY.label, .slice A3 n3 c3] 24)).heap.size by simp)
          have Xu4 := hide2 (Xu3.out.old (.cells #[.int .i64 silB.kind, .int .i64 silB.label, .slice A2 n2 c2, .int .i64 TY.kind, .int .i64 TY.label, .slice A3 n3 c3] 24))
          have H4 := hide2 (show ((u3.heap.size < M ∧ S u3.heap.size) ∨ w.heap.size ≤ u3.heap.size) ∧ u3.heap.size ≠ b14 from ⟨.inr (by have := BX0.out; have := Bu3.out.size; omega), by have := Xu3.out.lt; omega⟩)
          obtain ⟨h4, hh4⟩ : ∃ h4, u3.heap.size = h4 := ⟨_, rfl⟩
          rw [hh4] at Nu4 H4 hzu4
          try rw [hh4]
          refine hKf.out _ _ (HS.out _ Bu4.out) (fun hHeld => ?_)
          clear hKf
          generalize u3.alloc (.cells #[.int .i64 silB.kind, .int .i64 silB.label, .slice A2 n2 c2, .int .i64 TY.kind, .int .i64 TY.label, .slice A3 n3 c3] 24) = u4 at *
          try simp only [Act.put, List.setIfInBounds_toArray, List.set_cons_zero, List.set_cons_succ]
          refine tkTake (v := ?_) rfl (by rfl) hHeld (fun w' hSw => ?_) ?_
          rotate_left
          · (go_simp; try with_reducible rfl)
          try simp only [Act.put, List.setIfInBounds_toArray, List.set_cons_zero, List.set_cons_succ]
          exact EN.out _ _ ⟨A2, n2, c2, A3, n3, c3, h4, b14, rfl, Xu4, BB14, hide2 (bx_two Nu4.out H4.out (BX.empty S2.out) Tu4.out), Bu4⟩ hHeld
      · go_simp
        have Bu2 := hide2 (Bu1.out.trans ((boxBelow u1 (.cells #[.int .i64 0, .int .i64 0, .slice none 0 0] 24)).mono Bu1.out.size))
        have Xu2 := hide2 (Box.new u1 #[.int .i64 0, .int .i64 0, .slice none 0 0] 24)
        obtain ⟨b14, hb14⟩ : ∃ b14, u1.heap.size = b14 := ⟨_, rfl⟩
        have BB14 := hide2 (show w1.heap.size ≤ b14 by have := Bu1.out.size; omega)
        rw [hb14] at Xu2
        try rw [hb14]
        refine hKf.out _ _ (HS.out _ Bu2.out) (fun hHeld => ?_)
        clear hKf
        generalize u1.alloc (.cells #[.int .i64 0, .int .i64 0, .slice none 0 0] 24) = u2 at *
        try simp only [Act.put, List.setIfInBounds_toArray, List.set_cons_zero, List.set_cons_succ]
        refine tkOne rfl (fun Kf hKf => ?_)
        go_simp; go_at_call 34
        (with_reducible refine (CT.out u2 Bu2.out).mono ?_)
        rintro e u3 ⟨A3, n3, c3, rfl, hs, hb⟩
        have Tu3 := hide2 (hs.mono (T := fun q => ((q < M ∧ S q) ∨ w.heap.size ≤ q) ∧ q ≠ b14) (fun q _ h => ⟨h.elim .inl (fun h => .inr (by have := BX0.out; have := Bu2.out.size; omega)), fun e => by have := BX0.out; have := BB14.out; have := Xu2.out.lt; omega⟩))
        have Bu3 := hide2 (Bu2.out.trans (hb.mono Bu2.out.size))
        have Xu3 := hide2 (Xu2.out.keep hb)
        clear hs hb
        refine hKf.out _ _ (HS.out _ Bu3.out) (fun hHeld => ?_)
        clear hKf
        try simp only [Act.put, List.setIfInBounds_toArray, List.set_cons_zero, List.set_cons_succ]
        refine tkOne rfl (fun Kf hKf => ?_)
        go_simp
        have Bu4 := hide2 (Bu3.out.trans ((boxBelow u3 (.cells #[.int .i64 silB.kind, .int .i64 silB.label, .slice A2 n2 c2, .int .i64 TY.kind, .int .i64 TY.label, .slice A3 n3 c3] 24)).mono Bu3.out.size))
        have Nu4 := hide2 (Box.new u3 #[.int .i64 silB.kind, .int .i64 silB.label, .slice A2 n2 c2, .int .i64 TY.kind, .int .i64 TY.label, .slice A3 n3 c3] 24)
        have Tu4 := hide2 (Tu3.out.keep (boxBelow u3 (.cells #[.int .i64 silB.kind, .int .i64 silB.label, .slice A2 n2 c2, .int .i64 TY.kind, .int .i64 TY.label, .slice A3 n3 c3] 24)))
        have hzu4 := hide2 (show u3.heap.size < (u3.alloc (.cells #[.int .i64 silB.kind, .int .i64 silB.label, .slice A2 n2 c2, .int .i64 TY.kind, .int .i64 TY.label, .slice A3 n3 c3] 24)).heap.size by simp)
        have Xu4 := hide2 (Xu3.out.old (.cells #[.int .i64 silB.kind, .int .i64 silB.label, .slice A2 n2 c2, .int .i64 TY.kind, .int .i64 TY.label, .slice A3 n3 c3] 24))
        have H4 := hide2 (show ((u3.heap.size < M ∧ S u3.heap.size) ∨ w.heap.size ≤ u3.heap.size) ∧ u3.heap.size ≠ b14 from ⟨.inr (by have := BX0.out; have := Bu3.out.size; omega), by have := Xu3.out.lt; omega⟩)
        obtain ⟨h4, hh4⟩ : ∃ h4, u3.heap.size = h4 := ⟨_, rfl⟩
        rw [hh4] at Nu4 H4 hzu4
        try rw [hh4]
        refine hKf.out _ _ (HS.out _ Bu4.out) (fun hHeld => ?_)
        clear hKf
        generalize u3.alloc (.cells #[.int .i64 silB.kind, .int .i64 silB.label, .slice A2 n2 c2, .int .i64 TY.kind, .int .i64 TY.label, .slice A3 n3 c3] 24) = u4 at *
        try simp only [Act.put, List.setIfInBounds_toArray, List.set_cons_zero, List.set_cons_succ]
        refine tkTake (v := ?_) rfl (by rfl) hHeld (fun w' hSw => ?_) ?_
        rotate_left
        · (go_simp; try with_reducible rfl)
        try simp only [Act.put, List.setIfInBounds_toArray, List.set_cons_zero, List.set_cons_succ]
        exact EN.out _ _ ⟨A2, n2, c2, A3, n3, c3, h4, b14, rfl, Xu4, BB14, hide2 (bx_two Nu4.out H4.out (BX.empty S2.out) Tu4.out), Bu4⟩ hHeld
    · go_simp
      have Bu1 := hide2 (Bu0.out.trans ((boxBelow u0 (.cells #[.int .i64 0, .int .i64 0, .slice none 0 0] 24)).mono Bu0.out.size))
      have Xu1 := hide2 (Box.new u0 #[.int .i64 0, .int .i64 0, .slice none 0 0] 24)
      obtain ⟨b14, hb14⟩ : ∃ b14, u0.heap.size = b14 := ⟨_, rfl⟩
      have BB14 := hide2 (show w1.heap.size ≤ b14 by have := Bu0.out.size; omega)
      rw [hb14] at Xu1
      try rw [hb14]
      refine hKf.out _ _ (HS.out _ Bu1.out) (fun hHeld => ?_)
      clear hKf
      generalize u0.alloc (.cells #[.int .i64 0, .int .i64 0, .slice none 0 0] 24) = u1 at *
      try simp only [Act.put, List.setIfInBounds_toArray, List.set_cons_zero, List.set_cons_succ]
      refine tkOne rfl (fun Kf hKf => ?_)
      go_simp; go_at_call 31
      (with_reducible refine (bwSil_calls (fun q => q < M ∧ S q) u1).mono ?_)
      rintro e u2 ⟨A2, n2, c2, rfl, hs, hb⟩
      have S2 := hide2 hs
      have Bu2 := hide2 (Bu1.out.trans (hb.mono Bu1.out.size))
      have Xu2 := hide2 (Xu1.out.keep hb)
      clear hs hb
      refine hKf.out _ _ (HS.out _ Bu2.out) (fun hHeld => ?_)
      clear hKf
      try simp only [Act.put, List.setIfInBounds_toArray, List.set_cons_zero, List.set_cons_succ]
      refine tkOne rfl (fun Kf hKf => ?_)
      go_simp; go_at_call 34
      (with_reducible refine (CT.out u2 Bu2.out).mono ?_)
      rintro e u3 ⟨A3, n3, c3, rfl, hs, hb⟩
      have Tu3 := hide2 (hs.mono (T := fun q => ((q < M ∧ S q) ∨ w.heap.size ≤ q) ∧ q ≠ b14) (fun q _ h => ⟨h.elim .inl (fun h => .inr (by have := BX0.out; have := Bu2.out.size; omega)), fun e => by have := BX0.out; have := BB14.out; have := Xu2.out.lt; omega⟩))
      have Bu3 := hide2 (Bu2.out.trans (hb.mono Bu2.out.size))
      have Xu3 := hide2 (Xu2.out.keep hb)
      clear hs hb
      refine hKf.out _ _ (HS.out _ Bu3.out) (fun hHeld => ?_)
      clear hKf
      try simp only [Act.put, List.setIfInBounds_toArray, List.set_cons_zero, List.set_cons_succ]
      refine tkOne rfl (fun Kf hKf => ?_)
      go_simp
      have Bu4 := hide2 (Bu3.out.trans ((boxBelow u3 (.cells #[.int .i64 silB.kind, .int .i64 silB.label, .slice A2 n2 c2, .int .i64 TY.kind, .int .i64 TY.label, .slice A3 n3 c3] 24)).mono Bu3.out.size))
      have Nu4 := hide2 (Box.new u3 #[.int .i64 silB.kind, .int .i64 silB.label, .slice A2 n2 c2, .int .i64 TY.kind, .int .i64 TY.label, .slice A3 n3 c3] 24)
      have Tu4 := hide2 (Tu3.out.keep (boxBelow u3 (.cells #[.int .i64 silB.kind, .int .i64 silB.label, .slice A2 n2 c2, .int .i64 TY.kind, .int .i64 TY.label, .slice A3 n3 c3] 24)))
      have hzu4 := hide2 (show u3.heap.size < (u3.alloc (.cells #[.int .i64 silB.kind, .int .i64 silB.label, .slice A2 n2 c2, .int .i64 TY.kind, .int .i64 TY.label, .slice A3 n3 c3] 24)).heap.size by simp)
      have Xu4 := hide2 (Xu3.out.old (.cells #[.int .i64 silB.kind, .int .i64 silB.label, .slice A2 n2 c2, .int .i64 TY.kind, .int .i64 TY.label, .slice A3 n3 c3] 24))
      have H4 := hide2 (show ((u3.heap.size < M ∧ S u3.heap.size) ∨ w.heap.size ≤ u3.heap.size) ∧ u3.heap.size ≠ b14 from ⟨.inr (by have := BX0.out; have := Bu3.out.size; omega), by have := Xu3.out.lt; omega⟩)
      obtain ⟨h4, hh4⟩ : ∃ h4, u3.heap.size = h4 := ⟨_, rfl⟩
      rw [hh4] at Nu4 H4 hzu4
      try rw [hh4]
      refine hKf.out _ _ (HS.out _ Bu4.out) (fun hHeld => ?_)
      clear hKf
      generalize u3.alloc (.cells #[.int .i64 silB.kind, .int .i64 silB.label, .slice A2 n2 c2, .int .i64 TY.kind, .int .i64 TY.label, .slice A3 n3 c3] 24) = u4 at *
      try simp only [Act.put, List.setIfInBounds_toArray, List.set_cons_zero, List.set_cons_succ]
      refine tkTake (v := ?_) rfl (by rfl) hHeld (fun w' hSw => ?_) ?_
      rotate_left
      · (go_simp; try with_reducible rfl)
      try simp only [Act.put, List.setIfInBounds_toArray, List.set_cons_zero, List.set_cons_succ]
      exact EN.out _ _ ⟨A2, n2, c2, A3, n3, c3, h4, b14, rfl, Xu4, BB14, hide2 (bx_two Nu4.out H4.out (BX.empty S2.out) Tu4.out), Bu4⟩ hHeld
  clear CT HS hHeld Bu0
  rintro a' w2 ⟨A2, n2, c2, A3, n3, c3, h4, b14, rfl, X2, L14, T2, B2⟩ hHeld
  try simp only [Act.put, List.setIfInBounds_toArray, List.set_cons_zero, List.set_cons_succ]
  obtain ⟨y0, y1, y2⟩ := X2.out.three
  have yf := X2.out.frozen
  refine tkEnd rfl (fun Kf hKf => ?_)
  go_simp
  have X3 := hide2 (X2.out.set3 (.int .i64 4) (.int .i64 0) (.slice (some ⟨h4, 0, none⟩) 2 2))
  have B3 := hide2 (below_at3 B2.out L14.out 0 1 2 (.int .i64 4) (.int .i64 0) (.slice (some ⟨h4, 0, none⟩) 2 2))
  have T3 := hide2 (T2.out.grown (grown_set3 (g := b14) 0 1 2 (.int .i64 4) (.int .i64 0) (.slice (some ⟨h4, 0, none⟩) 2 2)) (fun q hq e => hq.2 (by injection e with e; exact e.symm)))
  refine hKf.out _ _ ?_
  clear hKf
  try simp only [Act.put, List.setIfInBounds_toArray, List.set_cons_zero, List.set_cons_succ]
  refine tkDone ?_
  clear hHeld y0 y1 y2 yf
  generalize ((w2.setCell ⟨b14, 0, none⟩ (.int .i64 4)).setCell ⟨b14, 1, none⟩ (.int .i64 0)).setCell ⟨b14, 2, none⟩ (.slice (some ⟨h4, 0, none⟩) 2 2) = w3 at *
  clear X2 T2 B2
  obtain ⟨L1, hL1⟩ : ∃ L1, afterB (.mk kx lx ksx) a = L1 := ⟨_, rfl⟩
  have CA := hide2 (HA.out kx lx X nx cx ksx a w3 M (by omega) hf WX.out (Nat.le_trans M1.out B3.out.size) (KX.keep B3.out))
  have N1 := hide2 (show L1.length ≤ 100000 by have := aft_len a (.mk kx lx ksx) WX.out; rw [← hL1]; omega)
  rw [hL1] at CA
  have EQ := hide2 (show afterB (.mk 6 l [.mk kx lx ksx, .mk ky ly ksy]) a = L1.map (fun z => thnB z (.mk 4 0 [.mk silB.kind silB.label [], .mk TY.kind TY.label TY.kids])) ++ (if leastB (.mk kx lx ksx) = 0 then (afterB (.mk ky ly ksy) a).map (fun z => thnB z (.mk 6 l [.mk kx lx ksx, .mk ky ly ksy])) else []) by
    rw [aft_6, hL1, PBlk.eta, ← ETY.out]
    rfl)
  have KX1 := hide2 KX
  have KY1 := hide2 KY
  have Q0 := hide2 (And.intro q0 (And.intro q1 q2))
  have P0 := hide2 (And.intro p0 (And.intro p1 p2))
  have CELL := hide2 (fun (u : World) (hb : Below w1.heap.size w1 u) => show (u.cell? ⟨bl, off, none⟩ = some (.int .i64 kx) ∧ u.cell? ⟨bl, off + 1, none⟩ = some (.int .i64 lx) ∧ u.cell? ⟨bl, off + 2, none⟩ = some (.slice X nx cx)) ∧ (u.cell? ⟨bl, off + 3, none⟩ = some (.int .i64 ky) ∧ u.cell? ⟨bl, off + 4, none⟩ = some (.int .i64 ly) ∧ u.cell? ⟨bl, off + 5, none⟩ = some (.slice Y ny cy)) ∧ u.cell? ⟨w.heap.size, 0, none⟩ = some (.int .i64 6) ∧ u.cell? ⟨w.heap.size, 1, none⟩ = some (.int .i64 l) ∧ u.cell? ⟨w.heap.size, 2, none⟩ = some (.slice (some ⟨bl, off, none⟩) 2 c) from by
    have hbk := hb.block bl hbl
    obtain ⟨p0, p1, p2⟩ := P0.out
    exact ⟨⟨(World.cell?_of_block (a := ⟨bl, off, none⟩) hbk).trans q0, (World.cell?_of_block (a := ⟨bl, off + 1, none⟩) hbk).trans q1, (World.cell?_of_block (a := ⟨bl, off + 2, none⟩) hbk).trans q2⟩, ⟨(World.cell?_of_block (a := ⟨bl, off + 3, none⟩) hbk).trans p0, (World.cell?_of_block (a := ⟨bl, off + 4, none⟩) hbk).trans p1, (World.cell?_of_block (a := ⟨bl, off + 5, none⟩) hbk).trans p2⟩, (BB.out.keepB hb NB.out).three⟩)
  clear q0 q1 q2 p0 p1 p2 hL1 hx hy KX KY
  obtain ⟨⟨q0, q1, q2⟩, _, y0, y1, y2⟩ := CELL.out w3 B3.out
  go_wp2_with fail
  refine CA.out.mono ?_
  rintro e wd ⟨A1, n1, c1, rfl, hs3, hb3⟩
  have hn1 : n1 ≤ 100000 := by have := hs3.2.len; have := N1.out; omega
  have U3 := hide2 (hs3.mono (T := fun k => (k < M ∧ S k) ∨ w.heap.size ≤ k ∧ k < wd.heap.size) (fun k hk h => h.elim .inl (fun h => .inr ⟨by have := BX0.out; have := B3.out.size; omega, hk⟩)))
  have V3 := hide2 ((T3.out.keep hb3).mono (T := fun k => (k < M ∧ S k) ∨ w.heap.size ≤ k ∧ k < wd.heap.size) (fun k hk h => h.1.elim .inl (fun h => .inr ⟨h, hk⟩)))
  have XD := hide2 (X3.out.keep hb3)
  have BD := hide2 (B3.out.trans (hb3.mono B3.out.size))
  have M3 := hide2 (show M ≤ wd.heap.size ∧ w.heap.size ≤ wd.heap.size from by have := BX0.out; have := BD.out.size; exact ⟨by omega, by omega⟩)
  clear hs3 hb3 T3 q0 q1 q2 y0 y1 y2 CA
  go_wp2_with fail
  go_loopw [15, 103] (fun s6 v wr => ∃ (sv : Value) (i : Nat), sv = s6 ∧ i ≤ n1 ∧ v = .int .i64 i ∧ Hid (OwnB (fun k => (k < M ∧ S k) ∨ w.heap.size ≤ k) wr wd.heap.size sv i ((L1.take i).map fun z => thnB z (.mk 4 0 [.mk silB.kind silB.label [], .mk TY.kind TY.label TY.kids]))) ∧ Hid (Below wd.heap.size wd wr)) (fun _ v _ => n1 - (intOf v).toNat)
  case atStart => exact ⟨_, 0, rfl, Nat.zero_le _, rfl, hide2 OwnB.nil, hide2 (Below.refl _ _)⟩
  case round =>
    obtain ⟨sv, i, rfl, hi, rfl, OB, BR⟩ := hrel
    by_cases hlt : i < n1
    · have hki : (i : Int) < (n1 : Int) := by omega
      obtain ⟨b4, off4, kd4, lb4, ks4, A4, n4, c4, rfl, hb4, _, hx4, q0, q1, q2, K4⟩ := (U3.out.keep BR.out).get hlt
      obtain ⟨z0, z1, z2⟩ := ((XD.out.keep BR.out).old (.cells #[.int .i64 kd4, .int .i64 lb4, .slice A4 n4 c4] 24)).three
      have bb4 := boxBelow wr (.cells #[.int .i64 kd4, .int .i64 lb4, .slice A4 n4 c4] 24)
      have CT := hide2 (bwThn_calls (k := kd4) (l := lb4) (k2 := 4) (l2 := 0) (K4.keep bb4) ((V3.out.keep BR.out).keep bb4))
      have BT := hide2 (BR.out.trans (bb4.mono BR.out.size))
      have OT := hide2 (OB.out.keep bb4)
      clear bb4 K4 hb4
      go_wp2_with fail
      refine CT.out.mono ?_
      rintro e w5 ⟨A5, n5, c5, rfl, hs5, hb5⟩
      have S5 := hide2 hs5
      have B5 := hide2 (BT.out.trans (hb5.mono BT.out.size))
      have O5 := hide2 (OT.out.keep hb5)
      have HT5 := hide2 (show ∀ q, q < w5.heap.size → (((q < M ∧ S q) ∨ w.heap.size ≤ q ∧ q < wd.heap.size) ∨ (wr.alloc (.cells #[.int .i64 kd4, .int .i64 lb4, .slice A4 n4 c4] 24)).heap.size ≤ q) → ((q < M ∧ S q) ∨ w.heap.size ≤ q) ∧ sv.ownBlock ≠ some q from fun q hq hT => by
        have hM3 := M3.out
        have hBR := BR.out.size
        refine ⟨by simp at hT; rcases hT with (h | h) | h; exact .inl h; exact .inr (by omega); exact .inr (by omega), fun e => ?_⟩
        have := OB.out.lt q e
        simp at hT
        omega)
      clear hs5 hb5
      go_wp2_with (at_builtin; go_loud (refine wpList_appB1 rfl _ _ rfl rfl rfl rfl O5.out S5.out HT5.out B5.out B5.out.size (by omega) ?_; intro v8 w8 own8 hg8 hb8 hv8; have O8 := hide2 own8; have B8 := hide2 hb8; clear own8 hg8 hb8 hv8))
      rw [PBlk.eta (thnB _ _)] at O8
      go_roundw
      case rel => exact ⟨v8, i + 1, rfl, by omega, by go_num, hide2 (by rw [map_take_get hx4.out]; exact O8.out), B8⟩
      case measure => simp [intOf]; omega
    · obtain rfl : i = n1 := by omega
      have OF := hide2 (show OwnB (fun k => (k < M ∧ S k) ∨ w.heap.size ≤ k) wr wd.heap.size sv i (L1.map fun z => thnB z (.mk 4 0 [.mk silB.kind silB.label [], .mk TY.kind TY.label TY.kids])) by have := OB.out; rwa [List.take_of_length_le (by rw [U3.out.2.len]; exact Nat.le_refl _)] at this)
      have BW := hide2 (BD.out.trans (BR.out.mono BD.out.size))
      have CL := hide2 (bwLeast_calls f kx lx X nx cx ksx wr (by omega) (by omega) WX.out (KX1.out.keep BW.out))
      obtain ⟨⟨q0, q1, q2⟩, _, y0, y1, y2⟩ := CELL.out wr BW.out
      obtain ⟨mm, hmm⟩ : ∃ mm, leastB (.mk kx lx ksx) = mm := ⟨_, rfl⟩
      rw [hmm] at CL EQ
      clear hmm OB
      by_cases h0 : mm = 0
      · subst h0
        rw [if_pos rfl] at EQ
        go_wp2_with fail
        refine CL.out.mono ?_
        rintro e w6 ⟨rfl, hb6⟩
        have W6 := hide2 (BW.out.trans (hb6.mono BW.out.size))
        have B6 := hide2 (BR.out.trans (hb6.mono BR.out.size))
        have O6 := hide2 (OF.out.keep hb6)
        obtain ⟨L2, hL2⟩ : ∃ L2, afterB (.mk ky ly ksy) a = L2 := ⟨_, rfl⟩
        have CS := hide2 (HA.out ky ly Y ny cy ksy a w6 M (by omega) hf WY.out (Nat.le_trans M1.out W6.out.size) (KY1.out.keep W6.out))
        have N2 := hide2 (show L2.length ≤ 100000 by have := aft_len a (.mk ky ly ksy) WY.out; rw [← hL2]; omega)
        rw [hL2] at CS EQ
        clear hb6 hL2 q0 q1 q2 y0 y1 y2
        obtain ⟨_, ⟨p0, p1, p2⟩, y0, y1, y2⟩ := CELL.out w6 W6.out
        go_wp2_with fail
        refine CS.out.mono ?_
        rintro e we ⟨A7, n7, c7, rfl, hs7, hb7⟩
        have hn7 : n7 ≤ 100000 := by have := hs7.2.len; have := N2.out; omega
        have hL7 := hide2 (show L2.length = n7 from hs7.2.len)
        have S7 := hide2 (hs7.mono (T := fun k => (k < M ∧ S k) ∨ (w6.heap.size ≤ k ∧ k < we.heap.size)) (fun k hk h => h.elim .inl (fun h => .inr ⟨h, hk⟩)))
        have W7 := hide2 (W6.out.trans (hb7.mono W6.out.size))
        have B7 := hide2 (B6.out.trans (hb7.mono B6.out.size))
        have O7 := hide2 (O6.out.keep hb7)
        have OL := hide2 O6.out.lt
        have hs67 := hide2 hb7.size
        clear hs7 hb7 p0 p1 p2 y0 y1 y2
        go_wp2_with fail
        go_loopw [15, 127] (fun s8 v wr => ∃ (tv : Value) (j : Nat), tv = s8 ∧ j ≤ n7 ∧ v = .int .i64 j ∧ Hid (OwnB (fun k => (k < M ∧ S k) ∨ w.heap.size ≤ k) wr wd.heap.size tv (i + j) ((L1.map fun z => thnB z (.mk 4 0 [.mk silB.kind silB.label [], .mk TY.kind TY.label TY.kids])) ++ (L2.take j).map (fun z => thnB z (.mk 6 l [.mk kx lx ksx, .mk ky ly ksy])))) ∧ Hid (∀ q, tv.ownBlock = some q → q < w6.heap.size ∨ we.heap.size ≤ q) ∧ Hid (BX (fun k => (k < M ∧ S k) ∨ (w6.heap.size ≤ k ∧ k < we.heap.size)) wr A7 n7 c7 L2) ∧ Hid (we.heap.size ≤ wr.heap.size) ∧ Hid (Below wd.heap.size wd wr)) (fun _ v _ => n7 - (intOf v).toNat)
        case atStart => exact ⟨_, 0, rfl, Nat.zero_le _, rfl, hide2 (by simpa using O7.out), hide2 (fun q hq => .inl (OL.out q hq).2), S7, hide2 (Nat.le_refl _), B7⟩
        case round =>
          obtain ⟨tv, j, rfl, hj, rfl, OB, VB, SI, BI, BO⟩ := hrel
          by_cases hlj : j < n7
          · have hkj : (j : Int) < (n7 : Int) := by omega
            obtain ⟨b6, off6, kd6, lb6, ks6, A6, n6, c6, hA6, hb6, _, hx6, q0, q1, q2, K6⟩ := SI.out.get hlj
            subst hA6
            have bb6 := boxBelow wr (.cells #[.int .i64 kd6, .int .i64 lb6, .slice A6 n6 c6] 24)
            have ER := hide2 (BD.out.trans (BO.out.mono BD.out.size))
            have E6 := hide2 (ER.out.trans (bb6.mono ER.out.size))
            have F6 := hide2 (BO.out.trans (bb6.mono BO.out.size))
            have SJ := hide2 (SI.out.keep bb6)
            have O8 := hide2 (OB.out.keep bb6)
            obtain ⟨_, _, y0, y1, y2⟩ := CELL.out _ E6.out
            have CT := hide2 (bwThn_calls (S := fun k => (k < M ∧ S k) ∨ (w6.heap.size ≤ k ∧ k < we.heap.size)) (k := kd6) (l := lb6) (k2 := 6) (l2 := l) (K6.keep bb6) ((H.out.keep E6.out).mono (fun k _ h => .inl h)))
            have HX6 := hide2 hx6.out
            clear bb6 K6 hb6
            go_wp2_with fail
            refine CT.out.mono ?_
            rintro e w8 ⟨A8, n8, c8, rfl, hs8, hb8⟩
            have S8 := hide2 hs8
            have B8 := hide2 (F6.out.trans (hb8.mono F6.out.size))
            have SK := hide2 (SJ.out.keep hb8)
            have O9 := hide2 (O8.out.keep hb8)
            have hs8z := hide2 hb8.size
            have HT9 := hide2 (show ∀ q, q < w8.heap.size → (((q < M ∧ S q) ∨ (w6.heap.size ≤ q ∧ q < we.heap.size)) ∨ (wr.alloc (.cells #[.int .i64 kd6, .int .i64 lb6, .slice A6 n6 c6] 24)).heap.size ≤ q) → ((q < M ∧ S q) ∨ w.heap.size ≤ q) ∧ tv.ownBlock ≠ some q from fun q hq hT => by
              have h1 := M3.out
              have h2 := B6.out.size
              have h3 := BI.out
              have h4 := BO.out.size
              have h5 := hs67.out
              simp at hT
              refine ⟨by rcases hT with (h | h) | h; exact .inl h; exact .inr (by omega); exact .inr (by omega), fun e => ?_⟩
              have v1 := OB.out.lt q e
              have v2 := VB.out q e
              omega)
            have hzw := hide2 (show we.heap.size ≤ w8.heap.size by have := BI.out; have := hs8z.out; simp at this; omega)
            clear hs8 hb8
            go_wp2_with (at_builtin; go_loud (refine wpList_appB1 rfl _ _ rfl rfl rfl rfl O9.out S8.out HT9.out B8.out B8.out.size (by omega) ?_; intro v9 w9 own9 hg9 hb9 hv9; have Q9 := hide2 own9; have B9 := hide2 hb9; have V9 := hide2 (show ∀ q, v9.ownBlock = some q → q < w6.heap.size ∨ we.heap.size ≤ q from fun q hq => (hv9 q hq).elim (VB.out q) (fun h => .inr (Nat.le_trans hzw.out h))); have G9 := hide2 hg9; clear own9 hg9 hb9 hv9))
            rw [PBlk.eta (thnB _ _)] at Q9
            go_roundw
            case rel => exact ⟨v9, j + 1, rfl, by omega, by go_num, hide2 (by rw [map_take_get HX6.out, ← List.append_assoc]; exact Q9.out), V9, hide2 (SK.out.grown G9.out (fun q hq e => by have v1 := OB.out.lt q e; have v2 := VB.out q e; have := M3.out; omega)), hide2 (Nat.le_trans hzw.out G9.out.size), B9⟩
            case measure => simp [intOf]; omega
          · obtain rfl : j = n7 := by omega
            have EF := hide2 (show L2.take j = L2 from List.take_of_length_le (by rw [hL7.out]; exact Nat.le_refl _))
            have OF := hide2 OB.out
            rw [EF.out, ← EQ.out] at OF
            obtain ⟨A8, c8, rfl, hs8⟩ := OF.out.bx (by omega) (fun q hq => .inr (Nat.le_trans M3.out.2 hq))
            have O8 := hide2 hs8
            have FIN := hide2 (B1.out.trans ((BD.out.trans (BO.out.mono BD.out.size)).mono B1.out.size))
            clear hs8
            go_wp2_with fail
            go_ret
            exact ⟨A8, _, c8, rfl, O8.out, FIN.out⟩
      · rw [if_neg h0, List.append_nil] at EQ
        have hmz : ((mm : Int) == 0) = false := by simp; omega
        obtain ⟨A8, c8, rfl, hs8⟩ := OF.out.bx (by omega) (fun q hq => .inr (Nat.le_trans M3.out.2 hq))
        have O8 := hide2 hs8
        clear hs8
        go_wp2_with fail
        refine CL.out.mono ?_
        rintro e w6 ⟨rfl, hb6⟩
        have W6 := hide2 (B1.out.trans ((BW.out.trans (hb6.mono BW.out.size)).mono B1.out.size))
        have O9 := hide2 (O8.out.keep hb6)
        clear hb6
        go_wp2_with fail
        go_ret
        rw [EQ.out]
        exact ⟨A8, _, c8, rfl, O9.out, W6.out⟩
end Go.Proofs.YtniolbbhjibobaaDoor
