/- mine's Mine. Conditions: the log reads as lists. -/
import Derived.Test.YtcopnfdknclhnaaGreatMineTellsK38
import Derived.Test.YtcopnfdknclhnaaGreatMineTellsK39
import Derived.Test.YtcopnfdknclhnaaGreatMineTellsK14
namespace Go.Proofs.YtcopnfdknclhnaaGreat
open Go.RowKit Go.Maps

/-- What Mine answers: the error and the block. -/
noncomputable def mineP (log : List (List Int)) : Int × PBlk := if wrongV log ≠ 0 then (wrongV log, zeroB) else if wrongB (findB 60 log) ≠ 0 then (wrongB (findB 60 log), zeroB) else (0, findB 60 log)
/-- A block as it reads. -/
def BlkV (w : World) (v : Value) (T : PBlk) : Prop := ∃ A n c, v = .agg #[.int .i64 T.kind, .int .i64 T.label, .slice A n c] ∧ Blks 62 w A n c T.kids
theorem BlkA.toV {P : Nat → Prop} {w : World} {v : Value} {T : PBlk} (h : BlkA P 62 w v T) : BlkV w v T := by
  obtain ⟨A, n, c, e, s, _⟩ := h
  exact ⟨A, n, c, e, s.imp (fun _ _ r => r.toD 62)⟩
theorem BlkV.keep {w w' : World} {v : Value} {T : PBlk} (h : BlkV w v T) (hb : Below w.heap.size w w') : BlkV w' v T := by
  obtain ⟨A, n, c, e, s⟩ := h
  exact ⟨A, n, c, e, s.keep hb⟩
def AnsMine (log : List (List Int)) (w : World) (e : Ending) (w' : World) : Prop := ∃ v, e = .returned (.tuple #[v, .int .i64 (mineP log).1]) ∧ BlkV w' v (mineP log).2 ∧ Below w.heap.size w w'
set_option maxRecDepth 100000 in
set_option maxHeartbeats 4000000 in
theorem mnMine_calls {w : World} {A : Option Addr} {n c : Nat} {log : List (List Int)} (h : Lists w A n c log) :
    Calls Tryz.prog 4 #[.slice A n c] w (AnsMine log w) := by
  have B0 := hide2 (boxBelow w (.cells #[.int .i64 0, .int .i64 0, .slice none 0 0] 25))
  have X0 := hide2 (Box.new w #[.int .i64 0, .int .i64 0, .slice none 0 0] 25)
  have H := hide2 (Sl.keep ListR.kept h B0.out)
  clear h
  go_enter Tryz.func4, Tryz.ntmps4
  go_upto_region 1 with fail
  generalize w.alloc (.cells #[.int .i64 0, .int .i64 0, .slice none 0 0] 25) = w1 at *
  have CW := hide2 (tracksWrong_calls H.out)
  go_wp2_with fail
  refine CW.out.mono ?_
  rintro e w2 ⟨rfl, rfl⟩
  have W1 := hide2 X0.out.lt
  obtain ⟨z, hz⟩ : ∃ z, wrongV log = z := ⟨_, rfl⟩
  have HZ := hide2 hz
  rw [hz]
  clear hz CW
  by_cases h0 : z = 0
  · have h0i : (z != 0) = false := by simp [h0]
    have H0 := hide2 (show wrongV log = 0 from HZ.out.trans h0)
    have CF := hide2 (mnFind 60 w1 A n c log H.out (Fuel.start H0.out))
    clear h0
    go_wp2_with fail
    refine CF.out.mono ?_
    rintro e w3 ⟨v3, rfl, ⟨A3', n3', c3', rfl, s3, p3⟩, hb3⟩
    have s3d := s3.imp (fun _ _ r => BlkQ.toD 62 r)
    have BA := hide2 (show BlkA (fun q => w1.heap.size ≤ q) 62 w3 (.agg #[.int .i64 (findB 60 log).kind, .int .i64 (findB 60 log).label, .slice A3' n3' c3']) (findB 60 log) from ⟨A3', n3', c3', rfl, s3, p3⟩)
    have WE := hide2 (show wrongB (.mk (findB 60 log).kind (findB 60 log).label (findB 60 log).kids) = wrongB (findB 60 log) by cases findB 60 log; rfl)
    obtain ⟨kd, hkd⟩ : ∃ x, x = (findB 60 log).kind := ⟨_, rfl⟩
    obtain ⟨lb, hlb⟩ : ∃ x, x = (findB 60 log).label := ⟨_, rfl⟩
    rw [← hkd, ← hlb] at BA WE
    rw [← hkd, ← hlb]
    have BB := hide2 (boxBelow w3 (.cells #[.int .i64 kd, .int .i64 lb, .slice A3' n3' c3'] 25))
    have TB := hide2 (Box.new w3 #[.int .i64 kd, .int .i64 lb, .slice A3' n3' c3'] 25)
    have CB := hide2 (blkWrong_calls (kd := kd) (lb := lb) (Blks.keep s3d BB.out))
    have H14 := hide2 (hb3.trans (BB.out.mono hb3.size))
    have BA4 := hide2 (BA.out.keep BB.out)
    clear s3 p3 s3d hb3 hkd hlb CF
    go_upto_region 5 with fail
    generalize w3.alloc (.cells #[.int .i64 kd, .int .i64 lb, .slice A3' n3' c3'] 25) = w4 at *
    generalize w3.heap.size = bz at *
    obtain ⟨t0, t1, t2⟩ := TB.out.three
    obtain ⟨y, hy⟩ : ∃ y, wrongB (findB 60 log) = y := ⟨_, rfl⟩
    have HY := hide2 hy
    rw [WE.out, hy] at CB
    clear hy
    go_wp2_with fail
    refine CB.out.mono ?_
    rintro e w5 ⟨rfl, hb5⟩
    have H15 := hide2 (H14.out.trans (hb5.mono H14.out.size))
    have BA5 := hide2 (BA4.out.keep hb5)
    have X5 := hide2 (X0.out.keep H15.out)
    obtain ⟨t0, t1, t2⟩ := (TB.out.keep hb5).three
    clear hb5 CB
    by_cases hy0 : y = 0
    · have hy0i : (y != 0) = false := by simp [hy0]
      have EQ := hide2 (show mineP log = (0, findB 60 log) by unfold mineP; rw [if_neg (by rw [H0.out]; exact fun h => h rfl), if_neg (by rw [HY.out]; exact fun h => h hy0)])
      have FB := hide2 (show ∀ (w' : World) (v : Value), BlkA (fun j => w.heap.size ≤ j) 62 w' v (findB 60 log) → Below w.heap.size w w' → AnsMine log w (.returned (.tuple #[v, .int .i64 0])) w' from fun w' v hb hw => ⟨v, by rw [EQ.out], by rw [EQ.out]; exact hb.toV, hw⟩)
      clear hy0
      obtain ⟨u0, u1, u2⟩ := X5.out.three
      have fz := fun q => X5.out.frozen q
      have WW := hide2 (blk_set (w := w) BA5.out X5.out H15.out B0.out W1.out (Nat.le_refl _))
      go_wp2
      generalize (((w5.setCell ⟨w.heap.size, 0, none⟩ (.int .i64 kd)).setCell ⟨w.heap.size, 1, none⟩ (.int .i64 lb)).setCell ⟨w.heap.size, 2, none⟩ (.slice A3' n3' c3')) = ww at *
      obtain ⟨z0, z1, z2⟩ := WW.out.1.three
      exact bodyPost_ret (v := .tuple #[.agg #[.int .i64 kd, .int .i64 lb, .slice A3' n3' c3'], .int .i64 0]) (by simp [results, Tryz.results4, go_sem, z0, z1, z2]) rfl (FB.out ww _ WW.out.2.1 WW.out.2.2)
    · have hy0i : (y != 0) = true := by simp [hy0]
      have EQ := hide2 (show mineP log = (y, zeroB) by unfold mineP; rw [if_neg (by rw [H0.out]; exact fun h => h rfl), if_pos (by rw [HY.out]; exact hy0), HY.out])
      have FB := hide2 (show ∀ (w' : World) (v : Value), BlkA (fun j => w.heap.size ≤ j) 62 w' v (zeroB) → Below w.heap.size w w' → AnsMine log w (.returned (.tuple #[v, .int .i64 y])) w' from fun w' v hb hw => ⟨v, by rw [EQ.out], by rw [EQ.out]; exact hb.toV, hw⟩)
      have BZ := hide2 (show BlkA (fun q => w1.heap.size ≤ q) 62 w5 (.agg #[.int .i64 0, .int .i64 0, .slice none 0 0]) zeroB from ⟨none, 0, 0, rfl, Sl.nil0, fun h => absurd h (by omega)⟩)
      clear hy0
      obtain ⟨u0, u1, u2⟩ := X5.out.three
      have fz := fun q => X5.out.frozen q
      have WW := hide2 (blk_set (w := w) BZ.out X5.out H15.out B0.out W1.out (Nat.le_refl _))
      go_wp2
      generalize (((w5.setCell ⟨w.heap.size, 0, none⟩ (.int .i64 0)).setCell ⟨w.heap.size, 1, none⟩ (.int .i64 0)).setCell ⟨w.heap.size, 2, none⟩ (.slice none 0 0)) = ww at *
      obtain ⟨z0, z1, z2⟩ := WW.out.1.three
      exact bodyPost_ret (v := .tuple #[.agg #[.int .i64 0, .int .i64 0, .slice none 0 0], .int .i64 y]) (by simp [results, Tryz.results4, go_sem, z0, z1, z2]) rfl (FB.out ww _ WW.out.2.1 WW.out.2.2)
  · have h0i : (z != 0) = true := by simp [h0]
    have EQ := hide2 (show mineP log = (z, zeroB) by unfold mineP; rw [if_pos (by rw [HZ.out]; exact h0), HZ.out])
    have FB := hide2 (show ∀ (w' : World) (v : Value), BlkA (fun j => w.heap.size ≤ j) 62 w' v (zeroB) → Below w.heap.size w w' → AnsMine log w (.returned (.tuple #[v, .int .i64 z])) w' from fun w' v hb hw => ⟨v, by rw [EQ.out], by rw [EQ.out]; exact hb.toV, hw⟩)
    have BZ := hide2 (show BlkA (fun q => w1.heap.size ≤ q) 62 w1 (.agg #[.int .i64 0, .int .i64 0, .slice none 0 0]) zeroB from ⟨none, 0, 0, rfl, Sl.nil0, fun h => absurd h (by omega)⟩)
    clear h0
    obtain ⟨u0, u1, u2⟩ := X0.out.three
    have fz := fun q => X0.out.frozen q
    have WW := hide2 (blk_set (w := w) BZ.out X0.out (Below.refl _ _) B0.out W1.out (Nat.le_refl _))
    go_wp2
    generalize (((w1.setCell ⟨w.heap.size, 0, none⟩ (.int .i64 0)).setCell ⟨w.heap.size, 1, none⟩ (.int .i64 0)).setCell ⟨w.heap.size, 2, none⟩ (.slice none 0 0)) = ww at *
    obtain ⟨z0, z1, z2⟩ := WW.out.1.three
    exact bodyPost_ret (v := .tuple #[.agg #[.int .i64 0, .int .i64 0, .slice none 0 0], .int .i64 z]) (by simp [results, Tryz.results4, go_sem, z0, z1, z2]) rfl (FB.out ww _ WW.out.2.1 WW.out.2.2)
end Go.Proofs.YtcopnfdknclhnaaGreat
