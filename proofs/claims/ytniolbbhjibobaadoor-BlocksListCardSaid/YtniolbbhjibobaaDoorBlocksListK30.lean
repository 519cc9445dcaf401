/- Texts melted into one: The contract of blocks' next. Conditions: the blocks read as some; they and what may be left of them are right and small. | The contracts of slices.Sort and Compact, laid at this program. Conditions: as each says. -/
import Derived.Test.YtniolbbhjibobaaDoorBlocksListK29
import Derived.Shelf.Sort.Plain
import Derived.Ground.Names2Prog
import Derived.Shelf.Slices.CompactI
import Derived.Shelf.Slices.In.SortNone
import Derived.Test.YtniolbbhjibobaaDoorProg
set_option linter.all false
namespace Go.Proofs.YtniolbbhjibobaaDoor
open Go.RowKit Go.Maps

theorem BX.moveB {S : Nat → Prop} {w w' : World} {A : Option Addr} {n c : Nat} {l : List PBlk} (h : BX S w A n c l) (hz : w.heap.size ≤ w'.heap.size) (hS : ∀ k, k < w.heap.size → S k → w'.heap[k]? = w.heap[k]?) : BX S w' A n c l := by
  refine ⟨h.1, h.2.len, h.2.le, h.2.cap, h.2.small, h.2.nul, fun hn => ?_⟩
  obtain ⟨g, off, e, hgl, hx⟩ := h.2.cells hn
  have hb := hS g hgl (h.1 hn _ e)
  refine ⟨g, off, e, Nat.lt_of_lt_of_le hgl hz, fun i x hi => ?_⟩
  obtain ⟨vs, a, r⟩ := hx i x hi
  exact ⟨vs, fun j hj => (World.cell?_of_block (a := ⟨g, off + (i * 3 + j), none⟩) hb).trans (a j hj), r.move (fun k hk hs => ⟨hs, hS k hk hs⟩)⟩
theorem RstW.keep {S : Nat → Prop} {M B : Nat} {w w' : World} {b bm n q : Nat} {v : Value} {acc : List PBlk} (h : RstW S M B w b bm v n q acc) (hb : Below w.heap.size w w') : RstW S M B w' b bm v n q acc :=
  ⟨h.box.keep hb, let ⟨f, h1, h2⟩ := h.map; ⟨f, h1.keep hb, h2⟩, h.own.keep hb, h.apart, h.row⟩
theorem RstW.bl {S : Nat → Prop} {M B : Nat} {w : World} {b bm n q : Nat} {v : Value} {acc : List PBlk} (h : RstW S M B w b bm v n q acc) : b < w.heap.size ∧ bm < w.heap.size := ⟨h.box.lt, let ⟨_, h1, _⟩ := h.map; h1.lt⟩
noncomputable def accF (L : List PBlk) (a : Int) (i : Nat) : List PBlk := ((L.take i).flatMap fun b => afterB b a).foldl onceB []
theorem accF_next {L : List PBlk} {a : Int} {i : Nat} {x : PBlk} (h : L[i]? = some x) : accF L a (i + 1) = (afterB x a).foldl onceB (accF L a i) := by
  unfold accF
  rw [List.take_add_one, h, List.flatMap_append, List.foldl_append]
  simp
theorem once_take {L acc : List PBlk} {j : Nat} {x : PBlk} (h : L[j]? = some x) : (L.take (j + 1)).foldl onceB acc = onceB ((L.take j).foldl onceB acc) x := by
  rw [List.take_add_one, h, List.foldl_append]; rfl
theorem accF_mem {L : List PBlk} {a : Int} {i : Nat} {z : PBlk} (h : z ∈ accF L a i) : ∃ x ∈ L, z ∈ afterB x a := by
  rcases once_mem.1 h with h | h
  · cases h
  · obtain ⟨x, hx, hz⟩ := List.mem_flatMap.1 h
    exact ⟨x, List.mem_of_mem_take hx, hz⟩
theorem accF_nodup (L : List PBlk) (a : Int) (i : Nat) : (accF L a i).Nodup := once_nodup List.nodup_nil
theorem accF_all (L : List PBlk) (a : Int) : accF L a L.length = nextB L a := by unfold accF nextB; rw [List.take_length]
set_option maxRecDepth 100000 in
set_option maxHeartbeats 8000000 in
theorem bwNext_calls {S : Nat → Prop} {w : World} {A : Option Addr} {n c : Nat} {Ls : List PBlk} {a : Int} {M : Nat} (h : BX (fun k => k < M ∧ S k) w A n c Ls) (hM : M ≤ w.heap.size) (hP : TabP w)
    (hL : ∀ x ∈ Ls, wfB x ∧ intB x ∧ szB x ≤ 2400 ∧ ∀ y ∈ afterB x a, szB y ≤ 2400) (hN : ∀ L : List PBlk, L.Nodup → (∀ y ∈ L, ∃ x ∈ Ls, y ∈ afterB x a) → L.length ≤ 1000000000000) (hn : n ≤ 1000000000000) :
    Calls Tryd.prog 10 #[.slice A n c, .int .i64 a] w (AnsL S M (nextB Ls a) w) := by
  have HL := hide2 (show Ls.length = n from h.2.len)
  have H := hide2 h
  have PP := hide2 hP
  have LL := hide2 hL
  have NN := hide2 hN
  clear h hP hL hN
  have hmm := @run_makeMap Tryd.prog
  go_enter Tryd.func10, Tryd.ntmps10
  go_upto_region 2 with fail
  clear hmm
  have R0 := hide2 (show RstW S M w.heap.size ((w.alloc (.map #[] 0)).alloc (.cells #[.map (some w.heap.size), .slice none 0 0] 47)) (w.heap.size + 1) w.heap.size (.slice none 0 0) 0 0 (accF Ls a 0) from
    ⟨Box.newAt (by simp) _ _, ⟨_, (MapZ.made _ _ _ w).keep (boxBelow _ _), CntI.start⟩, OwnB.nil, ⟨by omega, by omega, Nat.le_refl _⟩, fun k hk => (by cases hk)⟩)
  have B0 := hide2 (show Below w.heap.size w ((w.alloc (.map #[] 0)).alloc (.cells #[.map (some w.heap.size), .slice none 0 0] 47)) from ((Below.refl _ _).alloc (Nat.le_refl _) _).alloc (by simp) _)
  generalize (w.alloc (.map #[] 0)).alloc (.cells #[.map (some w.heap.size), .slice none 0 0] 47) = w1 at *
  obtain ⟨wd, hwd⟩ : ∃ wd : World, wd = w1 := ⟨_, rfl⟩
  subst hwd
  go_wp2
  go_loopw [14] (fun v wr => ∃ (i n' q : Nat) (sv : Value), i ≤ n ∧ v = .int .i64 i ∧ Hid (RstW S M w.heap.size wr (w.heap.size + 1) w.heap.size sv n' q (accF Ls a i)) ∧ q ≤ i * 2400 ∧ Hid (Below w.heap.size w wr)) (fun v _ => n - (intOf v).toNat)
  case atStart => exact ⟨0, 0, 0, _, Nat.zero_le _, rfl, R0, by omega, B0⟩
  case round =>
    obtain ⟨i, n', q, sv, hi, rfl, RS, hq, BR⟩ := hrel
    by_cases hlt : i < n
    · have hki : (i : Int) < (n : Int) := by omega
      obtain ⟨wo, hwo⟩ : ∃ wo : World, wo = wr := ⟨_, rfl⟩
      subst hwo
      obtain ⟨b4, off4, kd4, lb4, ks4, A4, n4, c4, hA4, hb4, _, hx4, q0, q1, q2, K4⟩ := (H.out.keep BR.out).get hlt
      subst hA4
      have LX := hide2 (LL.out _ (List.mem_of_getElem? hx4.out))
      have bb4 := boxBelow wo (.cells #[.int .i64 kd4, .int .i64 lb4, .slice A4 n4 c4] 24)
      have CT := hide2 (bwAfter_calls (k := kd4) (l := lb4) (a := a) (M := M) (by have := LX.out.2.2.1; omega) LX.out.1 (Nat.le_trans hM (Nat.le_trans BR.out.size bb4.size)) (K4.keep bb4))
      have BT := hide2 (BR.out.trans (bb4.mono BR.out.size))
      have RT := hide2 (RS.out.keep bb4)
      have NA := hide2 bb4.size
      have AE := hide2 (accF_next (a := a) hx4.out)
      have LN := hide2 (show (afterB (.mk kd4 lb4 ks4) a).length ≤ 2400 from Nat.le_trans (aft_len a _ LX.out.1) LX.out.2.2.1)
      have LI := hide2 (show ∀ y ∈ afterB (.mk kd4 lb4 ks4) a, wfB y ∧ intB y ∧ szB y ≤ 2400 from fun y hy => ⟨(behind_right a _ LX.out.1).1 y hy, aft_in a _ LX.out.1 LX.out.2.1 y hy, LX.out.2.2.2 y hy⟩)
      have HX4 := hide2 (List.mem_of_getElem? hx4.out)
      obtain ⟨L1, hL1⟩ : ∃ L1, afterB (.mk kd4 lb4 ks4) a = L1 := ⟨_, rfl⟩
      rw [hL1] at CT AE LN LI
      have HL1 := hide2 hL1
      clear bb4 K4 hb4 hx4 hL1
      go_wp2_with fail
      generalize hwa : wo.alloc (.cells #[.int .i64 kd4, .int .i64 lb4, .slice A4 n4 c4] 24) = wa at *
      refine CT.out.mono ?_
      rintro e we ⟨A5, n5, c5, rfl, hs5, hb5⟩
      have S5 := hide2 (hs5.mono (T := fun k => (k < M ∧ S k) ∨ (wa.heap.size ≤ k ∧ k < we.heap.size)) (fun k hk h => h.elim .inl (fun h => .inr ⟨h, hk⟩)))
      have h5L := hs5.2.len
      have hn5 : n5 ≤ 2400 := by have := LN.out; omega
      have B5 := hide2 (BT.out.trans (hb5.mono BT.out.size))
      have R5 := hide2 (RT.out.keep hb5)
      have BA := hide2 RT.out.bl
      have OA := hide2 RT.out.own.lt
      have Z5 := hide2 hb5.size
      clear hs5 hb5 q0 q1 q2 hwa
      go_wp2_with fail
      go_loopw [22] (fun v wr => ∃ (j n2 q2 : Nat) (tv : Value), j ≤ n5 ∧ v = .int .i64 j ∧ Hid (RstW S M w.heap.size wr (w.heap.size + 1) w.heap.size tv n2 q2 ((L1.take j).foldl onceB (accF Ls a i))) ∧ q2 ≤ i * 2400 + j ∧ Hid (∀ k, tv.ownBlock = some k → k < wa.heap.size ∨ we.heap.size ≤ k) ∧ Hid (BX (fun k => (k < M ∧ S k) ∨ (wa.heap.size ≤ k ∧ k < we.heap.size)) wr A5 n5 c5 L1) ∧ Hid (we.heap.size ≤ wr.heap.size) ∧ Hid (Below w.heap.size w wr)) (fun v _ => n5 - (intOf v).toNat)
      case atStart => exact ⟨0, n', q, sv, Nat.zero_le _, rfl, R5, by omega, hide2 (fun k hk => .inl (OA.out k hk).2), S5, hide2 (Nat.le_refl _), B5⟩
      case round =>
        obtain ⟨j, n2, q2, tv, hj, rfl, RS2, hq2, VB, SI, BI, BO⟩ := hrel
        by_cases hlj : j < n5
        · have hkj : (j : Int) < (n5 : Int) := by omega
          obtain ⟨b6, off6, kd6, lb6, ks6, A6, n6, c6, hA6, hb6, _, hx6, q0, q1, q2', K6⟩ := SI.out.get hlj
          subst hA6
          have LY := hide2 (LI.out _ (List.mem_of_getElem? hx6.out))
          have bb6 := boxBelow wr (.cells #[.int .i64 kd6, .int .i64 lb6, .slice A6 n6 c6] 24)
          have TK := hide2 (once_take (acc := accF Ls a i) hx6.out)
          have hn2 : n2 ≤ 1000000000000 := by
            rw [← RS2.out.own.len]
            refine NN.out _ (once_nodup (accF_nodup Ls a i)) (fun y hy => ?_)
            rcases once_mem.1 hy with hy | hy
            · exact accF_mem hy
            · exact ⟨_, HX4.out, by rw [HL1.out]; exact List.mem_of_mem_take hy⟩
          have BZ := hide2 (BO.out.trans (bb6.mono BO.out.size))
          have CT2 := hide2 (bwAdd_calls (RS2.out.keep bb6) (K6.keep bb6) (kd := kd6) (lb := lb6) (fun k hk h => by
            have h1 := BA.out
            have h2 := BR.out.size
            have h3 := BI.out
            have h4 := B5.out.size
            have h5 := Z5.out
            refine ⟨⟨h.imp id (fun h => by omega), by omega, by omega⟩, fun e => ?_⟩
            have v1 := RS2.out.own.lt k e
            have v2 := VB.out k e
            omega) LY.out.1 LY.out.2.1 LY.out.2.2 (PP.out.keep BZ.out) hM (by omega) hn2)
          rw [← TK.out] at CT2
          have SJ := hide2 (SI.out.keep bb6)
          have N6 := hide2 bb6.size
          clear bb6 K6 hb6 hx6
          go_wp2_with fail
          generalize hwb : wr.alloc (.cells #[.int .i64 kd6, .int .i64 lb6, .slice A6 n6 c6] 24) = wb at *
          refine CT2.out.mono ?_
          rintro e w8 ⟨⟨u, rfl⟩, v8, n8, R8, hb8, hk8, hv8⟩
          have R8' := hide2 R8
          have B8 := hide2 (BZ.out.trans hb8)
          have Z8 := hide2 (show we.heap.size ≤ w8.heap.size by have := hb8.size; have := N6.out; have := BI.out; omega)
          have S8 := hide2 (SJ.out.moveB (w' := w8) hb8.size (fun k hk h => by
            have h1 := BA.out
            have h2 := BR.out.size
            have h3 := BI.out
            have h4 := B5.out.size
            have h5 := Z5.out
            refine hk8 k hk (by omega) (by omega) (fun e => ?_)
            have v1 := RS2.out.own.lt k e
            have v2 := VB.out k e
            omega))
          have V8 := hide2 (show ∀ k, v8.ownBlock = some k → k < wa.heap.size ∨ we.heap.size ≤ k from fun k hk => (hv8 k hk).elim (VB.out k) (fun h => .inr (by have := N6.out; have := BI.out; omega)))
          clear R8 hb8 hk8 hv8 q0 q1 q2' hwb
          go_wp2_with fail
          go_roundw
          case rel => exact ⟨j + 1, n8, q2 + 1, v8, by omega, by go_num, R8', by omega, V8, S8, Z8, B8⟩
          case measure => simp [intOf]; omega
        · obtain rfl : j = n5 := by omega
          have EQ := hide2 (show (L1.take j).foldl onceB (accF Ls a i) = accF Ls a (i + 1) by rw [List.take_of_length_le (by rw [h5L]; exact Nat.le_refl _), AE.out])
          rw [EQ.out] at RS2
          go_wp2
          go_roundw
          case rel => exact ⟨i + 1, n2, q2, tv, by omega, by go_num, RS2, by omega, BO⟩
          case measure => simp [intOf]; omega
    · obtain rfl : i = n := by omega
      have EQ := hide2 (show accF Ls a i = nextB Ls a by rw [← HL.out]; exact accF_all Ls a)
      rw [EQ.out] at RS
      have hn2 : n' ≤ 1000000000000 := by
        rw [← RS.out.own.len, ← EQ.out]
        exact NN.out _ (accF_nodup Ls a i) (fun y hy => accF_mem hy)
      obtain ⟨A8, c8, rfl, hs8⟩ := (RS.out.own.mono (T := fun k => (k < M ∧ S k) ∨ w.heap.size ≤ k) (fun k _ h => h.1)).bx (by omega) (fun q hq => .inr hq)
      have O8 := hide2 hs8
      obtain ⟨y0, y1⟩ := RS.out.box.two
      clear hs8
      go_wp2
      go_ret
      exact ⟨A8, _, c8, rfl, O8.out, BR.out⟩
end Go.Proofs.YtniolbbhjibobaaDoor
namespace Go.Proofs.YtniolbbhjibobaaDoor
open Go.Shelf
def lays189_ren : Go.Shelf.Ren := ⟨fun | 189 => 19 | 125 => 30 | 257 => 29 | 128 => 54 | 129 => 55 | 294 => 45 | 295 => 46 | 296 => 47 | 297 => 48 | 298 => 49 | 299 => 50 | 216 => 51 | 300 => 52 | 301 => 53 | 328 => 61 | 329 => 62 | 330 => 63 | 331 => 64 | 332 => 65 | 215 => 66 | 343 => 76 | n => n, fun | 28 => 32 | 3 => 3 | 46 => 58 | 0 => 0 | 51 => 81 | 53 => 83 | 4 => 4 | 183 => 73 | 182 => 72 | 131 => 78 | 5 => 5 | 9 => 9 | 218 => 89 | 222 => 93 | 228 => 101 | 229 => 102 | n => n, fun | n => n⟩
theorem lays189 : Go.Proofs.Lays.n189 Tryd.prog lays189_ren := {
  mixed := by kernel_rfl
  f125 := Tryd.func30.trans (congrArg some (by kernel_rfl))
  f128 := Tryd.func54.trans (congrArg some (by kernel_rfl))
  f129 := Tryd.func55.trans (congrArg some (by kernel_rfl))
  f189 := Tryd.func19.trans (congrArg some (by kernel_rfl))
  f215 := Tryd.func66.trans (congrArg some (by kernel_rfl))
  f216 := Tryd.func51.trans (congrArg some (by kernel_rfl))
  f257 := Tryd.func29.trans (congrArg some (by kernel_rfl))
  f294 := Tryd.func45.trans (congrArg some (by kernel_rfl))
  f295 := Tryd.func46.trans (congrArg some (by kernel_rfl))
  f296 := Tryd.func47.trans (congrArg some (by kernel_rfl))
  f297 := Tryd.func48.trans (congrArg some (by kernel_rfl))
  f298 := Tryd.func49.trans (congrArg some (by kernel_rfl))
  f299 := Tryd.func50.trans (congrArg some (by kernel_rfl))
  f300 := Tryd.func52.trans (congrArg some (by kernel_rfl))
  f301 := Tryd.func53.trans (congrArg some (by kernel_rfl))
  f328 := Tryd.func61.trans (congrArg some (by kernel_rfl))
  f329 := Tryd.func62.trans (congrArg some (by kernel_rfl))
  f330 := Tryd.func63.trans (congrArg some (by kernel_rfl))
  f331 := Tryd.func64.trans (congrArg some (by kernel_rfl))
  f332 := Tryd.func65.trans (congrArg some (by kernel_rfl))
  f343 := Tryd.func76.trans (congrArg some (by kernel_rfl))
  t0 := Tryd.underlying0
  a0 := Tryd.isAgg0
  z0 := Tryd.sizeOf0
  v0 := Tryd.zeroValue0
  t3 := Tryd.underlying3
  a3 := Tryd.isAgg3
  z3 := Tryd.sizeOf3
  v3 := Tryd.zeroValue3
  t4 := Tryd.underlying4
  a4 := Tryd.isAgg4
  z4 := Tryd.sizeOf4
  v4 := Tryd.zeroValue4
  t5 := Tryd.underlying5
  a5 := Tryd.isAgg5
  z5 := Tryd.sizeOf5
  v5 := Tryd.zeroValue5
  t9 := Tryd.underlying9
  a9 := Tryd.isAgg9
  z9 := Tryd.sizeOf9
  v9 := Tryd.zeroValue9
  t28 := Tryd.underlying32
  a28 := Tryd.isAgg32
  z28 := Tryd.sizeOf32
  v28 := Tryd.zeroValue32
  t46 := Tryd.underlying58
  a46 := Tryd.isAgg58
  z46 := Tryd.sizeOf58
  v46 := Tryd.zeroValue58
  t51 := Tryd.underlying81
  a51 := Tryd.isAgg81
  z51 := Tryd.sizeOf81
  v51 := Tryd.zeroValue81
  t53 := Tryd.underlying83
  a53 := Tryd.isAgg83
  z53 := Tryd.sizeOf83
  v53 := Tryd.zeroValue83
  t131 := Tryd.underlying78
  a131 := Tryd.isAgg78
  z131 := Tryd.sizeOf78
  v131 := Tryd.zeroValue78
  t182 := Tryd.underlying72
  a182 := Tryd.isAgg72
  z182 := Tryd.sizeOf72
  v182 := Tryd.zeroValue72
  t183 := Tryd.underlying73
  a183 := Tryd.isAgg73
  z183 := Tryd.sizeOf73
  v183 := Tryd.zeroValue73
  t218 := Tryd.underlying89
  a218 := Tryd.isAgg89
  z218 := Tryd.sizeOf89
  v218 := Tryd.zeroValue89
  t222 := Tryd.underlying93
  a222 := Tryd.isAgg93
  z222 := Tryd.sizeOf93
  v222 := Tryd.zeroValue93
  t228 := Tryd.underlying101
  a228 := Tryd.isAgg101
  z228 := Tryd.sizeOf101
  v228 := Tryd.zeroValue101
  t229 := Tryd.underlying102
  a229 := Tryd.isAgg102
  z229 := Tryd.sizeOf102
  v229 := Tryd.zeroValue102 }
open Go.Sort Go.RowKit in
theorem slices_Sort_int (blk off cap : Nat) (zs : List Int) (w : World) (hH : Holds (Value.int .i64) w blk off zs.toArray) (hblk : blk < w.heap.size) (hsz : zs.length < 4611686018427387904) :
    Calls Tryd.prog 19 #[.slice (some ⟨blk, off, none⟩) zs.length cap] w fun e w' =>
      e = .returned (.tuple #[]) ∧ ∃ n os, w' = grow (putRow (Value.int .i64) (Sort.ahead w n) blk off (zs.mergeSort fun x y => decide (x ≤ y)).toArray) os := Any.slices_Sort_int lays189 blk off cap zs w hH hblk hsz
def laysNm220_ren : Go.Shelf.Ren := ⟨fun | 20 => 20 | n => n, fun | 22 => 32 | 3 => 3 | 4 => 4 | 0 => 0 | n => n, fun | n => n⟩
theorem laysNm220 : Go.Proofs.Lays2.n20 Tryd.prog laysNm220_ren := {
  mixed := by kernel_rfl
  f20 := Tryd.func20.trans (congrArg some (by kernel_rfl))
  t0 := Tryd.underlying0
  a0 := Tryd.isAgg0
  z0 := Tryd.sizeOf0
  v0 := Tryd.zeroValue0
  t3 := Tryd.underlying3
  a3 := Tryd.isAgg3
  z3 := Tryd.sizeOf3
  v3 := Tryd.zeroValue3
  t4 := Tryd.underlying4
  a4 := Tryd.isAgg4
  z4 := Tryd.sizeOf4
  v4 := Tryd.zeroValue4
  t22 := Tryd.underlying32
  a22 := Tryd.isAgg32
  z22 := Tryd.sizeOf32
  v22 := Tryd.zeroValue32
  i3 := by kernel_rfl }
open Go.RowKit Go.Lib Go.Sort in
theorem slices_Compact_int_arr (blk off cap : Nat) (d : Array Int) (w : World) (hH : Holds encI w blk off d) (hsz : d.size ≤ 9223372036854775807) (hcap : d.size ≤ cap) :
    Calls Tryd.prog 20 #[.slice (some ⟨blk, off, none⟩) d.size cap] w fun e w' => e = .returned (.slice (some ⟨blk, off, none⟩) (compactUpTo d d.size).length cap) ∧ ∃ q, w' = putRow encI (Sort.ahead w q) blk off (compactUpTo d d.size ++ List.replicate (d.size - (compactUpTo d d.size).length) 0).toArray := Any.slices_Compact_int_arr laysNm220 blk off cap d w hH hsz hcap
open Go.RowKit Go.Lib Go.Sort in
theorem slices_Compact_int (blk off cap : Nat) (zs : List Int) (w : World) (hH : Holds (Value.int .i64) w blk off zs.toArray) (hsz : zs.length ≤ 9223372036854775807) (hcap : zs.length ≤ cap) :
    Calls Tryd.prog 20 #[.slice (some ⟨blk, off, none⟩) zs.length cap] w fun e w' => e = .returned (.slice (some ⟨blk, off, none⟩) (Lib.compact zs).length cap) ∧ ∃ q, w' = putRow (Value.int .i64) (Sort.ahead w q) blk off (Lib.compact zs ++ List.replicate (zs.length - (Lib.compact zs).length) 0).toArray := Any.slices_Compact_int laysNm220 blk off cap zs w hH hsz hcap
open Go.RowKit Go.Lib Go.Sort in
theorem slices_Compact_int_empty (a : Option Addr) (cap : Nat) (w : World) :
    Calls Tryd.prog 20 #[.slice a 0 cap] w fun e w' => e = .returned (.slice a 0 cap) ∧ w' = w := Any.slices_Compact_int_empty laysNm220 a cap w
open Go.RowKit Go.Sort in
theorem slices_Sort_int_none (p : Option Addr) (cap : Nat) (w : World) :
    Calls Tryd.prog 19 #[.slice p 0 cap] w fun e w' => e = .returned (.tuple #[]) ∧ w' = w := Any.slices_Sort_int_none lays189 p cap w
end Go.Proofs.YtniolbbhjibobaaDoor
