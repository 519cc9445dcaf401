/- The contract of the closure visit of shape.walk. Conditions: the net is right; the node is one of it. -/
import Derived.Test.YtpagenlealddhaaShapeA
import Derived.Test.YtpagenlealddhaaNetK
import Derived.Deep.DeepCutAuto
namespace Go.Proofs.Ytpagenlealddhaa
open Go.RowKit Go.Maps

abbrev visitV (bh bn bv : Nat) : Value := .func (.func 168) #[] #[.pointer (some ⟨bh, 0, none⟩), .pointer (some ⟨bn, 0, none⟩), .pointer (some ⟨bv, 0, none⟩)]
theorem grownDrew (w : World) (row : Option Nat) : w.grownBy w.drew row := ⟨rfl, rfl, rfl, Nat.le_refl _, fun _ _ _ => rfl⟩
theorem grownOf {w w' : World} (h : Below w.heap.size w w') (row : Option Nat) : w.grownBy w' row := ⟨h.os, h.tape, h.output, h.size, fun k hk _ => h.block k hk⟩
theorem SetM.one {w w' : World} {b : Nat} {had : List PNode} (h : SetM w b had) (hb : w'.heap[b]? = w.heap[b]?) : SetM w' b had := h.of_block hb
theorem nodes_small {N : PNet} (hok : netOk N = true) {x : PNode} (h : x ∈ nodes N) : x.2 ≤ 24 := by
  have h1 := (netOk_iff N).1 hok
  rcases x with ⟨b, k⟩
  cases b
  · have := mem_nodes_place.1 h; simp only []; omega
  · have := mem_nodes_tran.1 h; simp only []; omega
theorem nodes_few {N : PNet} (hok : netOk N = true) : (nodes N).length ≤ 40 := by
  have h1 := (netOk_iff N).1 hok
  rw [nodes_length]; omega
theorem dfs_had {α : Type} [DecidableEq α] {s : α → List α} {f : Nat} {had : List α} {x : α} (h : x ∈ had) : dfs s f had x = had := by
  cases f with
  | zero => rfl
  | succ f => rw [dfs, if_pos h]
theorem dfs_new {α : Type} [DecidableEq α] {s : α → List α} {f : Nat} {had : List α} {x : α} (h : x ∉ had) : dfs s (f + 1) had x = (s x).foldl (dfs s f) (x :: had) := by rw [dfs, if_neg h]
theorem fold_had {N : PNet} (hok : netOk N = true) {f : Nat} {acc L : List PNode} (hL : ∀ z ∈ L, z ∈ nodes N) (hg : Had (nodes N) acc) (hl : (nodes N).length ≤ acc.length + f) :
    Had (nodes N) (L.foldl (dfs (nodeS N) f) acc) ∧ (nodes N).length ≤ (L.foldl (dfs (nodeS N) f) acc).length + f := by
  obtain ⟨F, _⟩ := dfs_fold (fun had x => dfs_found (nodes_closed hok) f had x) L acc hL hg hl
  exact ⟨F.good, by have := F.len; omega⟩

/-- Where it was found before, nothing is done. -/
theorem visit_had {w : World} {bm bh bn bv : Nat} {had : List PNode} {x : PNode} (hx : x.2 ≤ 1000) (hin : x ∈ had) (hs : SetM w bm had) (b1 : Box w bh 196 #[.map (some bm)]) :
    Calls Try.prog 168 #[nodeV x, .pointer (some ⟨bh, 0, none⟩), .pointer (some ⟨bn, 0, none⟩), .pointer (some ⟨bv, 0, none⟩)] w
      (fun e w' => e = .returned (.tuple #[]) ∧ SetM w' bm had ∧ w.grownBy w' (some bm)) := by
  have HS := hide2 (hs.alloc (.cells #[.bool x.1, .int .i64 x.2] 227))
  have LK := HS.out.look x hx
  rw [if_pos hin] at LK
  have X1 := (b1.old (.cells #[.bool x.1, .int .i64 x.2] 227)).cell 0
  obtain ⟨xb, xn⟩ := x
  simp only [List.getElem?_toArray, List.getElem?_cons_zero] at X1
  clear hs b1 hin
  show Calls Try.prog 168 #[.agg #[.bool xb, .int .i64 xn], .pointer (some ⟨bh, 0, none⟩), .pointer (some ⟨bn, 0, none⟩), .pointer (some ⟨bv, 0, none⟩)] w _
  simp only [nodeV] at LK
  go_enter Try.func168, Try.ntmps168
  go_wp2
  exact bodyPost_ret (v := .tuple #[]) (by simp [results, Try.results168, go_sem]) rfl ⟨rfl, HS.out, World.grownBy_alloc _ _ _⟩

set_option maxRecDepth 100000 in
set_option maxHeartbeats 4000000 in
theorem visit_calls {w0 : World} {P : Int} {A : Option Addr} {n c : Nat} {ts : List PTran} (h0 : Trans w0 A n c ts) (hok : netOk ⟨P, ts⟩ = true) {bm bh bn bv : Nat} (g1 : w0.heap.size ≤ bm) (g2 : bh ≠ bm) (g3 : bn ≠ bm) (g4 : bv ≠ bm) :
    ∀ (f : Nat) (had : List PNode) (x : PNode) (w : World), Had (nodes ⟨P, ts⟩) had → x ∈ nodes ⟨P, ts⟩ → (nodes ⟨P, ts⟩).length ≤ had.length + f → SetM w bm had →
      Box w bh 196 #[.map (some bm)] → Box w bn 38 #[.int .i64 P, .slice A n c] → Box w bv 225 #[visitV bh bn bv] → Below w0.heap.size w0 w →
      Calls Try.prog 168 #[nodeV x, .pointer (some ⟨bh, 0, none⟩), .pointer (some ⟨bn, 0, none⟩), .pointer (some ⟨bv, 0, none⟩)] w
        (fun e w' => e = .returned (.tuple #[]) ∧ SetM w' bm (dfs (nodeS ⟨P, ts⟩) f had x) ∧ w.grownBy w' (some bm)) := by
  intro f
  induction f with
  | zero =>
    intro had x w hg hx hl hs b1 b2 b3 hb
    have hin : x ∈ had := nodup_full hg.nodup hg.sub (by omega) hx
    rw [dfs_had hin]
    exact visit_had (by have := nodes_small hok hx; omega) hin hs b1
  | succ f ih =>
    intro had x w hg hx hl hs b1 b2 b3 hb
    by_cases hin : x ∈ had
    · rw [dfs_had hin]
      exact visit_had (by have := nodes_small hok hx; omega) hin hs b1
    · rw [dfs_new hin]
      have hx24 := nodes_small hok hx
      have hh := nodup_len _ _ hg.nodup hg.sub
      have hn40 := nodes_few hok
      have HS := hide2 (hs.alloc (.cells #[.bool x.1, .int .i64 x.2] 227))
      have LK := HS.out.look x (by omega)
      rw [if_neg hin] at LK
      obtain ⟨v0, st, w2, r1, r2, r3, r4, w3, s1, s2, s3, s4⟩ := SetM.entry (w := (w.alloc (.cells #[.bool x.1, .int .i64 x.2] 227)).drew) HS.out x (by omega) hin (by omega)
      have X0 := hide2 (b1.old (.cells #[.bool x.1, .int .i64 x.2] 227))
      have X1 := hide2 (b2.old (.cells #[.bool x.1, .int .i64 x.2] 227))
      have X2 := hide2 (b3.old (.cells #[.bool x.1, .int .i64 x.2] 227))
      have X3 := hide2 (Box.new w #[.bool x.1, .int .i64 x.2] 227)
      have BW := hide2 (hb.trans ((boxBelow w (.cells #[.bool x.1, .int .i64 x.2] 227)).mono hb.size))
      have hbx : w.heap.size ≠ bm := by have := hs.lt; omega
      have GW := hide2 (World.grownBy_alloc w (.cells #[.bool x.1, .int .i64 x.2] 227) (some bm))
      have HX := hide2 hx
      have HI := hide2 hin
      have HG := hide2 (show Had (nodes ⟨P, ts⟩) (x :: had) from ⟨List.nodup_cons.2 ⟨hin, hg.nodup⟩, fun y hy => by
        rcases List.mem_cons.1 hy with rfl | hy
        · exact hx
        · exact hg.sub y hy⟩)
      have HL := hide2 (show (nodes ⟨P, ts⟩).length ≤ (x :: had).length + f by simp only [List.length_cons]; omega)
      have IH := hide2 ih
      have H0 := hide2 h0
      have HO := hide2 hok
      have R2 := hide2 r2
      have S2 := hide2 s2
      have S3 := hide2 s3
      obtain ⟨xb, xn⟩ := x
      simp only [nodeV] at LK r1 r4 s1
      simp only [] at hx24
      replace X3 : Hid (Box (w.alloc (.cells #[.bool xb, .int .i64 xn] 227)) w.heap.size 227 #[.bool xb, .int .i64 xn]) := X3
      clear hs b1 b2 b3 hb hg hl hx hin h0 hok ih r2 r3 s2 s3 s4 hh hn40
      show Calls Try.prog 168 #[.agg #[.bool xb, .int .i64 xn], .pointer (some ⟨bh, 0, none⟩), .pointer (some ⟨bn, 0, none⟩), .pointer (some ⟨bv, 0, none⟩)] w _
      have x0 := X0.out.cell 0
      simp only [List.getElem?_toArray, List.getElem?_cons_zero] at x0
      obtain ⟨x1, x2⟩ := X3.out.two
      go_enter Try.func168, Try.ntmps168
      go_upto_region 2 with fail
      clear LK
      have LK := SetM.look (w := (w.alloc (.cells #[.bool xb, .int .i64 xn] 227)).drew) HS.out (xb, xn) (by show xn ≤ 1000; omega)
      rw [if_neg HI.out] at LK
      simp only [nodeV] at LK
      generalize w.alloc (.cells #[.bool xb, .int .i64 xn] 227) = w1 at *
      have Y0 := hide2 (X0.out.drew.grown R2.out (by simp; omega))
      have Y1 := hide2 (X1.out.drew.grown R2.out (by simp; omega))
      have Y2 := hide2 (X2.out.drew.grown R2.out (by simp; omega))
      have Y3 := hide2 (X3.out.drew.grown R2.out (by simp; omega))
      have y0 := Y0.out.cell 0
      simp only [List.getElem?_toArray, List.getElem?_cons_zero] at y0
      obtain ⟨y1, y2⟩ := Y3.out.two
      refine wp_region_scr 6 (.takes [0, 1] (.two 2 (.take 3 (.one 4 (.take 5 (.fin 6 .done)))) 4 (.take 5 (.one 2 (.take 3 (.fin 6 .done)))))) (fun w' => w'.cell? ⟨bh, 0, none⟩ = some (.map (some bm)) ∧ w'.cell? ⟨w.heap.size, 0, none⟩ = some (.bool xb) ∧ w'.cell? ⟨w.heap.size, 1, none⟩ = some (.int .i64 xn)) (by kernel_rfl) (by kernel_rfl) (by kernel_rfl) (fun _ _ _ _ _ h => h) ⟨x0, x1, x2⟩ (fun hHeld => ?_)
      simp only [Scr.takes]
      iterate 2
        refine tkTake (v := ?_) rfl (by rfl) hHeld (fun w' hSw => ?_) ?_
        rotate_left
        · (go_simp; try with_reducible rfl)
        simp only [Act.put, List.setIfInBounds_toArray, List.set_cons_zero, List.set_cons_succ]
      refine scrEnd (.fin 6 .done) (fun a0 a' w' => a' = ((((a0.put (some 15) (.int .i64 0)).put (some 16) (.int .i64 1)).put (some 17) (.tuple #[v0, .int .i64 st])).put (some 18) (.int .i64 st)) ∧ w' = w2) ?_ (fun EN => ?_)
      · rintro a' w' ⟨rfl, rfl⟩ hS
        simp only [Act.put, List.setIfInBounds_toArray, List.set_cons_zero, List.set_cons_succ]
        refine tkEnd rfl (fun K hK => ?_)
        go_simp
        refine hK.out _ _ ?_
        clear hK
        refine tkDone ?_
        have Z1 := hide2 (Y1.out.grown S3.out (by simp; omega))
        have Z2 := hide2 (Y2.out.grown S3.out (by simp; omega))
        have Z0 := hide2 (Y0.out.grown S3.out (by simp; omega))
        have Z3 := hide2 (Y3.out.grown S3.out (by simp; omega))
        have G3 := hide2 (GW.out.trans ((grownDrew w1 (some bm)).trans (R2.out.trans S3.out)))
        have B3 := hide2 (show Below w0.heap.size w0 w3 from (BW.out.drew.grown R2.out BW.out.size (fun k hk => by cases hk; exact g1)).grown S3.out (Nat.le_trans BW.out.size R2.out.size) (fun k hk => by cases hk; exact g1))
        have hszb : w.heap.size < w3.heap.size := Z3.out.lt
        clear s1 S3 R2 Y0 Y1 Y2 Y3 X0 X1 X2 X3 LK hHeld BW GW HS x0 x1 x2 HI hS r1 r4 y0 y1 y2
        obtain ⟨z0, z1⟩ := Z1.out.two
        obtain ⟨x1, x2⟩ := Z3.out.two
        cases xb
        · have hxP : xn < P.toNat := mem_nodes_place.1 HX.out
          have HT := hide2 (show nodeS ⟨P, ts⟩ (false, xn) = (preN ts xn n).map fun k => (true, k) by simp only [nodeS, H0.out.len])
          have HN := hide2 (show ∀ j, j ≤ n → ∀ z ∈ (preN ts xn j).map (fun k => ((true, k) : PNode)), z ∈ nodes ⟨P, ts⟩ from fun j hj z hz => by
            simp only [preN, List.mem_map, List.mem_filter, List.mem_range] at hz
            obtain ⟨q, ⟨hq, _⟩, rfl⟩ := hz
            refine mem_nodes_tran.2 ?_
            have := H0.out.len
            simp only []
            omega)
          have hn := H0.out.small
          go_wp2
          go_loopw [44] (fun i wr => ∃ j : Nat, j ≤ n ∧ i = .int .i64 j ∧ Hid (SetM wr bm (((preN ts xn j).map fun k => ((true, k) : PNode)).foldl (dfs (nodeS ⟨P, ts⟩) f) ((false, xn) :: had))) ∧ Hid (w3.grownBy wr (some bm))) (fun i _ => n - (intOf i).toNat)
          case atStart => exact ⟨0, Nat.zero_le _, rfl, S2, World.grownBy.refl _ _⟩
          case round =>
            obtain ⟨j, hj, rfl, SM, GR⟩ := hrel
            clear z0 z1 x1 x2
            have BR := hide2 (show Below w0.heap.size w0 wr from B3.out.grown GR.out B3.out.size (fun k hk => by cases hk; exact g1))
            by_cases hlt : j < n
            · have hji : (j : Int) < (n : Int) := by omega
              obtain ⟨bl, off, t, A1, n1, c1, A2, n2, c2, rfl, hbl, ht, q0', q1', q2', i1, i2, m1, m2⟩ := Trans.get H0.out hlt
              have q0 := (BR.out.cell (p := ⟨bl, off + j * 3, none⟩) hbl).trans q0'
              have q1 := (BR.out.cell (p := ⟨bl, off + j * 3 + 1, none⟩) hbl).trans q1'
              have q2 := (BR.out.cell (p := ⟨bl, off + j * 3 + 2, none⟩) hbl).trans q2'
              have hxn : xn < n1 := by have := (netOk_tran HO.out ht.out).2.2.1; rw [i1.len] at this; simp only [] at this; omega
              have hxi : (xn : Int) < (n1 : Int) := by omega
              have SU := hide2 (fun v (hv : t.pre[xn]? = some v) => show ((preN ts xn (j + 1)).map fun k => ((true, k) : PNode)).foldl (dfs (nodeS ⟨P, ts⟩) f) ((false, xn) :: had) = if 0 < v then dfs (nodeS ⟨P, ts⟩) f (((preN ts xn j).map fun k => ((true, k) : PNode)).foldl (dfs (nodeS ⟨P, ts⟩) f) ((false, xn) :: had)) (true, j) else ((preN ts xn j).map fun k => ((true, k) : PNode)).foldl (dfs (nodeS ⟨P, ts⟩) f) ((false, xn) :: had) by
                rw [preN_succ _ _ _ ht.out, atL_some hv]
                by_cases h : 0 < v <;> simp [h, List.foldl_append])
              have I1 := hide2 i1
              clear i1 i2 q0' q1' q2'
              have bb := boxBelow wr (.cells #[.int .i64 t.label, .slice A1 n1 c1, .slice A2 n2 c2] 107)
              have hbxr : w.heap.size < wr.heap.size := Nat.lt_of_lt_of_le hszb GR.out.size
              have U0 := hide2 ((Z0.out.grown GR.out (by simp; omega)).old (.cells #[.int .i64 t.label, .slice A1 n1 c1, .slice A2 n2 c2] 107))
              have U1 := hide2 ((Z1.out.grown GR.out (by simp; omega)).old (.cells #[.int .i64 t.label, .slice A1 n1 c1, .slice A2 n2 c2] 107))
              have U2 := hide2 ((Z2.out.grown GR.out (by simp; omega)).old (.cells #[.int .i64 t.label, .slice A1 n1 c1, .slice A2 n2 c2] 107))
              have U3 := hide2 ((Z3.out.grown GR.out (by simp; omega)).old (.cells #[.int .i64 t.label, .slice A1 n1 c1, .slice A2 n2 c2] 107))
              have U4 := hide2 (Box.new wr #[.int .i64 t.label, .slice A1 n1 c1, .slice A2 n2 c2] 107)
              have SM1 := hide2 (SM.out.keep bb)
              have GR1 := hide2 (GR.out.trans (grownOf bb (some bm)))
              have BR1 := hide2 (BR.out.trans (bb.mono BR.out.size))
              clear bb
              go_upto_region 13 with fail
              generalize wr.alloc (.cells #[.int .i64 t.label, .slice A1 n1 c1, .slice A2 n2 c2] 107) = w4 at *
              obtain ⟨b1, o1, v, rfl, hb1, hv, qv⟩ := Ints.get (Ints.keep I1.out BR1.out) hxn
              have SV := hide2 (SU.out v hv.out)
              clear SU q0 q1 q2
              obtain ⟨x1, x2⟩ := U3.out.two
              obtain ⟨y0, y1, y2⟩ := U4.out.three
              have fn0 := U2.out.cell 0
              simp only [List.getElem?_toArray, List.getElem?_cons_zero] at fn0
              by_cases hpos : 0 < v
              · obtain ⟨FH, FL⟩ := fold_had (f := f) HO.out (HN.out j hj) HG.out HL.out
                have CL := hide2 (IH.out _ (true, j) w4 FH (mem_nodes_tran.2 (by have := H0.out.len; simp only []; omega)) FL SM1.out U0.out U1.out U2.out BR1.out)
                clear FH FL
                go_wp2_with fail
                refine CL.out.mono ?_
                rintro e wn ⟨rfl, sm, gr⟩
                have SN := hide2 sm
                have GN := hide2 (GR1.out.trans gr)
                clear sm gr
                go_wp2
                go_roundw
                case rel => exact ⟨j + 1, by omega, by go_num, by rw [SV.out, if_pos hpos]; exact SN, GN⟩
                case measure => simp [intOf]; omega
              · go_wp2
                go_roundw
                case rel => exact ⟨j + 1, by omega, by go_num, by rw [SV.out, if_neg hpos]; exact SM1, GR1⟩
                case measure => simp [intOf]; omega
            · obtain rfl : j = n := by omega
              go_wp2
              exact bodyPost_end (v := .tuple #[]) (by simp [results, Try.results168, go_sem]) rfl ⟨rfl, by rw [HT.out]; exact SM.out, G3.out.trans GR.out⟩
        · have hxn : xn < n := by have h1 := mem_nodes_tran.1 HX.out; have h2 := H0.out.len; simp only [] at h1; omega
          have hxi : (xn : Int) < (n : Int) := by omega
          obtain ⟨bl, off, t, A1, n1, c1, A2, n2, c2, rfl, hbl, ht, q0', q1', q2', i1, i2, m1, m2⟩ := Trans.get H0.out hxn
          have q2 := (B3.out.cell (p := ⟨bl, off + xn * 3 + 2, none⟩) hbl).trans q2'
          have I2 := hide2 i2
          have HT := hide2 (show nodeS ⟨P, ts⟩ (true, xn) = (posN t.post n2).map fun p => (false, p) by simp only [nodeS, ht.out, i2.len])
          have HN := hide2 (show ∀ j, j ≤ n2 → ∀ z ∈ (posN t.post j).map (fun p => ((false, p) : PNode)), z ∈ nodes ⟨P, ts⟩ from fun j hj z hz => by
            simp only [posN, List.mem_map, List.mem_filter, List.mem_range] at hz
            obtain ⟨q, ⟨hq, _⟩, rfl⟩ := hz
            refine mem_nodes_place.2 ?_
            have := (netOk_tran HO.out ht.out).2.2.2.1
            rw [i2.len] at this
            simp only [] at this ⊢
            omega)
          clear i1 i2 q0' q1' q2'
          go_wp2
          go_loopw [29] (fun i wr => ∃ j : Nat, j ≤ n2 ∧ i = .int .i64 j ∧ Hid (SetM wr bm (((posN t.post j).map fun p => ((false, p) : PNode)).foldl (dfs (nodeS ⟨P, ts⟩) f) ((true, xn) :: had))) ∧ Hid (w3.grownBy wr (some bm))) (fun i _ => n2 - (intOf i).toNat)
          case atStart => exact ⟨0, Nat.zero_le _, rfl, S2, World.grownBy.refl _ _⟩
          case round =>
            obtain ⟨j, hj, rfl, SM, GR⟩ := hrel
            clear z0 z1 x1 x2 q2
            have BR := hide2 (show Below w0.heap.size w0 wr from B3.out.grown GR.out B3.out.size (fun k hk => by cases hk; exact g1))
            have fn0 := (Z2.out.grown GR.out (by simp; omega)).cell 0
            simp only [List.getElem?_toArray, List.getElem?_cons_zero] at fn0
            by_cases hlt : j < n2
            · have hji : (j : Int) < (n2 : Int) := by omega
              obtain ⟨b2, o2, v, rfl, hb2, hv, qv⟩ := Ints.get (Ints.keep I2.out BR.out) hlt
              have SU := hide2 (show ((posN t.post (j + 1)).map fun p => ((false, p) : PNode)).foldl (dfs (nodeS ⟨P, ts⟩) f) ((true, xn) :: had) = if 0 < v then dfs (nodeS ⟨P, ts⟩) f (((posN t.post j).map fun p => ((false, p) : PNode)).foldl (dfs (nodeS ⟨P, ts⟩) f) ((true, xn) :: had)) (false, j) else ((posN t.post j).map fun p => ((false, p) : PNode)).foldl (dfs (nodeS ⟨P, ts⟩) f) ((true, xn) :: had) by
                rw [posN_succ, atL_some hv.out]
                by_cases h : 0 < v <;> simp [h, List.foldl_append])
              by_cases hpos : 0 < v
              · obtain ⟨FH, FL⟩ := fold_had (f := f) HO.out (HN.out j hj) HG.out HL.out
                have CL := hide2 (IH.out _ (false, j) wr FH (HN.out (j + 1) (by omega) _ (by rw [posN_succ, atL_some hv.out, if_pos hpos]; simp)) FL SM.out (Z0.out.grown GR.out (by simp; omega)) (Z1.out.grown GR.out (by simp; omega)) (Z2.out.grown GR.out (by simp; omega)) BR.out)
                clear FH FL
                go_wp2_with fail
                refine CL.out.mono ?_
                rintro e wn ⟨rfl, sm, gr⟩
                have SN := hide2 sm
                have GN := hide2 (GR.out.trans gr)
                clear sm gr
                go_wp2
                go_roundw
                case rel => exact ⟨j + 1, by omega, by go_num, by rw [SU.out, if_pos hpos]; exact SN, GN⟩
                case measure => simp [intOf]; omega
              · go_wp2
                go_roundw
                case rel => exact ⟨j + 1, by omega, by go_num, by rw [SU.out, if_neg hpos]; exact SM, GR⟩
                case measure => simp [intOf]; omega
            · obtain rfl : j = n2 := by omega
              go_wp2
              exact bodyPost_ret (v := .tuple #[]) (by simp [results, Try.results168, go_sem]) rfl ⟨rfl, by rw [HT.out]; exact SM.out, G3.out.trans GR.out⟩
      refine tkTwo rfl rfl (fun K hK => ?_) (fun K hK => ?_)
      · go_simp
        refine hK.out _ _ ⟨x0, x1, x2⟩ (fun hHeld => ?_)
        clear hK
        try simp only [Act.put, List.setIfInBounds_toArray, List.set_cons_zero, List.set_cons_succ]
        refine tkTake (v := ?_) rfl (by rfl) hHeld (fun w' hSw => ?_) ?_
        rotate_left
        · (go_simp; try with_reducible rfl)
        simp only [Act.put, List.setIfInBounds_toArray, List.set_cons_zero, List.set_cons_succ]
        refine tkOne rfl (fun K hK => ?_)
        go_simp
        refine hK.out _ _ ⟨y0, y1, y2⟩ (fun hHeld => ?_)
        clear hK
        try simp only [Act.put, List.setIfInBounds_toArray, List.set_cons_zero, List.set_cons_succ]
        refine tkTake (v := ?_) rfl (by rfl) hHeld (fun w' hSw => ?_) ?_
        rotate_left
        · (go_simp; try with_reducible rfl)
        simp only [Act.put, List.setIfInBounds_toArray, List.set_cons_zero, List.set_cons_succ]
        exact EN.out _ _ ⟨rfl, rfl⟩ hHeld
      · go_simp
        refine hK.out _ _ ⟨y0, y1, y2⟩ (fun hHeld => ?_)
        clear hK
        try simp only [Act.put, List.setIfInBounds_toArray, List.set_cons_zero, List.set_cons_succ]
        refine tkTake (v := ?_) rfl (by rfl) hHeld (fun w' hSw => ?_) ?_
        rotate_left
        · (go_simp; try with_reducible rfl)
        simp only [Act.put, List.setIfInBounds_toArray, List.set_cons_zero, List.set_cons_succ]
        refine tkOne rfl (fun K hK => ?_)
        go_simp
        refine hK.out _ _ ⟨y0, y1, y2⟩ (fun hHeld => ?_)
        clear hK
        try simp only [Act.put, List.setIfInBounds_toArray, List.set_cons_zero, List.set_cons_succ]
        refine tkTake (v := ?_) rfl (by rfl) hHeld (fun w' hSw => ?_) ?_
        rotate_left
        · (go_simp; try with_reducible rfl)
        simp only [Act.put, List.setIfInBounds_toArray, List.set_cons_zero, List.set_cons_succ]
        exact EN.out _ _ ⟨rfl, rfl⟩ hHeld
end Go.Proofs.Ytpagenlealddhaa
