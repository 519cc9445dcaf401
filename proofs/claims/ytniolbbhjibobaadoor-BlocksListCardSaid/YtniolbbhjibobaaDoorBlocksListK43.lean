/- The contract of blocks.Words (printed by gen/bwZ.py). Conditions: the block reads as one; its labels are ints; the table of powers of ten is in memory. -/
import Derived.Test.YtniolbbhjibobaaDoorBlocksListK37
import Derived.Test.YtniolbbhjibobaaDoorBlocksListK42
set_option linter.all false
namespace Go.Proofs.YtniolbbhjibobaaDoor
open Go.RowKit Go.Maps
open Classical

/-- What blocks.Words answers. -/
noncomputable def ansW (b : PBlk) (most : Int) : List (List Int) × Int :=
  if wrongB b ≠ 0 then ([], wrongB b) else if most < 0 ∨ 8 < most then ([], 2) else if 400 < (wordsX (lang b) (letB b) most.toNat (most.toNat + 1)).length then ([], 4) else (wordsX (lang b) (letB b) most.toNat (most.toNat + 1), 0)
theorem ansW_err {b : PBlk} {most : Int} (h : wrongB b ≠ 0) : ansW b most = ([], wrongB b) := if_pos h
theorem ansW_range {b : PBlk} {most : Int} (h : wrongB b = 0) (hm : most < 0 ∨ 8 < most) : ansW b most = ([], 2) := by unfold ansW; rw [if_neg (by rw [h]; simp), if_pos hm]
theorem ansW_full {b : PBlk} {m : Nat} (h : wrongB b = 0) (hm : m ≤ 8) (hf : 400 < (wordsX (lang b) (letB b) m (m + 1)).length) : ansW b (m : Int) = ([], 4) := by unfold ansW; rw [if_neg (by rw [h]; simp), if_neg (by omega), Int.toNat_natCast, if_pos hf]
theorem ansW_all {b : PBlk} {m : Nat} (h : wrongB b = 0) (hm : m ≤ 8) (hf : ¬ 400 < (wordsX (lang b) (letB b) m (m + 1)).length) : ansW b (m : Int) = (wordsX (lang b) (letB b) m (m + 1), 0) := by unfold ansW; rw [if_neg (by rw [h]; simp), if_neg (by omega), Int.toNat_natCast, if_neg hf]
theorem rest_nodup (b : PBlk) (v : List Int) : (restB b v).Nodup := by
  rcases List.eq_nil_or_concat v with rfl | ⟨u, a, rfl⟩
  · exact List.nodup_cons.2 ⟨by simp, List.nodup_nil⟩
  · rw [List.concat_eq_append, restB_snoc]; exact nextB_nodup _ _
/-- What one knows of a block that isn't wrong. -/
structure BwK (b : PBlk) : Prop where
  wf : wfB b
  sz : szB b ≤ 40
  left : ∀ v : List Int, v.length ≤ 9 → ∀ x ∈ restB b v, LeftB b v.length x
  next : ∀ (v : List Int) (a : Int), v.length ≤ 8 → ∀ x ∈ restB b v, ∀ y ∈ afterB x a, LeftB b (v.length + 1) y
  few : ∀ (n : Nat) (L : List PBlk), n ≤ 9 → L.Nodup → (∀ x ∈ L, LeftB b n x) → L.length ≤ 1000000000000
  all : ∀ w, lang b w → ∀ c ∈ w, c ∈ letB b
theorem BwK.of {b : PBlk} (h : wrongB b = 0) (hi : intB b) : BwK b where
  wf := (wrong_right h).1
  sz := (wrong_right h).2.1
  left := fun v hv => LeftB.all h hi _ v rfl hv
  next := fun v a hv x hx y hy => LeftB.next h (LeftB.all h hi _ v rfl (by omega) x hx) hv hy
  few := fun n L hn hd hL => left_len h hn hd hL
  all := fun w hw c hc => (letB_lab b c).2 (lang_letters b (wrong_right h).1 w hw c hc)
theorem BwK.len {b : PBlk} (h : BwK b) {v : List Int} (hv : v.length ≤ 9) : (restB b v).length ≤ 1000000000000 := h.few _ _ hv (rest_nodup b v) (h.left v hv)
theorem own_fresh {u u' : Value} {z : Nat} (h : ∀ k, u'.ownBlock = some k → u.ownBlock = some k ∨ z ≤ k) : ∀ k, k < z → u.ownBlock ≠ some k → u'.ownBlock ≠ some k := fun k hk hn e => (h k e).elim hn (fun h => by omega)
set_option maxRecDepth 100000 in
set_option maxHeartbeats 40000000 in
theorem bwWords_calls {S : Nat → Prop} {w : World} {k l most : Int} {A : Option Addr} {n c : Nat} {ks : List PBlk} (h : BX S w A n c ks) (hi : intB (.mk k l ks)) (hP : TabP w) :
    Calls Tryd.prog 4 #[.agg #[.int .i64 k, .int .i64 l, .slice A n c], .int .i64 most] w (AnsWl (ansW (.mk k l ks) most) w) := by
  have B1 := hide2 (boxBelow w (.cells #[.int .i64 k, .int .i64 l, .slice A n c] 24))
  have BB := hide2 (Box.new w #[.int .i64 k, .int .i64 l, .slice A n c] 24)
  obtain ⟨d0, hd0⟩ := h.blks
  have CW := hide2 (blkWrong_calls (kd := k) (lb := l) (Blks.keep hd0 B1.out))
  have H := hide2 (h.keep B1.out)
  have PT := hide2 (hP.keep B1.out)
  obtain ⟨b, hb⟩ : ∃ b, PBlk.mk k l ks = b := ⟨_, rfl⟩
  have HB := hide2 hb
  have SZ := hide2 (szB_mk (k := k) (l := l) (ks := ks))
  rw [hb] at hi CW
  rw [hb]
  have HI := hide2 hi
  clear hd0 h hi hP hb
  go_enter Tryd.func4, Tryd.ntmps4
  go_upto_region 1 with fail
  generalize w.alloc (.cells #[.int .i64 k, .int .i64 l, .slice A n c] 24) = w1 at *
  obtain ⟨z0, z1, z2⟩ := BB.out.three
  go_wp2_with fail
  refine CW.out.mono ?_
  rintro e w2 ⟨rfl, hb2⟩
  have B2 := hide2 (B1.out.trans (hb2.mono B1.out.size))
  have D2 := hide2 hb2
  clear hb2 z0 z1 z2 CW
  obtain ⟨er, her⟩ : ∃ er, wrongB b = er := ⟨_, rfl⟩
  rw [her]
  have HER := hide2 her
  clear her
  by_cases he : er = 0
  · subst he
    have KB := hide2 (BwK.of HER.out HI.out)
    by_cases hm0 : most < 0
    · have OKR := hide2 (ansW_range (most := most) HER.out (.inl hm0))
      go_wp2_with fail
      go_ret2
      exact ⟨none, 0, 0, by rw [OKR.out]; rfl, by rw [OKR.out]; exact Sl.nil0, B2.out⟩
    · by_cases hm8 : 8 < most
      · have OKR := hide2 (ansW_range (most := most) HER.out (.inr hm8))
        go_wp2_with fail
        go_ret2
        exact ⟨none, 0, 0, by rw [OKR.out]; rfl, by rw [OKR.out]; exact Sl.nil0, B2.out⟩
      · obtain ⟨mm, rfl⟩ : ∃ mm : Nat, most = (mm : Int) := ⟨most.toNat, by omega⟩
        have hmm : mm ≤ 8 := by omega
        have FUL := hide2 (fun hf => ansW_full HER.out hmm hf)
        have ALL := hide2 (fun hf => ansW_all HER.out hmm hf)
        have ASC := hide2 (letB_asc b)
        have LLN := hide2 (Nat.le_trans (letB_len b) KB.out.sz)
        clear hm0 hm8
        obtain ⟨z0, z1, z2⟩ := (BB.out.keep D2.out).three
        have H2 := hide2 (H.out.keep D2.out)
        have P2 := hide2 (PT.out.keep D2.out)
        have X2 := hide2 (BB.out.keep D2.out)
        obtain ⟨B0, hB0⟩ : ∃ B0, w2.heap.size = B0 := ⟨_, rfl⟩
        have HB0 := hide2 hB0
        have Bu := hide2 (show Below B0 w2 (w2.alloc (.cells #[.int .i64 k, .int .i64 l, .slice A n c] 24)) by rw [← hB0]; exact boxBelow _ _)
        have S0 := hide2 (RowT.one (b := b) (B := B0) (B2 := B0) (V := fun _ => True) (w := w2.alloc (.cells #[.int .i64 k, .int .i64 l, .slice A n c] 24)) (A := none) (c := 0) (C := some ⟨w2.heap.size, 0, none⟩) (m := 1) (d := 1) (v := []) OwnSl.nil (by simp) (by
          have := bx_one (S := fun _ => True) (Box.new w2 #[.int .i64 k, .int .i64 l, .slice A n c] 24) trivial ((H2.out.mono (fun _ _ _ => trivial)).keep (boxBelow w2 _))
          rw [HB.out] at this
          exact this) (by rw [← hB0]; simp))
        have BW0 := hide2 (Bu.out.trans ((boxBelow (w2.alloc (.cells #[.int .i64 k, .int .i64 l, .slice A n c] 24)) (.cells #[.slice none 0 0, .slice (some ⟨w2.heap.size, 0, none⟩) 1 1] 34)).mono (by rw [← hB0]; simp)))
        have LB := hide2 (fun (w' : World) (hb : Below B0 w2 w') => show Below w2.heap.size w2 w' by rw [hB0]; exact hb)
        clear hB0
        go_upto_region 9 with fail
        simp only [World.size_alloc] at S0
        clear z0 z1 z2 X2
        have NIL7 := hide2 (RowT.mono (V' := fun q => (Value.slice none 0 0).ownBlock ≠ some q) S0.out (fun _ _ _ e => (by cases e)))
        generalize (w2.alloc (.cells #[.int .i64 k, .int .i64 l, .slice A n c] 24)).alloc (.cells #[.slice none 0 0, .slice (some ⟨w2.heap.size, 0, none⟩) 1 1] 34) = w3 at *
        clear S0 Bu
        go_loopg [7, 8, 9] (mm + 1) (fun gk u7 u8 u9 wr => ∃ K kn ko : Nat, K + gk = mm + 1 ∧ u9 = .int .i64 K ∧ kn ≤ 400 ∧ ko ≤ 400 ∧ Hid (RowT b B0 (fun q => u7.ownBlock ≠ some q) wr B0 u8 kn (lev (letB b) (GoodX (lang b) mm) K)) ∧ Hid (RowL wr B0 B0 u7 ko (wordsX (lang b) (letB b) mm K)) ∧ Hid (Below B0 w2 wr))
        case atStart => exact ⟨0, 1, 0, by omega, rfl, by omega, by omega, NIL7, hide2 OwnSl.nil, BW0⟩
        case round =>
          clear NIL7 BW0
          obtain ⟨K, kn, ko, hK, rfl, hkn, hko, NW, OU, BR⟩ := hrel
          have BF := hide2 (B2.out.trans ((LB.out _ BR.out).mono B2.out.size))
          obtain ⟨Ag, cg, rfl, _⟩ := OwnSl.sl NW.out (by omega)
          by_cases hKm : K ≤ mm
          · have hKi : (K : Int) ≤ (mm : Int) := by omega
            by_cases hk0 : kn = 0
            · subst hk0
              have LV0 := hide2 (show (lev (letB b) (GoodX (lang b) mm) K) = [] from List.eq_nil_of_length_eq_zero NW.out.len)
              have EW := hide2 (show wordsX (lang b) (letB b) mm (mm + 1) = (wordsX (lang b) (letB b) mm K) from wordsX_none LV0.out (mm + 1) (by omega))
              have AW := hide2 (OwnSl.len OU.out)
              have AL := hide2 (ALL.out (by rw [EW.out, AW.out]; omega))
              obtain ⟨Ao, co, rfl, LS⟩ := OU.out.lists (by omega)
              have LSS := hide2 LS
              clear LS
              go_wp2
              go_ret2
              exact ⟨_, _, _, by rw [AL.out]; rfl, by rw [AL.out, EW.out]; exact LSS.out, BF.out⟩
            · have hkn0 : (0 : Int) < (kn : Int) := by omega
              obtain ⟨wo, hwo⟩ : ∃ wo : World, wo = wr := ⟨_, rfl⟩
              subst hwo
              obtain ⟨go, hgo⟩ : ∃ go : Nat, go = gk := ⟨_, rfl⟩
              subst hgo
              have NOWB := hide2 (fun kk e => (NW.out.lt kk e).2)
              have LK := hide2 (show ∀ v ∈ (lev (letB b) (GoodX (lang b) mm) K), v.length = K from fun v hv => (lev_mem K v hv).1)
              have LG := hide2 (show ∀ v ∈ (lev (letB b) (GoodX (lang b) mm) K), restB b v ≠ [] from fun v hv => by
                rcases Nat.eq_zero_or_pos K with h0 | h0
                · have : v = [] := List.eq_nil_of_length_eq_zero (by rw [(lev_mem K v hv).1, h0])
                  rw [this]
                  exact List.cons_ne_nil _ _
                · exact ((good_rest KB.out.wf).1 (lev_good h0 v hv)).1)
              have LNL := hide2 (show (lev (letB b) (GoodX (lang b) mm) K).length = kn from NW.out.len)
              have BS1 := hide2 (show B0 ≤ wo.heap.size by have := BR.out.size; have := HB0.out; omega)
              have NW0 := hide2 (RowT.mono (V' := fun q => u7.ownBlock ≠ some q ∧ (Value.slice none 0 0).ownBlock ≠ some q) NW.out (fun _ _ h => ⟨h, fun e => (by cases e)⟩))
              go_wp2
              go_loopg [7, 10, 43] kn (fun gk u7 u10 u43 wr => ∃ i ko km : Nat, i + gk = kn ∧ u43 = .int .i64 i ∧ ko ≤ 400 ∧ km ≤ 400 ∧ Hid (RowT b B0 (fun q => u7.ownBlock ≠ some q ∧ u10.ownBlock ≠ some q) wr B0 (.slice Ag kn cg) kn (lev (letB b) (GoodX (lang b) mm) K)) ∧ Hid (RowL wr B0 B0 u7 ko ((wordsX (lang b) (letB b) mm K) ++ ((lev (letB b) (GoodX (lang b) mm) K).take i).filter (isX (lang b)))) ∧ Hid (RowT b B0 (fun q => u7.ownBlock ≠ some q) wr wo.heap.size u10 km (nextW (letB b) (GoodX (lang b) mm) ((lev (letB b) (GoodX (lang b) mm) K).take i))) ∧ Hid (Below B0 w2 wr) ∧ Hid (wo.heap.size ≤ wr.heap.size))
              case atStart => exact ⟨0, ko, 0, by omega, rfl, hko, by omega, NW0, hide2 (by simpa using OU.out), hide2 RowT.nil, BR, hide2 (Nat.le_refl _)⟩
              case round =>
                clear NW NW0 OU BR BF
                obtain ⟨i, ko, km, hi, rfl, hko, hkm, NW, OU, MO, BR, WO⟩ := hrel
                by_cases hlt : i < kn
                · obtain ⟨gg, capg, v, Av, cv, Cv, mv, dv, eNow, hv, q0, q1, OV, HVL, BL⟩ := NW.out.at hlt
                  injection eNow with e1 _ e2
                  subst e1 e2
                  have hvK := LK.out v (List.mem_of_getElem? hv.out)
                  have HVK := hide2 hvK
                  have HV := hide2 hv.out
                  have VNE := hide2 (LG.out v (List.mem_of_getElem? hv.out))
                  have LV := hide2 (KB.out.left v (by omega))
                  rw [hvK] at q0 OV
                  have hii : (i : Int) < (kn : Int) := by omega
                  have bb := boxBelow wr (.cells #[.slice Av K cv, .slice Cv mv dv] 34)
                  have XV := hide2 (Box.new wr #[.slice Av K cv, .slice Cv mv dv] 34)
                  have NW1 := hide2 (RowT.keep NW.out bb)
                  have OU1 := hide2 (RowL.keep OU.out bb)
                  have MO1 := hide2 (RowT.keep MO.out bb)
                  have OV1 := hide2 (OwnSl.keep IntR.kept OV.out bb)
                  have BL1 := hide2 ((BL.out.mono (T := fun q => u7.ownBlock ≠ some q ∧ u10.ownBlock ≠ some q) (fun _ _ h => h.1)).keep bb)
                  have BR1 := hide2 (BR.out.trans (bb.mono (by have := BR.out.size; have := HB0.out; omega)))
                  have OB7 := hide2 (show u7.ownBlock ≠ some wr.heap.size from fun e => by have := (OwnSl.lt OU.out _ e).2; omega)
                  have OB10 := hide2 (show ∀ kk, u10.ownBlock = some kk → kk ≠ wr.heap.size from fun kk e => by have := (MO.out.lt kk e).2; omega)
                  have WO1 := hide2 (show wo.heap.size ≤ (wr.alloc (.cells #[.slice Av K cv, .slice Cv mv dv] 34)).heap.size from Nat.le_trans WO.out bb.size)
                  have OU7 := hide2 (show ∀ kk, u7.ownBlock = some kk → kk < (wr.alloc (.cells #[.slice Av K cv, .slice Cv mv dv] 34)).heap.size from fun kk e => Nat.lt_of_lt_of_le (OwnSl.lt OU.out kk e).2 bb.size)
                  clear hv hvK NW OU MO OV BL BR HVL
                  go_upto_region 15 with fail
                  clear q0 q1 bb
                  generalize wr.alloc (.cells #[.slice Av K cv, .slice Cv mv dv] 34) = u0 at *
                  generalize wr.heap.size = bv at *
                  obtain ⟨r0, rs, hrs⟩ : ∃ r0 rs, restB b v = r0 :: rs := by
                    cases hr : restB b v with
                    | nil => exact absurd hr VNE.out
                    | cons x xs => exact ⟨x, xs, rfl⟩
                  have HRS := hide2 hrs
                  have CS := hide2 (bwShort_calls (by have := BL1.out; rw [hrs] at this; exact this) (fun x hx => by have := LV.out x (by rw [hrs]; exact hx); exact ⟨this.wf, this.small⟩))
                  rw [← hrs] at CS
                  have MWD := hide2 (word_rest KB.out.wf (w := v) VNE.out)
                  obtain ⟨sb, hsb⟩ : ∃ sb, shortB (restB b v) = sb := ⟨_, rfl⟩
                  rw [hsb] at CS MWD
                  clear hrs hsb
                  obtain ⟨t0, t1⟩ := XV.out.two
                  go_upto_if 50 with (go_at_call 8; go_loud ((with_reducible refine CS.out.mono ?_); rintro e u1 ⟨rfl, hbs⟩; have BS := hide2 hbs; clear hbs))
                  clear t0 t1
                  have NW2 := hide2 (RowT.keep NW1.out BS.out)
                  have OU2 := hide2 (RowL.keep OU1.out BS.out)
                  have MO2 := hide2 (RowT.keep MO1.out BS.out)
                  have XV2 := hide2 (XV.out.keep BS.out)
                  have OV2 := hide2 (OwnSl.keep IntR.kept OV1.out BS.out)
                  have BL2 := hide2 (BL1.out.keep BS.out)
                  have BR2 := hide2 (BR1.out.trans (BS.out.mono (by have := BR1.out.size; have := HB0.out; omega)))
                  have WO2 := hide2 (Nat.le_trans WO1.out BS.out.size)
                  clear NW1 OU1 MO1 XV OV1 BL1 BR1 WO1 CS
                  go_cut [7] (fun u7 wx => ∃ kp : Nat, kp ≤ 401 ∧ Hid (RowL wx B0 B0 u7 kp ((wordsX (lang b) (letB b) mm K) ++ ((lev (letB b) (GoodX (lang b) mm) K).take (i + 1)).filter (isX (lang b)))) ∧ Hid (RowT b B0 (fun q => u7.ownBlock ≠ some q) wx wo.heap.size u10 km (nextW (letB b) (GoodX (lang b) mm) ((lev (letB b) (GoodX (lang b) mm) K).take i))) ∧ Hid (∀ kk, u10.ownBlock = some kk → kk ≠ bv) ∧ Hid (RowT b B0 (fun q => u7.ownBlock ≠ some q ∧ u10.ownBlock ≠ some q) wx B0 (.slice (some ⟨gg, 0, none⟩) kn cg) kn (lev (letB b) (GoodX (lang b) mm) K)) ∧ Hid (Box wx bv 34 #[.slice Av K cv, .slice Cv mv dv]) ∧ Hid (OwnInts wx B0 (.slice Av K cv) K v) ∧ Hid (BX (fun q => u7.ownBlock ≠ some q ∧ u10.ownBlock ≠ some q) wx Cv mv dv (restB b v)) ∧ Hid (Below B0 w2 wx) ∧ Hid (wo.heap.size ≤ wx.heap.size))
                  case first =>
                    have TKS := hide2 (show (lev (letB b) (GoodX (lang b) mm) K).take (i + 1) = (lev (letB b) (GoodX (lang b) mm) K).take i ++ [v] by rw [List.take_add_one, HV.out]; rfl)
                    by_cases hz : sb = 0
                    · subst hz
                      have ISV := hide2 (show (isX (lang b)) v = true from decide_eq_true (MWD.out.1 rfl))
                      have EQ := hide2 (show (wordsX (lang b) (letB b) mm K) ++ ((lev (letB b) (GoodX (lang b) mm) K).take (i + 1)).filter (isX (lang b)) = ((wordsX (lang b) (letB b) mm K) ++ ((lev (letB b) (GoodX (lang b) mm) K).take i).filter (isX (lang b))) ++ [v] by rw [TKS.out, List.filter_append, List.filter_cons_of_pos ISV.out]; simp)
                      have RD := hide2 (Reads.list1 (v := .slice Av K cv) (show OwnListR B0 u1 (fun _ => .slice Av K cv) v from ⟨K, OV2.out, by omega⟩))
                      have KPL := hide2 (keepLists OU2.out)
                      obtain ⟨t0, t1⟩ := XV2.out.two
                      have hB0u := hide2 (show B0 ≤ u1.heap.size by have := BR2.out.size; have := HB0.out; omega)
                      have FR := hide2 (show ∀ kk, (u7.ownBlock = some kk) → kk < u1.heap.size from fun kk e => (OwnSl.lt OU2.out kk e).2)
                      go_wp2_with (at_builtin; go_loud (refine wpList_appNewAtW (v := u7) tyLists rfl _ _ rfl [v] #[.slice Av K cv] rfl rfl (by first | rfl | simp) rfl (by simp [Value.oneCell']) OU2.out RD.out rfl hB0u.out (by omega) (by omega) KPL.out ?_; intro v1 u2 own1 hg1 hat1; have O2 := hide2 own1; have G2 := hide2 hg1; have H2' := hide2 (BR2.out.grown hg1 hB0u.out (fun kk e => (OwnSl.lt OU2.out kk e).1)); have F2 := hide2 (show ∀ kk, v1.ownBlock = some kk → u7.ownBlock = some kk ∨ u1.heap.size ≤ kk from fun kk hk => hat1.elim (fun e => .inl (e ▸ hk)) (fun e => .inr (by rw [e] at hk; injection hk with hk; omega))); clear own1 hg1 hat1))
                      have NF := hide2 (own_fresh F2.out)
                      have NW3 := hide2 (RowT.mono (V' := fun q => v1.ownBlock ≠ some q ∧ u10.ownBlock ≠ some q) (RowT.besideL (RowT.mono (V' := fun q => (u7.ownBlock ≠ some q ∧ u10.ownBlock ≠ some q) ∧ q < u1.heap.size) NW2.out (fun _ hk h => ⟨h, hk⟩)) OU2.out (fun _ h => h.1.1) G2.out) (fun q _ h => ⟨NF.out q h.2 h.1.1, h.1.2⟩))
                      have MO3 := hide2 (RowT.mono (V' := fun q => v1.ownBlock ≠ some q) (RowT.besideL (RowT.mono (V' := fun q => u7.ownBlock ≠ some q ∧ q < u1.heap.size) MO2.out (fun _ hk h => ⟨h, hk⟩)) OU2.out (fun _ h => h.1) G2.out) (fun q _ h => NF.out q h.2 h.1))
                      have BL3 := hide2 (((BL2.out.mono (T := fun q => (u7.ownBlock ≠ some q ∧ u10.ownBlock ≠ some q) ∧ q < u1.heap.size) (fun _ hk h => ⟨h, hk⟩)).grown G2.out (fun _ h => h.1.1)).mono (T := fun q => v1.ownBlock ≠ some q ∧ u10.ownBlock ≠ some q) (fun q _ h => ⟨NF.out q h.2 h.1.1, h.1.2⟩))
                      have XV3 := hide2 (XV2.out.grown G2.out OB7.out)
                      have OV3 := hide2 (ownI_besideL OV2.out OU2.out G2.out)
                      go_meet
                      case rel => exact ⟨ko + 1, by omega, hide2 (by rw [EQ.out]; exact O2.out), MO3, OB10, NW3, XV3, OV3, BL3, H2', hide2 (Nat.le_trans WO2.out G2.out.size)⟩
                    · have hzb : ((sb : Int) == 0) = false := by simp; omega
                      have ISV := hide2 (show (isX (lang b)) v = false from decide_eq_false (fun h => hz (MWD.out.2 h)))
                      have EQ := hide2 (show (wordsX (lang b) (letB b) mm K) ++ ((lev (letB b) (GoodX (lang b) mm) K).take (i + 1)).filter (isX (lang b)) = (wordsX (lang b) (letB b) mm K) ++ ((lev (letB b) (GoodX (lang b) mm) K).take i).filter (isX (lang b)) by rw [TKS.out, List.filter_append, List.filter_cons_of_neg (by rw [ISV.out]; decide)]; simp)
                      go_wp2
                      go_meet
                      case rel => exact ⟨ko, by omega, hide2 (by rw [EQ.out]; exact OU2.out), MO2, OB10, NW2, XV2, OV2, BL2, BR2, WO2⟩
                  case rest =>
                    obtain ⟨kp, hkp, OU, MO, OB, NW, XW, OV, BL, BR, WO⟩ := hcut
                    clear OU2 MO2 OB10 NW2 XV2 OV2 BL2 BR2 WO2 OB7 OU7 MWD BS
                    have XB2 := hide2 ((BB.out.keep D2.out).keep (LB.out _ BR.out))
                    obtain ⟨z0, z1, z2⟩ := XB2.out.three
                    have CL := hide2 (bwLet_calls 100000 k l A n c ks wc (by rw [HB.out]; have := KB.out.sz; omega) (Nat.le_refl _) (H2.out.keep (LB.out _ BR.out)))
                    rw [HB.out] at CL
                    obtain ⟨nL, hnL⟩ : ∃ nL, (letB b).length = nL := ⟨_, rfl⟩
                    have HNL := hide2 hnL
                    rw [hnL] at CL
                    have nl40 : nL ≤ 40 := by rw [← hnL]; exact LLN.out
                    clear hnL
                    go_wp2_with fail
                    refine CL.out.mono ?_
                    rintro e u3 ⟨v57, rfl, o57, hb57⟩
                    obtain ⟨AL, cL, rfl, _⟩ := OwnSl.sl o57 (by omega)
                    have LI0 := hide2 (OwnSl.base o57 (show B0 ≤ wc.heap.size by have := BR.out.size; have := HB0.out; omega))
                    have OU4 := hide2 (RowL.keep OU.out hb57)
                    have MO4 := hide2 (RowT.keep MO.out hb57)
                    have NW4 := hide2 (RowT.keep NW.out hb57)
                    have XW4 := hide2 (XW.out.keep hb57)
                    have OV4 := hide2 (OwnSl.keep IntR.kept OV.out hb57)
                    have BL4 := hide2 (BL.out.keep hb57)
                    have BR4 := hide2 (BR.out.trans (hb57.mono (by have := BR.out.size; have := HB0.out; omega)))
                    have WO4 := hide2 (Nat.le_trans WO.out hb57.size)
                    clear o57 hb57 z0 z1 z2 OU MO NW XW OV BL BR WO CL XB2
                    go_wp2_with fail
                    obtain ⟨gm, hgm⟩ : ∃ gm : Nat, gm = gk := ⟨_, rfl⟩
                    subst hgm
                    have HGM := hide2 (show gm = (gm - 1) + 1 ∧ i + 1 + (gm - 1) = kn by omega)
                    go_loopg [10, 59] nL (fun gk u10 u59 wr => ∃ q kr : Nat, q + gk = nL ∧ u59 = .int .i64 q ∧ kr ≤ 400 + q ∧ Hid (RowL wr B0 B0 u7 kp ((wordsX (lang b) (letB b) mm K) ++ ((lev (letB b) (GoodX (lang b) mm) K).take (i + 1)).filter (isX (lang b)))) ∧ Hid (RowT b B0 (fun q => u7.ownBlock ≠ some q) wr wo.heap.size u10 kr (nextW (letB b) (GoodX (lang b) mm) ((lev (letB b) (GoodX (lang b) mm) K).take i) ++ goB (letB b) (GoodX (lang b) mm) v q)) ∧ Hid (∀ kk, u10.ownBlock = some kk → kk ≠ bv) ∧ Hid (RowT b B0 (fun q => u7.ownBlock ≠ some q ∧ u10.ownBlock ≠ some q) wr B0 (.slice (some ⟨gg, 0, none⟩) kn cg) kn (lev (letB b) (GoodX (lang b) mm) K)) ∧ Hid (Box wr bv 34 #[.slice Av K cv, .slice Cv mv dv]) ∧ Hid (OwnInts wr B0 (.slice Av K cv) K v) ∧ Hid (BX (fun q => u7.ownBlock ≠ some q ∧ u10.ownBlock ≠ some q) wr Cv mv dv (restB b v)) ∧ Hid (OwnInts wr B0 (.slice AL nL cL) nL (letB b)) ∧ Hid (Below B0 w2 wr) ∧ Hid (wo.heap.size ≤ wr.heap.size))
                    case atStart => exact ⟨0, km, by omega, rfl, by omega, OU4, hide2 (by have := MO4.out; simpa [goB] using this), OB, NW4, XW4, OV4, BL4, LI0, BR4, WO4⟩
                    case round =>
                      clear OU4 MO4 NW4 XW4 OV4 BL4 BR4 WO4 LI0 OB
                      obtain ⟨q, kr, hq, rfl, hkr, OU, MO, OB, NW, XW, OV, BL, LI, BR, WO⟩ := hrel
                      by_cases hqn : q < nL
                      · have hqi : (q : Int) < (nL : Int) := by omega
                        obtain ⟨AL', cL', eL, IL⟩ := OwnSl.sl LI.out (by omega)
                        injection eL with e1 _ e2
                        subst e1 e2
                        obtain ⟨bq, offq, a, eA, hbq, ha, qa⟩ := Ints.get IL hqn
                        subst eA
                        have HA := hide2 ha.out
                        have HVA := hide2 (show (v ++ [a]).length = K + 1 by rw [List.length_append, HVK.out]; rfl)
                        have RSN := hide2 (restB_snoc (b := b) (w := v) (a := a))
                        have GOOD := hide2 (good_rest KB.out.wf (most := mm) (w := v ++ [a]))
                        rw [RSN.out, HVA.out] at GOOD
                        have BLN := hide2 (BL.out.mono (T := fun kk => kk < wr.heap.size ∧ (u7.ownBlock ≠ some kk ∧ u10.ownBlock ≠ some kk)) (fun kk hk h => ⟨hk, h⟩))
                        have CN := hide2 (bwNext_calls (a := a) BLN.out (Nat.le_refl _) (P2.out.keep (LB.out _ BR.out)) (fun x hx => by
                          have := LV.out x hx
                          exact ⟨this.wf, this.int, this.small, fun y hy => (KB.out.next v a (by rw [HVK.out]; omega) x hx y hy).small⟩) (fun L hd hL => KB.out.few (v.length + 1) L (by rw [HVK.out]; omega) hd (fun y hy => by
                          obtain ⟨x, hx, hxy⟩ := hL y hy
                          exact KB.out.next v a (by rw [HVK.out]; omega) x hx y hxy)) (by have := KB.out.len (v := v) (by rw [HVK.out]; omega); have := BL.out.2.len; omega))
                        have LNX := hide2 (show ∀ x ∈ nextB (restB b v) a, wfB x ∧ szB x ≤ 2400 from fun x hx => by
                          obtain ⟨y, hy, hxy⟩ := mem_nextB.1 hx
                          have := KB.out.next v a (by rw [HVK.out]; omega) y hy x hxy
                          exact ⟨this.wf, this.small⟩)
                        have NZ := hide2 (show (nextB (restB b v) a).length ≤ 1000000000000 from by rw [← RSN.out]; exact KB.out.len (by rw [HVA.out]; omega))
                        obtain ⟨NL, hNL⟩ : ∃ NL, nextB (restB b v) a = NL := ⟨_, rfl⟩
                        rw [hNL] at CN LNX NZ GOOD RSN
                        have HGK := hide2 (show gk = (gk - 1) + 1 ∧ q + 1 + (gk - 1) = nL by omega)
                        have HKR := hide2 (show kr ≤ 400 + (q + 1) ∧ kr + 1 ≤ 400 + (q + 1) by omega)
                        obtain ⟨t0, t1⟩ := XW.out.two
                        clear ha hNL IL BLN
                        go_upto_region 21 with (go_at_call 10; go_loud ((with_reducible refine CN.out.mono ?_); rintro e u4 ⟨A4, n4, c4, rfl, hs4, hb4⟩; have S4 := hide2 hs4; have HB4 := hide2 hb4; clear hs4 hb4))
                        clear t0 t1 qa CN
                        have M2 := hide2 (RowT.keep MO.out HB4.out)
                        have O2 := hide2 (RowL.keep OU.out HB4.out)
                        have N2 := hide2 (RowT.keep NW.out HB4.out)
                        have X4 := hide2 (XW.out.keep HB4.out)
                        have V2 := hide2 (OwnSl.keep IntR.kept OV.out HB4.out)
                        have L2 := hide2 (BL.out.keep HB4.out)
                        have I2 := hide2 (OwnSl.keep IntR.kept LI.out HB4.out)
                        have BR2 := hide2 (BR.out.trans (HB4.out.mono (by have := BR.out.size; have := HB0.out; omega)))
                        have W2 := hide2 (Nat.le_trans WO.out HB4.out.size)
                        have OUL := hide2 (show ∀ kk, u7.ownBlock = some kk → kk < wr.heap.size from fun kk e => (OwnSl.lt OU.out kk e).2)
                        have MOL := hide2 (show ∀ kk, u10.ownBlock = some kk → kk < wr.heap.size from fun kk e => (MO.out.lt kk e).2)
                        have LN4 := hide2 (show NL.length = n4 from S4.out.2.len)
                        have hn4 : n4 ≤ 1000000000000 := by have := NZ.out; have := LN4.out; omega
                        clear MO OU NW XW OV BL LI BR WO NZ
                        have hw1 : IntKind.i64.wrap ((K : Int) + 1) = (K : Int) + 1 := by simp [IntKind.wrap, IntKind.bits, IntKind.signed]; omega
                        by_cases hgd : GoodX (lang b) mm (v ++ [a])
                        · obtain ⟨hne, hps⟩ := GOOD.out.1 hgd
                          have GN := hide2 (goB_yes (letters := letB b) (good := GoodX (lang b) mm) HA.out hgd)
                          obtain ⟨x0, xs, hx0⟩ : ∃ x0 xs, NL = x0 :: xs := by
                            cases hr : NL with
                            | nil => exact absurd hr hne
                            | cons x xs => exact ⟨x, xs, rfl⟩
                          have hn4p : (0 : Int) < (n4 : Int) := by have := LN4.out; rw [hx0, List.length_cons] at this; omega
                          subst hx0
                          have CS := hide2 (bwShort_calls S4.out LNX.out)
                          obtain ⟨sb, hsb⟩ : ∃ sb, shortB (x0 :: xs) = sb := ⟨_, rfl⟩
                          rw [hsb] at CS hps
                          have hpsi : (K : Int) + 1 + (sb : Int) ≤ (mm : Int) := by omega
                          have hw2 : IntKind.i64.wrap ((K : Int) + 1 + (sb : Int)) = (K : Int) + 1 + (sb : Int) := by simp [IntKind.wrap, IntKind.bits, IntKind.signed]; omega
                          clear hsb hgd hps hne
                          go_upto_region 22 with (go_at_call 8; go_loud ((with_reducible refine CS.out.mono ?_); rintro e u5 ⟨rfl, hb5⟩; have HB5 := hide2 hb5; clear hb5))
                          have M5 := hide2 (RowT.keep M2.out HB5.out)
                          have O5 := hide2 (RowL.keep O2.out HB5.out)
                          have N5 := hide2 (RowT.keep N2.out HB5.out)
                          have X5 := hide2 (X4.out.keep HB5.out)
                          have V5 := hide2 (OwnSl.keep IntR.kept V2.out HB5.out)
                          have L5 := hide2 (L2.out.keep HB5.out)
                          have I5 := hide2 (OwnSl.keep IntR.kept I2.out HB5.out)
                          have R5 := hide2 (BR2.out.trans (HB5.out.mono (by have := BR2.out.size; have := HB0.out; omega)))
                          have W5 := hide2 (Nat.le_trans W2.out HB5.out.size)
                          have S5 := hide2 (S4.out.keep HB5.out)
                          have Z5 := hide2 (Nat.le_trans HB4.out.size HB5.out.size)
                          clear M2 O2 N2 X4 V2 L2 I2 BR2 W2 S4 HB4 HB5 CS
                          obtain ⟨t0, t1⟩ := X5.out.two
                          have IV := hide2 (RowL.ints V5.out (by omega))
                          have hle : K ≤ cv := IV.out.le
                          have SRC := hide2 (bw_clip IV.out)
                          have BU5 := hide2 (show B0 ≤ u5.heap.size by have := R5.out.size; have := HB0.out; omega)
                          go_wp2_with fail
                          refine (clipInts_calls hle).mono ?_
                          rintro e u6 ⟨rfl, rfl⟩
                          go_wp2_with (first
                            | (at_builtin; refine wpList_appClip rfl _ _ rfl rfl rfl (by first | rfl | simp) SRC.out (by omega) ?_; intro g2 cap2 u7' o7 hb7; have O7 := hide2 o7; have HB7 := hide2 hb7; have VW7 := hide2 (o7.base BU5.out); have M7 := hide2 (RowT.keep M5.out hb7); have X7 := hide2 (X5.out.keep hb7); have S7 := hide2 (S5.out.keep hb7); have W7 := hide2 (Nat.le_trans W5.out hb7.size); have HT7 := hide2 (show ∀ kk, kk < u7'.heap.size → ((kk < wr.heap.size ∧ (u7.ownBlock ≠ some kk ∧ u10.ownBlock ≠ some kk)) ∨ wr.heap.size ≤ kk) → u7.ownBlock ≠ some kk ∧ u10.ownBlock ≠ some kk from fun kk _ h => h.elim (fun h => h.2) (fun h => ⟨fun e => by (have := OUL.out kk e; omega), fun e => by (have := MOL.out kk e; omega)⟩)); clear o7 hb7)
                            | (at_builtin; refine wpList_appT rfl _ _ rfl rfl (by first | rfl | simp) rfl M7.out HVA.out VW7.out (by omega) (by rw [RSN.out]; exact S7.out) HT7.out W7.out (by omega) ?_; intro v1 u8 own8 hg8 hat8; have M8 := hide2 own8; have G8 := hide2 hg8; have AT8 := hide2 hat8; clear own8 hg8 hat8))
                          have NF := hide2 (own_fresh AT8.out)
                          have MLT := hide2 (show ∀ kk, u10.ownBlock = some kk → wo.heap.size ≤ kk from fun kk e => (M7.out.lt kk e).1)
                          have N8 := hide2 (RowT.mono (V' := fun q => u7.ownBlock ≠ some q ∧ v1.ownBlock ≠ some q) (RowT.besideT (RowT.mono (V' := fun q => (u7.ownBlock ≠ some q ∧ u10.ownBlock ≠ some q) ∧ q < u7'.heap.size) (RowT.keep N5.out HB7.out) (fun _ hk h => ⟨h, hk⟩)) M7.out (fun kk e e2 => by have := NOWB.out kk e; have := MLT.out kk e2; omega) (fun _ h => h.1.2) G8.out) (fun q _ h => ⟨h.1.1, NF.out q h.2 h.1.2⟩))
                          have O8 := hide2 (rowL_besideT (RowL.keep O5.out HB7.out) M7.out G8.out)
                          have X8 := hide2 (X7.out.grown G8.out (fun e => OB.out _ e rfl))
                          have V8 := hide2 (ownI_besideT (OwnSl.keep IntR.kept V5.out HB7.out) M7.out G8.out)
                          have I8 := hide2 (ownI_besideT (OwnSl.keep IntR.kept I5.out HB7.out) M7.out G8.out)
                          have L8 := hide2 ((((L5.out.keep HB7.out).mono (T := fun q => (u7.ownBlock ≠ some q ∧ u10.ownBlock ≠ some q) ∧ q < u7'.heap.size) (fun _ hk h => ⟨h, hk⟩)).grown G8.out (fun _ h => h.1.2)).mono (T := fun q => u7.ownBlock ≠ some q ∧ v1.ownBlock ≠ some q) (fun q _ h => ⟨h.1.1, NF.out q h.2 h.1.2⟩))
                          have R7 := hide2 (R5.out.trans (HB7.out.mono (by have := BU5.out; have := HB0.out; omega)))
                          have R8 := hide2 (R7.out.grown G8.out (Nat.le_trans BU5.out HB7.out.size) (fun kk e => Nat.le_trans BS1.out (MLT.out kk e)))
                          have W8 := hide2 (Nat.le_trans W7.out G8.out.size)
                          have OB8 := hide2 (show ∀ kk, v1.ownBlock = some kk → kk ≠ bv from fun kk e => by
                            rcases AT8.out kk e with h | h
                            · exact OB.out kk h
                            · have := X7.out.lt
                              omega)
                          clear M7 X7 S7 W7 HB7 G8 AT8 O7 IV SRC hle t0 t1 VW7 N5 O5 X5 V5 I5 L5 R5 R7 M5 S5 HT7
                          go_roundg (gk - 1)
                          case measure => have := HGK.out.1; omega
                          case rel => exact ⟨q + 1, kr + 1, HGK.out.2, by go_num, HKR.out.2, O8, hide2 (by rw [GN.out, ← List.append_assoc]; exact M8.out), OB8, N8, X8, V8, L8, I8, R8, W8⟩
                        · have GN := hide2 (goB_no (letters := letB b) (good := GoodX (lang b) mm) HA.out hgd)
                          by_cases hn0 : n4 = 0
                          · subst hn0
                            go_wp2
                            go_roundg (gk - 1)
                            case measure => have := HGK.out.1; omega
                            case rel => exact ⟨q + 1, kr, HGK.out.2, by go_num, HKR.out.1, O2, hide2 (by rw [GN.out]; exact M2.out), OB, N2, X4, V2, L2, I2, BR2, W2⟩
                          · have hn4p : (0 : Int) < (n4 : Int) := by omega
                            obtain ⟨x0, xs, hx0⟩ : ∃ x0 xs, NL = x0 :: xs := by
                              cases hr : NL with
                              | nil => have := LN4.out; rw [hr] at this; exact absurd this.symm hn0
                              | cons x xs => exact ⟨x, xs, rfl⟩
                            have NG := hide2 (show ¬ (K + 1 + shortB NL ≤ mm) from fun hh => hgd (GOOD.out.2 ⟨by rw [hx0]; exact List.cons_ne_nil _ _, hh⟩))
                            have SB := hide2 (show shortB NL ≤ 2400 by rw [hx0]; have h0 := LNX.out x0 (by rw [hx0]; exact List.mem_cons_self ..); exact Nat.le_trans ((short_iff (List.cons_ne_nil x0 xs)).1 x0 (List.mem_cons_self ..)) (Nat.le_trans (least_sz _ h0.1) h0.2))
                            subst hx0
                            have CS := hide2 (bwShort_calls S4.out LNX.out)
                            obtain ⟨sb, hsb⟩ : ∃ sb, shortB (x0 :: xs) = sb := ⟨_, rfl⟩
                            rw [hsb] at CS NG SB
                            have hsb2 : sb ≤ 2400 := SB.out
                            have hps : ¬ (K : Int) + 1 + (sb : Int) ≤ (mm : Int) := fun hh => NG.out (by omega)
                            have hw2 : IntKind.i64.wrap ((K : Int) + 1 + (sb : Int)) = (K : Int) + 1 + (sb : Int) := by simp [IntKind.wrap, IntKind.bits, IntKind.signed]; omega
                            clear hsb
                            go_wp2_with (go_at_call 8; go_loud ((with_reducible refine CS.out.mono ?_); rintro e u5 ⟨rfl, hb5⟩; have HB5 := hide2 hb5; clear hb5))
                            go_roundg (gk - 1)
                            case measure => have := HGK.out.1; omega
                            case rel => exact ⟨q + 1, kr, HGK.out.2, by go_num, HKR.out.1, hide2 (RowL.keep O2.out HB5.out), hide2 (by rw [GN.out]; exact RowT.keep M2.out HB5.out), OB, hide2 (RowT.keep N2.out HB5.out), hide2 (X4.out.keep HB5.out), hide2 (OwnSl.keep IntR.kept V2.out HB5.out), hide2 (L2.out.keep HB5.out), hide2 (OwnSl.keep IntR.kept I2.out HB5.out), hide2 (BR2.out.trans (HB5.out.mono (by have := BR2.out.size; have := HB0.out; omega))), hide2 (Nat.le_trans W2.out HB5.out.size)⟩
                      · obtain rfl : q = nL := by omega
                        have NXE := hide2 (show nextW (letB b) (GoodX (lang b) mm) ((lev (letB b) (GoodX (lang b) mm) K).take i) ++ goB (letB b) (GoodX (lang b) mm) v q = nextW (letB b) (GoodX (lang b) mm) ((lev (letB b) (GoodX (lang b) mm) K).take (i + 1)) by
                          rw [List.take_add_one, HV.out]
                          show _ = nextW (letB b) (GoodX (lang b) mm) ((lev (letB b) (GoodX (lang b) mm) K).take i ++ [v])
                          rw [bw_next]
                          unfold goB
                          rw [List.take_of_length_le (l := letB b) (by rw [HNL.out]; exact Nat.le_refl _)])
                        have MO2 := hide2 (show RowT b B0 (fun q => u7.ownBlock ≠ some q) wr wo.heap.size u10 kr (nextW (letB b) (GoodX (lang b) mm) ((lev (letB b) (GoodX (lang b) mm) K).take (i + 1))) by rw [← NXE.out]; exact MO.out)
                        have K1 := hide2 (show kp ≤ (wordsX (lang b) (letB b) mm (mm + 1)).length by rw [← OwnSl.len OU.out]; exact outsX_le ASC.out KB.out.all hKm)
                        have K2 := hide2 (show kr ≤ (wordsX (lang b) (letB b) mm (mm + 1)).length by rw [← MO2.out.len]; exact moresX_le ASC.out KB.out.all)
                        obtain ⟨Ao, co, rfl, _⟩ := OwnSl.sl OU.out (by omega)
                        obtain ⟨Am, cm, rfl, _⟩ := OwnSl.sl MO2.out (by omega)
                        obtain ⟨W, hW⟩ : ∃ W : Int, max (kp : Int) (kr : Int) = W := ⟨_, rfl⟩
                        by_cases hW4 : 400 < W
                        · have FU := hide2 (FUL.out (by have := K1.out; have := K2.out; omega))
                          have BF := hide2 (B2.out.trans ((LB.out _ BR.out).mono B2.out.size))
                          go_wp2
                          go_ret2
                          exact ⟨none, 0, 0, by rw [FU.out]; rfl, by rw [FU.out]; exact Sl.nil0, BF.out⟩
                        · have hkp4 : kp ≤ 400 := by omega
                          have hkr4 : kr ≤ 400 := by omega
                          have HKK := hide2 (And.intro hkp4 hkr4)
                          go_wp2
                          go_roundg (gm - 1)
                          case measure => have := HGM.out.1; omega
                          case rel => exact ⟨i + 1, kp, kr, HGM.out.2, by go_num, HKK.out.1, HKK.out.2, NW, OU, MO2, BR, WO⟩
                · obtain rfl : i = kn := by omega
                  have FLV := hide2 (show (lev (letB b) (GoodX (lang b) mm) K).take i = (lev (letB b) (GoodX (lang b) mm) K) from List.take_of_length_le (by rw [LNL.out]; exact Nat.le_refl _))
                  have NX := hide2 (show RowT b B0 (fun q => u7.ownBlock ≠ some q) wr B0 u10 km (lev (letB b) (GoodX (lang b) mm) (K + 1)) by have := MO.out.base BS1.out; rw [FLV.out] at this; exact this)
                  have OX := hide2 (show RowL wr B0 B0 u7 ko (wordsX (lang b) (letB b) mm (K + 1)) by rw [wordsX_succ]; have := OU.out; rwa [FLV.out] at this)
                  have HKO := hide2 (And.intro hkm hko)
                  have HGO := hide2 (show go = (go - 1) + 1 by omega)
                  have HK1 := hide2 (show K + 1 + (go - 1) = mm + 1 by omega)
                  go_wp2
                  go_roundg (go - 1)
                  case measure => have := HGO.out; omega
                  case rel => exact ⟨K + 1, km, ko, HK1.out, by go_num, HKO.out.1, HKO.out.2, NX, OX, BR⟩
          · obtain rfl : K = mm + 1 := by omega
            have hKi : ¬ ((mm + 1 : Nat) : Int) ≤ (mm : Int) := by omega
            have AW := hide2 (OwnSl.len OU.out)
            have AL := hide2 (ALL.out (by rw [AW.out]; omega))
            obtain ⟨Ao, co, rfl, LS⟩ := OU.out.lists (by omega)
            have LSS := hide2 LS
            clear LS
            go_wp2
            go_ret2
            exact ⟨_, _, _, by rw [AL.out]; rfl, by rw [AL.out]; exact LSS.out, BF.out⟩
  · have ER := hide2 (ansW_err (most := most) (b := b) (by rw [HER.out]; exact he))
    have hne : (er != 0) = true := by simp [he]
    go_wp2_with fail
    go_ret2
    rw [ER.out, HER.out]
    exact ⟨none, 0, 0, rfl, Sl.nil0, B2.out⟩
end Go.Proofs.YtniolbbhjibobaaDoor
