/- Texts melted into one: The contract of jpairs. Conditions: the two lists of words read as such; what is made of all pairs is no longer than memory bears; words up to at most eight letters. | The contract of jwords: a silent block, a step; sequences, choices, things side by side. Conditions: the block reads as one, is right and no greater than 40. -/
import Derived.Test.YtniolbbhjibobaaDoorBlocksListK39
set_option linter.all false
namespace Go.Proofs.YtniolbbhjibobaaDoor
open Go.RowKit

/-- Function F makes lists of two words. -/
structure IsPair (F : FuncId) (f : List Int → List Int → List (List Int)) : Prop where
  enters : ∀ args w, (callFunc F args).run Tryd.prog w = .ok (.enter F args) w
  calls : ∀ (w : World) (A B : Option Addr) (n c m d : Nat) (x y : List Int), n + m ≤ 8 → Ints w A n c x → Ints w B m d y → Calls Tryd.prog F #[.slice A n c, .slice B m d] w (AnsRow (f x y) w)
theorem join_pair : IsPair 26 joinL where
  enters := fun args w => by kernel_rfl
  calls := fun w A B n c m d x y hn h g => jjoin_calls h g (by omega)
theorem mix_pair : IsPair 27 jmixL where
  enters := fun args w => by kernel_rfl
  calls := fun w A B n c m d x y hn h g => jmix_calls 16 w A B n c m d x y (by omega) (Nat.le_refl _) h g
theorem pairs_drop {f : List Int → List Int → List (List Int)} {most : Int} {A B : List (List Int)} {i : Nat} {x : List Int} (h : A[i]? = some x) : pairsL f most (A.drop i) B = (B.flatMap fun y => pairL f most x y) ++ pairsL f most (A.drop (i + 1)) B := by
  unfold pairsL
  rw [drop_get h, List.flatMap_cons]
theorem pair_drop {f : List Int → List Int → List (List Int)} {most : Int} {B : List (List Int)} {j : Nat} {x y : List Int} (h : B[j]? = some y) : (B.drop j).flatMap (fun y => pairL f most x y) = pairL f most x y ++ (B.drop (j + 1)).flatMap (fun y => pairL f most x y) := by
  rw [drop_get h, List.flatMap_cons]
set_option maxRecDepth 100000 in
set_option maxHeartbeats 16000000 in
theorem jpairs_calls {F : FuncId} {f : List Int → List Int → List (List Int)} (hF : IsPair F f) {w : World} {A1 A2 : Option Addr} {n1 c1 n2 c2 : Nat} {L1 L2 : List (List Int)} {most : Int} (h1 : Lists w A1 n1 c1 L1) (h2 : Lists w A2 n2 c2 L2) (hm : most ≤ 8) (hT : (pairsL f most L1 L2).length ≤ 5864062014805) :
    Calls Tryd.prog 25 #[.slice A1 n1 c1, .slice A2 n2 c2, .int .i64 most, .func (.func F) #[] #[]] w (AnsRow (jsetL (pairsL f most L1 L2) most) w) := by
  have H1 := hide2 h1
  have H2 := hide2 h2
  have HL1 := hide2 (show L1.length = n1 from h1.len)
  have HL2 := hide2 (show L2.length = n2 from h2.len)
  have hs1 := h1.small
  have hs2 := h2.small
  have HE := hF.enters
  have HC := hide2 hF.calls
  obtain ⟨TT, hTT⟩ : ∃ T, pairsL f most L1 L2 = T := ⟨_, rfl⟩
  rw [hTT] at hT
  rw [hTT]
  have HT := hide2 hT
  have HTT := hide2 hTT
  clear h1 h2 hF hT hTT
  go_enter Tryd.func25, Tryd.ntmps25
  obtain ⟨wd, hwd⟩ : ∃ wd : World, wd = w := ⟨_, rfl⟩
  subst hwd
  go_wp2
  go_loopw [9, 16] (fun s9 v wr => ∃ (sv : Value) (i nn : Nat) (O : List (List Int)), sv = s9 ∧ i ≤ n1 ∧ v = .int .i64 i ∧ Hid (O ++ pairsL f most (L1.drop i) L2 = TT) ∧ Hid (RowL wr wd.heap.size wd.heap.size sv nn O) ∧ Hid (Below wd.heap.size wd wr)) (fun _ v _ => n1 - (intOf v).toNat)
  case atStart => exact ⟨_, 0, 0, [], rfl, Nat.zero_le _, rfl, hide2 (by rw [List.nil_append, List.drop_zero]; exact HTT.out), hide2 OwnSl.nil, hide2 (Below.refl _ _)⟩
  case round =>
    obtain ⟨sv, i, nn, O, rfl, hi, rfl, AC, OB, BR⟩ := hrel
    by_cases hlt : i < n1
    · have hki : (i : Int) < (n1 : Int) := by omega
      obtain ⟨b4, off4, x, Ax, nx, cx, eA, hb4, hx, q0', ix, hnx⟩ := Lists.get H1.out hlt
      subst eA
      have q0 := (BR.out.cell (p := ⟨b4, off4 + i, none⟩) hb4).trans q0'
      clear q0'
      have AN := hide2 (show O ++ ((L2.drop 0).flatMap (fun y => pairL f most x y) ++ pairsL f most (L1.drop (i + 1)) L2) = TT by rw [List.drop_zero, ← pairs_drop hx.out]; exact AC.out)
      have IX := hide2 ix
      have LXX := hide2 (show x.length = nx from ix.len)
      clear ix hx hb4
      obtain ⟨wo, hwo⟩ : ∃ wo : World, wo = wr := ⟨_, rfl⟩
      subst hwo
      go_wp2
      go_loopw [9, 22] (fun s9 v wr => ∃ (tv : Value) (j nn : Nat) (O : List (List Int)), tv = s9 ∧ j ≤ n2 ∧ v = .int .i64 j ∧ Hid (O ++ ((L2.drop j).flatMap (fun y => pairL f most x y) ++ pairsL f most (L1.drop (i + 1)) L2) = TT) ∧ Hid (RowL wr wd.heap.size wd.heap.size tv nn O) ∧ Hid (Below wd.heap.size wd wr)) (fun _ v _ => n2 - (intOf v).toNat)
      case atStart => exact ⟨_, 0, nn, O, rfl, Nat.zero_le _, rfl, AN, OB, BR⟩
      case round =>
        obtain ⟨tv, j, nn, O, rfl, hj, rfl, AC, OB, BR⟩ := hrel
        by_cases hlj : j < n2
        · have hkj : (j : Int) < (n2 : Int) := by omega
          obtain ⟨b6, off6, y, Ay, ny, cy, eA, hb6, hy, p0', iy, hny⟩ := Lists.get H2.out hlj
          subst eA
          have p0 := (BR.out.cell (p := ⟨b6, off6 + j, none⟩) hb6).trans p0'
          clear p0'
          have LYY := hide2 (show y.length = ny from iy.len)
          have PD := hide2 (pair_drop (f := f) (most := most) (x := x) hy.out)
          have IY := hide2 iy
          clear iy hy hb6
          by_cases hle : (nx : Int) + (ny : Int) ≤ most
          · have PL := hide2 (show pairL f most x y = f x y by unfold pairL; rw [LXX.out, LYY.out, if_pos hle])
            rw [PL.out] at PD
            have AN := hide2 (show (O ++ f x y) ++ ((L2.drop (j + 1)).flatMap (fun y => pairL f most x y) ++ pairsL f most (L1.drop (i + 1)) L2) = TT by have := AC.out; rw [PD.out] at this; rw [List.append_assoc]; rwa [List.append_assoc] at this)
            have CF := hide2 (HC.out wr Ax Ay nx cx ny cy x y (by omega) (Ints.keep IX.out BR.out) (Ints.keep IY.out BR.out))
            have LT := hide2 (show nn + (f x y).length ≤ 5864062014805 by
              have h1 := congrArg List.length AN.out
              have h2 := HT.out
              have h3 := OwnSl.len OB.out
              simp only [List.length_append] at h1
              omega)
            go_wp2_with fail
            refine CF.out.mono ?_
            rintro e w5 ⟨A5, n5, c5, rfl, o5, hb5⟩
            have hn5 : nn + n5 ≤ 5864062014805 := by have := OwnSl.len o5; have := LT.out; omega
            have O5 := hide2 (rowL_base (B' := wd.heap.size) o5 BR.out.size (Nat.le_refl _))
            obtain ⟨A6, c6, e6, s6⟩ := OwnSl.sl O5.out (by omega)
            injection e6 with e1 _ e2
            subst e1 e2
            have S6 := hide2 s6
            have U5 := hide2 (RowL.keep OB.out hb5)
            have B5 := hide2 (BR.out.trans (hb5.mono BR.out.size))
            have KP := hide2 (keepLists U5.out)
            clear o5 hb5 s6
            go_wp2_with (at_builtin; go_loud (refine wpList_appAny (v := tv) tyLists (OwnListR.good wd.heap.size) rfl _ _ rfl rfl rfl U5.out S6.out B5.out B5.out.size (by omega) (by omega) KP.out ?_; intro v8 w8 own8 hg8 hb8; have O8 := hide2 own8; have B8 := hide2 hb8; clear own8 hg8 hb8))
            go_roundw
            case rel => exact ⟨v8, j + 1, _, _, rfl, by omega, by go_num, AN, O8, B8⟩
            case measure => simp [intOf]; omega
          · have PL := hide2 (show pairL f most x y = [] by unfold pairL; rw [LXX.out, LYY.out, if_neg hle])
            rw [PL.out, List.nil_append] at PD
            have AN := hide2 (show O ++ ((L2.drop (j + 1)).flatMap (fun y => pairL f most x y) ++ pairsL f most (L1.drop (i + 1)) L2) = TT by have := AC.out; rwa [PD.out] at this)
            go_wp2
            go_roundw
            case rel => exact ⟨_, j + 1, _, _, rfl, by omega, by go_num, AN, OB, BR⟩
            case measure => simp [intOf]; omega
        · obtain rfl : j = n2 := by omega
          have AE := hide2 (show O ++ pairsL f most (L1.drop (i + 1)) L2 = TT by have := AC.out; rwa [← HL2.out, List.drop_length, List.flatMap_nil, List.nil_append] at this)
          go_wp2
          go_roundw
          case rel => exact ⟨_, i + 1, _, _, rfl, by omega, by go_num, AE, OB, BR⟩
          case measure => simp [intOf]; omega
    · obtain rfl : i = n1 := by omega
      have EQ := hide2 (show O = TT by have := AC.out; unfold pairsL at this; rwa [← HL1.out, List.drop_length, List.flatMap_nil, List.append_nil] at this)
      have hnn : nn ≤ 5864062014805 := by have := OwnSl.len OB.out; have := HT.out; rw [EQ.out] at *; omega
      have OE := hide2 OB.out
      rw [EQ.out] at OE
      go_wp2_with fail
      refine (jsetA_calls (w0 := wd) most OE.out hnn).mono ?_
      rintro e w5 ⟨A5, n5, c5, rfl, o5, hg5⟩
      have O5 := hide2 o5
      have B5 := hide2 (BR.out.grown hg5 BR.out.size (fun kk e => (OwnSl.lt OB.out kk e).1))
      clear o5 hg5
      go_wp2_with fail
      go_ret
      exact ⟨A5, n5, c5, rfl, O5.out, B5.out⟩
end Go.Proofs.YtniolbbhjibobaaDoor
namespace Go.Proofs.YtniolbbhjibobaaDoor
open Go.RowKit

/-- All words, listed anew. -/
def AnsJw (X : List Int → Prop) (most : Int) (w : World) (e : Ending) (w' : World) : Prop := ∃ L A n c, IsW X most L ∧ e = .returned (.slice A n c) ∧ RowL w' w.heap.size w.heap.size (.slice A n c) n L ∧ Below w.heap.size w w'
def LabOk (b : PBlk) : Prop := ∀ c ∈ labB b, 1 ≤ c ∧ c ≤ 26
theorem langS_snoc {b : PBlk} : ∀ {ps : List PBlk} {w : List Int}, langS (ps ++ [b]) w ↔ ∃ u v, w = u ++ v ∧ langS ps u ∧ lang b v
  | [], w => by
    constructor
    · rintro ⟨u, v, rfl, h, hv⟩
      exact ⟨[], u, by rw [show v = [] from hv]; simp, rfl, h⟩
    · rintro ⟨u, v, rfl, hu, h⟩
      exact ⟨v, [], by rw [show u = [] from hu]; simp, h, rfl⟩
  | a :: ps, w => by
    constructor
    · rintro ⟨u, v, rfl, h, hv⟩
      obtain ⟨s, t, rfl, hs, ht⟩ := langS_snoc.1 hv
      exact ⟨u ++ s, t, by simp, ⟨u, s, rfl, h, hs⟩, ht⟩
    · rintro ⟨u, v, rfl, ⟨s, t, rfl, hs, ht⟩, h⟩
      exact ⟨s, t ++ v, by simp, hs, langS_snoc.2 ⟨t, v, rfl, ht, h⟩⟩
theorem langS_single {b : PBlk} {w : List Int} : langS [b] w ↔ lang b w := by
  have := langS_snoc (b := b) (ps := []) (w := w)
  rw [List.nil_append] at this
  rw [this]
  constructor
  · rintro ⟨u, v, rfl, hu, h⟩; rw [show u = [] from hu]; exact h
  · exact fun h => ⟨[], w, rfl, rfl, h⟩
theorem labK_app (ps qs : List PBlk) : labK (ps ++ qs) = labK ps ++ labK qs := by
  induction ps with
  | nil => rfl
  | cons b ps ih => rw [List.cons_append, labK, labK, ih, List.append_assoc]
theorem szK_take (ks : List PBlk) (i : Nat) : szK (ks.take i) ≤ szK ks := by
  have := szK_app (ks.take i) (ks.drop i)
  rw [List.take_append_drop] at this
  omega
/-- What the first things of a block make, by its kind. -/
def langN (k : Int) (ks : List PBlk) : List Int → Prop := if k = 3 then langS ks else if k = 5 then langM ks else langC ks
theorem langN_one {k : Int} {b : PBlk} {w : List Int} : langN k [b] w ↔ lang b w := by
  unfold langN
  split
  · exact langS_single
  · split
    · exact langM_one
    · rw [langC_iff]; simp
theorem langN_let {k : Int} {ks : List PBlk} (hw : wfK ks) {w : List Int} (h : langN k ks w) : ∀ c ∈ w, c ∈ labK ks := by
  have ih : ∀ b ∈ ks, ∀ w, lang b w → ∀ c ∈ w, c ∈ labB b := fun b hb w h => lang_letters b (wfK_iff.1 hw b hb) w h
  unfold langN at h
  split at h
  · exact langS_letters ih h
  · split at h
    · exact langM_letters ih h
    · obtain ⟨b, hb, h⟩ := langC_iff.1 h
      exact fun c hc => labK_iff.2 ⟨b, hb, ih b hb w h c hc⟩
theorem isW_nil {l : Int} {ks : List PBlk} {most : Int} (hm : 0 ≤ most) : IsW (lang (.mk 1 l ks)) most [[]] :=
  ⟨List.pairwise_singleton _ _, fun w => by rw [lang_1, List.mem_singleton]; exact ⟨fun h => ⟨h, by rw [h]; exact hm⟩, fun h => h.1⟩⟩
theorem isW_step {l most : Int} {ks : List PBlk} : IsW (lang (.mk 2 l ks)) most (jsetL [[l]] most) := IsW.of (fun w _ => by rw [lang_2, List.mem_singleton])
set_option maxRecDepth 100000 in
theorem jwords_1 {w : World} {l most : Int} {A : Option Addr} {n c : Nat} {ks : List PBlk} (hm : 0 ≤ most) :
    Calls Tryd.prog 13 #[.agg #[.int .i64 1, .int .i64 l, .slice A n c], .int .i64 most] w (AnsJw (lang (.mk 1 l ks)) most w) := by
  have B1 := hide2 (boxBelow w (.cells #[.int .i64 1, .int .i64 l, .slice A n c] 24))
  have BB := hide2 (Box.new w #[.int .i64 1, .int .i64 l, .slice A n c] 24)
  go_enter Tryd.func13, Tryd.ntmps13
  go_upto_region 1 with fail
  generalize w.alloc (.cells #[.int .i64 1, .int .i64 l, .slice A n c] 24) = w1 at *
  obtain ⟨z0, z1, z2⟩ := BB.out.three
  go_wp2
  go_ret
  have B2 := hide2 (B1.out.trans ((boxBelow w1 (.cells #[] 3)).mono B1.out.size))
  have R := rowL_one (w := w1.alloc (.cells #[] 3)) (B := w.heap.size) (m := 0) (v := .slice (some ⟨w1.heap.size, 0, none⟩) 0 0) (x := []) (OwnSl.empty B1.out.size) (by omega) B2.out.size
  exact ⟨[[]], _, 1, 1, isW_nil hm, by first | rfl | simp, R, B2.out.trans ((boxBelow _ _).mono B2.out.size)⟩
set_option maxRecDepth 100000 in
theorem jwords_2 {w : World} {l most : Int} {A : Option Addr} {n c : Nat} {ks : List PBlk} :
    Calls Tryd.prog 13 #[.agg #[.int .i64 2, .int .i64 l, .slice A n c], .int .i64 most] w (AnsJw (lang (.mk 2 l ks)) most w) := by
  have B1 := hide2 (boxBelow w (.cells #[.int .i64 2, .int .i64 l, .slice A n c] 24))
  have BB := hide2 (Box.new w #[.int .i64 2, .int .i64 l, .slice A n c] 24)
  go_enter Tryd.func13, Tryd.ntmps13
  go_upto_region 1 with fail
  generalize w.alloc (.cells #[.int .i64 2, .int .i64 l, .slice A n c] 24) = w1 at *
  obtain ⟨z0, z1, z2⟩ := BB.out.three
  have B2 := hide2 (B1.out.trans ((boxBelow w1 (.cells #[.int .i64 l] 3)).mono B1.out.size))
  have R := hide2 (rowL_one (w := w1.alloc (.cells #[.int .i64 l] 3)) (B := w.heap.size) (m := 1) (v := .slice (some ⟨w1.heap.size, 0, none⟩) 1 1) (x := [l]) (ownInt_one B1.out.size) (by omega) B2.out.size)
  have B3 := hide2 (B2.out.trans ((boxBelow (w1.alloc (.cells #[.int .i64 l] 3)) (.cells #[.slice (some ⟨w1.heap.size, 0, none⟩) 1 1] 32)).mono B2.out.size))
  go_wp2_with fail
  simp only [World.size_alloc] at R
  refine (jsetA_calls (w0 := w) most R.out (by omega)).mono ?_
  rintro e w5 ⟨A5, n5, c5, rfl, o5, hg5⟩
  have O5 := hide2 o5
  have B5 := hide2 (B3.out.grown hg5 B3.out.size (fun kk e => by have := (OwnSl.lt R.out kk e).1; exact this))
  clear o5 hg5
  go_wp2_with fail
  go_ret
  exact ⟨_, A5, n5, c5, isW_step, rfl, O5.out, B5.out⟩
end Go.Proofs.YtniolbbhjibobaaDoor
