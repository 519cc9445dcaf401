/- Texts melted into one: The contracts of jwords and JWords. Conditions: the block reads as one; its labels are ints. | The contract of SameLists on lists of lists that read as the same. Conditions: they read as lists. (Cut out of ReachK.) | The law BlocksList as a call: it returns true. Conditions: the block reads as one; its labels are ints; the table of powers of ten is in memory. | From a reading of an argument to a tree of blocks whose labels are ints. Conditions: none. | What the row's listed variables give the walk: the table of powers of ten as it was laid. Conditions: the variable reads as its datum. | A world for the witness of the row of blocks' words: each listed variable holds what its initialiser lays. Conditions: none. -/
import Derived.Test.YtniolbbhjibobaaDoorBlocksListK41
import Derived.Test.YtniolbbhjibobaaDoorBlocksListK43
import Derived.Test.YtniolbbhjibobaaDoorBlocksListK02
import Derived.Test.YtniolbbhjibobaaDoorBlocksListK06
import Derived.Test.YtniolbbhjibobaaDoorBlocksListK18
import Derived.Test.YtniolbbhjibobaaDoorBlocksListK15
import Derived.Test.YtniolbbhjibobaaDoorBlocksListK26
import Derived.Lib.LaidU8
import Derived.Test.YtniolbbhjibobaaDoorCards
import Derived.Test.YtniolbbhjibobaaDoorTie
import Derived.Deep.DeepWitnessRowRef
import Derived.LaidMore
import Derived.MakeChecks
import Derived.LaidOnce
set_option linter.all false
namespace Go.Proofs.YtniolbbhjibobaaDoor
open Go.RowKit

theorem jw_all : ∀ f : Nat, JwA f
  | 0 => fun S k l most A n c ks w hz => by have := szB_pos (.mk k l ks); omega
  | f + 1 => fun S k l most A n c ks w hz hf hw hl hm0 hm8 h => by
    have hJ := jw_all f
    rw [szB_mk] at hz
    have hz' : szK ks ≤ f := by omega
    have hf' : f ≤ 39 := by omega
    have hwk := hw.kids
    have hlk := labOk_kid hl
    cases hw.shp with
    | sil => exact jwords_1 hm0
    | step => exact jwords_2
    | seq _ _ hne =>
      obtain ⟨b, bs, rfl⟩ := List.exists_cons_of_ne_nil hne
      refine (jwords_n hJ (l := l) (.inl rfl) hz' hf' hwk hlk hm0 hm8 h).mono ?_
      rintro e w' ⟨L, A', n', c', i, r⟩
      exact ⟨L, A', n', c', i.congr (fun w => by rw [lang_3]; unfold langN; simp), r⟩
    | choice _ _ hne =>
      obtain ⟨b, bs, rfl⟩ := List.exists_cons_of_ne_nil hne
      refine (jwords_n hJ (l := l) (.inr (.inl rfl)) hz' hf' hwk hlk hm0 hm8 h).mono ?_
      rintro e w' ⟨L, A', n', c', i, r⟩
      exact ⟨L, A', n', c', i.congr (fun w => by rw [lang_4]; unfold langN; simp), r⟩
    | both _ _ hne =>
      obtain ⟨b, bs, rfl⟩ := List.exists_cons_of_ne_nil hne
      refine (jwords_n hJ (l := l) (.inr (.inr rfl)) hz' hf' hwk hlk hm0 hm8 h).mono ?_
      rintro e w' ⟨L, A', n', c', i, r⟩
      exact ⟨L, A', n', c', i.congr (fun w => by rw [lang_5]; unfold langN; simp), r⟩
    | loop _ x y hx hy =>
      refine (jwords_6 hJ (l := l) (by rw [szK_cons, szK_cons, szK_nil] at hz'; omega) hf' hx hy (hlk x (by simp)) (hlk y (by simp)) hm0 hm8 h).mono ?_
      rintro e w' ⟨L, A', n', c', i, r⟩
      exact ⟨L, A', n', c', i.congr (fun w => lang_loop), r⟩
theorem jwords_is {b : PBlk} (hb : wrongB b = 0) {mm : Nat} {L : List (List Int)} (h : IsW (lang b) (mm : Int) L) : L = wordsX (lang b) (letB b) mm (mm + 1) :=
  wordsX_uniq (letB_asc b) (fun w hw c hc => (letB_lab b c).2 (lang_letters b (wrong_right hb).1 w hw c hc)) h.1 (fun w => by rw [h.2]; exact ⟨fun g => ⟨g.1, by have := g.2; omega⟩, fun g => ⟨g.1, by have := g.2; omega⟩⟩)
set_option maxRecDepth 100000 in
set_option maxHeartbeats 8000000 in
theorem jWords_calls {S : Nat → Prop} {w : World} {k l most : Int} {A : Option Addr} {n c : Nat} {ks : List PBlk} (h : BX S w A n c ks) :
    Calls Tryd.prog 5 #[.agg #[.int .i64 k, .int .i64 l, .slice A n c], .int .i64 most] w (AnsWl (ansW (.mk k l ks) most) w) := by
  have B1 := hide2 (boxBelow w (.cells #[.int .i64 k, .int .i64 l, .slice A n c] 24))
  have BB := hide2 (Box.new w #[.int .i64 k, .int .i64 l, .slice A n c] 24)
  obtain ⟨d0, hd0⟩ := h.blks
  have CW := hide2 (jWrong_calls (kd := k) (lb := l) (Blks.keep hd0 B1.out))
  have H := hide2 (h.keep B1.out)
  obtain ⟨b, hb⟩ : ∃ b, PBlk.mk k l ks = b := ⟨_, rfl⟩
  have HB := hide2 hb
  rw [hb] at CW
  rw [hb]
  clear hd0 h hb
  go_enter Tryd.func5, Tryd.ntmps5
  go_upto_region 1 with fail
  generalize w.alloc (.cells #[.int .i64 k, .int .i64 l, .slice A n c] 24) = w1 at *
  obtain ⟨z0, z1, z2⟩ := BB.out.three
  go_wp2_with fail
  refine CW.out.mono ?_
  rintro e w2 ⟨rfl, hb2⟩
  have B2 := hide2 (B1.out.trans (hb2.mono B1.out.size))
  have D2 := hide2 hb2
  clear hb2 z0 z1 z2 CW
  obtain ⟨er, her⟩ : ∃ er, wrongB b = er := ⟨_, rfl⟩
  rw [her]
  have HER := hide2 her
  clear her
  by_cases he : er = 0
  · subst he
    have WR := hide2 (wrong_right HER.out)
    by_cases hm0 : most < 0
    · have OKR := hide2 (ansW_range (most := most) HER.out (.inl hm0))
      go_wp2_with fail
      go_ret2
      exact ⟨none, 0, 0, by rw [OKR.out]; rfl, by rw [OKR.out]; exact Sl.nil0, B2.out⟩
    · by_cases hm8 : 8 < most
      · have OKR := hide2 (ansW_range (most := most) HER.out (.inr hm8))
        go_wp2_with fail
        go_ret2
        exact ⟨none, 0, 0, by rw [OKR.out]; rfl, by rw [OKR.out]; exact Sl.nil0, B2.out⟩
      · obtain ⟨mm, rfl⟩ : ∃ mm : Nat, most = (mm : Int) := ⟨most.toNat, by omega⟩
        have hmm : mm ≤ 8 := by omega
        have FUL := hide2 (fun hf => ansW_full HER.out hmm hf)
        have ALL := hide2 (fun hf => ansW_all HER.out hmm hf)
        have CJ := hide2 (jw_all 40 S k l (mm : Int) A n c ks w2 (by rw [HB.out]; exact WR.out.2.1) (Nat.le_refl _) (by rw [HB.out]; exact WR.out.1) (by rw [HB.out]; exact WR.out.2.2) (by omega) (by omega) (H.out.keep D2.out))
        rw [HB.out] at CJ
        obtain ⟨z0, z1, z2⟩ := (BB.out.keep D2.out).three
        clear hm0 hm8
        go_wp2_with fail
        refine CJ.out.mono ?_
        rintro e3 w3 ⟨L, A3, n3, c3, i3, rfl, o3, hb3⟩
        have EQ := hide2 (jwords_is HER.out i3)
        have LN := hide2 (OwnSl.len o3)
        have F3 := hide2 (few_26 (i3.few (by omega) (As := abc) (fun w hw c hc => mem_abc (WR.out.2.2 c (lang_letters b WR.out.1 w hw c hc)))))
        have hn3 : n3 ≤ 1000000000000 := by have := LN.out; have := F3.out; omega
        have O3 := hide2 o3
        have B3 := hide2 (B2.out.trans (hb3.mono B2.out.size))
        clear i3 o3 hb3 z0 z1 z2
        by_cases h4 : 400 < (n3 : Int)
        · have FU := hide2 (FUL.out (by rw [← EQ.out, LN.out]; omega))
          go_wp2_with fail
          go_ret2
          exact ⟨none, 0, 0, by rw [FU.out]; rfl, by rw [FU.out]; exact Sl.nil0, B3.out⟩
        · have AL := hide2 (ALL.out (by rw [← EQ.out, LN.out]; omega))
          obtain ⟨A', c', e', LS⟩ := RowL.lists O3.out (by omega)
          injection e' with e1 _ e2
          subst e1 e2
          have LSS := hide2 LS
          clear LS
          go_wp2_with fail
          go_ret2
          exact ⟨_, _, _, by rw [AL.out]; rfl, by rw [AL.out, ← EQ.out]; exact LSS.out, B3.out⟩
  · have ER := hide2 (ansW_err (most := most) (b := b) (by rw [HER.out]; exact he))
    have hne : (er != 0) = true := by simp [he]
    go_wp2_with fail
    go_ret2
    rw [ER.out, HER.out]
    exact ⟨none, 0, 0, rfl, Sl.nil0, B2.out⟩
end Go.Proofs.YtniolbbhjibobaaDoor
namespace Go.Proofs.YtniolbbhjibobaaDoor
open Go.RowKit

set_option maxRecDepth 100000 in
theorem sameOne_calls {w : World} {A B : Option Addr} {n c m d : Nat} {xs : List Int} (h : Ints w A n c xs) (g : Ints w B m d xs) :
    Calls Tryd.prog 15 #[.slice A n c, .slice B m d] w fun e w' => e = .returned (.bool true) ∧ Below w.heap.size w w' := by
  have H := hide2 h
  have G := hide2 g
  clear h g
  go_enter Tryd.func15, Tryd.ntmps15
  go_wp2_with ((with_reducible refine (equalInts_calls H.out G.out).mono ?_); rintro e w4 ⟨rfl, dr⟩; have BD := hide2 dr.below; clear dr)
  go_ret
  exact ⟨by simp, BD.out⟩
theorem sameOne_enters : ∀ args w, (callFunc 15 args).run Tryd.prog w = .ok (.enter 15 args) w := fun args w => by kernel_rfl
set_option maxRecDepth 100000 in
theorem equalLists_same {w : World} {A B : Option Addr} {n c m d : Nat} {xs : List (List Int)} (h : Lists w A n c xs) (g : Lists w B m d xs) :
    Calls Tryd.prog 14 #[.slice A n c, .slice B m d, .func (.func 15) #[] #[]] w fun e w' => e = .returned (.bool true) ∧ Below w.heap.size w w' := by
  have hn := h.small
  have henter := sameOne_enters
  obtain rfl : n = m := by rw [← h.len, ← g.len]
  have H := hide2 h
  have G := hide2 g
  clear h g
  go_enter Tryd.func14, Tryd.ntmps14
  go_wp2
  go_loopw [17] (fun i wr => ∃ k : Nat, k ≤ n ∧ i = .int .i64 k ∧ Hid (Below w.heap.size w wr)) (fun i _ => n - (intOf i).toNat)
  case atStart => exact ⟨0, Nat.zero_le _, rfl, hide2 (Below.refl _ _)⟩
  case round =>
    obtain ⟨k, hk, rfl, D⟩ := hrel
    by_cases hlt : k < n
    · have hki : (k : Int) < (n : Int) := by omega
      obtain ⟨b, off, x, A1, n1, c1, rfl, hb, hx, q0, i1, _⟩ := Lists.get (Sl.keep ListR.kept H.out D.out) hlt
      obtain ⟨b', off', y, A2, n2, c2, rfl, hb', hy, q1, i2, _⟩ := Lists.get (Sl.keep ListR.kept G.out D.out) hlt
      obtain rfl : x = y := by have h1 := hx.out; rw [hy.out] at h1; injection h1 with h1; exact h1.symm
      have I1 := hide2 i1
      have I2 := hide2 i2
      clear hx hy i1 i2
      go_wp2_with ((with_reducible refine (sameOne_calls I1.out I2.out).mono ?_); rintro e w4 ⟨rfl, hb4⟩; have BD := hide2 hb4; clear hb4)
      go_roundw
      case rel => exact ⟨k + 1, by omega, by go_num, hide2 (D.out.trans (BD.out.mono D.out.size))⟩
      case measure => simp [intOf]; omega
    · go_wp2
      go_ret
      exact ⟨rfl, D.out⟩
set_option maxRecDepth 100000 in
theorem sameLists_same {w : World} {A B : Option Addr} {n c m d : Nat} {xs : List (List Int)} (h : Lists w A n c xs) (g : Lists w B m d xs) :
    Calls Tryd.prog 6 #[.slice A n c, .slice B m d] w fun e w' => e = .returned (.bool true) ∧ Below w.heap.size w w' := by
  have H := hide2 h
  have G := hide2 g
  clear h g
  go_enter Tryd.func6, Tryd.ntmps6
  go_wp2_with ((with_reducible refine (equalLists_same H.out G.out).mono ?_); rintro e w4 ⟨rfl, hb4⟩; have BD := hide2 hb4; clear hb4)
  go_ret
  exact ⟨rfl, BD.out⟩
end Go.Proofs.YtniolbbhjibobaaDoor
namespace Go.Proofs.YtniolbbhjibobaaDoor
open Go.RowKit

set_option maxRecDepth 100000 in
set_option maxHeartbeats 4000000 in
theorem blocksList_walk {d : Nat} {w : World} {k l : Int} {A : Option Addr} {n c : Nat} {ks : List PBlk} (h : Blks d w A n c ks) (hi : intB (.mk k l ks)) (hP : TabP w) (most : Int) :
    Calls Tryd.prog 3 #[.agg #[.int .i64 k, .int .i64 l, .slice A n c], .int .i64 most] w fun e w' => e = .returned (.bool true) ∧ Below w.heap.size w w' := by
  have HB := hide2 (boxBelow w (.cells #[.int .i64 k, .int .i64 l, .slice A n c] 24))
  have X0 := hide2 (Box.new w #[.int .i64 k, .int .i64 l, .slice A n c] 24)
  have HX := hide2 (BX.of h)
  have C1 := hide2 (fun (w' : World) (hb : Below w.heap.size w w') => bwWords_calls (most := most) (HX.out.keep hb) hi (hP.keep hb))
  have C2 := hide2 (fun (w' : World) (hb : Below w.heap.size w w') => jWords_calls (k := k) (l := l) (most := most) (HX.out.keep hb))
  clear h hi hP HX
  obtain ⟨r, hr⟩ : ∃ r, ansW (.mk k l ks) most = r := ⟨_, rfl⟩
  simp only [hr] at C1 C2
  clear hr
  obtain ⟨L, q⟩ := r
  go_enter Tryd.func3, Tryd.ntmps3
  go_upto_region 1 with fail
  generalize w.alloc (.cells #[.int .i64 k, .int .i64 l, .slice A n c] 24) = w0 at *
  obtain ⟨x0, x1, x2⟩ := X0.out.three
  go_wp2_with fail
  refine (C1.out w0 HB.out).mono ?_
  rintro e w1 ⟨A1, n1, c1, rfl, hl, hb⟩
  have X1 := hide2 (X0.out.keep hb)
  have B1 := hide2 (HB.out.trans (hb.mono HB.out.size))
  have L1 := hide2 hl
  clear hb hl x0 x1 x2
  obtain ⟨x0, x1, x2⟩ := X1.out.three
  go_wp2_with fail
  refine (C2.out w1 B1.out).mono ?_
  rintro e w2 ⟨A2, n2, c2, rfl, hl, hb⟩
  have B2 := hide2 (B1.out.trans (hb.mono B1.out.size))
  have L2 := hide2 hl
  have L1' := hide2 (Sl.keep ListR.kept L1.out hb)
  clear hb hl x0 x1 x2
  go_wp2_with fail
  refine (sameLists_same L1'.out L2.out).mono ?_
  rintro e w3 ⟨rfl, hb⟩
  have B3 := hide2 (B2.out.trans (hb.mono B2.out.size))
  clear hb
  go_wp2
  go_ret
  exact ⟨rfl, B3.out⟩
end Go.Proofs.YtniolbbhjibobaaDoor
namespace Go.Proofs.YtniolbbhjibobaaDoor
open Go.ChangeShapes Go.WideShapes Go.ChangeAt Go.RowKit Go.Deep

theorem int_range {z : Int} (h : (Lit.int .i64 z).wf = true) : -9223372036854775808 ≤ z ∧ z ≤ 9223372036854775807 := by
  simp [Lit.wf, IntKind.min, IntKind.max, IntKind.bits, IntKind.signed] at h
  omega
def BlkI : World → (Nat → Value) → PBlk → Prop := fun w vs b => BlkS w vs b ∧ intB b
theorem BlkI.good : Good BlkI 3 where
  kept := fun w w' vs x hb h => ⟨BlkS.good.kept w w' vs x hb h.1, h.2⟩
  one := fun w vs x h => BlkS.good.one w vs x h.1
  pos := by omega
section
variable {H : Type} {enc : TypeId × Value → H} {W : World}
theorem blkI_fields {fuel : Nat} {cs : List Value} {d : DataW H} {pl : List MemPlace} (h : DataW.trod enc Tryd.prog W 0 (fun _ => true) true fuel 24 cs = some (d, pl)) (hw : ∀ x ∈ d.weights Tryd.prog 24, x ≤ reachBytes) (hl : cs.length = 3)
    (ih : ∀ (fuel : Nat) (cs : List Value) (d' : DataW H) (pl : List MemPlace), SizeOf.sizeOf d' < SizeOf.sizeOf d → DataW.trod enc Tryd.prog W 0 (fun _ => true) true fuel 24 cs = some (d', pl) → (∀ x ∈ d'.weights Tryd.prog 24, x ≤ reachBytes) → cs.length = 3 → ∃ b, BlkI W (fun j => cs.getD j undef) b) :
    ∃ kd lb A n c ks k, cs.getD 0 undef = .int .i64 kd ∧ cs.getD 1 undef = .int .i64 lb ∧ cs.getD 2 undef = .slice A n c ∧ Blks k W A n c ks ∧ intB (.mk kd lb ks) := by
  obtain ⟨n, hg⟩ := struct_fieldsS Tryd.underlying24 (by kernel_rfl) h hw hl
  obtain ⟨v0, y0, e0, t0, _, _⟩ := hg 0 _ rfl
  obtain ⟨v1, y1, e1, t1, _, _⟩ := hg 1 _ rfl
  obtain ⟨v2, y2, e2, t2, w2, s2⟩ := hg 2 _ rfl
  obtain ⟨kd, hk, _, _⟩ := DataW.trod_int Tryd.underlying3 t0
  obtain ⟨lb, hb, _, hwf⟩ := DataW.trod_int Tryd.underlying3 t1
  obtain ⟨A, n2, c2, ks, hv, hS, _⟩ := Sl.of_trodS (R := BlkI) Tryd.underlying22 BlkI.good cellsBlk (bytes := 40) (by kernel_rfl) (by omega) (fun fuel cs d' pl hd => ih fuel cs d' pl (by omega)) t2 w2
  obtain ⟨k, hB⟩ := blks_of (show Sl BlkS 3 W A n2 c2 ks from ⟨hS.len, hS.le, hS.cap, hS.small, hS.nul, fun hn => by
    obtain ⟨b, off, e, hb, hx⟩ := hS.cells hn
    exact ⟨b, off, e, hb, fun i x hi => by obtain ⟨vs, a, r⟩ := hx i x hi; exact ⟨vs, a, r.1⟩⟩⟩)
  have hI : intK ks := intK_iff.2 (fun b hb => by
    obtain ⟨i, hi, e⟩ := List.mem_iff_getElem.1 hb
    obtain ⟨_, _, _, _, hx⟩ := hS.cells (by have := hS.len; omega)
    obtain ⟨vs, _, r⟩ := hx i b (by rw [List.getElem?_eq_getElem hi, e])
    exact r.2)
  injection hk with hk
  injection hb with hb
  exact ⟨kd, lb, A, n2, c2, ks, k, by rw [e0, hk], by rw [e1, hb], by rw [e2, hv], hB, in_mk.2 ⟨int_range hwf, hI⟩⟩
theorem blkI_trod : ∀ (N fuel : Nat) (cs : List Value) (d : DataW H) (pl : List MemPlace), SizeOf.sizeOf d < N → DataW.trod enc Tryd.prog W 0 (fun _ => true) true fuel 24 cs = some (d, pl) → (∀ x ∈ d.weights Tryd.prog 24, x ≤ reachBytes) → cs.length = 3 → ∃ b, BlkI W (fun j => cs.getD j undef) b
  | 0, _, _, _, _, hd, _, _, _ => by omega
  | N + 1, fuel, cs, d, pl, hd, h, hw, hl => by
    obtain ⟨kd, lb, A, n, c, ks, k, e0, e1, e2, hB, hI⟩ := blkI_fields h hw hl (fun fuel cs d' pl hd' => blkI_trod N fuel cs d' pl (by omega))
    exact ⟨.mk kd lb ks, ⟨k + 1, e0, e1, A, n, c, e2, hB⟩, hI⟩
set_option maxRecDepth 100000 in
theorem blockIOf {base : Nat} {v : Value} {d : DataW H} {p : List MemPlace} (hv : Value.okWide Tryd.prog W .any base 24 v) (h : DataW.Trod enc Tryd.prog W 0 (fun _ => true) true 24 v d p) (hw : ∀ x ∈ d.weights Tryd.prog 24, x ≤ reachBytes) :
    ∃ kd lb A n c ks k, v = .agg #[.int .i64 kd, .int .i64 lb, .slice A n c] ∧ Blks k W A n c ks ∧ intB (.mk kd lb ks) := by
  obtain ⟨cs, rfl, hsz⟩ := okWide_struct Tryd.underlying24 hv
  obtain ⟨fuel, hf⟩ := h
  have hl : cs.toList.length = 3 := by rw [Array.length_toList, hsz, cellsBlk]
  obtain ⟨kd, lb, A, n, c, ks, k, e0, e1, e2, hB, hI⟩ := blkI_fields hf hw hl (fun fuel cs d' pl _ => blkI_trod _ fuel cs d' pl (Nat.lt_succ_self _))
  obtain rfl := three_of hl e0 e1 e2
  exact ⟨kd, lb, A, n, c, ks, k, rfl, hB, hI⟩
end
end Go.Proofs.YtniolbbhjibobaaDoor
namespace Go.Proofs.YtniolbbhjibobaaDoor
open Go.RowKit Go.ChangeShapes

theorem bwTab_of {P : Program} {W : World} {name : String} {k : IntKind} {zs : List Int} {g : Nat} {t e : TypeId} {n : Nat}
    (hg : P.globalNamed name = some g) (hty : (P.globals[g]?).map (·.type) = some t) (ht : P.underlying t = some (.array n e)) (he : P.underlying e = some (.int k)) (hce : P.cellsOf e = 1) (hct : P.cellsOf t = n)
    (h : Lib.VarReads P W name (Lib.tabData k zs)) : Lib.TabIs P W name k zs := by
  obtain ⟨g', t', cs, fuel, p, hg', ht', hvar, hd⟩ := h
  obtain rfl := Option.some.inj (hg.symm.trans hg')
  obtain rfl := Option.some.inj (hty.symm.trans ht')
  unfold Lib.TabIs
  rw [hvar, ← Lib.cells_of_tab ht he hce hct hd]
theorem tabP_of {W : World} (h : Lib.VarReads Tryd.prog W "internal/strconv.uint64pow10" (Lib.tabData .u64 Lib.pow10Tab)) : TabP W :=
  bwTab_of (g := 0) (t := 115) (by kernel_rfl) (by kernel_rfl) Tryd.underlying115 Tryd.underlying83 (by kernel_rfl) (by kernel_rfl) h
end Go.Proofs.YtniolbbhjibobaaDoor
namespace Go.Proofs.YtniolbbhjibobaaDoor.blocksListDone
open Go
theorem laidMet_of_bits {P : Program} {w : World} {l : List (String × DataW Unit)} (fuel M : Nat) (h : (DataW.laidRun P w fuel (l.map (·.1))).map (·.1) = some l)
    (hr : (DataW.laidRun P w fuel (l.map (·.1))).map (fun x => nodupBits M x.2 0 && laidRowsB P w x.2) = some true) : laidMet P l w := by
  cases hx : DataW.laidRun P w fuel (l.map (·.1)) with
  | none => simp [hx] at h
  | some x =>
    obtain ⟨l', ps⟩ := x
    simp only [hx, Option.map_some, Option.some.injEq] at h hr
    subst h
    simp only [Bool.and_eq_true] at hr
    exact laidMet_of_run fuel hx (decide_eq_true (nodupBits_sound hr.1).1) hr.2
def ints (d : DataW Unit) : Array Value :=
  match d with
  | .agg l => (l.filterMap fun | .lit (.int k z) => some (Value.int k z) | _ => none).toArray
  | _ => #[]
noncomputable def laidHeap : Array Obj :=
  ([Obj.cells (ints Rows.laid_internal_strconv_uint64pow10) 115, Obj.cells (ints Rows.laid_math_bits_deBruijn32tab) 117, Obj.cells (ints Rows.laid_math_bits_deBruijn64tab) 118] ++
   (begin Tryd.prog (fun _ _ => 0) default).world.heap.toList.drop 3).toArray
noncomputable def laidWorld (os : Os) : World := { World.holding Tryd.prog os ⟨#[], #[], []⟩ with heap := laidHeap }
noncomputable abbrev wArgs : Array Value := #[.agg #[.int .i64 0, .int .i64 0, .slice none 0 0], .int .i64 0]
theorem laid_met (os : Os) : laidMetH Tryd.prog Rows.blocksListRow.laid ((laidWorld os).forCall (fun _ _ => 0) ⟨#[], wArgs, []⟩).memory := by
  rw [MakeChecks.laidMetH_plain _ _ _ (by kernel_rfl)]
  exact laidMet_of_bits 8 257 (by kernel_rfl) (by kernel_rfl)
theorem reads (os : Os) {H : Type} (enc : TypeId × Value → H) : ∃ places, DataW.whole enc Tryd.prog ((laidWorld os).forCall (fun _ _ => 0) ⟨#[], wArgs, []⟩).memory Tryd.f3.params.toList Rows.blocksListSpec.vars false wArgs.toList 8 = some ([.agg [.lit (.int .i64 0), .lit (.int .i64 0), .nil], .lit (.int .i64 0)], [], places) :=
  ⟨[], by kernel_rfl⟩
theorem variables (os : Os) : ((laidWorld os).forCall (fun _ _ => 0) ⟨#[], wArgs, []⟩).variablesRefB Tryd.prog = true := by kernel_rfl
theorem behind (os : Os) : (((laidWorld os).forCall (fun _ _ => 0) ⟨#[], wArgs, []⟩).heap.toList.drop Tryd.prog.globals.size).take ((begin Tryd.prog (fun _ _ => 0) default).world.heap.size - Tryd.prog.globals.size) =
      (begin Tryd.prog (fun _ _ => 0) default).world.heap.toList.drop Tryd.prog.globals.size := by kernel_rfl
theorem okArgs (os : Os) : Input.okWideB Tryd.prog ((laidWorld os).forCall (fun _ _ => 0) ⟨#[], wArgs, []⟩) 3 ⟨#[], wArgs, []⟩ = true := by kernel_rfl
theorem fits (os : Os) {H : Type} (enc : TypeId × Value → H) : (OpenSpec.ofChange Rows.blocksListSpec).preRow enc Tryd.prog Tryd.f3 Rows.blocksListRow.domain false Rows.blocksListRow.laid ((laidWorld os).forCall (fun _ _ => 0) ⟨#[], wArgs, []⟩).memory wArgs := by
  obtain ⟨places, hx⟩ := reads os enc
  exact OpenSpec.preRow_of_cond 8 hx (by kernel_rfl) (fun k hk => by cases hk) (by kernel_rfl) (laid_met os)
end Go.Proofs.YtniolbbhjibobaaDoor.blocksListDone
