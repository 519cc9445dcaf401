/- Texts melted into one: The contract of blocks' key. Conditions: the block reads as one, is right and no greater than 2400; its labels are ints; the table of powers of ten is in memory. | The rule of XHeld's tree with one more knot: where two operations may come up, the second of them being the one that S is no longer asked behind. -/
import Derived.Test.YtniolbbhjibobaaDoorBlocksListK25
import Derived.Lib.SmallJoins
import Derived.Test.YtniolbbhjibobaaDoorBlocksListK05
set_option linter.all false
namespace Go.Proofs.YtniolbbhjibobaaDoor
open Go.RowKit Go.Sort

def TabP (w : World) : Prop := Lib.TabIs Tryd.prog w "internal/strconv.uint64pow10" .u64 Lib.pow10Tab
theorem TabP.keep {w w' : World} (h : TabP w) (hb : Below w.heap.size w w') : TabP w' := by
  unfold TabP Lib.TabIs World.var? at *
  cases hg : Tryd.prog.globalNamed "internal/strconv.uint64pow10" with
  | none => rw [hg] at h; cases h
  | some g =>
    rw [hg] at h
    simp only [Option.bind_some] at h ⊢
    cases hc : w.heap[g]? with
    | none => rw [hc] at h; cases h
    | some o =>
      have hlt : g < w.heap.size := (Array.getElem?_eq_some_iff.1 hc).1
      rw [hb.block g hlt]
      exact h
theorem below_growI (w : World) (k : Nat) (os : Array Obj) : Below w.heap.size w (grow (w.drewN k) os) := by
  refine ⟨rfl, rfl, rfl, by simp [grow], fun j hj => ?_⟩
  show (w.heap ++ os)[j]? = w.heap[j]?
  rw [Array.getElem?_append_left hj]
theorem bwItoa_calls {w : World} {n : Int} (h0 : -9223372036854775808 ≤ n) (h1 : n ≤ 9223372036854775807) (T : TabP w) : Calls Tryd.prog 56 #[.int .i64 n] w fun e w' => e = .returned (.string ⟨(Lib.itoa n).toArray⟩) ∧ Below w.heap.size w w' := by
  refine (strconv_Itoa n h0 h1 w T).mono ?_
  rintro e w' ⟨rfl, k, os, rfl⟩
  exact ⟨rfl, below_growI _ _ _⟩
set_option maxRecDepth 100000 in
set_option maxHeartbeats 8000000 in
theorem bwKey_calls {S : Nat → Prop} : ∀ (f : Nat) (k l : Int) (A : Option Addr) (n c : Nat) (ks : List PBlk) (w : World), szB (.mk k l ks) ≤ f → f ≤ 2400 → wfB (.mk k l ks) → intB (.mk k l ks) → TabP w → BX S w A n c ks →
    Calls Tryd.prog 35 #[.agg #[.int .i64 k, .int .i64 l, .slice A n c]] w (fun e w' => e = .returned (.string ⟨(keyB (.mk k l ks)).toArray⟩) ∧ Below w.heap.size w w') := by
  intro f
  induction f with
  | zero =>
    intro k l A n c ks w hf
    have := szB_pos (.mk k l ks)
    exact absurd hf (by omega)
  | succ f ih =>
    intro k l A n c ks w hf hf6 hw hi hT h
    have IH := hide2 ih
    have X0 := hide2 (boxBelow w (.cells #[.int .i64 k, .int .i64 l, .slice A n c] 24))
    have H := hide2 (h.keep X0.out)
    have TT := hide2 (hT.keep X0.out)
    have HL := hide2 (show ks.length = n from h.2.len)
    have hns := h.2.small
    have W := hide2 hw.kids
    have KK := hide2 (show 1 ≤ k ∧ k ≤ 6 from wf_kind hw)
    have LL := hide2 (in_mk.1 hi).1
    have II := hide2 (intK_iff.1 (in_mk.1 hi).2)
    have KL := hide2 (show (keyB (.mk k l ks)).length ≤ 105600 by have := key_len _ hw hi; omega)
    have hsz : szK ks ≤ f := by rw [szB_mk] at hf; omega
    have SZ := hide2 hsz
    have BB := hide2 (Box.new w #[.int .i64 k, .int .i64 l, .slice A n c] 24)
    clear ih hw h hf hsz hi hT
    go_enter Tryd.func35, Tryd.ntmps35
    go_upto_region 1 with fail
    generalize w.alloc (.cells #[.int .i64 k, .int .i64 l, .slice A n c] 24) = w1 at *
    obtain ⟨S1, hS1⟩ : ∃ s, Lib.itoa k ++ [46] = s := ⟨_, rfl⟩
    obtain ⟨S2, hS2⟩ : ∃ s, S1 ++ Lib.itoa l = s := ⟨_, rfl⟩
    obtain ⟨S3, hS3⟩ : ∃ s, S2 ++ [40] = s := ⟨_, rfl⟩
    have i1 := itoa_short (n := k) (by have := KK.out; omega) (by have := KK.out; omega)
    have i2 := itoa_short LL.out.1 LL.out.2
    have l1 : S1.length ≤ 21 := by rw [← hS1]; simp; omega
    have l2 : S2.length ≤ 41 := by rw [← hS2]; simp; omega
    have a1 : ∀ wx : World, (Op.stringOp .add ⟨(Lib.itoa k).toArray⟩ ⟨#[46]⟩).run Tryd.prog wx = .ok (.string ⟨S1.toArray⟩) wx := fun wx => by rw [← hS1]; exact run_string_add_lists wx (Lib.itoa k) [46] (by omega) (by decide)
    have a2 : ∀ wx : World, (Op.stringOp .add ⟨S1.toArray⟩ ⟨(Lib.itoa l).toArray⟩).run Tryd.prog wx = .ok (.string ⟨S2.toArray⟩) wx := fun wx => by rw [← hS2]; exact run_string_add_lists wx S1 (Lib.itoa l) (by omega) (by omega)
    have a3 : ∀ wx : World, (Op.stringOp .add ⟨S2.toArray⟩ ⟨#[40]⟩).run Tryd.prog wx = .ok (.string ⟨S3.toArray⟩) wx := fun wx => by rw [← hS3]; exact run_string_add_lists wx S2 [40] (by omega) (by decide)
    have START := hide2 (show S3 ++ (keyK (ks.drop 0) ++ [41]) = keyB (.mk k l ks) by rw [← hS3, ← hS2, ← hS1, keyB, List.drop_zero]; simp)
    clear hS1 hS2 hS3 i1 i2 l1 l2
    have Bu0 := hide2 (show Below w1.heap.size w1 w1.drew from (Below.refl _ _).drew)
    have HS := hide2 (fun (u : World) (hb : Below w1.heap.size w1 u) => show u.cell? ⟨w.heap.size, 0, none⟩ = some (.int .i64 k) ∧ u.cell? ⟨w.heap.size, 1, none⟩ = some (.int .i64 l) from ⟨(BB.out.keep hb).three.1, (BB.out.keep hb).three.2.1⟩)
    refine wp_region_scr 9 (.takes [0, 1, 4, 5] (.one 2 (.take 3 (.one 6 (.takes [7, 8] (.fin 9 .done)))))) (fun u => u.cell? ⟨w.heap.size, 0, none⟩ = some (.int .i64 k) ∧ u.cell? ⟨w.heap.size, 1, none⟩ = some (.int .i64 l)) (by kernel_rfl) (by kernel_rfl) (by kernel_rfl) (fun _ _ _ _ _ h => h) (HS.out _ Bu0.out) (fun hHeld => ?_)
    simp only [Scr.takes]
    generalize w1.drew = u0 at *
    iterate 4
      refine tkTake (v := ?_) rfl (by rfl) hHeld (fun w' hSw => ?_) ?_
      rotate_left
      · (obtain ⟨s0, s1⟩ := hSw; go_simp; try with_reducible rfl)
      try simp only [Act.put, List.setIfInBounds_toArray, List.set_cons_zero, List.set_cons_succ]
    refine tkOne rfl (fun Kf hKf => ?_)
    go_simp; go_at_call 56
    (with_reducible refine (bwItoa_calls (by have := KK.out; omega) (by have := KK.out; omega) (TT.out.keep Bu0.out)).mono ?_)
    rintro e u1 ⟨rfl, hb⟩
    have Bu1 := hide2 (Bu0.out.trans (hb.mono Bu0.out.size))
    clear hb
    refine hKf.out _ _ (HS.out _ Bu1.out) (fun hHeld => ?_)
    clear hKf
    try simp only [Act.put, List.setIfInBounds_toArray, List.set_cons_zero, List.set_cons_succ]
    refine tkTake (v := ?_) rfl (by rfl) hHeld (fun w' hSw => ?_) ?_
    rotate_left
    · (go_simp; try with_reducible rfl)
    try simp only [Act.put, List.setIfInBounds_toArray, List.set_cons_zero, List.set_cons_succ]
    refine tkOne rfl (fun Kf hKf => ?_)
    go_simp; go_at_call 56
    (with_reducible refine (bwItoa_calls LL.out.1 LL.out.2 (TT.out.keep Bu1.out)).mono ?_)
    rintro e u2 ⟨rfl, hb⟩
    have Bu2 := hide2 (Bu1.out.trans (hb.mono Bu1.out.size))
    clear hb
    refine hKf.out _ _ (HS.out _ Bu2.out) (fun hHeld => ?_)
    clear hKf
    try simp only [Act.put, List.setIfInBounds_toArray, List.set_cons_zero, List.set_cons_succ]
    iterate 2
      refine tkTake (v := ?_) rfl (by rfl) hHeld (fun w' hSw => ?_) ?_
      rotate_left
      · (go_simp; try with_reducible rfl)
      try simp only [Act.put, List.setIfInBounds_toArray, List.set_cons_zero, List.set_cons_succ]
    refine tkEnd rfl (fun Kf hKf => ?_)
    go_simp
    refine hKf.out _ _ ?_
    clear hKf
    try simp only [Act.put, List.setIfInBounds_toArray, List.set_cons_zero, List.set_cons_succ]
    refine tkDone ?_
    clear hHeld a1 a2 a3
    obtain ⟨wo, hwo⟩ : ∃ wo : World, wo = u2 := ⟨_, rfl⟩
    subst hwo
    obtain ⟨z0, z1, z2⟩ := (BB.out.keep Bu2.out).three
    go_wp2
    clear z0 z1 z2
    go_loopw [3, 18] (fun s3 v wr => ∃ (Sx : List UInt8) (i : Nat), s3 = .string ⟨Sx.toArray⟩ ∧ i ≤ n ∧ v = .int .i64 i ∧ Hid (Sx ++ (keyK (ks.drop i) ++ [41]) = keyB (.mk k l ks)) ∧ Hid (Below wo.heap.size wo wr)) (fun _ v _ => n - (intOf v).toNat)
    case atStart => exact ⟨_, 0, rfl, Nat.zero_le _, rfl, START, hide2 (Below.refl _ _)⟩
    case round =>
      obtain ⟨Sx, i, rfl, hi, rfl, AC, BR⟩ := hrel
      have BW := hide2 (Bu2.out.trans (BR.out.mono Bu2.out.size))
      by_cases hlt : i < n
      · have hki : (i : Int) < (n : Int) := by omega
        obtain ⟨b4, off4, kd4, lb4, ks4, A4, n4, c4, rfl, hb4, _, hx4, q0, q1, q2, K4⟩ := (H.out.keep BW.out).get hlt
        have bb4 := boxBelow wr (.cells #[.int .i64 kd4, .int .i64 lb4, .slice A4 n4 c4] 24)
        have DR := hide2 (drop_get hx4.out)
        have wf4 := W.out.get hx4.out
        have sz4 := szK_get hx4.out
        have CT := hide2 (IH.out kd4 lb4 A4 n4 c4 ks4 (wr.alloc (.cells #[.int .i64 kd4, .int .i64 lb4, .slice A4 n4 c4] 24)) (by have := SZ.out; omega) (by omega) wf4 (II.out _ (List.mem_of_getElem? hx4.out)) (TT.out.keep (BW.out.trans (bb4.mono BW.out.size))) (K4.keep bb4))
        obtain ⟨D, hD⟩ : ∃ D, keyB (.mk kd4 lb4 ks4) = D := ⟨_, rfl⟩
        obtain ⟨S2, hS2⟩ : ∃ s, Sx ++ D = s := ⟨_, rfl⟩
        have AN := hide2 (show S2 ++ (keyK (ks.drop (i + 1)) ++ [41]) = keyB (.mk k l ks) by
          have := AC.out
          rw [DR.out, keyK, hD] at this
          rw [← hS2, ← this]
          simp)
        have lS : S2.length ≤ 105600 := by
          have := congrArg List.length AN.out
          have := KL.out
          simp at *
          omega
        have lD : Sx.length + D.length = S2.length := by rw [← hS2, List.length_append]
        have a1 : ∀ wx : World, (Op.stringOp .add ⟨Sx.toArray⟩ ⟨D.toArray⟩).run Tryd.prog wx = .ok (.string ⟨S2.toArray⟩) wx := fun wx => by rw [← hS2]; exact run_string_add_lists wx Sx D (by omega) (by omega)
        rw [hD] at CT
        have BT := hide2 (BR.out.trans (bb4.mono BR.out.size))
        clear bb4 K4 hb4 wf4 sz4 hD hS2 lS lD
        go_wp2_with fail
        refine CT.out.mono ?_
        rintro e w5 ⟨rfl, hb5⟩
        have B5 := hide2 (BT.out.trans (hb5.mono BT.out.size))
        clear hb5
        go_wp2_with fail
        go_roundw
        case rel => exact ⟨_, i + 1, rfl, by omega, by go_num, AN, B5⟩
        case measure => simp [intOf]; omega
      · obtain rfl : i = n := by omega
        have lS : Sx.length ≤ 105600 := by
          have := congrArg List.length AC.out
          have := KL.out
          simp at *
          omega
        have EQ := hide2 (show Sx ++ [41] = keyB (.mk k l ks) by have := AC.out; rwa [← HL.out, List.drop_length, keyK, List.nil_append] at this)
        obtain ⟨S9, hS9⟩ : ∃ s, keyB (.mk k l ks) = s := ⟨_, rfl⟩
        have a1 : ∀ wx : World, (Op.stringOp .add ⟨Sx.toArray⟩ ⟨#[41]⟩).run Tryd.prog wx = .ok (.string ⟨S9.toArray⟩) wx := fun wx => by rw [← hS9, ← EQ.out]; exact run_string_add_lists wx Sx [41] (by omega) (by decide)
        have FIN := hide2 (X0.out.trans (BW.out.mono X0.out.size))
        clear lS
        have HS9 := hide2 hS9
        clear hS9
        go_wp2
        go_ret
        rw [HS9.out]
        exact ⟨rfl, FIN.out⟩
end Go.Proofs.YtniolbbhjibobaaDoor
namespace Go.Proofs.YtniolbbhjibobaaDoor
open Go.RowKit

inductive ScN where
  | done
  | take (i : Nat) (r : ScN)
  | one (i : Nat) (r : ScN)
  | fin (i : Nat) (r : ScN)
  | two (i : Nat) (r1 : ScN) (j : Nat) (r2 : ScN)
def ScN.takes : List Nat → ScN → ScN
  | [], r => r
  | i :: l, r => .take i (ScN.takes l r)
section
variable {P : Program} {ops : Array Oper} {Q : Exit → Act → World → Prop} {md : Region.Mode} {S : World → Prop} {m : Nat}
def okScN (md : Region.Mode) (ops : Array Oper) (m : Nat) : ScN → Nat → Array Bool → Bool
  | .done, _, listed => (Region.ready md ops listed).isEmpty
  | .take i r, f, listed => match f with
    | 0 => false
    | f + 1 => (Region.free md ops listed i && (Region.ready md ops listed).contains i && i != m && waitsOn md ops 8 m i && !listed.getD m true) && okScN md ops m r f (listed.setIfInBounds i true)
  | .one i r, f, listed => match f with
    | 0 => false
    | f + 1 => Region.ready md ops listed == [i] && okScN md ops m r f (listed.setIfInBounds i true)
  | .fin i r, f, listed => match f with
    | 0 => false
    | f + 1 => (Region.ready md ops listed == [i] && (listed.setIfInBounds i true).getD m true) && okScN md ops m r f (listed.setIfInBounds i true)
  | .two i r1 j r2, f, listed => match f with
    | 0 => false
    | f + 1 => (Region.ready md ops listed == [i, j] && (listed.setIfInBounds j true).getD m true) && okScN md ops m r1 f (listed.setIfInBounds i true) && okScN md ops m r2 f (listed.setIfInBounds j true)
def wpScN (P : Program) (ops : Array Oper) (Q : Exit → Act → World → Prop) (S : World → Prop) : ScN → Act → World → Prop
  | .done, a, w => Q .normal a w
  | .take i r, a, w => ∃ oi v, ops[i]? = some oi ∧ YieldsIf P ops S oi v a ∧ S w ∧ wpScN P ops Q S r (a.put oi.dst v) w
  | .one i r, a, w => wpOp P ops Q i (fun a' w' => S w' ∧ wpScN P ops Q S r a' w') a w
  | .fin i r, a, w => wpOp P ops Q i (wpScN P ops Q S r) a w
  | .two i r1 j r2, a, w => wpOp P ops Q i (fun a' w' => S w' ∧ wpScN P ops Q S r1 a' w') a w ∧ wpOp P ops Q j (wpScN P ops Q S r2) a w
theorem wpAnyL_of_scn (hs : Region.noSelect ops = true) (hQ : ∀ c a (d : Tmp) v w, Q (.panic c) (a.put (some d) v) w → Q (.panic c) a w) :
    ∀ (l : ScN) (fuel : Nat) (listed : Array Bool) (a : Act) (w : World), Closed md ops listed → okScN md ops m l fuel listed = true → wpScN P ops Q S l a w → wpAnyL P md ops Q S m fuel listed a w := by
  intro l
  induction l with
  | done =>
    intro fuel listed a w _ hok h
    have h0 : Region.ready md ops listed = [] := by simpa [okScN] using hok
    cases fuel with
    | zero => exact ⟨h0, h⟩
    | succ n => exact ⟨fun _ => h, fun i hi => by rw [h0] at hi; cases hi⟩
  | take i r ih =>
    intro fuel listed a w hc hok h
    cases fuel with
    | zero => simp [okScN] at hok
    | succ fuel =>
      simp only [okScN, Bool.and_eq_true, bne_iff_ne, ne_eq, Bool.not_eq_true'] at hok
      obtain ⟨⟨⟨⟨⟨hf, hr⟩, him⟩, hw⟩, hmu⟩, hrest⟩ := hok
      obtain ⟨oi, v, hi, hy, hS, h⟩ := h
      exact wpAnyL_first hi (Region.noSelect_spec hs) (fun c a w h => by cases hd : oi.dst with | none => rw [hd] at h; exact h | some d => rw [hd] at h; exact hQ c a d _ w h) him hw fuel listed a w hc (Region.free_spec hi hf) (by simpa using hr) hmu hy hS (ih fuel _ _ w (hc.set (by simpa using hr)) hrest h)
  | one i r ih =>
    intro fuel listed a w hc hok h
    cases fuel with
    | zero => simp [okScN] at hok
    | succ fuel =>
      simp only [okScN, Bool.and_eq_true, beq_iff_eq] at hok
      refine ⟨fun h0 => absurd (h0.symm.trans hok.1) (by simp), fun j hj => ?_⟩
      rw [hok.1] at hj
      obtain rfl : j = i := by simpa using hj
      exact wpOp_mono (fun a' w' h' => ⟨fun _ => h'.1, ih fuel _ a' w' (hc.set (by rw [hok.1]; simp)) hok.2 h'.2⟩) h
  | fin i r ih =>
    intro fuel listed a w hc hok h
    cases fuel with
    | zero => simp [okScN] at hok
    | succ fuel =>
      simp only [okScN, Bool.and_eq_true, beq_iff_eq] at hok
      refine ⟨fun h0 => absurd (h0.symm.trans hok.1.1) (by simp), fun j hj => ?_⟩
      rw [hok.1.1] at hj
      obtain rfl : j = i := by simpa using hj
      exact wpOp_mono (fun a' w' h' => ⟨fun h0 => absurd (h0.symm.trans hok.1.2) (by simp), ih fuel _ a' w' (hc.set (by rw [hok.1.1]; simp)) hok.2 h'⟩) h
  | two i r1 j r2 ih1 ih2 =>
    intro fuel listed a w hc hok h
    cases fuel with
    | zero => simp [okScN] at hok
    | succ fuel =>
      simp only [okScN, Bool.and_eq_true, beq_iff_eq] at hok
      refine ⟨fun h0 => absurd (h0.symm.trans hok.1.1.1) (by simp), fun k hk => ?_⟩
      rw [hok.1.1.1] at hk
      have hk' : k = i ∨ k = j := by simpa using hk
      rcases hk' with rfl | rfl
      · exact wpOp_mono (fun a' w' h' => ⟨fun _ => h'.1, ih1 fuel _ a' w' (hc.set (by rw [hok.1.1.1]; simp)) hok.1.2 h'.2⟩) h.1
      · exact wpOp_mono (fun a' w' h' => ⟨fun h0 => absurd (h0.symm.trans hok.1.1.2) (by simp), ih2 fuel _ a' w' (hc.set (by rw [hok.1.1.1]; simp)) hok.2 h'⟩) h.2
theorem wp_region_scn {id : Nat} (m : Nat) (l : ScN) (S : World → Prop) {a : Act} {w : World} (hm : P.follows .mixedOrders = true) (hs : Region.noSelect ops = true) (hok : okScN .any ops m l ops.size (Array.replicate ops.size false) = true)
    (hQ : ∀ c a (d : Tmp) v w, Q (.panic c) (a.put (some d) v) w → Q (.panic c) a w) (hS : S w.drew) (h : S w.drew → wpScN P ops Q S l a w.drew) : (Code.region id ops true).wp P Q a w :=
  wp_region_any hm (wpAny_of_L _ _ _ _ (wpAnyL_of_scn (m := m) hs hQ l _ _ _ _ (Closed.start _) hok (h hS)))
theorem tnTake {i : Nat} {r : ScN} {a : Act} {w : World} {o : Oper} {v : Value} (ho : nth ops.toList i = some o) (hw : Region.wanted o (yielded ops a.tmps) = true) (hS : S w)
    (hy : ∀ w', S w' → (execOp a.eval o).run P w' = .ok (.value v) w') (h : wpScN P ops Q S r (a.put o.dst v) w) : wpScN P ops Q S (.take i r) a w :=
  ⟨o, v, nth_ops ho, .inl ⟨hw, hy⟩, hS, h⟩
theorem wpOpN_one {i : Nat} {r : ScN} {a : Act} {w : World} {o : Oper} (ho : nth ops.toList i = some o)
    (h : ∀ K' : Act → World → Prop, Shut (∀ a w, S w → (S w → wpScN P ops Q S r a w) → K' a w) → if Region.wanted o (yielded ops a.tmps) = true then Oper.wp P o a w K' Q else K' (a.put o.dst undef) w) : wpOp P ops Q i (fun a' w' => S w' ∧ wpScN P ops Q S r a' w') a w :=
  wpOp_step (nth_ops ho) fun K' hK => h K' fun a w hS hW => hK a w ⟨hS, hW hS⟩
theorem wpOpN_end {i : Nat} {r : ScN} {a : Act} {w : World} {o : Oper} (ho : nth ops.toList i = some o)
    (h : ∀ K' : Act → World → Prop, Shut (∀ a w, wpScN P ops Q S r a w → K' a w) → if Region.wanted o (yielded ops a.tmps) = true then Oper.wp P o a w K' Q else K' (a.put o.dst undef) w) : wpOp P ops Q i (wpScN P ops Q S r) a w :=
  wpOp_step (nth_ops ho) fun K' hK => h K' hK
theorem tnOne {i : Nat} {r : ScN} {a : Act} {w : World} {o : Oper} (ho : nth ops.toList i = some o)
    (h : ∀ K' : Act → World → Prop, Shut (∀ a w, S w → (S w → wpScN P ops Q S r a w) → K' a w) → if Region.wanted o (yielded ops a.tmps) = true then Oper.wp P o a w K' Q else K' (a.put o.dst undef) w) : wpScN P ops Q S (.one i r) a w := wpOpN_one ho h
theorem tnTwo {i j : Nat} {r1 r2 : ScN} {a : Act} {w : World} {o1 o2 : Oper} (ho1 : nth ops.toList i = some o1) (ho2 : nth ops.toList j = some o2)
    (h1 : ∀ K' : Act → World → Prop, Shut (∀ a w, S w → (S w → wpScN P ops Q S r1 a w) → K' a w) → if Region.wanted o1 (yielded ops a.tmps) = true then Oper.wp P o1 a w K' Q else K' (a.put o1.dst undef) w)
    (h2 : ∀ K' : Act → World → Prop, Shut (∀ a w, wpScN P ops Q S r2 a w → K' a w) → if Region.wanted o2 (yielded ops a.tmps) = true then Oper.wp P o2 a w K' Q else K' (a.put o2.dst undef) w) : wpScN P ops Q S (.two i r1 j r2) a w := ⟨wpOpN_one ho1 h1, wpOpN_end ho2 h2⟩
theorem tnEnd {i : Nat} {r : ScN} {a : Act} {w : World} {o : Oper} (ho : nth ops.toList i = some o)
    (h : ∀ K' : Act → World → Prop, Shut (∀ a w, wpScN P ops Q S r a w → K' a w) → if Region.wanted o (yielded ops a.tmps) = true then Oper.wp P o a w K' Q else K' (a.put o.dst undef) w) : wpScN P ops Q S (.fin i r) a w := wpOpN_end ho h
theorem tnDone {a : Act} {w : World} (h : Q .normal a w) : wpScN P ops Q S .done a w := h
theorem scnEnd {T : ScN} {a0 : Act} {w0 : World} (F : Act → Act → World → Prop) (hF : ∀ a' w', F a0 a' w' → wpScN P ops Q S .done a' w')
    (h : Hid (∀ a' w', F a0 a' w' → wpScN P ops Q S .done a' w') → wpScN P ops Q S T a0 w0) : wpScN P ops Q S T a0 w0 := h hF
end
end Go.Proofs.YtniolbbhjibobaaDoor
