/- The contract of Grow. Conditions: the block reads as a tree. -/
import Derived.Test.YtnfppolgaeibeaaGrowL
import Derived.Test.YtnfppolgaeibeaaNetJ
namespace Go.Proofs.Ytnfppolgaeibeaa
open Go.RowKit

theorem gTrans {a b c : World} {r : Option Nat} (h : a.grownBy b r) (g : b.grownBy c r) : a.grownBy c r :=
  ⟨g.os.trans h.os, g.tape.trans h.tape, g.output.trans h.output, Nat.le_trans h.size g.size, fun k hk hr => (g.block k (Nat.lt_of_lt_of_le hk h.size) hr).trans (h.block k hk hr)⟩
theorem gOf {a b : World} {r : Option Nat} (h : Below a.heap.size a b) : a.grownBy b r := ⟨h.os, h.tape, h.output, h.size, fun k hk _ => h.block k hk⟩
theorem gThen {a b c : World} {r : Option Nat} (h : a.grownBy b r) (g : Below a.heap.size b c) : a.grownBy c r :=
  ⟨g.os.trans h.os, g.tape.trans h.tape, g.output.trans h.output, Nat.le_trans h.size g.size, fun k hk hr => (g.block k hk).trans (h.block k hk hr)⟩
theorem gBelow {a b : World} {g N : Nat} (h : a.grownBy b (some g)) (hN : N ≤ g) (ha : N ≤ a.heap.size) : Below N a b :=
  ⟨h.os, h.tape, h.output, h.size, fun k hk => h.block k (by omega) (fun e => by injection e with e; omega)⟩
theorem gBox {a b : World} {g k ty : Nat} {cs : Array Value} (h : a.grownBy b (some g)) (hx : Box a k ty cs) (hne : k ≠ g) : Box b k ty cs := (h.block k hx.lt (fun e => by injection e with e; exact hne e)).trans hx
/-- Links stay, whatever becomes of the net's box. -/
theorem Sl.save {N n c g : Nat} {w w' : World} {C : Option Addr} {l : List PTran} {cs : Array Value} (h : Sl (LinkR N) 3 w C n c l) (hC : ∀ b off, C = some ⟨b, off, none⟩ → 0 < n → b ≠ g) (hx : Box w g 27 cs) (hN : N ≤ g) (hs : w.grownBy w' (some g)) : Sl (LinkR N) 3 w' C n c l := by
  refine ⟨h.len, h.le, h.cap, h.small, h.nul, fun hn => ?_⟩
  obtain ⟨b, off, e, hlt, hc⟩ := h.cells hn
  refine ⟨b, off, e, Nat.lt_of_lt_of_le hlt hs.size, fun i x hi => ?_⟩
  obtain ⟨vs, h1, h2⟩ := hc i x hi
  exact ⟨vs, fun q hq => (World.cell?_of_block (hs.block b hlt (fun e' => by injection e' with e'; exact hC b off e hn e'))).trans (h1 q hq), h2.turn hN hx (by decide) hs⟩
theorem Links.get {N : Nat} {w : World} {A : Option Addr} {n c k : Nat} {ts : List PTran} (h : Sl (LinkR N) 3 w A n c ts) (hk : k < n) :
    ∃ b off t A1 n1 c1 A2 n2 c2, A = some ⟨b, off, none⟩ ∧ b < w.heap.size ∧ Hid (ts[k]? = some t) ∧ w.cell? ⟨b, off + k * 3, none⟩ = some (.int .i64 t.label) ∧
      w.cell? ⟨b, off + k * 3 + 1, none⟩ = some (.slice A1 n1 c1) ∧ w.cell? ⟨b, off + k * 3 + 2, none⟩ = some (.slice A2 n2 c2) ∧ Ints w A1 n1 c1 t.pre ∧ Ints w A2 n2 c2 t.post := by
  obtain ⟨b, off, t, vs, h1, h2, h3, h4, h0, A1, n1, c1, A2, n2, c2, e1, e2, i1, i2, _⟩ := Sl.get h hk
  refine ⟨b, off, t, A1, n1, c1, A2, n2, c2, h1, h2, hide2 h3, ?_, ?_, ?_, i1, i2⟩
  · rw [← h0]; simpa using h4 0 (by omega)
  · rw [← e1]; simpa [Nat.add_assoc] using h4 1 (by omega)
  · rw [← e2]; simpa [Nat.add_assoc] using h4 2 (by omega)
/-- Where nothing panics, it matters not what a panic would lead to. -/
def NoPanic (Q : Exit → Act → World → Prop) : Exit → Act → World → Prop
  | .panic _, _, _ => False
  | e, a, w => Q e a w
theorem noPanic {P : Program} {c : Code} {Q : Exit → Act → World → Prop} {a : Act} {w : World} (h : c.wp P (NoPanic Q) a w) : c.wp P Q a w :=
  Code.wp_mono (fun e a w h => by
    cases e <;> first | exact h | exact h.elim) h

def AnsGO (r : PNet × Int) (w : World) (e : Ending) (w' : World) : Prop :=
  ∃ A n c, e = .returned (.tuple #[.agg #[.int .i64 r.1.places, .slice A n c], .int .i64 r.2]) ∧ OwnSl (OwnTranR w.heap.size) 3 w' w.heap.size 78 (.slice A n c) n r.1.trans ∧ Below w.heap.size w w'
set_option maxRecDepth 100000 in
set_option maxHeartbeats 4000000 in
theorem grow_fineO {d : Nat} {w : World} {kd lb : Int} {A : Option Addr} {n c : Nat} {ks : List PBlk} (h : Blks d w A n c ks) (hw : wrongB (.mk kd lb ks) = 0) (hf : fitsK (grown0 (.mk kd lb ks))) :
    Calls Try.prog 9 #[.agg #[.int .i64 kd, .int .i64 lb, .slice A n c]] w (AnsGO (growP (.mk kd lb ks)) w) := by
  have hmf : ∀ (fn : Fn) (first cap : Array Value) (w : World), (Instr.makeFunc fn first cap).run Try.prog w = .ok (.func fn first cap) w := fun _ _ _ _ => rfl
  have GP := hide2 (growP_ok hw hf)
  rw [GP.out]
  have HI := hide2 (grown0_in (.mk kd lb ks))
  obtain ⟨r, hr⟩ : ∃ r, grown0 (.mk kd lb ks) = r := ⟨_, rfl⟩
  have HR := hide2 hr
  rw [hr] at hf ⊢
  rw [hr] at HI
  have LD := hide2 (Laid.new w #[.int .i64 kd, .int .i64 lb, .slice A n c])
  have CW := hide2 (blkWrong_calls (h.keep LD.out.below) (kd := kd) (lb := lb))
  have HW := hide2 hw
  have HF := hide2 hf
  have H := hide2 h
  rw [hw] at CW
  clear h GP hw hf hr
  go_enter_defers Try.func9, Try.ntmps9
  go_upto_region 1 with fail
  generalize ((w.alloc (.cells #[.int .i64 kd, .int .i64 lb, .slice A n c] 24)).alloc (.cells #[.int .i64 0, .slice none 0 0] 27)).alloc (.cells #[.int .i64 0] 28) = u at *
  have a0 := LD.out.arg.three
  go_upto_region 5 with (go_at_call 36; (with_reducible refine CW.out.mono ?_); rintro e w1 ⟨rfl, hb⟩; have L1 := hide2 (LD.out.keep hb); clear hb)
  go_upto_region 6 with fail
  have bb := boxBelow w1 (.cells #[.int .i64 2, .slice none 0 0] 72)
  have CG := hide2 (callsOk (grow_all w w1.heap.size 41 d kd lb A n c 0 ks 0 1 (.slice none 0 0) ⟨2, []⟩ _ HW.out H.out ⟨L1.out.below.size, Box.new w1 _ _, OwnSl.nil⟩ (L1.out.keep bb).below (by decide)) (by have := HF.out; rw [← HR.out] at this; exact this))
  obtain ⟨bg, hbg⟩ : ∃ bg, w1.heap.size = bg := ⟨_, rfl⟩
  have L2 := hide2 (L1.out.keep bb)
  have NE := hide2 (show w.heap.size + 1 < bg from by rw [← hbg]; exact L1.out.net.lt)
  rw [hbg] at CG
  generalize w1.alloc (.cells #[.int .i64 2, .slice none 0 0] 72) = w2 at *
  have a1 := L2.out.arg.three
  clear bb a0
  rw [hbg]
  clear hbg
  go_upto_region 7 with (go_at_call 38; (with_reducible refine CG.out.mono ?_); rintro e w3 ⟨rfl, ⟨v', hG⟩, hb, hk⟩; have HG := hide2 (show GrW w.heap.size bg w3 v' r by rw [← HR.out]; exact hG); have HB := hide2 hb; have X2 := hide2 (hk.box L2.out.net (by decide) (by decide)); have X3 := hide2 (hk.box L2.out.err (by decide) (by decide)); clear hG hb hk)
  obtain ⟨P, hP⟩ : ∃ P, r.places = P := ⟨_, rfl⟩
  obtain ⟨L, hL⟩ : ∃ L, r.links = L := ⟨_, rfl⟩
  obtain ⟨K, hK⟩ : ∃ K, L.length = K := ⟨_, rfl⟩
  have P16 : P ≤ 16 := by have := HF.out.1; omega
  have K24 : K ≤ 24 := by have := HF.out.2; rw [hL] at this; omega
  have NK := hide2 (show netK r = ⟨P, L.map (tranK P)⟩ by unfold netK; rw [hP, hL])
  have IK := hide2 (show ∀ t ∈ L, PlOk P t.pre ∧ PlOk P t.post by have := HI.out; unfold InK at this; rw [hP, hL] at this; exact this)
  obtain ⟨C, cc, rfl, hLS⟩ := HG.out.own.sl (by have := HF.out.2; omega)
  have hown := HG.out.own
  have hbox := HG.out.box
  rw [hP] at hbox
  rw [hL, hK] at hbox hLS hown
  have XB := hide2 hbox
  have LS := hide2 hLS
  have CN := hide2 (show ∀ b off, C = some ⟨b, off, none⟩ → 0 < K → b ≠ w.heap.size + 1 from fun b off e hn e' => by
    obtain ⟨_, o1, _⟩ := id hown
    have := ownG_neBox o1 X2.out (by decide)
    subst e e'
    rcases o1.2 with ⟨e, _⟩ | ⟨g', cap, cur, e, _⟩
    · cases e
    · injection e with e _ _
      injection e with e
      injection e with e _ _
      subst e
      exact this rfl)
  have HKL := hide2 hK
  rw [NK.out]
  have GG := grownG w3 (w.heap.size + 1) 0 (.int .i64 P)
  have Z2 := hide2 (show Box (w3.setCell ⟨w.heap.size + 1, 0, none⟩ (.int .i64 P)) (w.heap.size + 1) 27 #[.int .i64 P, .slice none 0 0] by simpa using X2.out.set 0 (.int .i64 P))
  have Z3 := hide2 (gBox GG X3.out (by omega))
  have ZB := hide2 (gBox GG XB.out (by have := NE.out; omega))
  have ZL := hide2 (Sl.save LS.out CN.out X2.out (by omega) GG)
  have ZW := hide2 (HB.out.trans (gBelow GG (by omega) HB.out.size))
  obtain ⟨c0, c1⟩ := XB.out.two
  have y0 : w3.cell? ⟨w.heap.size + 1, 0, none⟩ = some (.int .i64 0) := X2.out.cell 0
  have yf := X2.out.frozen 0
  clear hown hbox hLS hP hL hK GG XB LS X2 X3 HG HB a1
  go_upto_region 8 with fail
  generalize w3.setCell ⟨w.heap.size + 1, 0, none⟩ (.int .i64 P) = w4 at *
  clear c0 c1 y0 yf
  obtain ⟨c0, c1⟩ := ZB.out.two
  go_wp2
  go_loopg [30] K (fun gk i wr => ∃ (k : Nat) (A' : Option Addr) (c' : Nat), k + gk = K ∧ i = .int .i64 k ∧ Hid (Box wr (w.heap.size + 1) 27 #[.int .i64 P, .slice A' k c']) ∧ Hid (OwnSl (OwnTranR w4.heap.size) 3 wr w4.heap.size 78 (.slice A' k c') k ((L.take k).map (tranK P))) ∧ Hid (w4.grownBy wr (some (w.heap.size + 1))))
  case atStart => exact ⟨0, none, 0, by omega, rfl, Z2, hide2 OwnSl.nil, hide2 (gOf (Below.refl _ _))⟩
  case round =>
    obtain ⟨k, A', c', hk, rfl, BX, own, SV⟩ := hrel
    by_cases hlt : k < K
    · have LW := Sl.save ZL.out CN.out Z2.out (by omega) SV.out
      obtain ⟨bl, off, t, A1, n1, c1', A2, n2, c2, rfl, hbl, ht, q0, q1, q2, i1, i2⟩ := Links.get LW hlt
      have bb := boxBelow wr (.cells #[.int .i64 t.label, .slice A1 n1 c1', .slice A2 n2 c2] 75)
      have PK := IK.out t (List.mem_of_getElem? ht.out)
      have hst := hide2 (netK_take (P := P) ht.out)
      have m1 : n1 ≤ 1000 := by have := i1.len; have := PK.1.2.2; omega
      have m2 : n2 ≤ 1000 := by have := i2.len; have := PK.2.2.2; omega
      have HX1 := hide2 PK.1.1
      have HX2 := hide2 PK.2.1
      have I1 := hide2 (i1.keep bb)
      have I2 := hide2 (i2.keep bb)
      have X := hide2 (Box.new wr #[.int .i64 t.label, .slice A1 n1 c1', .slice A2 n2 c2] 75)
      have BXs := hide2 (BX.out.keep bb)
      have GBs := hide2 ((gBox SV.out ZB.out (by have := NE.out; omega)).keep bb)
      have ow5 := hide2 (own.out.keep (OwnTranR.kept _) bb)
      have SZ := hide2 SV.out.size
      have SV5 := hide2 (gThen SV.out (bb.mono SZ.out))
      have sz : w4.heap.size ≤ (wr.alloc (.cells #[.int .i64 t.label, .slice A1 n1 c1', .slice A2 n2 c2] 75)).heap.size := Nat.le_trans SZ.out bb.size
      have SZ5 := hide2 sz
      have RX := hide2 (show wr.heap.size < (wr.alloc (.cells #[.int .i64 t.label, .slice A1 n1 c1', .slice A2 n2 c2] 75)).heap.size by simp)
      obtain ⟨bx, hbx⟩ : ∃ bx, wr.heap.size = bx := ⟨_, rfl⟩
      rw [hbx] at X RX
      clear LW i1 i2 bb PK own BX SV sz
      go_upto_region 11 with fail
      clear hbx q0 q1 q2
      generalize wr.alloc (.cells #[.int .i64 t.label, .slice A1 n1 c1', .slice A2 n2 c2] 75) = w5 at *
      obtain ⟨x0, x1, x2⟩ := X.out.three
      obtain ⟨y0, y1⟩ := BXs.out.two
      obtain ⟨z0, _⟩ := GBs.out.two
      have D1 := ((Below.refl _ _).drew : Below w5.heap.size w5 w5.drew)
      have J1 := hide2 (I1.out.keep D1)
      have J2 := hide2 (I2.out.keep D1)
      have X5 := hide2 (X.out.keep D1)
      have B5 := hide2 (BXs.out.keep D1)
      have G5 := hide2 (GBs.out.keep D1)
      have O5 := hide2 (ow5.out.keep (OwnTranR.kept _) D1)
      have S5 := hide2 (gThen SV5.out (D1.mono SZ5.out))
      clear D1
      refine noPanic ?_
      refine wp_region_script 20 [(0, 0), (0, 1), (0, 2), (0, 3), (0, 4), (0, 5), (0, 6), (0, 7), (0, 8), (0, 9), (0, 11), (0, 12), (0, 13), (0, 14), (0, 15), (0, 16), (1, 10), (1, 17), (0, 18), (1, 19), (2, 20), (2, 21), (2, 22)] (fun w' => w'.cell? ⟨bx, 0, none⟩ = some (.int .i64 t.label) ∧ w'.cell? ⟨bx, 1, none⟩ = some (.slice A1 n1 c1') ∧ w'.cell? ⟨bx, 2, none⟩ = some (.slice A2 n2 c2) ∧ w'.cell? ⟨w.heap.size + 1, 1, none⟩ = some (.slice A' k c') ∧ w'.cell? ⟨bg, 0, none⟩ = some (.int .i64 P)) (by kernel_rfl) (by kernel_rfl) (by kernel_rfl) (fun _ _ _ _ _ h => h) ⟨x0, x1, x2, y1, z0⟩ (fun hHeld => ?_)
      iterate 16
        refine scTake (v := ?_) rfl (by rfl) hHeld (fun w' hSw => ?_) ?_
        rotate_left
        · (go_simp; try with_reducible rfl)
        simp only [Act.put, List.setIfInBounds_toArray, List.set_cons_zero, List.set_cons_succ]
      refine scOne rfl (fun K hK => ?_)
      go_simp; go_at_call 39
      (with_reducible refine (weights_calls J1.out (by omega) m1 HX1.out).mono ?_)
      rintro e w6 ⟨g6, rfl, o6, b6⟩
      have X6 := hide2 (X5.out.keep b6)
      have B6 := hide2 (B5.out.keep b6)
      have G6 := hide2 (G5.out.keep b6)
      have O6 := hide2 (O5.out.keep (OwnTranR.kept _) b6)
      have K2 := hide2 (J2.out.keep b6)
      have S6 := hide2 (gThen S5.out (b6.mono S5.out.size))
      have W6 := hide2 (OwnSl.base o6 S5.out.size)
      clear b6 o6
      refine hK.out _ _ ⟨X6.out.cell 0, X6.out.cell 1, X6.out.cell 2, B6.out.cell 1, G6.out.cell 0⟩ (fun hHeld => ?_)
      clear hK
      refine scOne rfl (fun K hK => ?_)
      go_simp; go_at_call 39
      (with_reducible refine (weights_calls K2.out (by omega) m2 HX2.out).mono ?_)
      rintro e w7 ⟨g7, rfl, o7, b7⟩
      have X7 := hide2 (X6.out.keep b7)
      have B7 := hide2 (B6.out.keep b7)
      have G7 := hide2 (G6.out.keep b7)
      have O7 := hide2 (O6.out.keep (OwnTranR.kept _) b7)
      have S7 := hide2 (gThen S6.out (b7.mono S6.out.size))
      have RD := hide2 (show OwnTranR w4.heap.size w7 (fun j => [Value.int .i64 t.label, .slice (some ⟨g6, 0, none⟩) P P, .slice (some ⟨g7, 0, none⟩) P P].getD j undef) (tranK P t) from ⟨rfl, P, P, W6.out.keep IntR.kept b7, OwnSl.base o7 S6.out.size, by omega, by omega⟩)
      have KP := hide2 (keepTran O7.out)
      clear b7 o7
      refine hK.out _ _ ⟨X7.out.cell 0, X7.out.cell 1, X7.out.cell 2, B7.out.cell 1, G7.out.cell 0⟩ (fun hHeld => ?_)
      clear hK
      refine scTake (v := ?_) rfl (by rfl) hHeld (fun w' hSw => ?_) ?_
      rotate_left
      · (go_simp; try with_reducible rfl)
      simp only [Act.put, List.setIfInBounds_toArray, List.set_cons_zero, List.set_cons_succ]
      refine scOne rfl (fun K hK => ?_)
      go_simp
      refine hK.out _ _ (by refine ⟨(X7.out.old _).cell 0, (X7.out.old _).cell 1, (X7.out.old _).cell 2, (B7.out.old _).cell 1, (G7.out.old _).cell 0⟩) (fun hHeld => ?_)
      clear hK
      refine scEnd rfl (fun K hK => ?_)
      refine step_appNew tyTrans rfl (.tmp 35) (.tmp 53) rfl [tranK P t] #[.int .i64 t.label, .slice (some ⟨g6, 0, none⟩) P P, .slice (some ⟨g7, 0, none⟩) P P] rfl rfl (by first | rfl | simp) rfl rfl (by omega) (by simp [Value.oneCell']) O7.out (Reads.tran RD.out) rfl (Below.refl w4.heap.size w7) S7.out.size (by omega) (by omega) KP.out ?_
      intro g cap w8 own8 hg8 hb8 hBg hgl
      have B8 := hide2 (B7.out.grown hg8 (fun e => by have := (O7.out.lt _ e).1; have := Z2.out.lt; omega))
      have O8 := hide2 own8
      have S8 := hide2 (gThen S7.out hb8)
      have v0 : w8.cell? ⟨w.heap.size + 1, 1, none⟩ = some (.slice A' k c') := B8.out.cell 1
      have v1 := B8.out.frozen 1
      clear own8 hg8 hb8
      refine hK.out _ _ ?_
      clear hK
      simp only [Act.put, List.setIfInBounds_toArray, List.set_cons_zero, List.set_cons_succ]
      refine scEnd rfl (fun K hK => ?_)
      go_simp
      refine hK.out _ _ ?_
      clear hK
      refine scEnd rfl (fun K hK => ?_)
      go_simp
      refine hK.out _ _ ?_
      clear hK
      simp only [wpScript, NoPanic]
      all_goals
        go_wp2
        go_roundg (gk - 1)
        case measure => omega
        case rel => exact ⟨k + 1, some ⟨g, 0, none⟩, cap, by omega, by go_num, hide2 (by simpa using B8.out.set 1 (.slice (some ⟨g, 0, none⟩) (k + 1) cap)), hide2 (by rw [hst.out]; exact (turnedEnd O8.out Z2.out.lt).out), hide2 (gTrans S8.out (grownG w8 (w.heap.size + 1) 1 _))⟩
    · obtain rfl : k = K := by omega
      have E3 := hide2 (gBox SV.out Z3.out (by omega))
      have WB := hide2 (ZW.out.trans (gBelow SV.out (by omega) ZW.out.size))
      have hst := hide2 (show (L.take k).map (tranK P) = L.map (tranK P) by rw [List.take_of_length_le (by rw [HKL.out]; omega)])
      have OW := hide2 own.out
      have SW := hide2 (Nat.lt_of_lt_of_le Z2.out.lt (Nat.le_refl w4.heap.size))
      obtain ⟨y0, y1⟩ := BX.out.two
      have f0 := BX.out.frozen 0
      have f1 := BX.out.frozen 1
      have u0 : wr.cell? ⟨w.heap.size + 1 + 1, 0, none⟩ = some (.int .i64 0) := E3.out.cell 0
      have v0 := E3.out.frozen 0
      clear own SV
      go_wp2
      obtain ⟨t2, t3, tb⟩ := told WB.out (Nat.le_refl _) BX.out E3.out P 0 (.slice A' k c')
      refine leaves_cons (f := 37) (args := #[.pointer (some ⟨w.heap.size + 1, 0, none⟩), .pointer (some ⟨w.heap.size + 1 + 1, 0, none⟩)]) (by simp) (by simp [go_sem]) ?_
      refine catch_idle.mono ?_
      rintro e u' w'' ⟨rfl, rfl, rfl⟩
      have e0 := t2.cell 0
      have e1 := t2.cell 1
      have e2 := t3.cell 0
      rw [NK.out]
      refine ⟨.tuple #[.agg #[.int .i64 P, .slice A' k c'], .int .i64 0], (by simp [results, Try.results9, go_sem, e0, e1, e2]), A', k, c', rfl, ?_, tb⟩
      have s1 := (turnedEnd (j := 0) (u := .int .i64 0) (turnedEnd (j := 1) (u := .slice A' k c') (turnedEnd (j := 0) (u := .int .i64 P) OW.out SW.out).out SW.out).out (show w.heap.size + 1 + 1 < w4.heap.size from Z3.out.lt)).out
      rw [hst.out] at s1
      have hle : w.heap.size ≤ w4.heap.size := by have := Z2.out.lt; omega
      obtain ⟨cells, q1, q2, q3⟩ := s1.base hle
      exact ⟨cells, q1, ⟨q2.1, fun i x hx => by obtain ⟨vs, a, b⟩ := q2.2 i x hx; exact ⟨vs, a, b.base hle⟩⟩, q3⟩
/-- What Grow answers, and that the rows of the net that it grew are new. -/
def AnsGN (r : PNet × Int) (w : World) (e : Ending) (w' : World) : Prop :=
  ∃ A n c, e = .returned (.tuple #[.agg #[.int .i64 r.1.places, .slice A n c], .int .i64 r.2]) ∧ Trans w' A n c r.1.trans ∧ (r.2 = 0 → OwnSl (OwnTranR w.heap.size) 3 w' w.heap.size 78 (.slice A n c) n r.1.trans) ∧ Below w.heap.size w w'
theorem AnsGO.net {r : PNet × Int} {w w' : World} {e : Ending} (h : AnsGO r w e w') (hn : r.1.trans.length ≤ 24) : AnsGN r w e w' := by
  obtain ⟨A, n, c, rfl, own, hb⟩ := h
  have hl : n ≤ 24 := by rw [← own.len]; exact hn
  obtain ⟨C', c2, hv, hs⟩ := own.sl (by omega)
  injection hv with e1 e2 e3
  subst e1 e3
  exact ⟨_, n, _, rfl, hs.imp (fun _ _ h => h.tran), fun _ => own, hb⟩
theorem grow_callsN {d : Nat} {w : World} {kd lb : Int} {A : Option Addr} {n c : Nat} {ks : List PBlk} (h : Blks d w A n c ks) :
    Calls Try.prog 9 #[.agg #[.int .i64 kd, .int .i64 lb, .slice A n c]] w (AnsGN (growP (.mk kd lb ks)) w) := by
  by_cases hw : wrongB (.mk kd lb ks) = 0
  · by_cases hf : fitsK (grown0 (.mk kd lb ks))
    · refine (grow_fineO h hw hf).mono fun e w' hA => hA.net ?_
      rw [growP_ok hw hf]
      simp only [netK, List.length_map]
      exact hf.2
    · refine (grow_over h hw hf).mono fun e w' ⟨A, n, c, he, ht, hb⟩ => ⟨A, n, c, he, ht, fun h0 => ?_, hb⟩
      rw [growP_full hw hf] at h0
      cases h0
  · refine (grow_wrong h hw).mono fun e w' ⟨A, n, c, he, ht, hb⟩ => ⟨A, n, c, he, ht, fun h0 => ?_, hb⟩
    rw [growP_wrong hw] at h0
    exact absurd h0 hw

/-- Grow's contract. -/
theorem grow_calls {d : Nat} {w : World} {kd lb : Int} {A : Option Addr} {n c : Nat} {ks : List PBlk} (h : Blks d w A n c ks) :
    Calls Try.prog 9 #[.agg #[.int .i64 kd, .int .i64 lb, .slice A n c]] w (AnsG (growP (.mk kd lb ks)) w) :=
  (grow_callsN h).mono fun _ _ ⟨A, n, c, he, ht, _, hb⟩ => ⟨A, n, c, he, ht, hb⟩
end Go.Proofs.Ytnfppolgaeibeaa
