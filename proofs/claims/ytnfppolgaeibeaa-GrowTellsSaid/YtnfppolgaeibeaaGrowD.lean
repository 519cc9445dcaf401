/- The contract of grow on leaves, on choices and on loops, given what it does within. Conditions: the block reads as a tree and is right. | The contract of grow on choices, given what it does within. Conditions: the block reads as a tree and is right. | The contract of grow on rows, given what it does within. Conditions: the block reads as a tree and is right. | The contract of grow on loops, given what it does within. Conditions: the block reads as a tree and is right. -/
import Derived.Test.YtnfppolgaeibeaaGrowB
namespace Go.Proofs.Ytnfppolgaeibeaa
open Go.RowKit

def AnsGrow (w0 : World) (bg : Nat) (w : World) (r : KSt) (e : Ending) (w' : World) : Prop :=
  (fitsK r ∧ e = .returned (.tuple #[]) ∧ (∃ v', GrW w0.heap.size bg w' v' r) ∧ Below w0.heap.size w0 w' ∧ Kp w w') ∨ (¬ fitsK r ∧ e = .panicked [fullP] ∧ Below w0.heap.size w0 w')
def OkGrow (w0 : World) (bg : Nat) (w : World) (r : KSt) (e : Ending) (w' : World) : Prop := e = .returned (.tuple #[]) ∧ (∃ v', GrW w0.heap.size bg w' v' r) ∧ Below w0.heap.size w0 w' ∧ Kp w w'
def NoGrow (w0 : World) (e : Ending) (w' : World) : Prop := e = .panicked [fullP] ∧ Below w0.heap.size w0 w'
section
variable {w0 w : World} {bg F : Nat} {args : Array Value} {r : KSt}
theorem callsOk (h : Calls Try.prog F args w (AnsGrow w0 bg w r)) (hf : fitsK r) : Calls Try.prog F args w (OkGrow w0 bg w r) := h.mono fun e w' h => by
  rcases h with ⟨_, h⟩ | ⟨h, _⟩
  · exact h
  · exact absurd hf h
theorem callsNo (h : Calls Try.prog F args w (AnsGrow w0 bg w r)) (hf : ¬ fitsK r) : Calls Try.prog F args w (NoGrow w0) := h.mono fun e w' h => by
  rcases h with ⟨h, _⟩ | ⟨_, h⟩
  · exact absurd h hf
  · exact h
end
theorem link_call {w0 w : World} {bg : Nat} {v : Value} {g : KSt} {A1 A2 : Option Addr} {n1 c1 n2 c2 : Nat} {xs ys : List Int} (l : Int) (h : GrW w0.heap.size bg w v g) (hb : Below w0.heap.size w0 w) (i1 : Ints w A1 n1 c1 xs) (i2 : Ints w A2 n2 c2 ys) (f1 : FarG w0.heap.size w A1 n1) (f2 : FarG w0.heap.size w A2 n2) (hf : fitsK g) :
    Calls Try.prog 101 #[.pointer (some ⟨bg, 0, none⟩), .int .i64 l, .slice A1 n1 c1, .slice A2 n2 c2] w (AnsGrow w0 bg w (lnk g l xs ys)) := by
  by_cases hl : g.links.length < 24
  · exact (link_ok l h hb hb.size i1 i2 f1 f2 hl).mono fun e w' h => .inl ⟨⟨hf.1, by simp only [lnk, List.length_append, List.length_cons, List.length_nil]; omega⟩, h⟩
  · exact (link_full l h hb (by have := hf.2; omega)).mono fun e w' h => .inr ⟨fun hh => hl (by have := hh.2; simp only [lnk, List.length_append, List.length_cons, List.length_nil] at this; omega), h⟩
theorem oneG (N : Nat) (w : World) (p : Int) : Ints (w.alloc (.cells #[.int .i64 p] 3)) (some ⟨w.heap.size, 0, none⟩) 1 1 [p] ∧ FarG N (w.alloc (.cells #[.int .i64 p] 3)) (some ⟨w.heap.size, 0, none⟩) 1 := by
  have hx := Box.new w #[.int .i64 p] 3
  refine ⟨⟨rfl, Nat.le_refl _, by simp [maxLen], by omega, fun h => (by cases h), fun _ => ⟨w.heap.size, 0, rfl, hx.lt, fun j x hx' => ?_⟩⟩, fun b off e _ => ?_⟩
  · obtain rfl : j = 0 := by
      have := (List.getElem?_eq_some_iff.1 hx').1
      simpa using this
    simp only [List.getElem?_cons_zero, Option.some.injEq] at hx'
    subst hx'
    refine ⟨fun _ => .int .i64 p, fun q hq => ?_, rfl⟩
    obtain rfl : q = 0 := by omega
    exact hx.cell 0
  · injection e with e
    injection e with e _
    subst e
    exact .inr ⟨_, _, hx⟩
/-- What grow does within. -/
def GrowIH (w0 : World) (bg f : Nat) : Prop :=
  ∀ (d : Nat) (kd lb : Int) (A : Option Addr) (n c had : Nat) (ks : List PBlk) (p q : Int) (v : Value) (g : KSt) (w : World), (chkB f (.mk kd lb ks) had).2 = 0 → Blks d w0 A n c ks → GrW w0.heap.size bg w v g → Below w0.heap.size w0 w → fitsK g →
    Calls Try.prog 38 #[.pointer (some ⟨bg, 0, none⟩), .agg #[.int .i64 kd, .int .i64 lb, .slice A n c], .int .i64 p, .int .i64 q] w (AnsGrow w0 bg w (kbB f (.mk kd lb ks) p q g))

set_option maxRecDepth 100000 in
set_option maxHeartbeats 4000000 in
theorem grow_leaf {w0 : World} {bg f : Nat} {kd lb : Int} {A : Option Addr} {n c : Nat} {ks : List PBlk} {p q : Int} {v : Value} {g : KSt} {w : World} (hk : kd = 1 ∨ kd = 2) (hG : GrW w0.heap.size bg w v g) (hB : Below w0.heap.size w0 w) (hf : fitsK g) :
    Calls Try.prog 38 #[.pointer (some ⟨bg, 0, none⟩), .agg #[.int .i64 kd, .int .i64 lb, .slice A n c], .int .i64 p, .int .i64 q] w (AnsGrow w0 bg w (kbB (f + 1) (.mk kd lb ks) p q g)) := by
  have hent : ∀ (args : Array Value) (w : World), Sem.run Try.prog (callFunc 100 args) w = .ok (.enter 100 args) w := fun args w => by kernel_rfl
  obtain ⟨l, hl⟩ : ∃ l, (if kd = 1 then 0 else lb) = l := ⟨_, rfl⟩
  have HR := hide2 (show kbB (f + 1) (.mk kd lb ks) p q g = lnk g l [p] [q] by
    rcases hk with rfl | rfl
    · rw [kbB_1, ← hl, if_pos rfl]
    · rw [kbB_2, ← hl, if_neg (by decide)])
  rw [HR.out]
  have bb := boxBelow w (.cells #[.int .i64 kd, .int .i64 lb, .slice A n c] 24)
  have BB := hide2 (Box.new w #[.int .i64 kd, .int .i64 lb, .slice A n c] 24)
  have GW := hide2 (hG.keep bb)
  have BX := hide2 (hB.trans (bb.mono hB.size))
  have KW0 := hide2 (Kp.below bb)
  have HL := hide2 hl
  clear hG hB bb hl
  go_enter Try.func38, Try.ntmps38
  go_upto_region 1 with fail
  generalize w.alloc (.cells #[.int .i64 kd, .int .i64 lb, .slice A n c] 24) = u at *
  obtain ⟨b0, b1, b2⟩ := BB.out.three
  have bb1 := boxBelow u (.cells #[.int .i64 p] 3)
  have bb2 := boxBelow (u.alloc (.cells #[.int .i64 p] 3)) (.cells #[.int .i64 q] 3)
  have I1 := oneG w0.heap.size u p
  have I2 := oneG w0.heap.size (u.alloc (.cells #[.int .i64 p] 3)) q
  have CL := hide2 (link_call l ((GW.out.keep bb1).keep bb2) ((BX.out.trans (bb1.mono BX.out.size)).trans (bb2.mono (BX.out.trans (bb1.mono BX.out.size)).size)) (I1.1.keep bb2) I2.1 (I1.2.same I1.1 bb2.size (fun b hb _ => bb2.block b hb)).1 I2.2 hf)
  rw [show (u.alloc (.cells #[.int .i64 p] 3)).heap.size = u.heap.size + 1 by simp] at CL
  have KW := hide2 ((KW0.out.trans (Kp.below bb1)).trans (Kp.below bb2))
  clear bb1 bb2 I1 I2 KW0
  by_cases hfit : fitsK (lnk g l [p] [q])
  · have CK := hide2 (callsOk CL.out hfit)
    have FT := hide2 hfit
    clear CL hfit
    rcases hk with rfl | rfl
    · obtain rfl : l = 0 := by rw [← HL.out]; rfl
      go_wp2_with (first
        | (go_at_call 100; (with_reducible refine (one_calls' _ _).mono ?_); rintro e w1 ⟨rfl, rfl⟩)
        | (go_at_call 101; (with_reducible refine CK.out.mono ?_); rintro e w2 ⟨rfl, hv, hb, hk⟩; have HV := hide2 hv; have HB := hide2 hb; have HK := hide2 (KW.out.trans hk); clear hv hb hk))
      exact bodyPost_end (v := .tuple #[]) (by simp [results, Try.results38, go_sem]) rfl (.inl ⟨FT.out, rfl, HV.out, HB.out, HK.out⟩)
    · obtain rfl : l = lb := by rw [← HL.out]; rfl
      go_wp2_with (first
        | (go_at_call 100; (with_reducible refine (one_calls' _ _).mono ?_); rintro e w1 ⟨rfl, rfl⟩)
        | (go_at_call 101; (with_reducible refine CK.out.mono ?_); rintro e w2 ⟨rfl, hv, hb, hk⟩; have HV := hide2 hv; have HB := hide2 hb; have HK := hide2 (KW.out.trans hk); clear hv hb hk))
      exact bodyPost_end (v := .tuple #[]) (by simp [results, Try.results38, go_sem]) rfl (.inl ⟨FT.out, rfl, HV.out, HB.out, HK.out⟩)
  · have CK := hide2 (callsNo CL.out hfit)
    have FT := hide2 hfit
    clear CL hfit
    rcases hk with rfl | rfl
    · obtain rfl : l = 0 := by rw [← HL.out]; rfl
      go_wp2_with (first
        | (go_at_call 100; (with_reducible refine (one_calls' _ _).mono ?_); rintro e w1 ⟨rfl, rfl⟩)
        | (go_at_call 101; (with_reducible refine CK.out.mono ?_); rintro e w2 ⟨rfl, hb⟩; have HB := hide2 hb; clear hb))
      exact ⟨rfl, .inr ⟨FT.out, rfl, HB.out⟩⟩
    · obtain rfl : l = lb := by rw [← HL.out]; rfl
      go_wp2_with (first
        | (go_at_call 100; (with_reducible refine (one_calls' _ _).mono ?_); rintro e w1 ⟨rfl, rfl⟩)
        | (go_at_call 101; (with_reducible refine CK.out.mono ?_); rintro e w2 ⟨rfl, hb⟩; have HB := hide2 hb; clear hb))
      exact ⟨rfl, .inr ⟨FT.out, rfl, HB.out⟩⟩
end Go.Proofs.Ytnfppolgaeibeaa
namespace Go.Proofs.Ytnfppolgaeibeaa
open Go.RowKit

set_option maxRecDepth 100000 in
set_option maxHeartbeats 4000000 in
theorem grow_alt {w0 : World} {bg f d had : Nat} (IH0 : GrowIH w0 bg f) {lb : Int} {A : Option Addr} {n c : Nat} {ks : List PBlk} {p q : Int} {v : Value} {g : KSt} {w : World} (hc : (chkB (f + 1) (.mk 4 lb ks) had).2 = 0) (hK : Blks d w0 A n c ks) (hG : GrW w0.heap.size bg w v g) (hB : Below w0.heap.size w0 w) (hf : fitsK g) :
    Calls Try.prog 38 #[.pointer (some ⟨bg, 0, none⟩), .agg #[.int .i64 4, .int .i64 lb, .slice A n c], .int .i64 p, .int .i64 q] w (AnsGrow w0 bg w (kbB (f + 1) (.mk 4 lb ks) p q g)) := by
  obtain ⟨_, _, h', _, hfold⟩ := chkB_inv hc
  replace hfold : ks.foldl (stepC (chkB f)) (had + 1, 0) = (h', 0) := hfold
  have IH := hide2 IH0
  have FO := hide2 hfold
  obtain ⟨F, hF⟩ : ∃ F : KSt → PBlk × Nat → KSt, F = fun s x => altF (kbB f) p q s x.1 := ⟨_, rfl⟩
  have HFD := hide2 hF
  have HR := hide2 (show kbB (f + 1) (.mk 4 lb ks) p q g = ks.zipIdx.foldl F g by rw [kbB_4, hF, zip_alt])
  have TG := hide2 (fun (i hd : Nat) (h1 : (ks.take i).foldl (stepC (chkB f)) (had + 1, 0) = (hd, 0)) => show Gr ((ks.take i).zipIdx.foldl F g) (ks.zipIdx.foldl F g) (h' - hd) from by
    rw [hF]; exact tail_gr (fun s => s) _ alt_step h1 hfold)
  rw [HR.out]
  have bb := boxBelow w (.cells #[.int .i64 4, .int .i64 lb, .slice A n c] 24)
  have BB := hide2 (Box.new w #[.int .i64 4, .int .i64 lb, .slice A n c] 24)
  have GW := hide2 (hG.keep bb)
  have BX := hide2 (hB.trans (bb.mono hB.size))
  have HL := hide2 (show ks.length = n from hK.len)
  have hns := hK.small
  have K := hide2 hK
  have HFT := hide2 hf
  have KW := hide2 (Kp.below bb)
  clear hG hB bb hK hc IH0 hfold hF hf
  go_enter Try.func38, Try.ntmps38
  go_upto_region 1 with fail
  generalize w.alloc (.cells #[.int .i64 4, .int .i64 lb, .slice A n c] 24) = u at *
  obtain ⟨b0, b1, b2⟩ := BB.out.three
  have G0 := hide2 (show GrW w0.heap.size bg u v ((ks.take 0).zipIdx.foldl F g) from GW.out)
  clear GW
  go_wp2
  clear b0 b1 b2
  go_loopw [80] (fun iv wr => ∃ (i hd : Nat) (v : Value), i ≤ n ∧ iv = .int .i64 i ∧ Hid (GrW w0.heap.size bg wr v ((ks.take i).zipIdx.foldl F g)) ∧ Hid ((ks.take i).foldl (stepC (chkB f)) (had + 1, 0) = (hd, 0)) ∧ Hid (fitsK ((ks.take i).zipIdx.foldl F g)) ∧ Hid (Below w0.heap.size w0 wr) ∧ Hid (Kp w wr)) (fun iv _ => n - (intOf iv).toNat)
  case atStart => exact ⟨0, had + 1, v, Nat.zero_le _, rfl, G0, rfl, HFT, BX, KW⟩
  case round =>
    clear G0 BX BB KW
    obtain ⟨i, hd, v, hi, rfl, GW, CK, FT, BX, KW⟩ := hrel
    by_cases hlt : i < n
    · have hki : (i : Int) < (n : Int) := by omega
      obtain ⟨bl, off, kd', lb', ks', B', m', e', d', rfl, rfl, hbl, hx, p0, p1, p2, K'⟩ := K.out.get hlt
      have q0 := (BX.out.cell (p := ⟨bl, _, none⟩) hbl).trans p0
      have q1 := (BX.out.cell (p := ⟨bl, _, none⟩) hbl).trans p1
      have q2 := (BX.out.cell (p := ⟨bl, _, none⟩) hbl).trans p2
      obtain ⟨hd', hk1, hk2⟩ := next_okC FO.out hx.out CK.out
      have CK2 := hide2 hk2
      have ZS := hide2 (zip_step (F := F) (s := g) hx.out)
      have bb2 := boxBelow wr (.cells #[.int .i64 kd', .int .i64 lb', .slice B' m' e'] 24)
      have X3 := hide2 (BX.out.trans (bb2.mono BX.out.size))
      have K3 := hide2 (KW.out.trans (Kp.below bb2))
      have CI := hide2 (IH.out d' kd' lb' B' m' e' hd ks' p q v _ (wr.alloc (.cells #[.int .i64 kd', .int .i64 lb', .slice B' m' e'] 24)) (by rw [hk1]) K'.out (GW.out.keep bb2) X3.out FT.out)
      have HZ := hide2 (show kbB f (.mk kd' lb' ks') p q ((ks.take i).zipIdx.foldl F g) = (ks.take (i + 1)).zipIdx.foldl F g by rw [ZS.out, HFD.out]; rfl)
      rw [HZ.out] at CI
      clear p0 p1 p2 hk1 hk2 bb2 hx K' HZ ZS
      by_cases hfit : fitsK ((ks.take (i + 1)).zipIdx.foldl F g)
      · have CJ := hide2 (callsOk CI.out hfit)
        have FT2 := hide2 hfit
        clear CI hfit
        go_wp2_with (go_at_call 38; (with_reducible refine CJ.out.mono ?_); rintro e w4 ⟨rfl, ⟨v4, hg4⟩, hb4, hk4⟩; have G4 := hide2 hg4; have X4 := hide2 hb4; have K4 := hide2 (K3.out.trans hk4); clear hg4 hb4 hk4)
        go_roundw
        case rel => exact ⟨i + 1, hd', v4, by omega, by go_num, G4, CK2, FT2, X4, K4⟩
        case measure => simp [intOf]; omega
      · have CJ := hide2 (callsNo CI.out hfit)
        have NF := hide2 (show ¬ fitsK (ks.zipIdx.foldl F g) from fun h => hfit ((TG.out (i + 1) hd' CK2.out).fits h))
        clear CI hfit
        go_wp2_with (go_at_call 38; (with_reducible refine CJ.out.mono ?_); rintro e w4 ⟨rfl, hb4⟩; have X4 := hide2 hb4; clear hb4)
        exact ⟨rfl, .inr ⟨NF.out, rfl, X4.out⟩⟩
    · obtain rfl : i = n := by omega
      have ZA := hide2 (zip_all (F := F) (s := g) (l := ks) (i := i) (by rw [HL.out]; exact Nat.le_refl _))
      rw [ZA.out] at GW FT
      go_wp2
      exact bodyPost_end (v := .tuple #[]) (by simp [results, Try.results38, go_sem]) rfl (.inl ⟨FT.out, rfl, ⟨v, GW.out⟩, BX.out, KW.out⟩)
end Go.Proofs.Ytnfppolgaeibeaa
namespace Go.Proofs.Ytnfppolgaeibeaa
open Go.RowKit

theorem place_call {w0 w : World} {bg : Nat} {v : Value} {g : KSt} (h : GrW w0.heap.size bg w v g) (hb : Below w0.heap.size w0 w) (hf : fitsK (more g 1)) :
    Calls Try.prog 102 #[.pointer (some ⟨bg, 0, none⟩)] w (fun e w' => e = .returned (.int .i64 g.places) ∧ GrW w0.heap.size bg w' v (more g 1) ∧ Below w0.heap.size w0 w' ∧ Kp w w' ∧ w.grownBy w' (some bg)) :=
  place_ok h hb (by have := hf.1; simp only [more] at this; omega)
theorem place_none {w0 w : World} {bg : Nat} {v : Value} {g : KSt} (h : GrW w0.heap.size bg w v g) (hb : Below w0.heap.size w0 w) (hg : fitsK g) (hf : ¬ fitsK (more g 1)) :
    Calls Try.prog 102 #[.pointer (some ⟨bg, 0, none⟩)] w (NoGrow w0) :=
  place_full h hb (by
    have := hg.1
    have h2 := hg.2
    apply Classical.byContradiction
    intro hne
    exact hf ⟨by simp only [more]; omega, by simpa only [more] using h2⟩)

set_option maxRecDepth 100000 in
set_option maxHeartbeats 4000000 in
theorem grow_seq {w0 : World} {bg f d had : Nat} (IH0 : GrowIH w0 bg f) {lb : Int} {A : Option Addr} {n c : Nat} {ks : List PBlk} {p q : Int} {v : Value} {g : KSt} {w : World} (hc : (chkB (f + 1) (.mk 3 lb ks) had).2 = 0) (hK : Blks d w0 A n c ks) (hG : GrW w0.heap.size bg w v g) (hB : Below w0.heap.size w0 w) (hf : fitsK g) :
    Calls Try.prog 38 #[.pointer (some ⟨bg, 0, none⟩), .agg #[.int .i64 3, .int .i64 lb, .slice A n c], .int .i64 p, .int .i64 q] w (AnsGrow w0 bg w (kbB (f + 1) (.mk 3 lb ks) p q g)) := by
  obtain ⟨_, hhd, h', _, hfold⟩ := chkB_inv hc
  replace hfold : ks.foldl (stepC (chkB f)) (had + 1, 0) = (h', 0) := hfold
  have hn0 : 0 < n := by
    have := (headB_ok hhd).2.2.2 (by show (3 : Int) ≤ 3; omega)
    have h2 := hK.len
    simp only [PBlk.kids] at this
    omega
  obtain ⟨m, rfl⟩ : ∃ m, n = m + 1 := ⟨n - 1, by omega⟩
  have IH := hide2 IH0
  have FO := hide2 hfold
  obtain ⟨F, hF⟩ : ∃ F : KSt × Int → PBlk × Nat → KSt × Int, F = seqF (kbB f) (m + 1) q := ⟨_, rfl⟩
  have HFD := hide2 hF
  have HLs := hK.len
  have HR := hide2 (show kbB (f + 1) (.mk 3 lb ks) p q g = (ks.zipIdx.foldl F (g, p)).1 by rw [kbB_3, hF, HLs])
  have TG := hide2 (fun (i hd : Nat) (h1 : (ks.take i).foldl (stepC (chkB f)) (had + 1, 0) = (hd, 0)) => show Gr ((ks.take i).zipIdx.foldl F (g, p)).1 (ks.zipIdx.foldl F (g, p)).1 (h' - hd) from by
    rw [hF]; exact tail_gr (fun s : KSt × Int => s.1) _ seq_step h1 hfold)
  rw [HR.out]
  have bb := boxBelow w (.cells #[.int .i64 3, .int .i64 lb, .slice A (m + 1) c] 24)
  have BB := hide2 (Box.new w #[.int .i64 3, .int .i64 lb, .slice A (m + 1) c] 24)
  have GW := hide2 (hG.keep bb)
  have BX := hide2 (hB.trans (bb.mono hB.size))
  have HL := hide2 HLs
  have hns := hK.small
  have hcap := hK.le
  have hcap2 := hK.cap
  have K := hide2 hK
  have HFT := hide2 hf
  have hBN := hide2 (show w0.heap.size ≤ w.heap.size from hB.size)
  obtain ⟨bA, offA, hA, _⟩ := hK.cells hn0
  subst hA
  have KW := hide2 (Kp.below bb)
  clear hG hB bb hK hc IH0 hfold hF hf hhd HLs hn0
  go_enter Try.func38, Try.ntmps38
  go_upto_region 1 with fail
  have BBL := hide2 BB.out.lt
  generalize w.alloc (.cells #[.int .i64 3, .int .i64 lb, .slice (some ⟨bA, offA, none⟩) (m + 1) c] 24) = u at *
  obtain ⟨b0, b1, b2⟩ := BB.out.three
  have G0 := hide2 (show GrW w0.heap.size bg u v ((ks.take 0).zipIdx.foldl F (g, p)).1 from GW.out)
  have hm1 : ((m + 1 : Nat) : Int) - 1 = (m : Int) := by omega
  have hmc : (m : Int) ≤ (c : Int) := by omega
  clear GW
  go_wp2
  clear b0 b1 b2
  go_loopw [2, 50] (fun pv iv wr => ∃ (i hd : Nat) (v : Value) (s : KSt × Int), i ≤ m ∧ iv = .int .i64 i ∧ pv = .int .i64 s.2 ∧ Hid ((ks.take i).zipIdx.foldl F (g, p) = s) ∧ Hid (GrW w0.heap.size bg wr v s.1) ∧ Hid ((ks.take i).foldl (stepC (chkB f)) (had + 1, 0) = (hd, 0)) ∧ Hid (fitsK s.1) ∧ Hid (Below w0.heap.size w0 wr) ∧ Hid (Kp w wr) ∧ Hid (Box wr w.heap.size 24 #[.int .i64 3, .int .i64 lb, .slice (some ⟨bA, offA, none⟩) (m + 1) c])) (fun _ iv _ => m - (intOf iv).toNat)
  case atStart => exact ⟨0, had + 1, v, (g, p), Nat.zero_le _, rfl, rfl, rfl, G0, rfl, HFT, BX, KW, BB⟩
  case round =>
    clear G0 BX BB BBL KW
    obtain ⟨i, hd, v, s, hi, rfl, rfl, HS, GW, CK, FT, BX, KW, BB⟩ := hrel
    obtain ⟨g1, p1⟩ := s
    simp only at GW FT ⊢
    by_cases hlt : i < m
    · have hki : (i : Int) < (m : Int) := by omega
      obtain ⟨bl, off, kd', lb', ks', B', m', e', d', rfl, hA', hbl, hx, p0, p1', p2, K'⟩ := K.out.get (show i < m + 1 by omega)
      injection hA' with hA'
      injection hA' with e1 e2
      subst e1 e2
      have q0 := (BX.out.cell (p := ⟨bA, _, none⟩) hbl).trans p0
      have q1 := (BX.out.cell (p := ⟨bA, _, none⟩) hbl).trans p1'
      have q2 := (BX.out.cell (p := ⟨bA, _, none⟩) hbl).trans p2
      obtain ⟨hd', hk1, hk2⟩ := next_okC FO.out hx.out CK.out
      have CK2 := hide2 hk2
      have ZS := hide2 (zip_step (F := F) (s := (g, p)) hx.out)
      have bb2 := boxBelow wr (.cells #[.int .i64 kd', .int .i64 lb', .slice B' m' e'] 24)
      have X3 := hide2 (BX.out.trans (bb2.mono BX.out.size))
      have G3 := hide2 (GW.out.keep bb2)
      have BB3 := hide2 (BB.out.keep bb2)
      have XB := hide2 (Box.new wr #[.int .i64 kd', .int .i64 lb', .slice B' m' e'] 24)
      have HN := hide2 (show w0.heap.size ≤ wr.heap.size from BX.out.size)
      have HZ := hide2 (show (ks.take (i + 1)).zipIdx.foldl F (g, p) = (kbB f (.mk kd' lb' ks') p1 (g1.places : Int) (more g1 1), (g1.places : Int)) by rw [ZS.out, HS.out, HFD.out, seqF, if_pos (by simp only; omega)])
      have TGI := hide2 (TG.out (i + 1) hd' hk2)
      rw [HZ.out] at TGI
      simp only at TGI
      have GRK := hide2 (kbB_gr f (.mk kd' lb' ks') hd p1 (g1.places : Int) (more g1 1) (by rw [hk1]))
      have HK1 := hide2 hk1
      have K3 := hide2 (KW.out.trans (Kp.below bb2))
      by_cases hpl : fitsK (more g1 1)
      · have CP := hide2 (place_call G3.out X3.out hpl)
        have CI := hide2 (fun (w5 : World) (hG5 : GrW w0.heap.size bg w5 v (more g1 1)) (hB5 : Below w0.heap.size w0 w5) => IH.out d' kd' lb' B' m' e' hd ks' p1 (g1.places : Int) v _ w5 (by rw [HK1.out]) K'.out hG5 hB5 hpl)
        clear p0 p1' p2 hk1 hk2 hx hpl
        go_upto_region 13 with fail
        clear q0 q1 q2 bb2
        generalize wr.alloc (.cells #[.int .i64 kd', .int .i64 lb', .slice B' m' e'] 24) = w5 at *
        generalize wr.heap.size = b5 at *
        go_upto_region 14 with (go_at_call 102; (with_reducible refine CP.out.mono ?_); rintro e w6 ⟨rfl, hg6, hb6, hk6, _⟩; have G6 := hide2 hg6; have X6 := hide2 hb6; have BB6 := hide2 (hk6.box BB3.out (by decide) (by decide)); have XB6 := hide2 (hk6.box XB.out (by decide) (by decide)); have K6 := hide2 (K3.out.trans hk6); clear hg6 hb6 hk6)
        obtain ⟨t0, t1, t2⟩ := XB6.out.three
        by_cases hfit : fitsK (kbB f (.mk kd' lb' ks') p1 (g1.places : Int) (more g1 1))
        · have CJ := hide2 (callsOk (CI.out w6 G6.out X6.out) hfit)
          have FT2 := hide2 hfit
          clear hfit CI
          go_wp2_with (go_at_call 38; (with_reducible refine CJ.out.mono ?_); rintro e w7 ⟨rfl, ⟨v7, hg7⟩, hb7, hk7⟩; have G7 := hide2 hg7; have X7 := hide2 hb7; have BB7 := hide2 (hk7.box BB6.out (by decide) (by decide)); have K7 := hide2 (K6.out.trans hk7); clear hg7 hb7 hk7)
          go_roundw
          case rel => exact ⟨i + 1, hd', v7, _, by omega, by go_num, rfl, HZ, G7, CK2, FT2, X7, K7, BB7⟩
          case measure => simp [intOf]; omega
        · have CJ := hide2 (callsNo (CI.out w6 G6.out X6.out) hfit)
          have NF := hide2 (show ¬ fitsK (ks.zipIdx.foldl F (g, p)).1 from fun h => hfit (TGI.out.fits h))
          clear hfit CI
          go_wp2_with (go_at_call 38; (with_reducible refine CJ.out.mono ?_); rintro e w7 ⟨rfl, hb7⟩; have X7 := hide2 hb7; clear hb7)
          exact ⟨rfl, .inr ⟨NF.out, rfl, X7.out⟩⟩
      · have CP := hide2 (place_none G3.out X3.out FT.out hpl)
        have NF := hide2 (show ¬ fitsK (ks.zipIdx.foldl F (g, p)).1 from fun h => hpl (GRK.out.1.fits (TGI.out.fits h)))
        clear p0 p1' p2 hk1 hk2 hx hpl
        go_upto_region 13 with fail
        clear q0 q1 q2 bb2
        generalize wr.alloc (.cells #[.int .i64 kd', .int .i64 lb', .slice B' m' e'] 24) = w5 at *
        generalize wr.heap.size = b5 at *
        go_wp2_with (go_at_call 102; (with_reducible refine CP.out.mono ?_); rintro e w6 ⟨rfl, hb6⟩; have X6 := hide2 hb6; clear hb6)
        exact ⟨rfl, .inr ⟨NF.out, rfl, X6.out⟩⟩
    · obtain rfl : i = m := by omega
      obtain ⟨bl, off, kd', lb', ks', B', m', e', d', rfl, hA', hbl, hx, p0, p1', p2, K'⟩ := K.out.get (show i < i + 1 by omega)
      injection hA' with hA'
      injection hA' with e1 e2
      subst e1 e2
      have q0 := (BX.out.cell (p := ⟨bA, _, none⟩) hbl).trans p0
      have q1 := (BX.out.cell (p := ⟨bA, _, none⟩) hbl).trans p1'
      have q2 := (BX.out.cell (p := ⟨bA, _, none⟩) hbl).trans p2
      obtain ⟨hd', hk1, hk2⟩ := next_okC FO.out hx.out CK.out
      have ZS := hide2 (zip_step (F := F) (s := (g, p)) hx.out)
      have HZ := hide2 (show (ks.zipIdx.foldl F (g, p)) = (kbB f (.mk kd' lb' ks') p1 q g1, q) by
        rw [← zip_all (i := i + 1) (by rw [HL.out]; exact Nat.le_refl _), ZS.out, HS.out, HFD.out, seqF, if_neg (by simp only; omega)])
      have CI := hide2 (IH.out d' kd' lb' B' m' e' hd ks' p1 q v _ wr (by rw [hk1]) K'.out GW.out BX.out FT.out)
      obtain ⟨b0, b1, b2⟩ := BB.out.three
      have hbnd : (i : Int) < ((i + 1 : Nat) : Int) := by omega
      clear p0 p1' p2 hk1 hk2 hx
      by_cases hfit : fitsK (kbB f (.mk kd' lb' ks') p1 q g1)
      · have CJ := hide2 (callsOk CI.out hfit)
        have FT2 := hide2 hfit
        clear hfit CI
        go_wp2_with (go_at_call 38; (with_reducible refine CJ.out.mono ?_); rintro e w7 ⟨rfl, hg7, hb7, hk7⟩; have G7 := hide2 hg7; have X7 := hide2 hb7; have K7 := hide2 (KW.out.trans hk7); clear hg7 hb7 hk7)
        exact bodyPost_end (v := .tuple #[]) (by simp [results, Try.results38, go_sem]) rfl (.inl ⟨by rw [HZ.out]; exact FT2.out, rfl, by rw [HZ.out]; exact G7.out, X7.out, K7.out⟩)
      · have CJ := hide2 (callsNo CI.out hfit)
        have NF := hide2 hfit
        clear hfit CI
        go_wp2_with (go_at_call 38; (with_reducible refine CJ.out.mono ?_); rintro e w7 ⟨rfl, hb7⟩; have X7 := hide2 hb7; clear hb7)
        exact ⟨rfl, .inr ⟨by rw [HZ.out]; exact NF.out, rfl, X7.out⟩⟩
end Go.Proofs.Ytnfppolgaeibeaa
namespace Go.Proofs.Ytnfppolgaeibeaa
open Go.RowKit

theorem lnk_fits {g : KSt} {l : Int} {a b : List Int} (h : fitsK (lnk g l a b)) : fitsK g := ⟨h.1, by have := h.2; simp only [lnk, List.length_append, List.length_cons, List.length_nil] at this; omega⟩
theorem more_fits {g : KSt} {k j : Nat} (h : fitsK (more g k)) (hj : j ≤ k) : fitsK (more g j) := ⟨by have := h.1; simp only [more] at this ⊢; omega, h.2⟩

set_option maxRecDepth 100000 in
set_option maxHeartbeats 8000000 in
theorem grow_loop {w0 : World} {bg f d had : Nat} (IH0 : GrowIH w0 bg f) {lb : Int} {A : Option Addr} {n c : Nat} {ks : List PBlk} {p q : Int} {v : Value} {g : KSt} {w : World} (hc : (chkB (f + 1) (.mk 6 lb ks) had).2 = 0) (hK : Blks d w0 A n c ks) (hG : GrW w0.heap.size bg w v g) (hB : Below w0.heap.size w0 w) (hf : fitsK g) :
    Calls Try.prog 38 #[.pointer (some ⟨bg, 0, none⟩), .agg #[.int .i64 6, .int .i64 lb, .slice A n c], .int .i64 p, .int .i64 q] w (AnsGrow w0 bg w (kbB (f + 1) (.mk 6 lb ks) p q g)) := by
  have hent : ∀ (args : Array Value) (w : World), Sem.run Try.prog (callFunc 100 args) w = .ok (.enter 100 args) w := fun args w => by kernel_rfl
  obtain ⟨_, hhd, h', _, hfold⟩ := chkB_inv hc
  replace hfold : ks.foldl (stepC (chkB f)) (had + 1, 0) = (h', 0) := hfold
  have hn2 := (headB_ok hhd).2.2.1 rfl
  simp only [PBlk.kids] at hn2
  have hnn : n = 2 := by have := hK.len; omega
  subst hnn
  obtain ⟨b0, ofA, k0, l0, s0, B0, m0, e0, d0, hd0, hA, hbA, hx0, p00, p01, p02, K0⟩ := hK.get (show 0 < 2 by omega)
  obtain ⟨b0', ofA', k1, l1, s1, B1, m1, e1, d1, hd1, hA', _, hx1, p10, p11, p12, K1⟩ := hK.get (show 1 < 2 by omega)
  subst hA
  injection hA' with hA'
  injection hA' with z1 z2
  subst z1 z2
  have hks : ks = [.mk k0 l0 s0, .mk k1 l1 s1] := by
    apply List.ext_getElem?
    intro j
    match j with
    | 0 => rw [hx0.out]; rfl
    | 1 => rw [hx1.out]; rfl
    | j + 2 => rw [List.getElem?_eq_none (by omega)]; rfl
  obtain ⟨hda, ha1, ha2⟩ := next_okC hfold hx0.out (by rfl : (ks.take 0).foldl (stepC (chkB f)) (had + 1, 0) = (had + 1, 0))
  obtain ⟨hdb, hb1, _⟩ := next_okC hfold hx1.out ha2
  have IH := hide2 IH0
  obtain ⟨pl, hpl⟩ : ∃ pl, g.places = pl := ⟨_, rfl⟩
  obtain ⟨g1, hg1⟩ : ∃ g1, lnk (more g 2) 0 [p] [(pl : Int)] = g1 := ⟨_, rfl⟩
  obtain ⟨g2, hg2⟩ : ∃ g2, kbB f (.mk k0 l0 s0) (pl : Int) ((pl : Int) + 1) g1 = g2 := ⟨_, rfl⟩
  obtain ⟨g3, hg3⟩ : ∃ g3, kbB f (.mk k1 l1 s1) ((pl : Int) + 1) (pl : Int) g2 = g3 := ⟨_, rfl⟩
  obtain ⟨g4, hg4⟩ : ∃ g4, lnk g3 0 [((pl : Int) + 1)] [q] = g4 := ⟨_, rfl⟩
  have HR := hide2 (show kbB (f + 1) (.mk 6 lb ks) p q g = g4 by rw [hks, kbB_6, hpl, show ((pl + 1 : Nat) : Int) = (pl : Int) + 1 from by omega, hg1, hg2, hg3, hg4])
  rw [HR.out]
  have F3 := hide2 (show fitsK g4 → fitsK g3 from fun h => lnk_fits (by rw [hg4]; exact h))
  have F2 := hide2 (show fitsK g3 → fitsK g2 from fun h => (kbB_gr f (.mk k1 l1 s1) hda _ _ g2 (by rw [hb1])).1.fits (by rw [hg3]; exact h))
  have F1 := hide2 (show fitsK g2 → fitsK g1 from fun h => (kbB_gr f (.mk k0 l0 s0) (had + 1) _ _ g1 (by rw [ha1])).1.fits (by rw [hg2]; exact h))
  have F0 := hide2 (show fitsK g1 → fitsK (more g 2) from fun h => lnk_fits (by rw [hg1]; exact h))
  have bb := boxBelow w (.cells #[.int .i64 6, .int .i64 lb, .slice (some ⟨b0, ofA, none⟩) 2 c] 24)
  have BB := hide2 (Box.new w #[.int .i64 6, .int .i64 lb, .slice (some ⟨b0, ofA, none⟩) 2 c] 24)
  have GW := hide2 (hG.keep bb)
  have BX := hide2 (hB.trans (bb.mono hB.size))
  have KW := hide2 (Kp.below bb)
  have HFT := hide2 hf
  have HPL := hide2 hpl
  have CELL0 := hide2 (show ∀ wr, Below w0.heap.size w0 wr → wr.cell? ⟨b0, ofA, none⟩ = some (.int .i64 k0) ∧ wr.cell? ⟨b0, ofA + 1, none⟩ = some (.int .i64 l0) ∧ wr.cell? ⟨b0, ofA + 2, none⟩ = some (.slice B0 m0 e0) from fun wr hb => ⟨(hb.cell (p := ⟨b0, ofA, none⟩) hbA).trans (by simpa using p00), (hb.cell (p := ⟨b0, ofA + 1, none⟩) hbA).trans (by simpa using p01), (hb.cell (p := ⟨b0, ofA + 2, none⟩) hbA).trans (by simpa using p02)⟩)
  have CELL1 := hide2 (show ∀ wr, Below w0.heap.size w0 wr → wr.cell? ⟨b0, ofA + 3, none⟩ = some (.int .i64 k1) ∧ wr.cell? ⟨b0, ofA + 3 + 1, none⟩ = some (.int .i64 l1) ∧ wr.cell? ⟨b0, ofA + 3 + 2, none⟩ = some (.slice B1 m1 e1) from fun wr hb => ⟨(hb.cell (p := ⟨b0, ofA + 3, none⟩) hbA).trans (by simpa using p10), (hb.cell (p := ⟨b0, ofA + 3 + 1, none⟩) hbA).trans (by simpa using p11), (hb.cell (p := ⟨b0, ofA + 3 + 2, none⟩) hbA).trans (by simpa using p12)⟩)
  have C0 := hide2 (fun (w5 : World) (v5 : Value) (hG5 : GrW w0.heap.size bg w5 v5 g1) (hB5 : Below w0.heap.size w0 w5) (hf5 : fitsK g1) => show Calls Try.prog _ _ _ (AnsGrow w0 bg w5 g2) from by rw [← hg2]; exact IH.out d0 k0 l0 B0 m0 e0 (had + 1) s0 (pl : Int) ((pl : Int) + 1) v5 g1 w5 (by rw [ha1]) K0.out hG5 hB5 hf5)
  have C1 := hide2 (fun (w5 : World) (v5 : Value) (hG5 : GrW w0.heap.size bg w5 v5 g2) (hB5 : Below w0.heap.size w0 w5) (hf5 : fitsK g2) => show Calls Try.prog _ _ _ (AnsGrow w0 bg w5 g3) from by rw [← hg3]; exact IH.out d1 k1 l1 B1 m1 e1 hda s1 ((pl : Int) + 1) (pl : Int) v5 g2 w5 (by rw [hb1]) K1.out hG5 hB5 hf5)
  have LK1 := hide2 hg1
  have LK4 := hide2 hg4
  clear hG hB bb hK hc IH0 hfold hf hhd hn2 hx0 hx1 p00 p01 p02 p10 p11 p12 hks ha1 ha2 hb1 hpl hg1 hg2 hg3 hg4 K0 K1 hd0 hd1 hbA IH
  go_enter Try.func38, Try.ntmps38
  go_upto_region 1 with fail
  generalize w.alloc (.cells #[.int .i64 6, .int .i64 lb, .slice (some ⟨b0, ofA, none⟩) 2 c] 24) = u at *
  obtain ⟨c0, c1, c2⟩ := BB.out.three
  by_cases h1 : fitsK (more g 1)
  · have P1 := hide2 (place_call GW.out BX.out h1)
    rw [HPL.out] at P1
    by_cases h2 : fitsK (more g 2)
    · have P2 := hide2 (fun (w5 : World) (hG5 : GrW w0.heap.size bg w5 v (more g 1)) (hB5 : Below w0.heap.size w0 w5) => show Calls Try.prog _ _ w5 (fun e w' => e = .returned (.int .i64 ((pl : Int) + 1)) ∧ GrW w0.heap.size bg w' v (more g 2) ∧ Below w0.heap.size w0 w' ∧ Kp w5 w' ∧ w5.grownBy w' (some bg)) from by
        have := place_call hG5 hB5 h2
        rw [show (more g 1).places = pl + 1 by simp only [more, HPL.out], show ((pl + 1 : Nat) : Int) = (pl : Int) + 1 from by omega] at this
        exact this)
      go_upto_region 39 with (first
        | (go_at_call 102; (with_reducible refine P1.out.mono ?_); rintro e w6 ⟨rfl, hg6, hb6, hk6, _⟩; have G6 := hide2 hg6; have X6 := hide2 hb6; have K6 := hide2 (KW.out.trans hk6); have BB6 := hide2 (hk6.box BB.out (by decide) (by decide)); clear hg6 hb6 hk6)
        | (go_at_call 102; (with_reducible refine (P2.out _ G6.out X6.out).mono ?_); rintro e w7 ⟨rfl, hg7, hb7, hk7, _⟩; have G7 := hide2 hg7; have X7 := hide2 hb7; have K7 := hide2 (K6.out.trans hk7); have BB7 := hide2 (hk7.box BB6.out (by decide) (by decide)); clear hg7 hb7 hk7))
      clear c0 c1 c2 GW BX KW BB
      have bb1 := boxBelow w7 (.cells #[.int .i64 p] 3)
      have bb2 := boxBelow (w7.alloc (.cells #[.int .i64 p] 3)) (.cells #[.int .i64 pl] 3)
      have I1 := oneG w0.heap.size w7 p
      have I2 := oneG w0.heap.size (w7.alloc (.cells #[.int .i64 p] 3)) (pl : Int)
      have CL := hide2 (link_call 0 ((G7.out.keep bb1).keep bb2) ((X7.out.trans (bb1.mono X7.out.size)).trans (bb2.mono (X7.out.trans (bb1.mono X7.out.size)).size)) (I1.1.keep bb2) I2.1 (I1.2.same I1.1 bb2.size (fun b hb _ => bb2.block b hb)).1 I2.2 h2)
      rw [LK1.out, show (w7.alloc (.cells #[.int .i64 p] 3)).heap.size = w7.heap.size + 1 by simp] at CL
      have K9 := hide2 ((K7.out.trans (Kp.below bb1)).trans (Kp.below bb2))
      have BB9 := hide2 ((BB7.out.keep bb1).keep bb2)
      clear bb1 bb2 I1 I2
      by_cases h3 : fitsK g1
      · have CK := hide2 (callsOk CL.out h3)
        clear CL
        go_upto_region 40 with (first
          | (go_at_call 100; (with_reducible refine (one_calls' _ _).mono ?_); rintro e w1 ⟨rfl, rfl⟩)
          | (go_at_call 101; (with_reducible refine CK.out.mono ?_); rintro e wa ⟨rfl, ⟨va, hga⟩, hba, hka⟩; have GA := hide2 hga; have XA := hide2 hba; have KA := hide2 (K9.out.trans hka); have BBA := hide2 (hka.box BB9.out (by decide) (by decide)); clear hga hba hka))
        clear G7 X7 K7 BB7 BB9 K9 CK
        obtain ⟨c0, c1, c2⟩ := BBA.out.three
        obtain ⟨q0, q1, q2⟩ := CELL0.out wa XA.out
        by_cases h4 : fitsK g2
        · have CJ := hide2 (callsOk (C0.out wa va GA.out XA.out h3) h4)
          go_upto_region 41 with (go_at_call 38; (with_reducible refine CJ.out.mono ?_); rintro e wb ⟨rfl, ⟨vb, hgb⟩, hbb, hkb⟩; have GB := hide2 hgb; have XB := hide2 hbb; have KB := hide2 (KA.out.trans hkb); have BBB := hide2 (hkb.box BBA.out (by decide) (by decide)); clear hgb hbb hkb)
          clear c0 c1 c2 q0 q1 q2 GA XA KA BBA CJ
          obtain ⟨c0, c1, c2⟩ := BBB.out.three
          obtain ⟨q0, q1, q2⟩ := CELL1.out wb XB.out
          by_cases h5 : fitsK g3
          · have CJ := hide2 (callsOk (C1.out wb vb GB.out XB.out h4) h5)
            go_upto_region 42 with (go_at_call 38; (with_reducible refine CJ.out.mono ?_); rintro e wc ⟨rfl, ⟨vc, hgc⟩, hbc, hkc⟩; have GC := hide2 hgc; have XC := hide2 hbc; have KC := hide2 (KB.out.trans hkc); clear hgc hbc hkc)
            clear c0 c1 c2 q0 q1 q2 GB XB KB BBB CJ
            have bb1 := boxBelow wc (.cells #[.int .i64 ((pl : Int) + 1)] 3)
            have bb2 := boxBelow (wc.alloc (.cells #[.int .i64 ((pl : Int) + 1)] 3)) (.cells #[.int .i64 q] 3)
            have I1 := oneG w0.heap.size wc ((pl : Int) + 1)
            have I2 := oneG w0.heap.size (wc.alloc (.cells #[.int .i64 ((pl : Int) + 1)] 3)) q
            have CL := hide2 (link_call 0 ((GC.out.keep bb1).keep bb2) ((XC.out.trans (bb1.mono XC.out.size)).trans (bb2.mono (XC.out.trans (bb1.mono XC.out.size)).size)) (I1.1.keep bb2) I2.1 (I1.2.same I1.1 bb2.size (fun b hb _ => bb2.block b hb)).1 I2.2 h5)
            rw [LK4.out, show (wc.alloc (.cells #[.int .i64 ((pl : Int) + 1)] 3)).heap.size = wc.heap.size + 1 by simp] at CL
            have KD := hide2 ((KC.out.trans (Kp.below bb1)).trans (Kp.below bb2))
            clear bb1 bb2 I1 I2
            by_cases h6 : fitsK g4
            · have CK := hide2 (callsOk CL.out h6)
              have FT6 := hide2 h6
              clear CL
              go_wp2_with (first
                | (go_at_call 100; (with_reducible refine (one_calls' _ _).mono ?_); rintro e w1 ⟨rfl, rfl⟩)
                | (go_at_call 101; (with_reducible refine CK.out.mono ?_); rintro e we ⟨rfl, hge, hbe, hke⟩; have GE := hide2 hge; have XE := hide2 hbe; have KE := hide2 (KD.out.trans hke); clear hge hbe hke))
              exact bodyPost_end (v := .tuple #[]) (by simp [results, Try.results38, go_sem]) rfl (.inl ⟨FT6.out, rfl, GE.out, XE.out, KE.out⟩)
            · have CK := hide2 (callsNo CL.out h6)
              have NF := hide2 h6
              clear CL
              go_wp2_with (first
                | (go_at_call 100; (with_reducible refine (one_calls' _ _).mono ?_); rintro e w1 ⟨rfl, rfl⟩)
                | (go_at_call 101; (with_reducible refine CK.out.mono ?_); rintro e we ⟨rfl, hbe⟩; have XE := hide2 hbe; clear hbe))
              exact ⟨rfl, .inr ⟨NF.out, rfl, XE.out⟩⟩
          · have CJ := hide2 (callsNo (C1.out wb vb GB.out XB.out h4) h5)
            have NF := hide2 (fun h => h5 (F3.out h))
            go_wp2_with (go_at_call 38; (with_reducible refine CJ.out.mono ?_); rintro e wc ⟨rfl, hbc⟩; have XC := hide2 hbc; clear hbc)
            exact ⟨rfl, .inr ⟨NF.out, rfl, XC.out⟩⟩
        · have CJ := hide2 (callsNo (C0.out wa va GA.out XA.out h3) h4)
          have NF := hide2 (fun h => h4 (F2.out (F3.out h)))
          go_wp2_with (go_at_call 38; (with_reducible refine CJ.out.mono ?_); rintro e wc ⟨rfl, hbc⟩; have XC := hide2 hbc; clear hbc)
          exact ⟨rfl, .inr ⟨NF.out, rfl, XC.out⟩⟩
      · have CK := hide2 (callsNo CL.out h3)
        have NF := hide2 (fun h => h3 (F1.out (F2.out (F3.out h))))
        clear CL
        go_wp2_with (first
          | (go_at_call 100; (with_reducible refine (one_calls' _ _).mono ?_); rintro e w1 ⟨rfl, rfl⟩)
          | (go_at_call 101; (with_reducible refine CK.out.mono ?_); rintro e we ⟨rfl, hbe⟩; have XE := hide2 hbe; clear hbe))
        exact ⟨rfl, .inr ⟨NF.out, rfl, XE.out⟩⟩
    · have P2 := hide2 (fun (w5 : World) (hG5 : GrW w0.heap.size bg w5 v (more g 1)) (hB5 : Below w0.heap.size w0 w5) => place_none hG5 hB5 h1 h2)
      have NF := hide2 (fun h => h2 (F0.out (F1.out (F2.out (F3.out h)))))
      go_wp2_with (first
        | (go_at_call 102; (with_reducible refine P1.out.mono ?_); rintro e w6 ⟨rfl, hg6, hb6, hk6, _⟩; have G6 := hide2 hg6; have X6 := hide2 hb6; clear hg6 hb6 hk6)
        | (go_at_call 102; (with_reducible refine (P2.out _ G6.out X6.out).mono ?_); rintro e w7 ⟨rfl, hb7⟩; have X7 := hide2 hb7; clear hb7))
      exact ⟨rfl, .inr ⟨NF.out, rfl, X7.out⟩⟩
  · have P1 := hide2 (place_none GW.out BX.out HFT.out h1)
    have NF := hide2 (fun h => h1 (more_fits (F0.out (F1.out (F2.out (F3.out h)))) (by omega)))
    go_wp2_with (go_at_call 102; (with_reducible refine P1.out.mono ?_); rintro e w7 ⟨rfl, hb7⟩; have X7 := hide2 hb7; clear hb7)
    exact ⟨rfl, .inr ⟨NF.out, rfl, X7.out⟩⟩
end Go.Proofs.Ytnfppolgaeibeaa
