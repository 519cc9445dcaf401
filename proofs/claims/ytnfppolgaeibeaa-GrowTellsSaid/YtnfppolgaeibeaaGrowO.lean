/- The contract of the reference's kbetween on leaves, on choices and on rows, given what it does within. Conditions: the block reads as a tree and is right; what comes of it stays below 300. | The contract of the reference's kbetween on choices, given what it does within. Conditions: the block reads as a tree and is right; what comes of it stays below 300. | The contract of the reference's kbetween on rows, given what it does within. Conditions: the block reads as a tree and is right; what comes of it stays below 300. -/
import Derived.Test.YtnfppolgaeibeaaGrowN
import Derived.Test.YtnfppolgaeibeaaGrowD
namespace Go.Proofs.Ytnfppolgaeibeaa
open Go.RowKit

def few (g : KSt) : Prop := g.places ≤ 300 ∧ g.links.length ≤ 300
theorem gr_few {a b : KSt} {k : Nat} (h : Gr a b k) (hb : few b) : few a := ⟨Nat.le_trans h.up hb.1, Nat.le_trans h.pre.length_le hb.2⟩
theorem lnk_few {g : KSt} {l : Int} {a b : List Int} (h : few (lnk g l a b)) : few g := ⟨h.1, by have := h.2; simp only [lnk, List.length_append] at this; omega⟩
theorem more_few {g : KSt} {k : Nat} (h : few (more g k)) : few g := ⟨by have := h.1; simp only [more] at this; omega, h.2⟩
/-- What kbetween has laid out. -/
structure KFr (N s : Nat) (w wr : World) (blk : Array Value) (P : Nat) (v : Value) : Prop where
  blk : Box wr s 24 blk
  kg : Box wr (s + 1) 81 #[.int .i64 P, v]
  res : Box wr (s + 1 + 1) 81 #[.int .i64 0, .slice none 0 0]
  below : Below w.heap.size w wr
  sz : w.heap.size = s
  lo : N ≤ s
section
variable {N s P P' : Nat} {w wr wr' : World} {blk : Array Value} {v : Value}
theorem KFr.new (N : Nat) (w : World) (blk : Array Value) (P : Nat) (v : Value) (hN : N ≤ w.heap.size) : KFr N w.heap.size w (((w.alloc (.cells blk 24)).alloc (.cells #[.int .i64 P, v] 81)).alloc (.cells #[.int .i64 0, .slice none 0 0] 81)) blk P v where
  blk := ((Box.new w blk _).old _).old _
  kg := (Box.newAt (by simp) _ _).old _
  res := Box.newAt (by simp) _ _
  below := (((Below.refl _ _).alloc (Nat.le_refl _) _).alloc (by simp) _).alloc (by simp; omega) _
  sz := rfl
  lo := hN
theorem KFr.keep (h : KFr N s w wr blk P v) (hb : Below wr.heap.size wr wr') : KFr N s w wr' blk P v :=
  ⟨h.blk.keep hb, h.kg.keep hb, h.res.keep hb, h.below.trans (hb.mono h.below.size), h.sz, h.lo⟩
theorem KFr.grown {v' : Value} (_ : KFr N s w wr blk P v) : wr.grownBy ((wr.setCell ⟨s + 1, 0, none⟩ (.int .i64 P')).setCell ⟨s + 1, 1, none⟩ v') (some (s + 1)) := grown_set2 wr ⟨s + 1, 0, none⟩ ⟨s + 1, 1, none⟩ _ _ rfl
theorem KFr.set (h : KFr N s w wr blk P v) (P' : Nat) (v' : Value) : KFr N s w ((wr.setCell ⟨s + 1, 0, none⟩ (.int .i64 P')).setCell ⟨s + 1, 1, none⟩ v') blk P' v' where
  blk := (h.blk.other _ (by simp)).other _ (by simp)
  kg := h.kg.set2 _ _
  res := (h.res.other _ (by simp)).other _ (by simp)
  below := (h.below.setCell (p := ⟨s + 1, 0, none⟩) (by have := h.sz; simp only; omega) _).setCell (p := ⟨s + 1, 1, none⟩) (by have := h.sz; simp only; omega) _
  sz := h.sz
  lo := h.lo
theorem KFr.setP (h : KFr N s w wr blk P v) (P' : Nat) : KFr N s w (wr.setCell ⟨s + 1, 0, none⟩ (.int .i64 P')) blk P' v where
  blk := h.blk.other _ (by simp)
  kg := by simpa using h.kg.set 0 (.int .i64 P')
  res := h.res.other _ (by simp)
  below := h.below.setCell (p := ⟨s + 1, 0, none⟩) (by have := h.sz; simp only; omega) _
  sz := h.sz
  lo := h.lo
/-- The links stay as the growth so far is told anew. -/
theorem LkM.setK {K c : Nat} {C : Option Addr} {l : List PTran} (x : LkM N wr C K c l) (h : KFr N s w wr blk P v) (P' : Nat) (v' : Value) : LkM N ((wr.setCell ⟨s + 1, 0, none⟩ (.int .i64 P')).setCell ⟨s + 1, 1, none⟩ v') C K c l :=
  x.turn h.kg (by decide) (by decide) (by have := h.lo; omega) (grown_set2 wr ⟨s + 1, 0, none⟩ ⟨s + 1, 1, none⟩ _ _ rfl)
theorem LkM.setP {K c : Nat} {C : Option Addr} {l : List PTran} (x : LkM N wr C K c l) (h : KFr N s w wr blk P v) (P' : Nat) : LkM N (wr.setCell ⟨s + 1, 0, none⟩ (.int .i64 P')) C K c l :=
  x.turn h.kg (by decide) (by decide) (by have := h.lo; omega) (grownK _ _ _ _)
/-- In the end: the result is told. -/
theorem KFr.done {K c : Nat} {C : Option Addr} {l : List PTran} (h : KFr N s w wr blk P v) (x : LkM N wr C K c l) (P' : Nat) (v' : Value) :
    Box ((wr.setCell ⟨s + 1 + 1, 0, none⟩ (.int .i64 P')).setCell ⟨s + 1 + 1, 1, none⟩ v') (s + 1 + 1) 81 #[.int .i64 P', v'] ∧ LkM N ((wr.setCell ⟨s + 1 + 1, 0, none⟩ (.int .i64 P')).setCell ⟨s + 1 + 1, 1, none⟩ v') C K c l ∧ Below w.heap.size w ((wr.setCell ⟨s + 1 + 1, 0, none⟩ (.int .i64 P')).setCell ⟨s + 1 + 1, 1, none⟩ v') :=
  ⟨h.res.set2 _ _, x.turn h.res (by decide) (by decide) (by have := h.lo; omega) (grown_set2 wr ⟨s + 1 + 1, 0, none⟩ ⟨s + 1 + 1, 1, none⟩ _ _ rfl),
    (h.below.setCell (p := ⟨s + 1 + 1, 0, none⟩) (by have := h.sz; simp only; omega) _).setCell (p := ⟨s + 1 + 1, 1, none⟩) (by have := h.sz; simp only; omega) _⟩
end
/-- What kbetween does within. -/
def KbIH (w0 : World) (f : Nat) : Prop :=
  ∀ (d : Nat) (kd lb : Int) (A : Option Addr) (n c had : Nat) (ks : List PBlk) (p q : Int) (C : Option Addr) (cc : Nat) (g : KSt) (w : World), (chkB f (.mk kd lb ks) had).2 = 0 → Blks d w0 A n c ks → LkM w0.heap.size w C g.links.length cc g.links → Below w0.heap.size w0 w → few (kbB f (.mk kd lb ks) p q g) →
    Calls Try.prog 41 #[.agg #[.int .i64 kd, .int .i64 lb, .slice A n c], .int .i64 p, .int .i64 q, .agg #[.int .i64 g.places, .slice C g.links.length cc]] w (AnsK w0.heap.size (kbB f (.mk kd lb ks) p q g) w)

set_option maxRecDepth 100000 in
set_option maxHeartbeats 4000000 in
theorem kb_leaf {w0 : World} {f : Nat} {kd lb : Int} {A : Option Addr} {n c : Nat} {ks : List PBlk} {p q : Int} {C : Option Addr} {cc : Nat} {g : KSt} {w : World} (hk : kd = 1 ∨ kd = 2) (hL : LkM w0.heap.size w C g.links.length cc g.links) (hB : Below w0.heap.size w0 w) (hf : few (kbB (f + 1) (.mk kd lb ks) p q g)) :
    Calls Try.prog 41 #[.agg #[.int .i64 kd, .int .i64 lb, .slice A n c], .int .i64 p, .int .i64 q, .agg #[.int .i64 g.places, .slice C g.links.length cc]] w (AnsK w0.heap.size (kbB (f + 1) (.mk kd lb ks) p q g) w) := by
  have hent : ∀ (args : Array Value) (w : World), Sem.run Try.prog (callFunc 104 args) w = .ok (.enter 104 args) w := fun args w => by kernel_rfl
  obtain ⟨l, hl⟩ : ∃ l, (if kd = 1 then 0 else lb) = l := ⟨_, rfl⟩
  have HR := hide2 (show kbB (f + 1) (.mk kd lb ks) p q g = lnk g l [p] [q] by
    rcases hk with rfl | rfl
    · rw [kbB_1, ← hl, if_pos rfl]
    · rw [kbB_2, ← hl, if_neg (by decide)])
  obtain ⟨r, hr⟩ : ∃ r, lnk g l [p] [q] = r := ⟨_, rfl⟩
  rw [HR.out] at hf ⊢
  have fw := (lnk_few hf).2
  have HRr := hide2 hr
  rw [hr]
  have FR := hide2 (KFr.new w0.heap.size w #[.int .i64 kd, .int .i64 lb, .slice A n c] g.places (.slice C g.links.length cc) hB.size)
  have LM := hide2 (hL.keep FR.out.below)
  obtain ⟨P, hP⟩ : ∃ P, g.places = P := ⟨_, rfl⟩
  obtain ⟨K, hK⟩ : ∃ K, g.links.length = K := ⟨_, rfl⟩
  have HP := hide2 hP
  have HK := hide2 hK
  have HLl := hide2 hl
  rw [hP, hK] at FR LM ⊢
  rw [hK] at fw
  clear hL hB hf hl hP hK HR hr
  go_enter Try.func41, Try.ntmps41
  go_upto_region 1 with fail
  generalize ((w.alloc (.cells #[.int .i64 kd, .int .i64 lb, .slice A n c] 24)).alloc (.cells #[.int .i64 P, .slice C K cc] 81)).alloc (.cells #[.int .i64 0, .slice none 0 0] 81) = u at *
  obtain ⟨b0, b1, b2⟩ := FR.out.blk.three
  obtain ⟨c0, c1⟩ := FR.out.kg.two
  have bb1 := boxBelow u (.cells #[.int .i64 p] 3)
  have bb2 := boxBelow (u.alloc (.cells #[.int .i64 p] 3)) (.cells #[.int .i64 q] 3)
  have I1 := oneG w0.heap.size u p
  have I2 := oneG w0.heap.size (u.alloc (.cells #[.int .i64 p] 3)) q
  have F_ := (I1.2.same I1.1 bb2.size (fun b hb _ => bb2.block b hb))
  have CL := hide2 (klink_calls (g := g) l ((LM.out.keep bb1).keep bb2) F_.2 I2.1 F_.1 I2.2 (by omega))
  rw [HP.out] at CL
  rw [show (u.alloc (.cells #[.int .i64 p] 3)).heap.size = u.heap.size + 1 by simp] at CL
  have F2 := hide2 ((FR.out.keep bb1).keep bb2)
  clear bb1 bb2 I1 I2 F_ FR LM
  rw [HRr.out] at CL
  rcases hk with rfl | rfl
  · obtain rfl : l = 0 := by rw [← HLl.out]; rfl
    go_wp2_with (go_at_call 104; (with_reducible refine CL.out.mono ?_); rintro e w3 ⟨C3, c3, rfl, lm, bl⟩; have F3 := hide2 (F2.out.keep bl); have L3 := hide2 lm; clear lm bl; obtain ⟨y0, y1⟩ := F3.out.res.two; have z0 := F3.out.res.frozen 0; have z1 := F3.out.res.frozen 1)
    obtain ⟨d1, d2, d3⟩ := F3.out.done L3.out r.places (.slice C3 r.links.length c3)
    have r0 := d1.cell 0
    have r1 := d1.cell 1
    exact bodyPost_ret (v := .agg #[.int .i64 r.places, .slice C3 r.links.length c3]) (by simp [results, Try.results41, go_sem, r0, r1]) rfl ⟨C3, c3, rfl, d2, d3⟩
  · obtain rfl : l = lb := by rw [← HLl.out]; rfl
    go_wp2_with (go_at_call 104; (with_reducible refine CL.out.mono ?_); rintro e w3 ⟨C3, c3, rfl, lm, bl⟩; have F3 := hide2 (F2.out.keep bl); have L3 := hide2 lm; clear lm bl; obtain ⟨y0, y1⟩ := F3.out.res.two; have z0 := F3.out.res.frozen 0; have z1 := F3.out.res.frozen 1)
    obtain ⟨d1, d2, d3⟩ := F3.out.done L3.out r.places (.slice C3 r.links.length c3)
    have r0 := d1.cell 0
    have r1 := d1.cell 1
    exact bodyPost_ret (v := .agg #[.int .i64 r.places, .slice C3 r.links.length c3]) (by simp [results, Try.results41, go_sem, r0, r1]) rfl ⟨C3, c3, rfl, d2, d3⟩
end Go.Proofs.Ytnfppolgaeibeaa
namespace Go.Proofs.Ytnfppolgaeibeaa
open Go.RowKit

set_option maxRecDepth 100000 in
set_option maxHeartbeats 4000000 in
theorem kb_alt {w0 : World} {f d had : Nat} (IH0 : KbIH w0 f) {lb : Int} {A : Option Addr} {n c : Nat} {ks : List PBlk} {p q : Int} {C : Option Addr} {cc : Nat} {g : KSt} {w : World} (hc : (chkB (f + 1) (.mk 4 lb ks) had).2 = 0) (hK : Blks d w0 A n c ks) (hL : LkM w0.heap.size w C g.links.length cc g.links) (hB : Below w0.heap.size w0 w) (hf : few (kbB (f + 1) (.mk 4 lb ks) p q g)) :
    Calls Try.prog 41 #[.agg #[.int .i64 4, .int .i64 lb, .slice A n c], .int .i64 p, .int .i64 q, .agg #[.int .i64 g.places, .slice C g.links.length cc]] w (AnsK w0.heap.size (kbB (f + 1) (.mk 4 lb ks) p q g) w) := by
  obtain ⟨_, _, h', _, hfold⟩ := chkB_inv hc
  replace hfold : ks.foldl (stepC (chkB f)) (had + 1, 0) = (h', 0) := hfold
  have IH := hide2 IH0
  have FO := hide2 hfold
  obtain ⟨F, hF⟩ : ∃ F : KSt → PBlk × Nat → KSt, F = fun s x => altF (kbB f) p q s x.1 := ⟨_, rfl⟩
  have HFD := hide2 hF
  have HR := hide2 (show kbB (f + 1) (.mk 4 lb ks) p q g = ks.zipIdx.foldl F g by rw [kbB_4, hF, zip_alt])
  rw [HR.out] at hf ⊢
  have TG := hide2 (fun (i hd : Nat) (h1 : (ks.take i).foldl (stepC (chkB f)) (had + 1, 0) = (hd, 0)) => show few ((ks.take i).zipIdx.foldl F g) from gr_few (by
    rw [hF]; exact tail_gr (fun s => s) _ alt_step h1 hfold) hf)
  have FR := hide2 (KFr.new w0.heap.size w #[.int .i64 4, .int .i64 lb, .slice A n c] g.places (.slice C g.links.length cc) hB.size)
  have LM := hide2 (hL.keep FR.out.below)
  have HL := hide2 (show ks.length = n from hK.len)
  have hns := hK.small
  have K := hide2 hK
  have HB := hide2 hB
  clear hL hB hK hc IH0 hfold hF hf
  go_enter Try.func41, Try.ntmps41
  go_upto_region 1 with fail
  generalize ((w.alloc (.cells #[.int .i64 4, .int .i64 lb, .slice A n c] 24)).alloc (.cells #[.int .i64 g.places, .slice C g.links.length cc] 81)).alloc (.cells #[.int .i64 0, .slice none 0 0] 81) = u at *
  obtain ⟨b0, b1, b2⟩ := FR.out.blk.three
  go_wp2
  clear b0 b1 b2
  go_loopw [79] (fun iv wr => ∃ (i hd : Nat) (C' : Option Addr) (cc' : Nat) (gi : KSt), i ≤ n ∧ iv = .int .i64 i ∧ Hid ((ks.take i).zipIdx.foldl F g = gi) ∧ Hid ((ks.take i).foldl (stepC (chkB f)) (had + 1, 0) = (hd, 0)) ∧ Hid (KFr w0.heap.size w.heap.size w wr #[.int .i64 4, .int .i64 lb, .slice A n c] gi.places (.slice C' gi.links.length cc')) ∧ Hid (LkM w0.heap.size wr C' gi.links.length cc' gi.links)) (fun iv _ => n - (intOf iv).toNat)
  case atStart => exact ⟨0, had + 1, C, cc, g, Nat.zero_le _, rfl, rfl, rfl, FR, LM⟩
  case round =>
    clear FR LM
    obtain ⟨i, hd, C', cc', gi, hi, rfl, GI, CK, FR, LM⟩ := hrel
    by_cases hlt : i < n
    · have hki : (i : Int) < (n : Int) := by omega
      obtain ⟨bl, off, kd', lb', ks', B', m', e', d', rfl, rfl, hbl, hx, p0, p1, p2, K'⟩ := K.out.get hlt
      have BX := hide2 (HB.out.trans (FR.out.below.mono HB.out.size))
      have q0 := (BX.out.cell (p := ⟨bl, _, none⟩) hbl).trans p0
      have q1 := (BX.out.cell (p := ⟨bl, _, none⟩) hbl).trans p1
      have q2 := (BX.out.cell (p := ⟨bl, _, none⟩) hbl).trans p2
      obtain ⟨hd', hk1, hk2⟩ := next_okC FO.out hx.out CK.out
      have CK2 := hide2 hk2
      obtain ⟨r, hr⟩ : ∃ r, kbB f (.mk kd' lb' ks') p q gi = r := ⟨_, rfl⟩
      have HZ := hide2 (show (ks.take (i + 1)).zipIdx.foldl F g = r by rw [zip_step hx.out, GI.out, HFD.out]; exact hr)
      have FW := TG.out (i + 1) hd' hk2
      rw [HZ.out] at FW
      have bb2 := boxBelow wr (.cells #[.int .i64 kd', .int .i64 lb', .slice B' m' e'] 24)
      have XB := hide2 (Box.new wr #[.int .i64 kd', .int .i64 lb', .slice B' m' e'] 24)
      have F3 := hide2 (FR.out.keep bb2)
      have CI := hide2 (IH.out d' kd' lb' B' m' e' hd ks' p q C' cc' gi (wr.alloc (.cells #[.int .i64 kd', .int .i64 lb', .slice B' m' e'] 24)) (by rw [hk1]) K'.out (LM.out.keep bb2) (BX.out.trans (bb2.mono BX.out.size)) (by rw [hr]; exact FW))
      rw [hr] at CI
      clear p0 p1 p2 hk1 hk2 bb2 hx K' hr FW FR LM BX
      go_upto_region 22 with fail
      clear q0 q1 q2
      generalize wr.alloc (.cells #[.int .i64 kd', .int .i64 lb', .slice B' m' e'] 24) = w5 at *
      generalize wr.heap.size = b5 at *
      obtain ⟨x0, x1, x2⟩ := XB.out.three
      obtain ⟨y0, y1⟩ := F3.out.kg.two
      go_wp2_with (go_at_call 41; (with_reducible refine CI.out.mono ?_); rintro e w6 ⟨C6, c6, rfl, lm, bl6⟩; have F6 := hide2 (F3.out.keep bl6); have L6 := hide2 lm; clear lm bl6 x0 x1 x2 y0 y1; obtain ⟨y0, y1⟩ := F6.out.kg.two; have z0 := F6.out.kg.frozen 0; have z1 := F6.out.kg.frozen 1)
      go_roundw
      case rel => exact ⟨i + 1, hd', C6, c6, r, by omega, by go_num, HZ, CK2, hide2 (F6.out.set _ _), hide2 (L6.out.setK F6.out _ _)⟩
      case measure => simp [intOf]; omega
    · obtain rfl : i = n := by omega
      have ZA := hide2 (show ks.zipIdx.foldl F g = gi by rw [← zip_all (i := i) (by rw [HL.out]; exact Nat.le_refl _)]; exact GI.out)
      obtain ⟨y0, y1⟩ := FR.out.kg.two
      obtain ⟨v0, v1⟩ := FR.out.res.two
      have z0 := FR.out.res.frozen 0
      have z1 := FR.out.res.frozen 1
      go_wp2
      obtain ⟨d1, d2, d3⟩ := FR.out.done LM.out gi.places (.slice C' gi.links.length cc')
      have r0 := d1.cell 0
      have r1 := d1.cell 1
      rw [ZA.out]
      exact bodyPost_ret (v := .agg #[.int .i64 gi.places, .slice C' gi.links.length cc']) (by simp [results, Try.results41, go_sem, r0, r1]) rfl ⟨C', cc', rfl, d2, d3⟩
end Go.Proofs.Ytnfppolgaeibeaa
namespace Go.Proofs.Ytnfppolgaeibeaa
open Go.RowKit

set_option maxRecDepth 100000 in
set_option maxHeartbeats 4000000 in
theorem kb_seq {w0 : World} {f d had : Nat} (IH0 : KbIH w0 f) {lb : Int} {A : Option Addr} {n c : Nat} {ks : List PBlk} {p q : Int} {C : Option Addr} {cc : Nat} {g : KSt} {w : World} (hc : (chkB (f + 1) (.mk 3 lb ks) had).2 = 0) (hK : Blks d w0 A n c ks) (hL : LkM w0.heap.size w C g.links.length cc g.links) (hB : Below w0.heap.size w0 w) (hf : few (kbB (f + 1) (.mk 3 lb ks) p q g)) :
    Calls Try.prog 41 #[.agg #[.int .i64 3, .int .i64 lb, .slice A n c], .int .i64 p, .int .i64 q, .agg #[.int .i64 g.places, .slice C g.links.length cc]] w (AnsK w0.heap.size (kbB (f + 1) (.mk 3 lb ks) p q g) w) := by
  obtain ⟨_, _, h', _, hfold⟩ := chkB_inv hc
  replace hfold : ks.foldl (stepC (chkB f)) (had + 1, 0) = (h', 0) := hfold
  have IH := hide2 IH0
  have FO := hide2 hfold
  obtain ⟨F, hF⟩ : ∃ F : KSt × Int → PBlk × Nat → KSt × Int, F = seqF (kbB f) n q := ⟨_, rfl⟩
  have HFD := hide2 hF
  have HLs := hK.len
  have HR := hide2 (show kbB (f + 1) (.mk 3 lb ks) p q g = (ks.zipIdx.foldl F (g, p)).1 by rw [kbB_3, hF, HLs])
  clear HLs
  rw [HR.out] at hf ⊢
  have TG := hide2 (fun (i hd : Nat) (h1 : (ks.take i).foldl (stepC (chkB f)) (had + 1, 0) = (hd, 0)) => show few ((ks.take i).zipIdx.foldl F (g, p)).1 from gr_few (by
    rw [hF]; exact tail_gr (fun s : KSt × Int => s.1) _ seq_step h1 hfold) (by rw [← hF]; exact hf))
  have FR := hide2 (KFr.new w0.heap.size w #[.int .i64 3, .int .i64 lb, .slice A n c] g.places (.slice C g.links.length cc) hB.size)
  have LM := hide2 (hL.keep FR.out.below)
  have HL := hide2 (show ks.length = n from hK.len)
  have hns := hK.small
  have K := hide2 hK
  have HB := hide2 hB
  clear hL hB hK hc IH0 hfold hF hf
  go_enter Try.func41, Try.ntmps41
  go_upto_region 1 with fail
  generalize ((w.alloc (.cells #[.int .i64 3, .int .i64 lb, .slice A n c] 24)).alloc (.cells #[.int .i64 g.places, .slice C g.links.length cc] 81)).alloc (.cells #[.int .i64 0, .slice none 0 0] 81) = u at *
  obtain ⟨b0, b1, b2⟩ := FR.out.blk.three
  go_wp2
  clear b0 b1 b2
  go_loopw [1, 49] (fun pv iv wr => ∃ (i hd : Nat) (C' : Option Addr) (cc' : Nat) (gi : KSt) (p1 : Int), i ≤ n ∧ iv = .int .i64 i ∧ pv = .int .i64 p1 ∧ Hid ((ks.take i).zipIdx.foldl F (g, p) = (gi, p1)) ∧ Hid ((ks.take i).foldl (stepC (chkB f)) (had + 1, 0) = (hd, 0)) ∧ Hid (KFr w0.heap.size w.heap.size w wr #[.int .i64 3, .int .i64 lb, .slice A n c] gi.places (.slice C' gi.links.length cc')) ∧ Hid (LkM w0.heap.size wr C' gi.links.length cc' gi.links)) (fun _ iv _ => n - (intOf iv).toNat)
  case atStart => exact ⟨0, had + 1, C, cc, g, p, Nat.zero_le _, rfl, rfl, rfl, rfl, FR, LM⟩
  case round =>
    clear FR LM
    obtain ⟨i, hd, C', cc', gi, p1, hi, rfl, rfl, GI, CK, FR, LM⟩ := hrel
    by_cases hlt : i < n
    · have hki : (i : Int) < (n : Int) := by omega
      obtain ⟨bl, off, kd', lb', ks', B', m', e', d', rfl, rfl, hbl, hx, t0, t1, t2, K'⟩ := K.out.get hlt
      have BX := hide2 (HB.out.trans (FR.out.below.mono HB.out.size))
      have q0 := (BX.out.cell (p := ⟨bl, _, none⟩) hbl).trans t0
      have q1 := (BX.out.cell (p := ⟨bl, _, none⟩) hbl).trans t1
      have q2 := (BX.out.cell (p := ⟨bl, _, none⟩) hbl).trans t2
      obtain ⟨hd', hk1, hk2⟩ := next_okC FO.out hx.out CK.out
      have CK2 := hide2 hk2
      have FW := TG.out (i + 1) hd' hk2
      have ZS := hide2 (zip_step (F := F) (s := (g, p)) hx.out)
      have bb2 := boxBelow wr (.cells #[.int .i64 kd', .int .i64 lb', .slice B' m' e'] 24)
      have XB := hide2 (Box.new wr #[.int .i64 kd', .int .i64 lb', .slice B' m' e'] 24)
      have F3 := hide2 (FR.out.keep bb2)
      have L3 := hide2 (LM.out.keep bb2)
      have HK1 := hide2 hk1
      by_cases hlast : i + 1 < n
      · have hi1 : (i : Int) < (n : Int) - 1 := by omega
        obtain ⟨P1, hP1⟩ : ∃ P1, gi.places + 1 = P1 := ⟨_, rfl⟩
        obtain ⟨r, hr⟩ : ∃ r, kbB f (.mk kd' lb' ks') p1 (gi.places : Int) (more gi 1) = r := ⟨_, rfl⟩
        have HZ := hide2 (show (ks.take (i + 1)).zipIdx.foldl F (g, p) = (r, (gi.places : Int)) by rw [ZS.out, GI.out, HFD.out, seqF, if_pos (by simp only; omega), hr])
        rw [HZ.out] at FW
        have FW1 : few (more gi 1) := gr_few (kbB_gr f (.mk kd' lb' ks') hd p1 (gi.places : Int) (more gi 1) (by rw [hk1])).1 (by rw [hr]; exact FW)
        have hPb : P1 ≤ 300 := by have := FW1.1; simp only [more] at this; omega
        have F4 := hide2 (F3.out.setP P1)
        have L4 := hide2 (L3.out.setP F3.out P1)
        have X4 := hide2 (XB.out.other (a := ⟨w.heap.size + 1, 0, none⟩) (.int .i64 P1) (by have := FR.out.kg.lt; simp only; omega))
        have CI := hide2 (IH.out d' kd' lb' B' m' e' hd ks' p1 (gi.places : Int) C' cc' (more gi 1) _ (by rw [hk1]) K'.out L4.out (HB.out.trans (F4.out.below.mono HB.out.size)) (by rw [hr]; exact FW))
        rw [hr, show (more gi 1).places = P1 from hP1, show (more gi 1).links = gi.links from rfl] at CI
        have hadd : (gi.places : Int) + 1 = (P1 : Int) := by omega
        obtain ⟨y0, y1⟩ := F3.out.kg.two
        have z0 := F3.out.kg.frozen 0
        clear t0 t1 t2 hk1 hk2 bb2 hx K' hr FW FR LM BX FW1 hP1 L3
        go_upto_region 12 with fail
        clear q0 q1 q2
        obtain ⟨b0, b1, b2⟩ := F3.out.blk.three
        generalize wr.alloc (.cells #[.int .i64 kd', .int .i64 lb', .slice B' m' e'] 24) = w5 at *
        generalize wr.heap.size = b5 at *
        go_upto_region 15 with fail
        generalize w5.setCell ⟨w.heap.size + 1, 0, none⟩ (.int .i64 P1) = w6 at *
        clear y0 y1 z0 b0 b1 b2
        obtain ⟨x0, x1, x2⟩ := X4.out.three
        obtain ⟨y0, y1⟩ := F4.out.kg.two
        go_wp2_with (go_at_call 41; (with_reducible refine CI.out.mono ?_); rintro e w7 ⟨C6, c6, rfl, lm, bl6⟩; have F6 := hide2 (F4.out.keep bl6); have L6 := hide2 lm; clear lm bl6 x0 x1 x2 y0 y1; obtain ⟨y0, y1⟩ := F6.out.kg.two; have z0 := F6.out.kg.frozen 0; have z1 := F6.out.kg.frozen 1)
        go_roundw
        case rel => exact ⟨i + 1, hd', C6, c6, r, (gi.places : Int), by omega, by go_num, rfl, HZ, CK2, hide2 (F6.out.set _ _), hide2 (L6.out.setK F6.out _ _)⟩
        case measure => simp [intOf]; omega
      · have hi1 : ¬ (i : Int) < (n : Int) - 1 := by omega
        obtain ⟨r, hr⟩ : ∃ r, kbB f (.mk kd' lb' ks') p1 q gi = r := ⟨_, rfl⟩
        have HZ := hide2 (show (ks.take (i + 1)).zipIdx.foldl F (g, p) = (r, q) by rw [ZS.out, GI.out, HFD.out, seqF, if_neg (by simp only; omega), hr])
        rw [HZ.out] at FW
        have CI := hide2 (IH.out d' kd' lb' B' m' e' hd ks' p1 q C' cc' gi _ (by rw [hk1]) K'.out L3.out (HB.out.trans (F3.out.below.mono HB.out.size)) (by rw [hr]; exact FW))
        rw [hr] at CI
        clear t0 t1 t2 hk1 hk2 bb2 hx K' hr FW FR LM BX L3
        go_upto_region 12 with fail
        clear q0 q1 q2
        obtain ⟨b0, b1, b2⟩ := F3.out.blk.three
        generalize wr.alloc (.cells #[.int .i64 kd', .int .i64 lb', .slice B' m' e'] 24) = w5 at *
        generalize wr.heap.size = b5 at *
        obtain ⟨x0, x1, x2⟩ := XB.out.three
        obtain ⟨y0, y1⟩ := F3.out.kg.two
        go_wp2_with (go_at_call 41; (with_reducible refine CI.out.mono ?_); rintro e w7 ⟨C6, c6, rfl, lm, bl6⟩; have F6 := hide2 (F3.out.keep bl6); have L6 := hide2 lm; clear lm bl6 x0 x1 x2 y0 y1 b0 b1 b2; obtain ⟨y0, y1⟩ := F6.out.kg.two; have z0 := F6.out.kg.frozen 0; have z1 := F6.out.kg.frozen 1)
        go_roundw
        case rel => exact ⟨i + 1, hd', C6, c6, r, q, by omega, by go_num, rfl, HZ, CK2, hide2 (F6.out.set _ _), hide2 (L6.out.setK F6.out _ _)⟩
        case measure => simp [intOf]; omega
    · obtain rfl : i = n := by omega
      have ZA := hide2 (show (ks.zipIdx.foldl F (g, p)).1 = gi by rw [← zip_all (i := i) (by rw [HL.out]; exact Nat.le_refl _), GI.out])
      obtain ⟨y0, y1⟩ := FR.out.kg.two
      obtain ⟨v0, v1⟩ := FR.out.res.two
      have z0 := FR.out.res.frozen 0
      have z1 := FR.out.res.frozen 1
      go_wp2
      obtain ⟨d1, d2, d3⟩ := FR.out.done LM.out gi.places (.slice C' gi.links.length cc')
      have r0 := d1.cell 0
      have r1 := d1.cell 1
      rw [ZA.out]
      exact bodyPost_ret (v := .agg #[.int .i64 gi.places, .slice C' gi.links.length cc']) (by simp [results, Try.results41, go_sem, r0, r1]) rfl ⟨C', cc', rfl, d2, d3⟩
end Go.Proofs.Ytnfppolgaeibeaa
