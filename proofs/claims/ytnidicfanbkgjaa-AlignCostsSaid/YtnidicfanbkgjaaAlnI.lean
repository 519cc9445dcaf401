/- The contract of leave. Conditions: the aligner lies in a box; arcs are between marks. -/
import Derived.Test.YtnidicfanbkgjaaAlnF
import Derived.Test.YtnidicfanbkgjaaTongF
import Derived.Deep.DeepCutAuto
namespace Go.Proofs.Ytnidicfanbkgjaa
open Go.RowKit Go.Maps

/-- The edges from u, along the trace and over the first q arcs. -/
def EdA (ars : List PArc) (lb : Int → Int) (tr : List Int) (u : Sp) (q : Nat) (v : Sp) (d : Int) : Prop :=
  (u.1 < (tr.length : Int) ∧ v = (u.1 + 1, u.2) ∧ d = 1) ∨ ∃ a ∈ ars.take q, a.from_ = u.2 ∧ ((v = (u.1, a.to_) ∧ d = min (lb a.tran) 1) ∨ ((u.1 < (tr.length : Int) ∧ 0 < lb a.tran ∧ tr[u.1.toNat]? = some (lb a.tran)) ∧ v = (u.1 + 1, a.to_) ∧ d = 0))
section
variable {ars : List PArc} {lb : Int → Int} {tr : List Int} {u v : Sp} {q : Nat} {a : PArc} {d : Int}
theorem EdA_full (h : Ed ars lb tr u v d) : EdA ars lb tr u ars.length v d := by
  rcases h with h | ⟨a, ha, h1, h2, h3⟩ | ⟨a, ha, h1, h2, h3, h4, h5, h6⟩
  · exact .inl h
  · exact .inr ⟨a, by rw [List.take_length]; exact ha, h1, .inl ⟨h2, h3⟩⟩
  · exact .inr ⟨a, by rw [List.take_length]; exact ha, h1, .inr ⟨⟨h2, h3, h4⟩, h5, h6⟩⟩
theorem EdA_zero (h : EdA ars lb tr u 0 v d) : u.1 < (tr.length : Int) ∧ v = (u.1 + 1, u.2) ∧ d = 1 := by
  rcases h with h | ⟨a, ha, _⟩
  · exact h
  · simp at ha
theorem EdA_skip (ha : ars[q]? = some a) (hne : a.from_ ≠ u.2) (h : EdA ars lb tr u (q + 1) v d) : EdA ars lb tr u q v d := by
  rcases h with h | ⟨b, hb, h1, h2⟩
  · exact .inl h
  · rw [take_snoc ha] at hb
    rcases List.mem_append.1 hb with hb | hb
    · exact .inr ⟨b, hb, h1, h2⟩
    · rw [List.mem_singleton.1 hb] at h1
      exact absurd h1 hne
theorem EdA_step (ha : ars[q]? = some a) (h : EdA ars lb tr u (q + 1) v d) : EdA ars lb tr u q v d ∨ (v = (u.1, a.to_) ∧ d = min (lb a.tran) 1) ∨ ((u.1 < (tr.length : Int) ∧ 0 < lb a.tran ∧ tr[u.1.toNat]? = some (lb a.tran)) ∧ v = (u.1 + 1, a.to_) ∧ d = 0) := by
  rcases h with h | ⟨b, hb, h1, h2⟩
  · exact .inl (.inl h)
  · rw [take_snoc ha] at hb
    rcases List.mem_append.1 hb with hb | hb
    · exact .inl (.inr ⟨b, hb, h1, h2⟩)
    · rw [List.mem_singleton.1 hb] at h2
      exact .inr h2
end
theorem okS_of {L n : Nat} (hL : L ≤ 60) (hn : n ≤ 300) {v : Sp} (h : InU L n v) : okS v := by
  obtain ⟨⟨h1, h2⟩, h3, h4⟩ := h
  exact ⟨⟨h1, by omega⟩, h3, by omega⟩
/-- What leave needs and leaves. -/
def AnsLeave (E : Sp → Sp → Int → Prop) (U : Sp → Prop) (dn : List Sp) (at_ : Sp) (c0 K : Int) (R : Sp → Int → Prop) (bm q : Nat) (w0 w : World) : Prop :=
  ∃ (f : SpM) (q' : Nat), MapA w bm f q' ∧ q' ≤ q ∧ DL E U f dn at_ c0 R ∧ w0.grownBy w (some bm) ∧ ∀ v x, f v = some x → x.cost ≤ K
theorem offer_le {f : SpM} {K : Int} (h : ∀ v x, f v = some x → x.cost ≤ K) {v : Sp} {x : PStp} (hx : x.cost ≤ K) : ∀ u y, offerM f v x u = some y → y.cost ≤ K := fun u y hu => by
  rcases offerM_at f v x with ⟨e, _⟩ | ⟨e, _⟩
  · rw [e] at hu
    exact h u y hu
  · rw [e] at hu
    unfold updM at hu
    split at hu
    · injection hu with hu
      subst hu
      exact hx
    · exact h u y hu

/-- What leave holds besides the map. -/
structure LvW (wP w wr : World) (ba bm b3 b4 : Nat) (cs s3 s4 : Array Value) : Prop where
  x3 : Box wr b3 46 s3
  x4 : Box wr b4 50 s4
  xa : Box wr ba 53 cs
  hp : Below wP.heap.size wP wr
  gw : w.grownBy wr (some bm)
  ne : wP.heap.size ≤ bm ∧ bm ≠ ba ∧ bm ≠ b3 ∧ bm ≠ b4
theorem LvW.grown {wP w wr w' : World} {ba bm b3 b4 : Nat} {cs s3 s4 : Array Value} (h : LvW wP w wr ba bm b3 b4 cs s3 s4) (hg : wr.grownBy w' (some bm)) : LvW wP w w' ba bm b3 b4 cs s3 s4 := by
  obtain ⟨h1, h2, h3, h4⟩ := h.ne
  exact ⟨h.x3.grown hg (by simpa using h3), h.x4.grown hg (by simpa using h4), h.xa.grown hg (by simpa using h2), h.hp.grown hg h.hp.size (fun k e => by cases e; exact h1), h.gw.trans hg, h.ne⟩
theorem LvW.keep {wP w wr w' : World} {ba bm b3 b4 : Nat} {cs s3 s4 : Array Value} (h : LvW wP w wr ba bm b3 b4 cs s3 s4) (hb : Below wr.heap.size wr w') : LvW wP w w' ba bm b3 b4 cs s3 s4 :=
  h.grown ⟨hb.os, hb.tape, hb.output, hb.size, fun k hk _ => hb.block k hk⟩
theorem belowQ (w : World) (q : Nat) : Below w.heap.size w (w.drewN q) := ⟨rfl, rfl, rfl, Nat.le_refl _, fun _ _ => rfl⟩

set_option maxRecDepth 100000 in
set_option maxHeartbeats 8000000 in
theorem leave_calls {wP w : World} {ba bm q : Nat} {P : Int} {A U V Q : Option Addr} {n0 c nm cu m cv l q0 n : Nat} {ts : List PTran} {ars : List PArc} {tr : List Int} {f : SpM} {dn : List Sp} {k0 m0 : Nat} {c0 Kc : Int}
    (X : Box w ba 53 #[.int .i64 P, .slice A n0 c, .slice U nm cu, .slice V m cv, .slice Q l q0, .map (some bm)]) (M : MapA w bm f q) (hP : Below wP.heap.size wP w) (hbm : wP.heap.size ≤ bm) (hba : bm ≠ ba) (hT : Trans wP A n0 c ts) (hA : Arcs wP V m cv ars) (g : Ints wP Q l q0 tr)
    (ht : ∀ a ∈ ars, Inn n a.to_) (hr : ∀ a ∈ ars, Inn n0 a.tran) (hlb : ∀ a ∈ ars, 0 ≤ atI (labL ⟨P, ts⟩) a.tran) (hn : n ≤ 300) (hl : l ≤ 60) (hm : m ≤ 7200) (hat : InU tr.length n ((k0 : Int), (m0 : Int)))
    (D : DL (Ed ars (atI (labL ⟨P, ts⟩)) tr) (InU tr.length n) f dn ((k0 : Int), (m0 : Int)) c0 (fun _ _ => False)) (hq : q ≤ 900000000) (hc : 0 ≤ c0 ∧ c0 ≤ 1000000) (hB : ∀ v x, f v = some x → x.cost ≤ Kc) (hK : c0 + 1 ≤ Kc) :
    Calls Try.prog 13 #[.pointer (some ⟨ba, 0, none⟩), .agg #[.int .i64 k0, .int .i64 m0]] w fun e w' => (∃ y, e = .returned y) ∧ AnsLeave (Ed ars (atI (labL ⟨P, ts⟩)) tr) (InU tr.length n) dn ((k0 : Int), (m0 : Int)) c0 Kc (Ed ars (atI (labL ⟨P, ts⟩)) tr ((k0 : Int), (m0 : Int))) bm (q + 14401) w w' := by
  obtain ⟨xa, hxa, hda, hca⟩ := D.now
  have LM := hide2 M.lt
  have LA := hide2 X.lt
  have OKAT := hide2 (okS_of (by rw [g.len]; exact hl) hn hat)
  have X0 := hide2 (Box.new w #[.int .i64 k0, .int .i64 m0] 46)
  have B0 := hide2 (boxBelow w (.cells #[.int .i64 k0, .int .i64 m0] 46))
  obtain ⟨yc, ⟨ys, ym⟩, yk, yl, yt, yd⟩ := xa
  simp only at hca hda
  subst hca hda
  have HLK := hide2 (fun (w' : World) (hm : MapA w' bm f q) => show (Instr.lookup 51 (.map (some bm)) (.agg #[.int .i64 (k0 : Int), .int .i64 (m0 : Int)]) false).run Try.prog w' = .ok (.agg #[.int .i64 yc, .int .i64 ys, .int .i64 ym, .int .i64 yk, .int .i64 yl, .int .i64 yt, .bool true]) w' from by
    have := hm.at OKAT.out
    rw [hxa] at this
    exact this)
  have XA := hide2 (X.keep B0.out)
  have MA := hide2 (M.keep B0.out)
  have HT := hide2 hT
  have HA := hide2 hA
  have G := hide2 g
  have HP := hide2 hP
  have HPS := hide2 hP.size
  have GL := hide2 g.len
  have AL := hide2 hA.len
  have HD := hide2 D
  have FT := hide2 (show (∀ a ∈ ars, Inn n a.to_) ∧ (∀ a ∈ ars, Inn n0 a.tran) ∧ (∀ a ∈ ars, 0 ≤ atI (labL ⟨P, ts⟩) a.tran) from ⟨ht, hr, hlb⟩)
  have HAT := hide2 hat
  have HBD := hide2 hB
  obtain ⟨hc1, hc2⟩ := hc
  clear X M hP hT hA g ht hr hlb hat D hB hxa
  go_enter Try.func13, Try.ntmps13
  go_upto_region 1 with fail
  generalize w.alloc (.cells #[.int .i64 k0, .int .i64 m0] 46) = w0 at *
  have DR := hide2 ((Below.refl w0.heap.size w0).drew)
  have Y0 := hide2 (X0.out.keep DR.out)
  have YA := hide2 (XA.out.keep DR.out)
  have YM := hide2 (MA.out.keep DR.out)
  have a5 := YA.out.cell 5
  simp only [List.getElem?_toArray, List.getElem?_cons_zero, List.getElem?_cons_succ] at a5
  obtain ⟨z0, z1⟩ := Y0.out.two
  refine wp_region_scr 7 (.takes [0, 1, 2, 3, 4, 5] (.one 6 (.fin 7 .done))) (fun w' => w'.cell? ⟨ba, 5, none⟩ = some (.map (some bm)) ∧ w'.cell? ⟨w.heap.size, 0, none⟩ = some (.int .i64 k0) ∧ w'.cell? ⟨w.heap.size, 1, none⟩ = some (.int .i64 m0) ∧ MapA w' bm f q) (by kernel_rfl) (by kernel_rfl) (by kernel_rfl) (fun _ _ _ _ _ h => h) ⟨a5, z0, z1, YM.out⟩ (fun hHeld => ?_)
  simp only [Scr.takes]
  clear a5 z0 z1
  generalize w0.drew = w1 at *
  iterate 5
    refine tkTake (v := ?_) rfl (by rfl) hHeld (fun w' hSw => ?_) ?_
    rotate_left
    · (go_simp; try with_reducible rfl)
    try simp only [Act.put, List.setIfInBounds_toArray, List.set_cons_zero, List.set_cons_succ]
  refine tkTake (v := ?_) rfl (by rfl) hHeld (fun w' hSw => ?_) ?_
  rotate_left
  · have hlk := HLK.out w' hSw.2.2.2
    go_simp
    try with_reducible rfl
  try simp only [Act.put, List.setIfInBounds_toArray, List.set_cons_zero, List.set_cons_succ]
  have bz := hide2 (boxBelow w1 (.cells #[.int .i64 0, .int .i64 0, .int .i64 0, .int .i64 0, .int .i64 0, .int .i64 0, .bool false] 50))
  have a5 := (YA.out.keep bz.out).cell 5
  simp only [List.getElem?_toArray, List.getElem?_cons_zero, List.getElem?_cons_succ] at a5
  refine tkOne rfl (fun Kf hKf => ?_)
  go_simp
  refine hKf.out _ _ ⟨a5, (Y0.out.keep bz.out).two.1, (Y0.out.keep bz.out).two.2, YM.out.keep bz.out⟩ (fun hHeld => ?_)
  clear hKf a5 bz
  try simp only [Act.put, List.setIfInBounds_toArray, List.set_cons_zero, List.set_cons_succ]
  have bb := boxBelow w1 (.cells #[.int .i64 yc, .int .i64 ys, .int .i64 ym, .int .i64 yk, .int .i64 yl, .int .i64 yt, .bool true] 50)
  have X4 := hide2 (Box.new w1 #[.int .i64 yc, .int .i64 ys, .int .i64 ym, .int .i64 yk, .int .i64 yl, .int .i64 yt, .bool true] 50)
  have X3 := hide2 (Y0.out.keep bb)
  have B4 := hide2 (show w.heap.size ≤ w1.heap.size from Nat.le_of_lt (Y0.out.lt))
  have XA2 := hide2 (YA.out.keep bb)
  have M2 := hide2 (YM.out.keep bb)
  have BB := hide2 (DR.out.trans (bb.mono DR.out.size))
  have BW := hide2 (B0.out.trans (BB.out.mono B0.out.size))
  have HP2 := hide2 (HP.out.trans (BW.out.mono HPS.out))
  have GW := hide2 (show w.grownBy (w1.alloc (.cells #[.int .i64 yc, .int .i64 ys, .int .i64 ym, .int .i64 yk, .int .i64 yl, .int .i64 yt, .bool true] 50)) (some bm) from ⟨BW.out.os, BW.out.tape, BW.out.output, BW.out.size, fun k hk _ => BW.out.block k hk⟩)
  refine tkEnd rfl (fun Kf hKf => ?_)
  go_simp
  refine hKf.out _ _ ?_
  clear hKf
  refine tkDone ?_
  clear hHeld bb YA YM Y0 BB BW MA XA X0 DR HLK B0 HP
  generalize w1.alloc (.cells #[.int .i64 yc, .int .i64 ys, .int .i64 ym, .int .i64 yk, .int .i64 yl, .int .i64 yt, .bool true] 50) = w2 at *
  generalize w1.heap.size = b4 at *
  have hbx : bm ≠ w.heap.size := by have := LM.out; omega
  obtain ⟨z0, z1⟩ := X3.out.two
  have a4 := XA2.out.cell 4
  simp only [List.getElem?_toArray, List.getElem?_cons_zero, List.getElem?_cons_succ] at a4
  have HBB := hide2 (show bm < b4 from Nat.lt_of_lt_of_le LM.out (by have := B4.out; omega))
  go_upto_region 2 with fail
  go_quiet (fail)
  have LW := hide2 (show LvW wP w w2 ba bm w.heap.size b4 #[.int .i64 P, .slice A n0 c, .slice U nm cu, .slice V m cv, .slice Q l q0, .map (some bm)] #[.int .i64 k0, .int .i64 m0] #[.int .i64 yc, .int .i64 ys, .int .i64 ym, .int .i64 yk, .int .i64 yl, .int .i64 yt, .bool true] from ⟨X3.out, X4.out, XA2.out, HP2.out, GW.out, hbm, hba, hbx, Nat.ne_of_lt HBB.out⟩)
  have LW3 := hide2 (LW.out.keep (belowQ w2 nq))
  have M3 := hide2 (M2.out.keep (belowQ w2 nq))
  clear z0 z1 a4 X3 X4 XA2 HP2 GW LW M2
  generalize w2.drewN nq = w3 at *
  go_upto_if 23 with fail
  go_cut [] (fun wy => ∃ (f' : SpM) (q' : Nat), Hid (LvW wP w wy ba bm w.heap.size b4 #[.int .i64 P, .slice A n0 c, .slice U nm cu, .slice V m cv, .slice Q l q0, .map (some bm)] #[.int .i64 k0, .int .i64 m0] #[.int .i64 yc, .int .i64 ys, .int .i64 ym, .int .i64 yk, .int .i64 yl, .int .i64 yt, .bool true]) ∧ Hid (MapA wy bm f' q') ∧ q' ≤ q + 1 ∧ Hid (DL (Ed ars (atI (labL ⟨P, ts⟩)) tr) (InU tr.length n) f' dn ((k0 : Int), (m0 : Int)) yc (EdA ars (atI (labL ⟨P, ts⟩)) tr ((k0 : Int), (m0 : Int)) 0)) ∧ Hid (∀ v x, f' v = some x → x.cost ≤ Kc))
  case first =>
    by_cases hkl : k0 < l
    · have hkli : (k0 : Int) < (l : Int) := by omega
      obtain ⟨bq, offq, y, rfl, hbq, hy, qy⟩ := (G.out.keep LW3.out.hp).get hkl
      have a4 := LW3.out.xa.cell 4
      obtain ⟨z0, z1⟩ := LW3.out.x3.two
      simp only [List.getElem?_toArray, List.getElem?_cons_zero, List.getElem?_cons_succ] at a4
      go_upto_region 3 with fail
      go_quiet (fail)
      have LW4 := hide2 (LW3.out.keep (belowQ w3 nq))
      have M4 := hide2 (M3.out.keep (belowQ w3 nq))
      have hwk : IntKind.i64.wrap ((k0 : Int) + 1) = (k0 : Int) + 1 := by simp [IntKind.wrap, IntKind.bits, IntKind.signed]; omega
      have hwc : IntKind.i64.wrap (yc + 1) = yc + 1 := by simp [IntKind.wrap, IntKind.bits, IntKind.signed]; omega
      have EDG := hide2 (show Ed ars (atI (labL ⟨P, ts⟩)) tr ((k0 : Int), (m0 : Int)) ((k0 : Int) + 1, (m0 : Int)) 1 from .inl ⟨by rw [GL.out]; exact hkli, rfl, rfl⟩)
      have OKV := hide2 (okS_of (by rw [GL.out]; exact hl) hn (EDG.out.inU FT.out.1 HAT.out))
      clear z0 z1 a4 LW3 M3 qy hy
      generalize w3.drewN nq = w4 at *
      obtain ⟨z0, z1⟩ := LW4.out.x3.two
      obtain ⟨e0, e1, e2, e3, e4, e5, e6⟩ := LW4.out.x4.seven
      clear e1 e2 e3 e4 e5 e6
      go_wp2_with fail
      refine (offer_calls LW4.out.xa rfl M4.out (v := ((k0 : Int) + 1, (m0 : Int))) OKV.out ⟨yc + 1, ((k0 : Int), (m0 : Int)), 2, y, 0, false⟩ (by omega)).mono ?_
      rintro e w5 ⟨⟨yy, rfl⟩, m5, g5⟩
      have LW5 := hide2 (LW4.out.grown g5)
      have M5 := hide2 m5
      have D5 := hide2 ((HD.out.offer (fun u v c h => (h.low FT.out.2.2).1) (fun u v c hu h => h.inU FT.out.1 hu) EDG.out (x := ⟨yc + 1, ((k0 : Int), (m0 : Int)), 2, y, 0, false⟩) rfl rfl rfl).imp (R' := EdA ars (atI (labL ⟨P, ts⟩)) tr ((k0 : Int), (m0 : Int)) 0) (fun v d h => .inr (EdA_zero h).2))
      have C5 := hide2 (offer_le HBD.out (v := ((k0 : Int) + 1, (m0 : Int))) (x := ⟨yc + 1, ((k0 : Int), (m0 : Int)), 2, y, 0, false⟩) hK)
      clear m5 g5 z0 z1 e0
      go_wp2
      go_meet
      exact ⟨_, q + 1, LW5, M5, by omega, D5, C5⟩
    · have D0 := hide2 (HD.out.imp (R' := EdA ars (atI (labL ⟨P, ts⟩)) tr ((k0 : Int), (m0 : Int)) 0) (fun v d h => by have := (EdA_zero h).1; simp only at this; have := GL.out; omega))
      have hkli : ¬ (k0 : Int) < (l : Int) := by omega
      go_wp2
      go_meet
      exact ⟨f, q, LW3, M3, by omega, D0, HBD⟩
  case rest =>
    obtain ⟨f1, q1, LW1, M1, hq1, D1, C1⟩ := hcut
    clear HD HBD LW3 M3
    have a3 := LW1.out.xa.cell 3
    simp only [List.getElem?_toArray, List.getElem?_cons_zero, List.getElem?_cons_succ] at a3
    go_wp2
    clear a3
    go_loopw [53] (fun v wr => ∃ (qq : Nat) (f' : SpM) (q' : Nat), qq ≤ m ∧ v = .int .i64 qq ∧ Hid (LvW wP w wr ba bm w.heap.size b4 #[.int .i64 P, .slice A n0 c, .slice U nm cu, .slice V m cv, .slice Q l q0, .map (some bm)] #[.int .i64 k0, .int .i64 m0] #[.int .i64 yc, .int .i64 ys, .int .i64 ym, .int .i64 yk, .int .i64 yl, .int .i64 yt, .bool true]) ∧ Hid (MapA wr bm f' q') ∧ q' ≤ q + 1 + 2 * qq ∧ Hid (DL (Ed ars (atI (labL ⟨P, ts⟩)) tr) (InU tr.length n) f' dn ((k0 : Int), (m0 : Int)) yc (EdA ars (atI (labL ⟨P, ts⟩)) tr ((k0 : Int), (m0 : Int)) qq)) ∧ Hid (∀ v x, f' v = some x → x.cost ≤ Kc)) (fun v _ => m - (intOf v).toNat)
    case atStart => exact ⟨0, f1, q1, Nat.zero_le _, rfl, LW1, M1, by omega, D1, C1⟩
    case round =>
      clear LW1 M1 D1 C1 hq1 f1 q1
      obtain ⟨qq, f1, q1, hqq, rfl, LW1, M1, hq1, D1, C1⟩ := hrel
      by_cases hlt : qq < m
      · have hki : (qq : Int) < (m : Int) := by omega
        obtain ⟨bl, off, a, rfl, hbl, ha, r0, r1, r2, _⟩ := Arcs.get (Sl.keep ArcR.kept HA.out LW1.out.hp) hlt
        have hmem := List.mem_of_getElem? ha.out
        obtain ⟨t, et, ht⟩ := natOf (FT.out.1 a hmem)
        obtain ⟨r, er, hr⟩ := natOf (FT.out.2.1 a hmem)
        have hl0 := FT.out.2.2 a hmem
        have SKIPD := hide2 (fun (hne : a.from_ ≠ (m0 : Int)) => D1.out.imp (fun v d => EdA_skip ha.out hne))
        have STEP := hide2 (fun v d => EdA_step (lb := (atI (labL ⟨P, ts⟩))) (tr := tr) (u := ((k0 : Int), (m0 : Int))) (v := v) (d := d) ha.out)
        have HMEM := hide2 hmem
        obtain ⟨fr, hfr⟩ : ∃ fr, a.from_ = fr := ⟨_, rfl⟩
        have HFR := hide2 hfr
        rw [hfr] at r0
        rw [er] at r1
        rw [et] at r2
        have bb := boxBelow wr (.cells #[.int .i64 fr, .int .i64 r, .int .i64 t] 62)
        have WA := hide2 (Box.new wr #[.int .i64 fr, .int .i64 r, .int .i64 t] 62)
        have LW2 := hide2 (LW1.out.keep bb)
        have M2 := hide2 (M1.out.keep bb)
        have HBX := hide2 (show bm ≠ wr.heap.size from Nat.ne_of_lt M1.out.lt)
        have ET := hide2 et
        have ER := hide2 er
        clear hfr et er ha hmem LW1 M1
        go_upto_region 8 with fail
        clear bb r0 r1 r2
        generalize wr.alloc (.cells #[.int .i64 fr, .int .i64 r, .int .i64 t] 62) = u0 at *
        generalize wr.heap.size = bx at *
        obtain ⟨t0, t1, t2⟩ := WA.out.three
        obtain ⟨z0, z1⟩ := LW2.out.x3.two
        by_cases hfm : fr = (m0 : Int)
        · subst hfm
          go_upto_region 9 with fail
          have a1 := LW2.out.xa.cell 1
          simp only [List.getElem?_toArray, List.getElem?_cons_zero, List.getElem?_cons_succ] at a1
          obtain ⟨bt, offt, t', A1', n1', c1', A2', n2', c2', rfl, hbt, ht', p0', _, _, _, _, _, _⟩ := (HT.out.keep LW2.out.hp).get hr
          have hrr : (r : Int) < (n0 : Int) := by omega
          obtain ⟨lab, hlab⟩ : ∃ x, t'.label = x := ⟨_, rfl⟩
          have hLB : atI (labL ⟨P, ts⟩) a.tran = lab := by unfold atI labL; rw [ER.out, Int.toNat_natCast, List.getD_eq_getElem?_getD, List.getElem?_map, ht'.out, ← hlab]; rfl
          rw [hlab] at p0'
          rw [hLB] at hl0
          have LBE := hide2 hLB
          clear hlab hLB ht'
          go_quiet (fail)
          have LW3 := hide2 (LW2.out.keep (belowQ u0 nq))
          have M3 := hide2 (M2.out.keep (belowQ u0 nq))
          have WA3 := hide2 (WA.out.keep (belowQ u0 nq))
          clear a1 p0' t0 t1 t2 z0 z1 LW2 M2 WA
          generalize u0.drewN nq = u1 at *
          obtain ⟨W, hW⟩ : ∃ W : Int, min lab 1 = W := ⟨_, rfl⟩
          have HW := hide2 hW
          have hW1 : W ≤ 1 := by omega
          have hW0 : 0 ≤ W := by omega
          have hwr : IntKind.i64.wrap (yc + W) = yc + W := by simp [IntKind.wrap, IntKind.bits, IntKind.signed]; omega
          have EG1 := hide2 (show Ed ars (atI (labL ⟨P, ts⟩)) tr ((k0 : Int), (m0 : Int)) ((k0 : Int), (t : Int)) W from .inr (.inl ⟨a, HMEM.out, HFR.out, by rw [ET.out], by rw [LBE.out, HW.out]⟩))
          have OK1 := hide2 (okS_of (by rw [GL.out]; exact hl) hn (EG1.out.inU FT.out.1 HAT.out))
          obtain ⟨t0, t1, t2⟩ := WA3.out.three
          obtain ⟨z0, z1⟩ := LW3.out.x3.two
          obtain ⟨e0, e1, e2, e3, e4, e5, e6⟩ := LW3.out.x4.seven
          clear e1 e2 e3 e4 e5 e6
          go_wp2_with fail
          refine (offer_calls LW3.out.xa rfl M3.out (v := ((k0 : Int), (t : Int))) OK1.out ⟨yc + W, ((k0 : Int), (m0 : Int)), 3, lab, r, false⟩ (by omega)).mono ?_
          rintro e u2 ⟨⟨yy, rfl⟩, m6, g6⟩
          have LW6 := hide2 (LW3.out.grown g6)
          have M6 := hide2 m6
          have WA6 := hide2 (WA3.out.grown g6 (by simpa using HBX.out))
          have D6 := hide2 (D1.out.offer (fun u v c h => (h.low FT.out.2.2).1) (fun u v c hu h => h.inU FT.out.1 hu) EG1.out (x := ⟨yc + W, ((k0 : Int), (m0 : Int)), 3, lab, r, false⟩) rfl rfl rfl)
          have C6 := hide2 (offer_le C1.out (v := ((k0 : Int), (t : Int))) (x := ⟨yc + W, ((k0 : Int), (m0 : Int)), 3, lab, r, false⟩) (show yc + W ≤ Kc by omega))
          clear m6 g6 t0 t1 t2 z0 z1 e0 hwr hW LW3 M3 WA3 D1 C1
          go_upto_region 12 with fail
          have a4 := LW6.out.xa.cell 4
          simp only [List.getElem?_toArray, List.getElem?_cons_zero, List.getElem?_cons_succ] at a4
          obtain ⟨t0, t1, t2⟩ := WA6.out.three
          obtain ⟨z0, z1⟩ := LW6.out.x3.two
          by_cases hlab0 : 0 < lab
          · by_cases hkl : k0 < l
            · have hkli : (k0 : Int) < (l : Int) := by omega
              obtain ⟨bq, offq, y, rfl, hbq, hy, qy⟩ := (G.out.keep LW6.out.hp).get hkl
              by_cases hyl : y = lab
              · have HY := hide2 hy.out
                clear hy
                subst hyl
                have EG2 := hide2 (show Ed ars (atI (labL ⟨P, ts⟩)) tr ((k0 : Int), (m0 : Int)) ((k0 : Int) + 1, (t : Int)) 0 from .inr (.inr ⟨a, HMEM.out, HFR.out, by rw [GL.out]; exact hkli, by rw [LBE.out]; exact hlab0, by rw [LBE.out]; simpa using HY.out, by rw [ET.out], rfl⟩))
                have OK2 := hide2 (okS_of (by rw [GL.out]; exact hl) hn (EG2.out.inU FT.out.1 HAT.out))
                have hwk : IntKind.i64.wrap ((k0 : Int) + 1) = (k0 : Int) + 1 := by simp [IntKind.wrap, IntKind.bits, IntKind.signed]; omega
                go_quiet (fail)
                have LW7 := hide2 (LW6.out.keep (belowQ u2 nq))
                have M7 := hide2 (M6.out.keep (belowQ u2 nq))
                have WA7 := hide2 (WA6.out.keep (belowQ u2 nq))
                clear a4 z0 z1 t0 t1 t2 qy LW6 M6 WA6
                generalize u2.drewN nq = u3 at *
                obtain ⟨t0, t1, t2⟩ := WA7.out.three
                obtain ⟨z0, z1⟩ := LW7.out.x3.two
                obtain ⟨e0, e1, e2, e3, e4, e5, e6⟩ := LW7.out.x4.seven
                clear e1 e2 e3 e4 e5 e6
                go_wp2_with fail
                refine (offer_calls LW7.out.xa rfl M7.out (v := ((k0 : Int) + 1, (t : Int))) OK2.out ⟨yc, ((k0 : Int), (m0 : Int)), 1, y, r, false⟩ (by omega)).mono ?_
                rintro e u4 ⟨⟨yy', rfl⟩, m8, g8⟩
                have LW8 := hide2 (LW7.out.grown g8)
                have M8 := hide2 m8
                have D8 := hide2 ((D6.out.offer (fun u v c h => (h.low FT.out.2.2).1) (fun u v c hu h => h.inU FT.out.1 hu) EG2.out (x := ⟨yc, ((k0 : Int), (m0 : Int)), 1, y, r, false⟩) (show yc = yc + 0 by omega) rfl rfl).imp (R' := EdA ars (atI (labL ⟨P, ts⟩)) tr ((k0 : Int), (m0 : Int)) (qq + 1)) (fun v d h => by
                  rcases STEP.out v d h with h | ⟨h1, h2⟩ | ⟨_, h1, h2⟩
                  · exact .inl (.inl h)
                  · exact .inl (.inr ⟨by rw [h1, ET.out], by rw [h2, LBE.out, HW.out]⟩)
                  · exact .inr ⟨by rw [h1, ET.out], h2⟩))
                have C8 := hide2 (offer_le C6.out (v := ((k0 : Int) + 1, (t : Int))) (x := ⟨yc, ((k0 : Int), (m0 : Int)), 1, y, r, false⟩) (show yc ≤ Kc by omega))
                clear m8 g8 t0 t1 t2 z0 z1 e0
                go_wp2
                go_roundw
                case rel => exact ⟨qq + 1, _, q1 + 1 + 1, by omega, by go_num, LW8, M8, by omega, D8, C8⟩
                case measure => simp [intOf]; omega
              · have hyb : (y == lab) = false := by simpa using hyl
                have HY := hide2 hy.out
                clear hy
                have DN := hide2 (D6.out.imp (R' := EdA ars (atI (labL ⟨P, ts⟩)) tr ((k0 : Int), (m0 : Int)) (qq + 1)) (fun v d h => by
                  rcases STEP.out v d h with h | ⟨h1, h2⟩ | ⟨⟨g1, g2, g3⟩, _⟩
                  · exact .inl h
                  · exact .inr ⟨by rw [h1, ET.out], by rw [h2, LBE.out, HW.out]⟩
                  · exfalso
                    simp only [LBE.out, Int.toNat_natCast] at g1 g2 g3
                    rw [HY.out] at g3
                    injection g3 with g3
                    exact hyl g3))
                go_quiet (fail)
                have LW7 := hide2 (LW6.out.keep (belowQ u2 nq))
                have M7 := hide2 (M6.out.keep (belowQ u2 nq))
                clear a4 z0 z1 t0 t1 t2 LW6 M6 WA6
                generalize u2.drewN nq = u3 at *
                go_wp2
                go_roundw
                case rel => exact ⟨qq + 1, _, q1 + 1, by omega, by go_num, LW7, M7, by omega, DN, C6⟩
                case measure => simp [intOf]; omega
            · have hkli : ¬ (k0 : Int) < (l : Int) := by omega
              have DN := hide2 (D6.out.imp (R' := EdA ars (atI (labL ⟨P, ts⟩)) tr ((k0 : Int), (m0 : Int)) (qq + 1)) (fun v d h => by
                rcases STEP.out v d h with h | ⟨h1, h2⟩ | ⟨⟨g1, g2, g3⟩, _⟩
                · exact .inl h
                · exact .inr ⟨by rw [h1, ET.out], by rw [h2, LBE.out, HW.out]⟩
                · exfalso
                  simp only [LBE.out, Int.toNat_natCast] at g1 g2 g3
                  have := GL.out
                  omega))
              go_quiet (fail)
              have LW7 := hide2 (LW6.out.keep (belowQ u2 nq))
              have M7 := hide2 (M6.out.keep (belowQ u2 nq))
              clear a4 z0 z1 t0 t1 t2 LW6 M6 WA6
              generalize u2.drewN nq = u3 at *
              go_wp2
              go_roundw
              case rel => exact ⟨qq + 1, _, q1 + 1, by omega, by go_num, LW7, M7, by omega, DN, C6⟩
              case measure => simp [intOf]; omega
          · skip
            have DN := hide2 (D6.out.imp (R' := EdA ars (atI (labL ⟨P, ts⟩)) tr ((k0 : Int), (m0 : Int)) (qq + 1)) (fun v d h => by
              rcases STEP.out v d h with h | ⟨h1, h2⟩ | ⟨⟨g1, g2, g3⟩, _⟩
              · exact .inl h
              · exact .inr ⟨by rw [h1, ET.out], by rw [h2, LBE.out, HW.out]⟩
              · exfalso
                simp only [LBE.out, Int.toNat_natCast] at g1 g2 g3
                omega))
            go_quiet (fail)
            have LW7 := hide2 (LW6.out.keep (belowQ u2 nq))
            have M7 := hide2 (M6.out.keep (belowQ u2 nq))
            clear a4 z0 z1 t0 t1 t2 LW6 M6 WA6
            generalize u2.drewN nq = u3 at *
            go_wp2
            go_roundw
            case rel => exact ⟨qq + 1, _, q1 + 1, by omega, by go_num, LW7, M7, by omega, DN, C6⟩
            case measure => simp [intOf]; omega
        · have hfb : (fr == (m0 : Int)) = false := by simpa using hfm
          have DS := hide2 (SKIPD.out (by rw [HFR.out]; exact hfm))
          go_wp2
          go_roundw
          case rel => exact ⟨qq + 1, f1, q1, by omega, by go_num, LW2, M2, by omega, DS, C1⟩
          case measure => simp [intOf]; omega
      · obtain rfl : qq = m := by omega
        have DF := hide2 (D1.out.imp (R' := Ed ars (atI (labL ⟨P, ts⟩)) tr ((k0 : Int), (m0 : Int))) (fun v d h => by have := EdA_full h; rw [AL.out] at this; exact this))
        go_wp2
        go_end0
        exact ⟨⟨_, rfl⟩, f1, q1, M1.out, by omega, DF.out, LW1.out.gw, C1.out⟩
end Go.Proofs.Ytnidicfanbkgjaa
