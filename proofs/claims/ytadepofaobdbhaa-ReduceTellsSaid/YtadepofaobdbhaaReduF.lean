/- The contracts of only, sum and slices.Max, and of the two closures of series. Conditions: the net is right, the place lies in it. | The contracts of sum and slices.Max on integers. Conditions: the weights are small, the list is not empty. | Plain lemmas for series: a row that is mixed place by place, nets that stay right, a transition put into an owned row. Conditions: none. -/
import Derived.Test.YtadepofaobdbhaaReduB
namespace Go.Proofs.Ytadepofaobdbhaa
open Go.RowKit Go.Maps

/-- Function F, with what it captured, weighs these transitions. -/
structure IsWt (F : FuncId) (cap : Array Value) (w : World) (ts : List PTran) (f : PTran → Int) : Prop where
  enters : ∀ args w, (callFunc F args).run Try.prog w = .ok (.enter F args) w
  calls : ∀ (wr : World) (t : PTran) (A1 : Option Addr) (n1 c1 : Nat) (A2 : Option Addr) (n2 c2 : Nat), Below w.heap.size w wr → t ∈ ts → Ints wr A1 n1 c1 t.pre → Ints wr A2 n2 c2 t.post →
    Calls Try.prog F (#[.agg #[.int .i64 t.label, .slice A1 n1 c1, .slice A2 n2 c2]] ++ cap) wr fun e w' => e = .returned (.int .i64 (f t)) ∧ Below wr.heap.size wr w'
theorem IsWt.keep {F : FuncId} {cap : Array Value} {w w' : World} {ts : List PTran} {f : PTran → Int} (h : IsWt F cap w ts f) (hb : Below w.heap.size w w') : IsWt F cap w' ts f :=
  ⟨h.enters, fun wr t A1 n1 c1 A2 n2 c2 h1 h2 h3 h4 => h.calls wr t A1 n1 c1 A2 n2 c2 (hb.trans (h1.mono hb.size)) h2 h3 h4⟩
set_option maxRecDepth 100000 in
theorem wtpost_is {w : World} {N : PNet} (hok : netOk N = true) {bp p : Nat} (hp : (p : Int) < N.places) (c1 : Box w bp 3 #[.int .i64 p]) :
    IsWt 113 #[.pointer (some ⟨bp, 0, none⟩)] w N.trans (fun t => t.post.getD p 0) where
  enters := fun args w => by kernel_rfl
  calls := fun wr t A1 n1 d1 A2 n2 d2 hb ht i1 i2 => by
    obtain ⟨k, hk, hkt⟩ := List.getElem_of_mem ht
    have hT := netOk_tran hok (show N.trans[k]? = some t by rw [List.getElem?_eq_getElem hk, hkt])
    have e1 : (n1 : Int) = N.places := by have := hT.2.2.1; rw [i1.len] at this; exact this
    have e2 : (n2 : Int) = N.places := by have := hT.2.2.2.1; rw [i2.len] at this; exact this
    have bb := boxBelow wr (.cells #[.int .i64 t.label, .slice A1 n1 d1, .slice A2 n2 d2] 76)
    obtain ⟨b1, o1, x, rfl, hb1, hx, q1⟩ := Ints.get (k := p) (Ints.keep i1 bb) (by omega)
    obtain ⟨b2, o2, y, rfl, hb2, hy, q2⟩ := Ints.get (k := p) (Ints.keep i2 bb) (by omega)
    have y1 : (wr.alloc (.cells #[.int .i64 t.label, .slice (some ⟨b1, o1, none⟩) n1 d1, .slice (some ⟨b2, o2, none⟩) n2 d2] 76)).cell? ⟨bp, 0, none⟩ = some (.int .i64 p) := ((c1.keep hb).old (.cells #[.int .i64 t.label, .slice (some ⟨b1, o1, none⟩) n1 d1, .slice (some ⟨b2, o2, none⟩) n2 d2] 76)).cell 0
    have hi1 : (p : Int) < (n1 : Int) := by omega
    have hi2 : (p : Int) < (n2 : Int) := by omega
    have FN := hide2 (show t.post.getD p 0 = y from getD_get hy.out)
    have BB := hide2 bb
    clear hb ht hk hkt hT e1 e2 i1 i2 c1 hok bb
    show Calls Try.prog 113 #[.agg #[.int .i64 t.label, .slice (some ⟨b1, o1, none⟩) n1 d1, .slice (some ⟨b2, o2, none⟩) n2 d2], .pointer (some ⟨bp, 0, none⟩)] wr (fun e w' => e = .returned (.int .i64 (t.post.getD p 0)) ∧ Below wr.heap.size wr w')
    rw [FN.out]
    go_enter Try.func113, Try.ntmps113
    go_wp2
    go_ret
    exact ⟨rfl, BB.out⟩
set_option maxRecDepth 100000 in
theorem wtpre_is {w : World} {N : PNet} (hok : netOk N = true) {bp p : Nat} (hp : (p : Int) < N.places) (c1 : Box w bp 3 #[.int .i64 p]) :
    IsWt 114 #[.pointer (some ⟨bp, 0, none⟩)] w N.trans (fun t => t.pre.getD p 0) where
  enters := fun args w => by kernel_rfl
  calls := fun wr t A1 n1 d1 A2 n2 d2 hb ht i1 i2 => by
    obtain ⟨k, hk, hkt⟩ := List.getElem_of_mem ht
    have hT := netOk_tran hok (show N.trans[k]? = some t by rw [List.getElem?_eq_getElem hk, hkt])
    have e1 : (n1 : Int) = N.places := by have := hT.2.2.1; rw [i1.len] at this; exact this
    have e2 : (n2 : Int) = N.places := by have := hT.2.2.2.1; rw [i2.len] at this; exact this
    have bb := boxBelow wr (.cells #[.int .i64 t.label, .slice A1 n1 d1, .slice A2 n2 d2] 76)
    obtain ⟨b1, o1, x, rfl, hb1, hx, q1⟩ := Ints.get (k := p) (Ints.keep i1 bb) (by omega)
    obtain ⟨b2, o2, y, rfl, hb2, hy, q2⟩ := Ints.get (k := p) (Ints.keep i2 bb) (by omega)
    have y1 : (wr.alloc (.cells #[.int .i64 t.label, .slice (some ⟨b1, o1, none⟩) n1 d1, .slice (some ⟨b2, o2, none⟩) n2 d2] 76)).cell? ⟨bp, 0, none⟩ = some (.int .i64 p) := ((c1.keep hb).old (.cells #[.int .i64 t.label, .slice (some ⟨b1, o1, none⟩) n1 d1, .slice (some ⟨b2, o2, none⟩) n2 d2] 76)).cell 0
    have hi1 : (p : Int) < (n1 : Int) := by omega
    have hi2 : (p : Int) < (n2 : Int) := by omega
    have FN := hide2 (show t.pre.getD p 0 = x from getD_get hx.out)
    have BB := hide2 bb
    clear hb ht hk hkt hT e1 e2 i1 i2 c1 hok bb
    show Calls Try.prog 114 #[.agg #[.int .i64 t.label, .slice (some ⟨b1, o1, none⟩) n1 d1, .slice (some ⟨b2, o2, none⟩) n2 d2], .pointer (some ⟨bp, 0, none⟩)] wr (fun e w' => e = .returned (.int .i64 (t.pre.getD p 0)) ∧ Below wr.heap.size wr w')
    rw [FN.out]
    go_enter Try.func114, Try.ntmps114
    go_wp2
    go_ret
    exact ⟨rfl, BB.out⟩
set_option maxRecDepth 100000 in
theorem pos1_pred {w : World} {ts : List PTran} {F : FuncId} {cap : Array Value} {f : PTran → Int} {bf : Nat} (hw : IsWt F cap w ts f) (hb : Box w bf 149 #[.func (.func F) #[] cap]) :
    IsPredT 149 #[.pointer (some ⟨bf, 0, none⟩)] w ts (fun t => posB (f t)) where
  enters := fun args w => by kernel_rfl
  calls := fun wr t A1 n1 d1 A2 n2 d2 hbl ht i1 i2 => by
    have henter := hw.enters
    have bb := boxBelow wr (.cells #[.int .i64 t.label, .slice A1 n1 d1, .slice A2 n2 d2] 76)
    have y1 : (wr.alloc (.cells #[.int .i64 t.label, .slice A1 n1 d1, .slice A2 n2 d2] 76)).cell? ⟨bf, 0, none⟩ = some (.func (.func F) #[] cap) := ((hb.keep hbl).old _).cell 0
    have CL := hide2 (hw.calls _ t A1 n1 d1 A2 n2 d2 (hbl.trans (bb.mono hbl.size)) ht (Ints.keep i1 bb) (Ints.keep i2 bb))
    have BB := hide2 bb
    obtain ⟨x, hx⟩ : ∃ x, f t = x := ⟨_, rfl⟩
    rw [hx] at CL
    have FN := hide2 (show posB (f t) = decide (0 < x) by rw [hx]; rfl)
    clear hb hbl ht i1 i2 bb hw hx
    show Calls Try.prog 149 #[.agg #[.int .i64 t.label, .slice A1 n1 d1, .slice A2 n2 d2], .pointer (some ⟨bf, 0, none⟩)] wr (fun e w' => e = .returned (.bool (posB (f t))) ∧ Below wr.heap.size wr w')
    rw [FN.out]
    go_enter Try.func149, Try.ntmps149
    go_wp2_with ((with_reducible refine CL.out.mono ?_); rintro e w2 ⟨rfl, hb⟩; have B2 := hide2 (BB.out.trans (hb.mono BB.out.size)); clear hb)
    go_ret
    exact ⟨by first | rfl | simp, B2.out⟩
set_option maxRecDepth 100000 in
theorem pos2_pred {w : World} {ts : List PTran} {F : FuncId} {cap : Array Value} {f : PTran → Int} {bf : Nat} (hw : IsWt F cap w ts f) (hb : Box w bf 149 #[.func (.func F) #[] cap]) :
    IsPredT 150 #[.pointer (some ⟨bf, 0, none⟩)] w ts (fun t => posB (f t)) where
  enters := fun args w => by kernel_rfl
  calls := fun wr t A1 n1 d1 A2 n2 d2 hbl ht i1 i2 => by
    have henter := hw.enters
    have bb := boxBelow wr (.cells #[.int .i64 t.label, .slice A1 n1 d1, .slice A2 n2 d2] 76)
    have y1 : (wr.alloc (.cells #[.int .i64 t.label, .slice A1 n1 d1, .slice A2 n2 d2] 76)).cell? ⟨bf, 0, none⟩ = some (.func (.func F) #[] cap) := ((hb.keep hbl).old _).cell 0
    have CL := hide2 (hw.calls _ t A1 n1 d1 A2 n2 d2 (hbl.trans (bb.mono hbl.size)) ht (Ints.keep i1 bb) (Ints.keep i2 bb))
    have BB := hide2 bb
    obtain ⟨x, hx⟩ : ∃ x, f t = x := ⟨_, rfl⟩
    rw [hx] at CL
    have FN := hide2 (show posB (f t) = decide (0 < x) by rw [hx]; rfl)
    clear hb hbl ht i1 i2 bb hw hx
    show Calls Try.prog 150 #[.agg #[.int .i64 t.label, .slice A1 n1 d1, .slice A2 n2 d2], .pointer (some ⟨bf, 0, none⟩)] wr (fun e w' => e = .returned (.bool (posB (f t))) ∧ Below wr.heap.size wr w')
    rw [FN.out]
    go_enter Try.func150, Try.ntmps150
    go_wp2_with ((with_reducible refine CL.out.mono ?_); rintro e w2 ⟨rfl, hb⟩; have B2 := hide2 (BB.out.trans (hb.mono BB.out.size)); clear hb)
    go_ret
    exact ⟨by first | rfl | simp, B2.out⟩
theorem IsWt.sub {F : FuncId} {cap : Array Value} {w : World} {ts ts' : List PTran} {f : PTran → Int} (h : IsWt F cap w ts f) (hs : ∀ t, t ∈ ts' → t ∈ ts) : IsWt F cap w ts' f :=
  ⟨h.enters, fun wr t A1 n1 c1 A2 n2 c2 h1 h2 h3 h4 => h.calls wr t A1 n1 c1 A2 n2 c2 h1 (hs t h2) h3 h4⟩
theorem Sl.dropN {α : Type} {R : World → (Nat → Value) → α → Prop} {sz : Nat} {w : World} {b off n c k : Nat} {xs : List α} (h : Sl R sz w (some ⟨b, off, none⟩) n c xs) (hk : k ≤ n) :
    ∃ A, (if c = k then some (⟨b, off, none⟩ : Addr) else some ⟨b, off + k * sz, none⟩) = A ∧ Sl R sz w A (n - k) (c - k) (xs.drop k) := by
  have h1 := h.le
  have h2 := h.cap
  have h3 := h.small
  refine ⟨_, rfl, by rw [List.length_drop, h.len], by omega, by omega, by omega, (fun e => by split at e <;> cases e), fun hn => ?_⟩
  rw [if_neg (by omega)]
  obtain ⟨b', off', e, hb, hc⟩ := h.cells (by omega)
  injection e with e
  injection e with e1 e2
  subst e1 e2
  refine ⟨b, off + k * sz, rfl, hb, fun i x hx => ?_⟩
  rw [List.getElem?_drop] at hx
  obtain ⟨vs, a, r⟩ := hc _ x hx
  refine ⟨vs, fun j hj => ?_, r⟩
  rw [← a j hj, Nat.add_mul]
  congr 2
  omega
theorem only_cases (f : PTran → Int) (ts : List PTran) :
    (idxFirst (fun t => posB (f t)) ts = -1 ∧ onlyL (ts.map f) = -1) ∨
    ∃ (k : Nat) (t : PTran), idxFirst (fun t => posB (f t)) ts = (k : Int) ∧ ts[k]? = some t ∧ onlyL (ts.map f) = if f t = 1 ∧ ((ts.drop (k + 1)).any fun t => posB (f t)) = false then (k : Int) else -1 := by
  have e : (ts.map f).findIdx? posB = ts.findIdx? fun t => posB (f t) := by rw [List.findIdx?_map]; rfl
  unfold idxFirst onlyL
  rw [e]
  cases h : ts.findIdx? fun t => posB (f t) with
  | none => exact .inl ⟨rfl, rfl⟩
  | some k =>
    rw [List.findIdx?_eq_some_iff_getElem] at h
    obtain ⟨hk, _⟩ := h
    refine .inr ⟨k, ts[k], rfl, List.getElem?_eq_getElem hk, ?_⟩
    have e1 : (ts.map f).getD k 0 = f ts[k] := by simp [List.getElem?_eq_getElem hk]
    have e2 : ((ts.map f).drop (k + 1)).any posB = (ts.drop (k + 1)).any fun t => posB (f t) := by rw [← List.map_drop, List.any_map]; rfl
    simp only [e1, e2]
set_option maxRecDepth 100000 in
set_option maxHeartbeats 4000000 in
theorem only_calls {w : World} {A : Option Addr} {n c : Nat} {ts : List PTran} {F : FuncId} {cap : Array Value} {f : PTran → Int} (h : Trans w A n c ts) (hw : IsWt F cap w ts f) (hn : n ≤ 24) :
    Calls Try.prog 112 #[.slice A n c, .func (.func F) #[] cap] w (fun e w' => e = .returned (.int .i64 (onlyL (ts.map f))) ∧ Below w.heap.size w w') := by
  have henter := hw.enters
  generalize hw1 : w.alloc (.cells #[.func (.func F) #[] cap] 149) = w1
  have B1 : Below w.heap.size w w1 := by rw [← hw1]; exact boxBelow _ _
  have X1 := hide2 (show Box w1 w.heap.size 149 #[.func (.func F) #[] cap] by rw [← hw1]; exact Box.new _ _ _)
  have HW := hide2 (hw.keep B1)
  have H := hide2 (Trans.keep h B1)
  have C1 := hide2 (indexTrans_calls H.out (pos1_pred HW.out X1.out))
  have BB1 := hide2 B1
  have HL := hide2 h.len
  clear h hw B1
  go_enter Try.func112, Try.ntmps112
  go_upto_region 1 with fail
  clear hw1
  go_upto_region 2 with ((with_reducible refine C1.out.mono ?_); rintro e w2 ⟨rfl, hb⟩)
  have X2 := hide2 (X1.out.keep hb)
  have BB2 := hide2 (BB1.out.trans (hb.mono BB1.out.size))
  have HW2 := hide2 (HW.out.keep hb)
  have H2 := hide2 (Trans.keep H.out hb)
  have x2 : w2.cell? ⟨w.heap.size, 0, none⟩ = some (.func (.func F) #[] cap) := X2.out.cell 0
  clear hb X1 HW H C1 BB1
  rcases only_cases f ts with ⟨hI, hO⟩ | ⟨k, t, hI, ht, hO⟩
  · have HO := hide2 hO
    rw [hI]
    clear hI hO
    go_quiet (fail)
    go_wp2
    go_ret
    exact ⟨by rw [HO.out]; rfl, BB2.out.trans ((Drew.drewN _ _).below.mono BB2.out.size)⟩
  · have hkn : k < n := by rw [← HL.out]; exact (List.getElem?_eq_some_iff.1 ht).1
    rw [hI]
    have HT := hide2 ht
    obtain ⟨bl, off, t', A1, n1, c1, A2, n2, c2, rfl, hbl, ht', q0, q1, q2, i1, i2, m1, m2⟩ := Trans.get H2.out hkn
    obtain rfl : t = t' := by have := ht'.out; rw [ht] at this; injection this
    have hcn := H2.out.le
    obtain ⟨A', hA', hs'⟩ := Sl.dropN (k := k + 1) H2.out hkn
    obtain ⟨x, hx⟩ : ∃ x, f t = x := ⟨_, rfl⟩
    obtain ⟨y, hy⟩ : ∃ y, ((ts.drop (k + 1)).any fun t => posB (f t)) = y := ⟨_, rfl⟩
    rw [hx, hy] at hO
    have HO := hide2 hO
    have HY := hide2 hy
    have SD := hide2 hs'
    have CL := hide2 (HW2.out.calls w2.drew t A1 n1 c1 A2 n2 c2 (Below.refl _ _).drew (List.mem_of_getElem? ht) (Ints.keep i1 (Below.refl _ _).drew) (Ints.keep i2 (Below.refl _ _).drew))
    rw [hx] at CL
    have hk1 : (0 : Int) ≤ (k : Int) + 1 := by omega
    have hk2 : (k : Int) + 1 ≤ (n : Int) := by omega
    have hkc : k + 1 ≤ c := by omega
    have hwr : IntKind.i64.wrap ((k : Int) + 1) = (k : Int) + 1 := by simp [IntKind.wrap, go_sem]; omega
    have htn : ((k : Int) + 1).toNat = k + 1 := by omega
    have LT := hide2 hbl
    have Q := hide2 (And.intro q0 (And.intro q1 q2))
    clear hI ht ht' hx hy hO hs' i1 i2 m1 m2
    refine wp_region_scr 18 (.takes [0, 1, 2, 3, 4, 5, 6, 7] (.one 8 (.takes [9, 10, 11, 12, 13, 14, 15, 16] (.one 17 (.fin 18 .done))))) (fun w' => w'.cell? ⟨w.heap.size, 0, none⟩ = some (.func (.func F) #[] cap) ∧ w'.cell? ⟨bl, off + k * 3, none⟩ = some (.int .i64 t.label) ∧ w'.cell? ⟨bl, off + k * 3 + 1, none⟩ = some (.slice A1 n1 c1) ∧ w'.cell? ⟨bl, off + k * 3 + 2, none⟩ = some (.slice A2 n2 c2)) (by kernel_rfl) (by kernel_rfl) (by kernel_rfl) (fun _ _ _ _ _ h => h) ⟨x2, q0, q1, q2⟩ (fun hHeld => ?_)
    simp only [Scr.takes]
    iterate 1
      refine tkTake (v := ?_) rfl (by rfl) hHeld (fun w' hSw => ?_) ?_
      rotate_left
      · (go_simp; try with_reducible rfl)
      try simp only [Act.put, List.setIfInBounds_toArray, List.set_cons_zero, List.set_cons_succ]
    refine tkTake (v := .bool false) rfl (by rfl) hHeld (fun w' hSw => ?_) ?_
    · (go_simp; try with_reducible rfl)
    simp only [Act.put, List.setIfInBounds_toArray, List.set_cons_zero, List.set_cons_succ]
    refine tkTake (v := .bool false) rfl (by rfl) hHeld (fun w' hSw => ?_) ?_
    · (go_simp; try with_reducible rfl)
    simp only [Act.put, List.setIfInBounds_toArray, List.set_cons_zero, List.set_cons_succ]
    iterate 5
      refine tkTake (v := ?_) rfl (by rfl) hHeld (fun w' hSw => ?_) ?_
      rotate_left
      · (go_simp; try with_reducible rfl)
      try simp only [Act.put, List.setIfInBounds_toArray, List.set_cons_zero, List.set_cons_succ]
    refine tkOne rfl (fun K hK => ?_)
    go_simp
    (with_reducible refine CL.out.mono ?_)
    rintro e w3 ⟨rfl, hb⟩
    have D3 := hide2 (show Below w2.heap.size w2 w3 from (Below.refl _ _).drew.trans hb)
    have z0 := (D3.out.cell (p := ⟨w.heap.size, 0, none⟩) X2.out.lt).trans x2
    have z1 := (D3.out.cell (p := ⟨bl, off + k * 3, none⟩) LT.out).trans q0
    have z2 := (D3.out.cell (p := ⟨bl, off + k * 3 + 1, none⟩) LT.out).trans q1
    have z3 := (D3.out.cell (p := ⟨bl, off + k * 3 + 2, none⟩) LT.out).trans q2
    clear hb
    refine hK.out _ _ ⟨z0, z1, z2, z3⟩ (fun hHeld => ?_)
    clear hK
    try simp only [Act.put, List.setIfInBounds_toArray, List.set_cons_zero, List.set_cons_succ]
    by_cases hx1 : x = 1
    · have CC := hide2 (containsTrans_calls (Trans.keep (w := w2) SD.out D3.out) (pos2_pred ((HW2.out.keep D3.out).sub fun t ht => List.mem_of_mem_drop ht) (X2.out.keep D3.out)))
      rw [HY.out] at CC
      subst hx1
      refine tkTake (v := .bool false) rfl (by rfl) hHeld (fun w' hSw => ?_) ?_
      · (go_simp; try with_reducible rfl)
      simp only [Act.put, List.setIfInBounds_toArray, List.set_cons_zero, List.set_cons_succ]
      refine tkTake (v := .bool false) rfl (by rfl) hHeld (fun w' hSw => ?_) ?_
      · (go_simp; try with_reducible rfl)
      simp only [Act.put, List.setIfInBounds_toArray, List.set_cons_zero, List.set_cons_succ]
      refine tkTake (v := .bool false) rfl (by rfl) hHeld (fun w' hSw => ?_) ?_
      · (go_simp; try with_reducible rfl)
      simp only [Act.put, List.setIfInBounds_toArray, List.set_cons_zero, List.set_cons_succ]
      iterate 5
        refine tkTake (v := ?_) rfl (by rfl) hHeld (fun w' hSw => ?_) ?_
        rotate_left
        · (go_simp; try with_reducible rfl)
        try simp only [Act.put, List.setIfInBounds_toArray, List.set_cons_zero, List.set_cons_succ]
      refine tkOne rfl (fun K hK => ?_)
      go_simp
      (with_reducible refine CC.out.mono ?_)
      rintro e w4 ⟨rfl, hb⟩
      have D4 := hide2 (D3.out.trans (hb.mono D3.out.size))
      have v0 := (D4.out.cell (p := ⟨w.heap.size, 0, none⟩) X2.out.lt).trans x2
      have v1 := (D4.out.cell (p := ⟨bl, off + k * 3, none⟩) LT.out).trans q0
      have v2 := (D4.out.cell (p := ⟨bl, off + k * 3 + 1, none⟩) LT.out).trans q1
      have v3 := (D4.out.cell (p := ⟨bl, off + k * 3 + 2, none⟩) LT.out).trans q2
      clear hb
      refine hK.out _ _ ⟨v0, v1, v2, v3⟩ (fun hHeld => ?_)
      clear hK
      try simp only [Act.put, List.setIfInBounds_toArray, List.set_cons_zero, List.set_cons_succ]
      refine tkEnd rfl (fun K hK => ?_)
      go_simp
      refine hK.out _ _ ?_
      clear hK
      try simp only [Act.put, List.setIfInBounds_toArray, List.set_cons_zero, List.set_cons_succ]
      refine tkDone ?_
      cases y
      · have HF := hide2 (show onlyL (ts.map f) = (k : Int) by rw [HO.out]; rfl)
        go_wp2
        go_ret
        exact ⟨by rw [HF.out]; rfl, BB2.out.trans (D4.out.mono BB2.out.size)⟩
      · have HF := hide2 (show onlyL (ts.map f) = -1 by rw [HO.out]; rfl)
        go_wp2
        go_ret
        exact ⟨by rw [HF.out]; rfl, BB2.out.trans (D4.out.mono BB2.out.size)⟩
    · have HF := hide2 (show onlyL (ts.map f) = -1 by rw [HO.out, if_neg (fun e => hx1 e.1)])
      refine tkTake (v := .bool true) rfl (by rfl) hHeld (fun w' hSw => ?_) ?_
      · (go_simp; try with_reducible rfl)
      simp only [Act.put, List.setIfInBounds_toArray, List.set_cons_zero, List.set_cons_succ]
      refine tkTake (v := .bool true) rfl (by rfl) hHeld (fun w' hSw => ?_) ?_
      · (go_simp; try with_reducible rfl)
      simp only [Act.put, List.setIfInBounds_toArray, List.set_cons_zero, List.set_cons_succ]
      refine tkTake (v := .bool true) rfl (by rfl) hHeld (fun w' hSw => ?_) ?_
      · (go_simp; try with_reducible rfl)
      simp only [Act.put, List.setIfInBounds_toArray, List.set_cons_zero, List.set_cons_succ]
      iterate 5
        refine tkSkip rfl (by rfl) hHeld ?_
        simp only [Act.put, List.setIfInBounds_toArray, List.set_cons_zero, List.set_cons_succ]
      refine tkOne rfl (fun K hK => ?_)
      go_simp
      refine hK.out _ _ ⟨z0, z1, z2, z3⟩ (fun hHeld => ?_)
      clear hK
      try simp only [Act.put, List.setIfInBounds_toArray, List.set_cons_zero, List.set_cons_succ]
      refine tkEnd rfl (fun K hK => ?_)
      go_simp
      refine hK.out _ _ ?_
      clear hK
      try simp only [Act.put, List.setIfInBounds_toArray, List.set_cons_zero, List.set_cons_succ]
      refine tkDone ?_
      go_wp2
      go_ret
      exact ⟨by rw [HF.out]; rfl, BB2.out.trans (D3.out.mono BB2.out.size)⟩
end Go.Proofs.Ytadepofaobdbhaa
namespace Go.Proofs.Ytadepofaobdbhaa
open Go.RowKit

theorem sum_take_succ {xs : List Int} {k : Nat} {x : Int} (h : xs[k]? = some x) : (xs.take (k + 1)).sum = (xs.take k).sum + x := by
  obtain ⟨hk, rfl⟩ := List.getElem?_eq_some_iff.1 h
  rw [List.take_succ_eq_append_getElem hk, List.sum_append]
  simp
set_option maxRecDepth 100000 in
theorem sum_calls {w : World} {A : Option Addr} {n c : Nat} {xs : List Int} (h : Ints w A n c xs) (hx : ∀ x, x ∈ xs → 0 ≤ x ∧ x ≤ 9) (hn : n ≤ 1000) :
    Calls Try.prog 115 #[.slice A n c] w (fun e w' => e = .returned (.int .i64 xs.sum) ∧ w' = w) := by
  have H := hide2 h
  have HL := hide2 h.len
  have HX := hide2 hx
  clear h hx
  go_enter Try.func115, Try.ntmps115
  go_wp2
  go_loopg [3, 8] n (fun gk v i wr => ∃ (k : Nat) (S : Int), k + gk = n ∧ i = .int .i64 k ∧ v = .int .i64 S ∧ Hid (S = (xs.take k).sum) ∧ 0 ≤ S ∧ S ≤ 9 * (k : Int) ∧ Hid (wr = w))
  case atStart => exact ⟨0, 0, by omega, rfl, rfl, rfl, by omega, by omega, rfl⟩
  case round =>
    obtain ⟨k, S, hk, rfl, rfl, hS, h0, h9, hw⟩ := hrel
    obtain rfl := hw.out
    by_cases hlt : k < n
    · obtain ⟨b, off, x, rfl, hb, hx, hc⟩ := Ints.get H.out hlt
      have hm := HX.out x (List.mem_of_getElem? hx.out)
      have hx0 := hm.1
      have hx9 := hm.2
      have hn' : S + x ≤ 9009 := by omega
      have NX := hide2 (show S + x = (xs.take (k + 1)).sum by rw [sum_take_succ hx.out, ← hS.out])
      have NB := hide2 (show 0 ≤ S + x ∧ S + x ≤ 9 * ((k + 1 : Nat) : Int) by constructor <;> omega)
      clear hm
      go_wp2
      go_roundg (gk - 1)
      case measure => omega
      case rel => exact ⟨k + 1, S + x, by omega, by go_num, by simp, NX.out, NB.out.1, NB.out.2, by first | exact hw | rfl⟩
    · obtain rfl : k = n := by omega
      have E := hide2 (show S = xs.sum by have := hS.out; rwa [List.take_of_length_le (by rw [HL.out]; omega)] at this)
      go_wp2
      go_ret
      exact ⟨by rw [← E.out]; rfl, rfl⟩

/-- What slices.Max answers. -/
def AnsMax (xs : List Int) (w : World) (e : Ending) (w' : World) : Prop := ∃ m, e = .returned (.int .i64 m) ∧ w' = w ∧ m ∈ xs ∧ ∀ x ∈ xs, x ≤ m
def MaxOf (xs : List Int) (m : Int) : Prop := m ∈ xs ∧ ∀ x ∈ xs, x ≤ m
theorem MaxOf.next {xs : List Int} {k : Nat} {x m M : Int} (hx : xs[k]? = some x) (h : MaxOf (xs.take k) m) (hM : max m x = M) : MaxOf (xs.take (k + 1)) M := by
  obtain ⟨hk, rfl⟩ := List.getElem?_eq_some_iff.1 hx
  rw [List.take_succ_eq_append_getElem hk]
  subst hM
  refine ⟨?_, fun y hy => ?_⟩
  · by_cases hc : m ≤ xs[k]
    · rw [Int.max_eq_right hc]; exact List.mem_append_right _ (by simp)
    · rw [Int.max_eq_left (by omega)]; exact List.mem_append_left _ h.1
  · rw [List.mem_append] at hy
    rcases hy with hy | hy
    · exact Int.le_trans (h.2 y hy) (Int.le_max_left _ _)
    · simp only [List.mem_singleton] at hy
      subst hy
      exact Int.le_max_right _ _
set_option maxRecDepth 100000 in
theorem max_calls {w : World} {A : Option Addr} {n c : Nat} {xs : List Int} (h : Ints w A n c xs) (hn : 0 < n) :
    Calls Try.prog 116 #[.slice A n c] w (AnsMax xs w) := by
  have hs := h.small
  have H := hide2 h
  have HL := hide2 h.len
  obtain ⟨b0, off0, x0, hA, hb0, hx0, hc0⟩ := Ints.get h hn
  have M0 := hide2 (show MaxOf (xs.take 1) x0 by
    obtain ⟨hk, e⟩ := List.getElem?_eq_some_iff.1 hx0.out
    rw [show xs.take 1 = [x0] by rw [List.take_succ_eq_append_getElem hk, e]; rfl]
    exact ⟨by simp, fun y hy => by simp at hy; omega⟩)
  subst hA
  rw [Nat.add_zero] at hc0
  have hn1 : ¬ (n : Int) < 1 := by omega
  clear h
  go_enter Try.func116, Try.ntmps116
  go_wp2
  go_loopg [3, 4] (n - 1) (fun gk v i wr => ∃ (k : Nat) (m : Int), k + gk = n ∧ 0 < k ∧ i = .int .i64 k ∧ v = .int .i64 m ∧ Hid (MaxOf (xs.take k) m) ∧ Hid (wr = w))
  case atStart => exact ⟨1, x0, by omega, by omega, rfl, rfl, M0.out, rfl⟩
  case round =>
    obtain ⟨k, m, hk, h1, rfl, rfl, hm, hw⟩ := hrel
    obtain rfl := hw.out
    by_cases hlt : k < n
    · obtain ⟨b, off, x, hA, hb, hx, hc⟩ := Ints.get H.out hlt
      injection hA with hA
      injection hA with e1 e2
      subst e1 e2
      obtain ⟨M, hM⟩ : ∃ M, max m x = M := ⟨_, rfl⟩
      have NX := hide2 (hm.out.next hx.out hM)
      go_wp2
      go_roundg (gk - 1)
      case measure => omega
      case rel => exact ⟨k + 1, M, by omega, by omega, by go_num, by simp, NX.out, by first | exact hw | rfl⟩
    · obtain rfl : k = n := by omega
      have E := hide2 (show MaxOf xs m by have := hm.out; rwa [List.take_of_length_le (by rw [HL.out]; omega)] at this)
      go_wp2
      go_ret
      exact ⟨_, rfl, rfl, E.out.1, E.out.2⟩
end Go.Proofs.Ytadepofaobdbhaa
namespace Go.Proofs.Ytadepofaobdbhaa
open Go.RowKit

theorem onlyL_cases (ws : List Int) : onlyL ws = -1 ∨ ∃ k : Nat, onlyL ws = (k : Int) ∧ k < ws.length := by
  unfold onlyL
  cases h : ws.findIdx? posB with
  | none => exact .inl rfl
  | some k =>
    rw [List.findIdx?_eq_some_iff_getElem] at h
    obtain ⟨hk, _⟩ := h
    simp only
    split
    · exact .inr ⟨k, rfl, hk⟩
    · exact .inl rfl
/-- The first q places added, the rest as they were. -/
def mixQ (a b : List Int) (q : Nat) : List Int := (List.range a.length).map fun j => if j < q then a.getD j 0 + b.getD j 0 else a.getD j 0
theorem mixQ_length (a b : List Int) (q : Nat) : (mixQ a b q).length = a.length := by simp [mixQ]
theorem mixQ_zero (a b : List Int) : mixQ a b 0 = a := by
  apply List.ext_getElem
  · simp [mixQ]
  · intro i h1 h2
    simp [mixQ, List.getElem?_eq_getElem h2]
theorem mixQ_all (a b : List Int) : mixQ a b a.length = addL a b := by
  apply List.ext_getElem
  · simp [mixQ, addL]
  · intro i h1 h2
    simp only [mixQ_length] at h1
    simp [mixQ, addL, h1]
theorem mixQ_get {a b : List Int} {q : Nat} {x : Int} (h : a[q]? = some x) : (mixQ a b q)[q]? = some x := by
  obtain ⟨hq, rfl⟩ := List.getElem?_eq_some_iff.1 h
  simp [mixQ, hq]
theorem mixQ_set {a b : List Int} {q : Nat} {x y : Int} (hx : a[q]? = some x) (hy : b[q]? = some y) : (mixQ a b q).set q (x + y) = mixQ a b (q + 1) := by
  obtain ⟨hq, rfl⟩ := List.getElem?_eq_some_iff.1 hx
  apply List.ext_getElem
  · simp [mixQ]
  · intro i h1 h2
    rw [List.getElem_set]
    split
    · rename_i e
      subst e
      simp [mixQ, hq, hy]
    · rename_i e
      simp only [mixQ_length] at h2
      have : (i < q ↔ i < q + 1) := by omega
      simp [mixQ, this]

theorem netOk_set {P : Int} {ts : List PTran} (h : netOk ⟨P, ts⟩ = true) {k : Nat} {t : PTran} (ht : tranOk P t = true) : netOk ⟨P, ts.set k t⟩ = true := by
  rw [netOk_iff] at h ⊢
  refine ⟨h.1, h.2.1, by simpa using h.2.2.1, fun u hu => ?_⟩
  rcases List.mem_or_eq_of_mem_set hu with hu | rfl
  · exact h.2.2.2 u hu
  · exact ht
theorem netOk_erase {P : Int} {ts : List PTran} (h : netOk ⟨P, ts⟩ = true) (k : Nat) : netOk ⟨P, ts.eraseIdx k⟩ = true := by
  rw [netOk_iff] at h ⊢
  refine ⟨h.1, h.2.1, Nat.le_trans (List.length_eraseIdx_le _ _) h.2.2.1, fun u hu => h.2.2.2 u (List.mem_of_mem_eraseIdx hu)⟩
theorem netOk_dropP {s : PSm} (h : netOk s.net = true) {p : Nat} (hp : (p : Int) < s.net.places) : netOk (dropP s p).net = true := by
  rw [netOk_iff] at h ⊢
  refine ⟨by show 0 ≤ s.net.places - 1; omega, by show s.net.places - 1 ≤ 16; omega, by show (s.net.trans.map (dropPl p)).length ≤ 24; simpa using h.2.2.1, fun u hu => ?_⟩
  obtain ⟨t, ht, rfl⟩ := List.mem_map.1 (show u ∈ s.net.trans.map (dropPl p) from hu)
  have := (tranOk_iff _ _).1 (h.2.2.2 t ht)
  obtain ⟨h1, h2, h3, h4, h5, h6⟩ := this
  show tranOk (s.net.places - 1) (dropPl p t) = true
  rw [tranOk_iff]
  have hany : ∀ l : List Int, l.any badW = false → (l.eraseIdx p).any badW = false := fun l hl => by
    rw [List.any_eq_false] at hl ⊢
    exact fun x hx => hl x (List.mem_of_mem_eraseIdx hx)
  refine ⟨h1, h2, ?_, ?_, hany _ h5, hany _ h6⟩
  · show (((t.pre.eraseIdx p).length : Nat) : Int) = s.net.places - 1
    rw [List.length_eraseIdx_of_lt (by omega)]; omega
  · show (((t.post.eraseIdx p).length : Nat) : Int) = s.net.places - 1
    rw [List.length_eraseIdx_of_lt (by omega)]; omega
theorem merge_nonneg {t u : PTran} {p : Nat} (ht : t.post.any badW = false) (hu : u.post.any badW = false) : ∀ x ∈ (mergeT t u p).post, 0 ≤ x ∧ x ≤ 18 := by
  intro x hx
  rcases List.mem_or_eq_of_mem_set (show x ∈ (addL t.post u.post).set p 0 from hx) with hx | rfl
  · obtain ⟨q, hq, rfl⟩ := List.mem_map.1 (show x ∈ (List.range t.post.length).map _ from hx)
    have hg : ∀ (l : List Int), l.any badW = false → 0 ≤ l.getD q 0 ∧ l.getD q 0 ≤ 9 := fun l hl => by
      cases h : l[q]? with
      | none => simp [h]
      | some y =>
        have := badW_false (any_false_get hl h)
        simp [h]
        exact this
    have := hg _ ht
    have := hg _ hu
    omega
  · omega
theorem merge_ok {P : Int} {t u : PTran} {p : Nat} (ht : tranOk P t = true) (hu : tranOk P u = true) (h9 : ∀ x ∈ (mergeT t u p).post, x ≤ 9) : tranOk P (mergeT t u p) = true := by
  obtain ⟨h1, h2, h3, h4, h5, h6⟩ := (tranOk_iff _ _).1 ht
  have hn := merge_nonneg (p := p) h6 ((tranOk_iff _ _).1 hu).2.2.2.2.2
  rw [tranOk_iff]
  refine ⟨h1, h2, h3, ?_, h5, ?_⟩
  · show ((((addL t.post u.post).set p 0).length : Nat) : Int) = P
    simp [addL]; omega
  · rw [List.any_eq_false]
    intro x hx
    have := hn x hx
    have := h9 x hx
    simp [badW]; omega

/-- A transition put into an owned row. -/
theorem OwnSl.put3 {B B2 e g n cap k : Nat} {w w' : World} {ts : List PTran} {t : PTran} {v0 v1 v2 : Value} (h : OwnSl (OwnTranR B) 3 w B2 e (.slice (some ⟨g, 0, none⟩) n cap) n ts) (hk : k < n)
    (hw : w' = ((w.setCell ⟨g, k * 3, none⟩ v0).setCell ⟨g, k * 3 + 1, none⟩ v1).setCell ⟨g, k * 3 + 2, none⟩ v2) (hkeep : ∀ w', w.grownBy w' (some g) → ∀ vs y, OwnTranR B w vs y → OwnTranR B w' vs y)
    (ht : OwnTranR B w (fun j => [v0, v1, v2].getD j undef) t) : OwnSl (OwnTranR B) 3 w' B2 e (.slice (some ⟨g, 0, none⟩) n cap) n (ts.set k t) ∧ w.grownBy w' (some g) := by
  obtain ⟨cells, h1, h2, h3⟩ := h
  have g1 : w.grownBy w' (some g) := by rw [hw]; exact grown_setB (grown_setB (grown_setB (grown_reflB w _)))
  have r1 := (((h1.stored (k * 3) v0).1.stored (k * 3 + 1) v1).1.stored (k * 3 + 2) v2).1
  rw [← hw] at r1
  have hlen : cells.length = n * 3 := h1.1
  refine ⟨⟨_, r1, ⟨by simp [hlen, h3], fun i x hx => ?_⟩, by simpa using h3⟩, g1⟩
  rw [List.getElem?_set] at hx
  split at hx
  · rename_i e
    subst e
    rw [if_pos (by omega)] at hx
    cases hx
    refine ⟨fun j => [v0, v1, v2].getD j undef, fun j hj => ?_, hkeep _ g1 _ _ ht⟩
    match j, hj with
    | 0, _ => rw [List.getElem?_set_ne (by omega), List.getElem?_set_ne (by omega), show k * 3 + 0 = k * 3 from rfl, List.getElem?_set_self (by omega)]; rfl
    | 1, _ => rw [List.getElem?_set_ne (by omega), List.getElem?_set_self (by simp; omega)]; rfl
    | 2, _ => rw [List.getElem?_set_self (by simp; omega)]; rfl
  · rename_i e
    obtain ⟨vs, a, r⟩ := h2.2 i x hx
    refine ⟨vs, fun j hj => ?_, hkeep _ g1 _ _ r⟩
    rw [List.getElem?_set_ne (by omega), List.getElem?_set_ne (by omega), List.getElem?_set_ne (by omega)]
    exact a j hj
end Go.Proofs.Ytadepofaobdbhaa
