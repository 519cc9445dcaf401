/- The contract of fire. Conditions: the weights and the mark read as lists of one length. -/
import Derived.Test.YtcjjmfppkfmheaaCoverB
import Derived.Test.YtcjjmfppkfmheaaCaseE
import Derived.Test.YtcjjmfppkfmheaaHeldB
namespace Go.Proofs.Ytcjjmfppkfmheaa
open Go.RowKit

/-- What a place has when t has fired. -/
def fireP (t : PTran) (m : List Int) (p : Nat) : Int := if m.getD p 0 = -1 then -1 else wrap64 (m.getD p 0 + t.post.getD p 0 - t.pre.getD p 0)
def fireTo (t : PTran) (m : List Int) (k : Nat) : List Int := (List.range m.length).map fun p => if p < k then fireP t m p else m.getD p 0
def fireC (t : PTran) (m : List Int) : List Int := fireTo t m m.length
theorem fireTo_len (t : PTran) (m : List Int) (k : Nat) : (fireTo t m k).length = m.length := by simp [fireTo]
theorem fireTo_zero (t : PTran) (m : List Int) : fireTo t m 0 = m := by
  apply List.ext_getElem (by simp [fireTo])
  intro p h1 h2
  simp [fireTo, List.getD_eq_getElem?_getD, List.getElem?_eq_getElem h2]
theorem fireTo_get {t : PTran} {m : List Int} {k : Nat} (hk : k < m.length) : (fireTo t m k)[k]? = some (m.getD k 0) := by simp [fireTo, hk]
theorem fireTo_succ {t : PTran} {m : List Int} {k : Nat} (hk : k < m.length) : fireTo t m (k + 1) = (fireTo t m k).set k (fireP t m k) := by
  apply List.ext_getElem? 
  intro p
  rw [List.getElem?_set]
  by_cases hp : p < m.length
  · by_cases e : k = p
    · subst e
      simp [fireTo, hp]
    · simp only [fireTo, List.getElem?_map, List.getElem?_range hp, Option.map_some, e, if_false]
      by_cases h2 : p < k
      · rw [if_pos (by omega), if_pos h2]
      · rw [if_neg (by omega), if_neg h2]
  · have h1 : ∀ k, (fireTo t m k)[p]? = none := fun k => List.getElem?_eq_none (by rw [fireTo_len]; omega)
    rw [h1, h1]
    by_cases e : k = p
    · omega
    · simp [e]
theorem fireTo_same {t : PTran} {m : List Int} {k : Nat} (hk : k < m.length) (h : m.getD k 0 = -1) : fireTo t m (k + 1) = fireTo t m k := by
  rw [fireTo_succ hk, fireP, if_pos h]
  apply List.ext_getElem?
  intro p
  rw [List.getElem?_set]
  by_cases e : k = p
  · subst e
    simp only [if_true, fireTo_len, hk, fireTo_get hk, h]
  · simp [e]
theorem wrap_fire (x q r : Int) : IntKind.i64.wrap (x + IntKind.i64.wrap (q - r)) = wrap64 (x + q - r) := by
  rw [IntKind.wrap_i64, IntKind.wrap_i64]
  unfold wrap64
  omega
set_option maxRecDepth 100000 in
set_option maxHeartbeats 4000000 in
theorem fireC_calls {w : World} {lb : Int} {A1 A2 B : Option Addr} {n c1 c2 d : Nat} {t : PTran} {m : List Int} (h1 : Ints w A1 n c1 t.pre) (h2 : Ints w A2 n c2 t.post) (g : Ints w B n d m) (hn : n ≤ 16) :
    Calls Try.prog 60 #[.agg #[.int .i64 lb, .slice A1 n c1, .slice A2 n c2], .slice B n d] w (AnsOwn IntR 1 3 n (fireC t m) w) := by
  generalize hw : w.alloc (.cells #[.int .i64 lb, .slice A1 n c1, .slice A2 n c2] 86) = w0
  have HB := hide2 (show Below w.heap.size w w0 by rw [← hw]; exact (Below.refl _ _).alloc (Nat.le_refl _) _)
  have X0 := hide2 (show Box w0 w.heap.size 86 #[.int .i64 lb, .slice A1 n c1, .slice A2 n c2] by rw [← hw]; exact Box.new _ _ _)
  have H1 := hide2 (h1.keep HB.out)
  have H2 := hide2 (h2.keep HB.out)
  have G := hide2 (g.keep HB.out)
  have GL := hide2 (show m.length = n from g.len)
  clear h1 h2 g
  go_enter Try.func60, Try.ntmps60
  go_upto_region 2 with (go_at_call 56; go_loud ((with_reducible refine (cloneInts_calls G.out (by omega)).mono ?_); rintro e w1 ⟨v, rfl, own, hb1⟩; have OW := hide2 own; have B1 := hide2 hb1; clear own hb1))
  clear hw
  obtain ⟨Av, cv, hv, _⟩ := OW.out.sl (by omega)
  subst hv
  go_wp2
  go_loopw [11] (fun iv wr => ∃ k : Nat, k ≤ n ∧ iv = .int .i64 k ∧ Hid (OwnInts wr w0.heap.size (.slice Av n cv) n (fireTo t m k)) ∧ Hid (Below w0.heap.size w0 wr)) (fun iv _ => n - (intOf iv).toNat)
  case atStart => exact ⟨0, Nat.zero_le _, rfl, by rw [fireTo_zero]; exact OW, B1⟩
  case round =>
    obtain ⟨k, hk, rfl, O, D⟩ := hrel
    by_cases hlt : k < n
    · have hki : (k : Int) < (n : Int) := by omega
      have hkm : k < m.length := by rw [GL.out]; exact hlt
      obtain ⟨g, cap, hf, _, _⟩ := O.out.form (by omega)
      injection hf with e1 _ e3
      subst e1 e3
      obtain ⟨x, hx⟩ : ∃ x, m.getD k 0 = x := ⟨_, rfl⟩
      have FG := hide2 (fireTo_get (t := t) hkm)
      rw [hx] at FG
      have q0 : wr.cell? ⟨g, k, none⟩ = some (.int .i64 x) := O.out.at FG.out
      by_cases hxm : x = -1
      · subst hxm
        have SM := hide2 (fireTo_same (t := t) hkm hx)
        clear hx
        go_wp2
        go_roundw
        case rel => exact ⟨k + 1, by omega, by go_num, by rw [SM.out]; exact O, D⟩
        case measure => simp [intOf]; omega
      · obtain ⟨b2, off2, q, hA2, _, hq, q2⟩ := Ints.get ((H2.out.keep D.out).keep ⟨rfl, rfl, rfl, Nat.le_refl _, fun _ _ => rfl⟩ : Ints wr.drew A2 n c2 t.post) hlt
        obtain ⟨b1, off1, r, hA1, _, hr, q1⟩ := Ints.get ((H1.out.keep D.out).keep ⟨rfl, rfl, rfl, Nat.le_refl _, fun _ _ => rfl⟩ : Ints wr.drew A1 n c1 t.pre) hlt
        subst hA2 hA1
        have FP := hide2 (show fireP t m k = wrap64 (x + q - r) by rw [fireP, hx, if_neg hxm, getD_at hq.out, getD_at hr.out])
        have XD := hide2 ((X0.out.keep D.out).drew)
        have OD := hide2 (show OwnInts wr.drew w0.heap.size (.slice (some ⟨g, 0, none⟩) n cv) n (fireTo t m k) from O.out.keep IntR.kept ⟨rfl, rfl, rfl, Nat.le_refl _, fun _ _ => rfl⟩)
        have DD := hide2 D.out.drew
        have SU := hide2 (fireTo_succ (t := t) hkm)
        have hgB := hide2 (show w0.heap.size ≤ g from (O.out.lt g rfl).1)
        have hxb : (x != -1) = true := by simpa using hxm
        clear hx hq hr
        go_upto_region 6 with fail
        have s0 : wr.drew.cell? ⟨g, k, none⟩ = some (.int .i64 x) := OD.out.at FG.out
        have s1 : wr.drew.cell? ⟨w.heap.size, 1, none⟩ = some (.slice (some ⟨b1, off1, none⟩) n c1) := XD.out.cell 1
        have s2 : wr.drew.cell? ⟨w.heap.size, 2, none⟩ = some (.slice (some ⟨b2, off2, none⟩) n c2) := XD.out.cell 2
        have fg := OD.out.frozen k
        refine wp_region_scr 17 (.takes [0, 1, 2, 3, 4, 5, 6, 7, 8, 9, 10, 11, 12, 13, 14, 15] (.one 16 (.fin 17 .done))) (fun w' => w'.cell? ⟨g, k, none⟩ = some (.int .i64 x) ∧ w'.cell? ⟨w.heap.size, 1, none⟩ = some (.slice (some ⟨b1, off1, none⟩) n c1) ∧ w'.cell? ⟨w.heap.size, 2, none⟩ = some (.slice (some ⟨b2, off2, none⟩) n c2) ∧ w'.cell? ⟨b1, off1 + k, none⟩ = some (.int .i64 r) ∧ w'.cell? ⟨b2, off2 + k, none⟩ = some (.int .i64 q)) (by kernel_rfl) (by kernel_rfl) (by kernel_rfl) (fun _ _ _ _ _ h => h) ⟨s0, s1, s2, q1, q2⟩ (fun hHeld => ?_)
        simp only [Scr.takes]
        generalize wr.drew = u0 at *
        iterate 16
          refine tkTake (v := ?_) rfl (by rfl) hHeld (fun w' hSw => ?_) ?_
          rotate_left
          · (go_simp; try with_reducible rfl)
          try simp only [Act.put, List.setIfInBounds_toArray, List.set_cons_zero, List.set_cons_succ]
        rw [wrap_fire]
        refine tkOne rfl (fun Kf hKf => ?_)
        go_simp
        refine hKf.out _ _ ⟨s0, s1, s2, q1, q2⟩ (fun hHeld => ?_)
        clear hKf
        try simp only [Act.put, List.setIfInBounds_toArray, List.set_cons_zero, List.set_cons_succ]
        refine tkEnd rfl (fun Kf hKf => ?_)
        go_simp
        refine hKf.out _ _ ?_
        clear hKf
        try simp only [Act.put, List.setIfInBounds_toArray, List.set_cons_zero, List.set_cons_succ]
        refine tkDone ?_
        have ON := hide2 (OD.out.put k (wrap64 (x + q - r)))
        have DN := hide2 (DD.out.setCell (p := ⟨g, k, none⟩) hgB.out (.int .i64 (wrap64 (x + q - r))))
        clear hHeld s0 s1 s2 q1 q2 fg
        go_wp2
        go_roundw
        case rel => exact ⟨k + 1, by omega, by go_num, by rw [SU.out, FP.out]; exact ON, DN⟩
        case measure => simp [intOf]; omega
    · obtain rfl : k = n := by omega
      have FE := hide2 (show fireTo t m k = fireC t m by rw [fireC, GL.out])
      go_wp2
      go_ret
      exact ⟨_, rfl, by rw [← FE.out]; exact O.out.base HB.out.size, HB.out.trans (D.out.mono HB.out.size)⟩
end Go.Proofs.Ytcjjmfppkfmheaa
