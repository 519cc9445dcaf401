/- Contracts of slices.EqualFunc on transitions and of SameNet. Conditions: the nets' transitions read as lists. -/
import Derived.Test.YtnfppolgaeibeaaNetJ
namespace Go.Proofs.Ytnfppolgaeibeaa
open Go.RowKit

def sameT (a b : PTran) : Bool := a.label == b.label && a.pre == b.pre && a.post == b.post
theorem sameT_iff (a b : PTran) : sameT a b = true ↔ a = b := by
  cases a; cases b
  simp [sameT, and_assoc]

set_option maxRecDepth 100000 in
set_option maxHeartbeats 1000000 in
theorem sameTran_calls {w : World} {l1 l2 : Int} {A1 A2 B1 B2 : Option Addr} {n1 c1 n2 c2 m1 d1 m2 d2 : Nat} {xs1 xs2 ys1 ys2 : List Int} (h1 : Ints w A1 n1 c1 xs1) (h2 : Ints w A2 n2 c2 xs2) (g1 : Ints w B1 m1 d1 ys1) (g2 : Ints w B2 m2 d2 ys2) :
    Calls Try.prog 43 #[.agg #[.int .i64 l1, .slice A1 n1 c1, .slice A2 n2 c2], .agg #[.int .i64 l2, .slice B1 m1 d1, .slice B2 m2 d2]] w fun e w' => e = .returned (.bool (sameT ⟨l1, xs1, xs2⟩ ⟨l2, ys1, ys2⟩)) ∧ Below w.heap.size w w' := by
  have hb : Below w.heap.size w ((w.alloc (.cells #[.int .i64 l1, .slice A1 n1 c1, .slice A2 n2 c2] 78)).alloc (.cells #[.int .i64 l2, .slice B1 m1 d1, .slice B2 m2 d2] 78)) := ((Below.refl _ _).alloc (Nat.le_refl _) _).alloc (by simp) _
  have HB := hide2 hb
  have H1 := hide2 (h1.keep hb)
  have H2 := hide2 (h2.keep hb)
  have G1 := hide2 (g1.keep hb)
  have G2 := hide2 (g2.keep hb)
  clear h1 h2 g1 g2 hb
  by_cases hl : l1 = l2
  · subst hl
    cases e1 : (xs1 == ys1)
    · have E1 := hide2 e1
      clear e1
      go_enter Try.func43, Try.ntmps43
      go_wp2_with fail
      refine (equalInts_calls H1.out G1.out).mono ?_
      rintro e w1 ⟨rfl, dr⟩
      rw [E1.out]
      have B := hide2 (HB.out.trans (dr.below.mono HB.out.size))
      clear dr
      go_wp2
      go_ret
      exact ⟨ret_bool (by simp [sameT, E1.out]), B.out⟩
    · have E1 := hide2 e1
      clear e1
      go_enter Try.func43, Try.ntmps43
      go_wp2_with fail
      refine (equalInts_calls H1.out G1.out).mono ?_
      rintro e w1 ⟨rfl, dr⟩
      rw [E1.out]
      obtain ⟨q, rfl⟩ := dr
      have B := hide2 (HB.out.trans ((Drew.drewN _ q).below.mono HB.out.size))
      have H2' := hide2 (H2.out.keep (Drew.drewN _ q).below)
      have G2' := hide2 (G2.out.keep (Drew.drewN _ q).below)
      go_wp2_with fail
      refine (equalInts_calls H2'.out G2'.out).mono ?_
      rintro e w2 ⟨rfl, dr⟩
      have B2 := hide2 (B.out.trans (dr.below.mono B.out.size))
      clear dr
      go_wp2
      go_ret
      exact ⟨ret_bool (by simp [sameT, E1.out]), B2.out⟩
  · have HN := hide2 hl
    have hne : (l1 == l2) = false := by simpa using hl
    clear hl
    go_enter Try.func43, Try.ntmps43
    go_wp2
    go_ret
    exact ⟨ret_bool (by simp [sameT, HN.out]), HB.out⟩
set_option maxRecDepth 100000 in
set_option maxHeartbeats 1000000 in
theorem equalTrans_calls {w : World} {A B : Option Addr} {n c m d : Nat} {xs ys : List PTran} (h : Trans w A n c xs) (g : Trans w B m d ys) :
    Calls Try.prog 42 #[.slice A n c, .slice B m d, .func (.func 43) #[] #[]] w fun e w' => e = .returned (.bool (xs == ys)) ∧ Below w.heap.size w w' := by
  have hn := h.small
  have hm := g.small
  have HL := hide2 h.len
  have GL := hide2 g.len
  have H := hide2 h
  have G := hide2 g
  clear h g
  have hent : ∀ (args : Array Value) (w : World), Sem.run Try.prog (callFunc 43 args) w = .ok (.enter 43 args) w := fun args w => by kernel_rfl
  by_cases hnm : n = m
  · subst hnm
    go_enter Try.func42, Try.ntmps42
    go_wp2
    go_loopw [17] (fun i wr => ∃ k : Nat, k ≤ n ∧ i = .int .i64 k ∧ Hid (∀ j, j < k → xs[j]? = ys[j]?) ∧ Hid (Below w.heap.size w wr)) (fun i _ => n - (intOf i).toNat)
    case atStart => exact ⟨0, Nat.zero_le _, rfl, fun j hj => absurd hj (by omega), Below.refl _ _⟩
    case round =>
      obtain ⟨k, hk, rfl, hlow, hb⟩ := hrel
      by_cases hlt : k < n
      · obtain ⟨b1, o1, t, A1, n1, c1, A2, n2, c2, rfl, hbl, ht, q0, q1, q2, i1, i2, m1, m2⟩ := Trans.get (H.out.keep hb.out) hlt
        obtain ⟨b2, o2, u, D1, k1, e1, D2, k2, e2, rfl, hbl2, hu, r0, r1, r2, j1, j2, x1, x2⟩ := Trans.get (G.out.keep hb.out) hlt
        have hB2 := hide2 (show Below wr.heap.size wr ((wr.alloc (.cells #[.int .i64 t.label, .slice A1 n1 c1, .slice A2 n2 c2] 78)).alloc (.cells #[.int .i64 u.label, .slice D1 k1 e1, .slice D2 k2 e2] 78)) from ((Below.refl _ _).alloc (Nat.le_refl _) _).alloc (by simp) _)
        have I1 := hide2 (i1.keep hB2.out)
        have I2 := hide2 (i2.keep hB2.out)
        have J1 := hide2 (j1.keep hB2.out)
        have J2 := hide2 (j2.keep hB2.out)
        have hB3 := hide2 (hb.out.trans (hB2.out.mono hb.out.size))
        clear i1 i2 j1 j2
        cases es : sameT t u
        · have ES := hide2 es
          clear es
          go_wp2_with fail
          refine (sameTran_calls I1.out I2.out J1.out J2.out).mono ?_
          rintro e w1 ⟨rfl, hbb⟩
          have B := hide2 (hB3.out.trans (hbb.mono hB3.out.size))
          rw [show sameT ⟨t.label, t.pre, t.post⟩ ⟨u.label, u.pre, u.post⟩ = false from ES.out]
          clear hbb
          go_wp2
          go_ret
          refine ⟨ret_bool ?_, B.out⟩
          symm
          rw [beq_eq_false_iff_ne]
          intro e
          have h1 := ht.out
          rw [e, hu.out] at h1
          injection h1 with h1
          have := ES.out
          rw [h1, (sameT_iff t t).2 rfl] at this
          cases this
        · have ES := hide2 ((sameT_iff t u).1 es)
          have ES2 := hide2 es
          clear es
          go_wp2_with fail
          refine (sameTran_calls I1.out I2.out J1.out J2.out).mono ?_
          rintro e w1 ⟨rfl, hbb⟩
          have B := hide2 (hB3.out.trans (hbb.mono hB3.out.size))
          rw [show sameT ⟨t.label, t.pre, t.post⟩ ⟨u.label, u.pre, u.post⟩ = true from ES2.out]
          clear hbb
          go_wp2
          go_roundw
          case rel =>
            refine ⟨k + 1, by omega, by go_num, fun j hj => ?_, B.out⟩
            by_cases hjk : j = k
            · subst hjk; rw [ht.out, hu.out, ES.out]
            · exact hlow.out j (by omega)
          case measure => simp [intOf]; omega
      · go_wp2
        go_ret
        refine ⟨ret_bool ?_, hb.out⟩
        symm
        rw [beq_iff_eq]
        apply List.ext_getElem?
        intro j
        by_cases hj : j < k
        · exact hlow.out j hj
        · rw [List.getElem?_eq_none (by have := HL.out; omega), List.getElem?_eq_none (by have := GL.out; omega)]
  · have hne : ((n : Int) != (m : Int)) = true := by simp; omega
    have HN := hide2 hnm
    clear hnm
    go_enter Try.func42, Try.ntmps42
    go_wp2
    go_ret
    refine ⟨ret_bool ?_, Below.refl _ _⟩
    symm
    rw [beq_eq_false_iff_ne]
    intro e
    have := HL.out
    have := GL.out
    exact HN.out (by rw [e] at *; omega)

set_option maxRecDepth 100000 in
theorem sameNet_calls {w : World} {P Q : Int} {A B : Option Addr} {n c m d : Nat} {xs ys : List PTran} (h : Trans w A n c xs) (g : Trans w B m d ys) :
    Calls Try.prog 11 #[.agg #[.int .i64 P, .slice A n c], .agg #[.int .i64 Q, .slice B m d]] w fun e w' => e = .returned (.bool (P == Q && xs == ys)) ∧ Below w.heap.size w w' := by
  have HB := hide2 (show Below w.heap.size w ((w.alloc (.cells #[.int .i64 P, .slice A n c] 27)).alloc (.cells #[.int .i64 Q, .slice B m d] 27)) from ((Below.refl _ _).alloc (Nat.le_refl _) _).alloc (by simp) _)
  have H := hide2 (h.keep HB.out)
  have G := hide2 (g.keep HB.out)
  clear h g
  by_cases hl : P = Q
  · subst hl
    go_enter Try.func11, Try.ntmps11
    go_wp2_with fail
    refine (equalTrans_calls H.out G.out).mono ?_
    rintro e w1 ⟨rfl, hb⟩
    have B := hide2 (HB.out.trans (hb.mono HB.out.size))
    clear hb
    go_wp2
    go_ret
    exact ⟨ret_bool (by simp), B.out⟩
  · have hne : (P == Q) = false := by simpa using hl
    have HN := hide2 hl
    clear hl
    go_enter Try.func11, Try.ntmps11
    go_wp2
    go_ret
    exact ⟨ret_bool (by simp [HN.out]), HB.out⟩
end Go.Proofs.Ytnfppolgaeibeaa
