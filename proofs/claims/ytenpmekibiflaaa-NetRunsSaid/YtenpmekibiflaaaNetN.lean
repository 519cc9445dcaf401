/- The contract of BRun. Conditions: the net, the mark and the sequence read as lists. -/
import Derived.Test.YtenpmekibiflaaaNetM
import Derived.Deep.RegionHeld3
namespace Go.Proofs.Ytenpmekibiflaaa
open Go.RowKit

theorem Sl.drop1 {α : Type} {R : World → (Nat → Value) → α → Prop} {w : World} {b off n c : Nat} {x : α} {xs : List α} (h : Sl R 1 w (some ⟨b, off, none⟩) n c (x :: xs)) :
    Sl R 1 w (if c = 1 then some ⟨b, off, none⟩ else some ⟨b, off + 1, none⟩) (n - 1) (c - 1) xs := by
  have hl := h.len
  simp at hl
  refine ⟨by omega, by have := h.le; omega, by have := h.cap; omega, by have := h.small; omega, fun hn => ?_, fun hn => ?_⟩
  · split at hn <;> cases hn
  · have hc : c ≠ 1 := by have := h.le; omega
    rw [if_neg hc]
    obtain ⟨b', off', e, hb, hcell⟩ := h.cells (by omega)
    injection e with e
    injection e with e1 e2 _
    subst e1 e2
    refine ⟨b, off + 1, rfl, hb, fun i y hy => ?_⟩
    obtain ⟨vs, h1, h2⟩ := hcell (i + 1) y (by simpa using hy)
    refine ⟨vs, fun j hj => ?_, h2⟩
    have := h1 j hj
    rw [show off + ((i + 1) * 1 + j) = off + 1 + (i * 1 + j) from by omega] at this
    exact this

set_option maxRecDepth 100000 in
set_option maxHeartbeats 1000000 in
theorem refRun_calls {P : Int} {n c : Nat} {A : Option Addr} {ts : List PTran} (K : Nat) : ∀ (w : World) (B S : Option Addr) (m d l e0 : Nat) (xs seq : List Int), l ≤ K → Trans w A n c ts → Ints w B m d xs → Ints w S l e0 seq →
    Calls Try.prog 79 #[.agg #[.int .i64 P, .slice A n c], .slice B m d, .slice S l e0] w (AnsIE (runL ⟨P, ts⟩ xs seq) w) := by
  induction K with
  | zero =>
    intro w B S m d l e0 xs seq hK h g s
    obtain rfl : l = 0 := by omega
    have e1 := List.eq_nil_of_length_eq_zero s.len
    subst e1
    have HB := hide2 (boxBelow w)
    have G := hide2 g
    have H := hide2 h
    clear g h s
    cases hok : fitsB ⟨P, ts⟩ xs
    · have W0 := hide2 hok
      have FIN := hide2 (show runL ⟨P, ts⟩ xs [] = ([], 2) from by rw [runL, hok]; rfl)
      clear hok
      go_enter Try.func79, Try.ntmps79
      go_wp2_with fail
      refine (refFits_calls (P := P) (H.out.keep (HB.out _)) (G.out.keep (HB.out _))).mono ?_
      rw [W0.out]
      rintro e w1 ⟨rfl, hb⟩
      have B1 := hide2 ((HB.out (.cells #[.int .i64 P, .slice A n c] 40)).trans (hb.mono (by simp)))
      clear hb
      go_wp2
      go_ret2
      exact ⟨none, 0, 0, by rw [FIN.out]; rfl, by rw [FIN.out]; exact Sl.nil0, B1.out⟩
    · have W0 := hide2 hok
      have FIN := hide2 (show runL ⟨P, ts⟩ xs [] = (xs, 0) from by rw [runL, hok]; rfl)
      clear hok
      go_enter Try.func79, Try.ntmps79
      go_wp2_with fail
      refine (refFits_calls (P := P) (H.out.keep (HB.out _)) (G.out.keep (HB.out _))).mono ?_
      rw [W0.out]
      rintro e w1 ⟨rfl, hb⟩
      have B1 := hide2 ((HB.out (.cells #[.int .i64 P, .slice A n c] 40)).trans (hb.mono (by simp)))
      clear hb
      go_wp2
      go_ret2
      exact ⟨B, m, d, by rw [FIN.out]; rfl, by rw [FIN.out]; exact G.out.keep B1.out, B1.out⟩
  | succ K ih =>
    intro w B S m d l e0 xs seq hK h g s
    by_cases hl0 : l = 0
    · exact ih w B S m d l e0 xs seq (by omega) h g s
    · have HB := hide2 (boxBelow w)
      have G := hide2 g
      have H := hide2 h
      obtain ⟨b, off, t, rfl, hbl, ht, hc⟩ := s.get (k := 0) (by omega)
      obtain ⟨r, rfl⟩ : ∃ r, seq = t :: r := by
        have := drop_cons ht.out
        exact ⟨_, by simpa using this⟩
      have SS := hide2 s
      have hlp : (0 : Int) < (l : Int) := by omega
      have hlp' : 0 < l := by omega
      have hlp2 : 1 ≤ l := by omega
      have hlp3 : (1 : Int) ≤ (l : Int) := by omega
      have hlp4 : (l : Int) ≤ (e0 : Int) := by have := s.le; omega
      have hcap := s.cap
      unfold maxLen at hcap
      have hle := s.le
      have hls := s.small
      have hlne : ((l : Int) == 0) = false := by simp; omega
      have ih' := hide2 ih
      simp only [Nat.add_zero] at hc
      clear g h s ih ht hl0
      cases hok : fitsB ⟨P, ts⟩ xs
      · have W0 := hide2 hok
        have FIN := hide2 (show runL ⟨P, ts⟩ xs (t :: r) = ([], 2) from by rw [runL, hok]; rfl)
        clear hok
        go_enter Try.func79, Try.ntmps79
        go_wp2_with fail
        refine (refFits_calls (P := P) (H.out.keep (HB.out _)) (G.out.keep (HB.out _))).mono ?_
        rw [W0.out]
        rintro e w1 ⟨rfl, hb⟩
        have B1 := hide2 ((HB.out (.cells #[.int .i64 P, .slice A n c] 40)).trans (hb.mono (by simp)))
        have c10 : w1.cell? ⟨w.heap.size, 0, none⟩ = some (.int .i64 P) := (hb.cell (by simp)).trans (by simp)
        have c11 : w1.cell? ⟨w.heap.size, 1, none⟩ = some (.slice A n c) := (hb.cell (by simp)).trans (by simp)
        clear hb
        go_wp2_with fail
        refine (refFits_calls (P := P) (H.out.keep B1.out) (G.out.keep B1.out)).mono ?_
        rw [W0.out]
        rintro e w2 ⟨rfl, hb⟩
        have B2 := hide2 (B1.out.trans (hb.mono B1.out.size))
        clear hb
        go_wp2
        go_ret2
        exact ⟨none, 0, 0, by rw [FIN.out]; rfl, by rw [FIN.out]; exact Sl.nil0, B2.out⟩
      · have W0 := hide2 hok
        have FIN := hide2 (show runL ⟨P, ts⟩ xs (t :: r) = if (fireL ⟨P, ts⟩ xs t).2 = 0 then runL ⟨P, ts⟩ (fireL ⟨P, ts⟩ xs t).1 r else fireL ⟨P, ts⟩ xs t from runL_cons)
        clear hok
        go_enter Try.func79, Try.ntmps79
        go_wp2_with fail
        refine (refFits_calls (P := P) (H.out.keep (HB.out _)) (G.out.keep (HB.out _))).mono ?_
        rw [W0.out]
        rintro e w1 ⟨rfl, hb⟩
        have B1 := hide2 ((HB.out (.cells #[.int .i64 P, .slice A n c] 40)).trans (hb.mono (by simp)))
        have c10 : w1.cell? ⟨w.heap.size, 0, none⟩ = some (.int .i64 P) := (hb.cell (by simp)).trans (by simp)
        have c11 : w1.cell? ⟨w.heap.size, 1, none⟩ = some (.slice A n c) := (hb.cell (by simp)).trans (by simp)
        have cs1 : w1.cell? ⟨b, off, none⟩ = some (.int .i64 t) := (B1.out.cell hbl).trans hc
        have hsz : w.heap.size < w1.heap.size := by have := hb.size; simp at this; omega
        have hbl1 := Nat.lt_of_lt_of_le hbl B1.out.size
        have D1 := hide2 ((Below.refl _ _).drew : Below w1.heap.size w1 w1.drew)
        have BD := hide2 (B1.out.trans (D1.out.mono B1.out.size))
        obtain ⟨q, hq⟩ : ∃ q, fireL ⟨P, ts⟩ xs t = q := ⟨_, rfl⟩
        have HQ := hide2 hq
        clear hb hc hq
        go_wp2_with fail
        go_region_held3 (fun w' => w'.cell? ⟨w.heap.size, 0, none⟩ = some (.int .i64 P) ∧ w'.cell? ⟨w.heap.size, 1, none⟩ = some (.slice A n c) ∧ w'.cell? ⟨b, off, none⟩ = some (.int .i64 t))
          (first | go_keep)
          (first
            | (go_at_call 57; (with_reducible refine (refFire_calls (P := P) (H.out.keep BD.out) (G.out.keep BD.out) t).mono ?_); rw [HQ.out]; rintro e w2 ⟨C, ll, kk, rfl, hi, hb⟩; have HI := hide2 hi; have E2 := hide2 (D1.out.trans (hb.mono D1.out.size)); have z0 := (E2.out.cell (p := ⟨w.heap.size, 0, none⟩) hsz).trans c10; have z1 := (E2.out.cell (p := ⟨w.heap.size, 1, none⟩) hsz).trans c11; have z2 := (E2.out.cell (p := ⟨b, off, none⟩) hbl1).trans cs1; clear hi hb))
        have B2 := hide2 (B1.out.trans (E2.out.mono B1.out.size))
        by_cases he : q.2 = 0
        · have HE := hide2 he
          have hr2 : (q.2 != 0) = false := by simp [he]
          have FIN2 := hide2 (show runL ⟨P, ts⟩ xs (t :: r) = runL ⟨P, ts⟩ q.1 r from by rw [FIN.out, HQ.out, if_pos he])
          clear he
          have E2d := hide2 (B2.out.trans ((Below.refl _ _).drew : Below w.heap.size w2 w2.drew))
          have HI2 := hide2 (HI.out.keep ((Below.refl _ _).drew : Below w2.heap.size w2 w2.drew))
          have hs2 := Nat.lt_of_lt_of_le hsz E2.out.size
          have hb2 := Nat.lt_of_lt_of_le hbl1 E2.out.size
          by_cases hc1 : e0 = 1
          · subst hc1
            obtain rfl : l = 1 := by omega
            have S2 : Hid (Ints w2.drew (some ⟨b, off, none⟩) 0 0 r) := by
              have := Sl.drop1 (SS.out.keep E2d.out)
              rw [if_pos rfl] at this
              exact this
            go_wp2_with fail
            go_region_held3 (fun w' => w'.cell? ⟨w.heap.size, 0, none⟩ = some (.int .i64 P) ∧ w'.cell? ⟨w.heap.size, 1, none⟩ = some (.slice A n c))
              (first | go_keep)
              (first
                | (go_at_call 79; (with_reducible refine (ih'.out _ _ _ _ _ _ _ _ _ (by omega) (H.out.keep E2d.out) HI2.out S2.out).mono ?_); rw [← FIN2.out]; rintro e w3 ⟨C3, l3, k3, rfl, hi, hb⟩; have HI3 := hide2 hi; have E3 := hide2 (((Below.refl _ _).drew : Below w2.heap.size w2 w2.drew).trans (hb.mono (by simp))); have z3 := (E3.out.cell (p := ⟨w.heap.size, 0, none⟩) hs2).trans z0; have z4 := (E3.out.cell (p := ⟨w.heap.size, 1, none⟩) hs2).trans z1; clear hi hb))
            go_wp2
            go_ret2
            exact ⟨C3, l3, k3, rfl, HI3.out, B2.out.trans (E3.out.mono B2.out.size)⟩
          · have S2 : Hid (Ints w2.drew (some ⟨b, off + 1, none⟩) (l - 1) (e0 - 1) r) := by
              have := Sl.drop1 (SS.out.keep E2d.out)
              rw [if_neg hc1] at this
              exact this
            go_wp2_with fail
            go_region_held3 (fun w' => w'.cell? ⟨w.heap.size, 0, none⟩ = some (.int .i64 P) ∧ w'.cell? ⟨w.heap.size, 1, none⟩ = some (.slice A n c))
              (first | go_keep)
              (first
                | (go_at_call 79; (with_reducible refine (ih'.out _ _ _ _ _ _ _ _ _ (by omega) (H.out.keep E2d.out) HI2.out S2.out).mono ?_); rw [← FIN2.out]; rintro e w3 ⟨C3, l3, k3, rfl, hi, hb⟩; have HI3 := hide2 hi; have E3 := hide2 (((Below.refl _ _).drew : Below w2.heap.size w2 w2.drew).trans (hb.mono (by simp))); have z3 := (E3.out.cell (p := ⟨w.heap.size, 0, none⟩) hs2).trans z0; have z4 := (E3.out.cell (p := ⟨w.heap.size, 1, none⟩) hs2).trans z1; clear hi hb))
            go_wp2
            go_ret2
            exact ⟨C3, l3, k3, rfl, HI3.out, B2.out.trans (E3.out.mono B2.out.size)⟩
        · have HE := hide2 he
          have hr2 : (q.2 != 0) = true := by simpa using he
          have FIN2 := hide2 (show runL ⟨P, ts⟩ xs (t :: r) = ([], q.2) from by
            rw [FIN.out, HQ.out, if_neg he]
            have := fireL_err (N := ⟨P, ts⟩) (m := xs) (t := t) (by rw [HQ.out]; exact he)
            rw [HQ.out] at this
            rw [← this])
          clear he
          go_wp2
          go_ret2
          exact ⟨none, 0, 0, by rw [FIN2.out]; rfl, by rw [FIN2.out]; exact Sl.nil0, B2.out⟩
end Go.Proofs.Ytenpmekibiflaaa
