/- Contracts of net.Run and BRun. Conditions: the net, the mark and the sequence read as lists. -/
import Derived.Test.YtenpmekibiflaaaNetL
namespace Go.Proofs.Ytenpmekibiflaaa
open Go.RowKit

set_option maxRecDepth 100000 in
set_option maxHeartbeats 1000000 in
theorem netRun_calls {w : World} {P : Int} {A B S : Option Addr} {n c m d l e0 : Nat} {ts : List PTran} {xs seq : List Int} (h : Trans w A n c ts) (g : Ints w B m d xs) (hm : m ≤ 17592186044416) (s : Ints w S l e0 seq) :
    Calls Try.prog 78 #[.agg #[.int .i64 P, .slice A n c], .slice B m d, .slice S l e0] w (AnsIE (runL ⟨P, ts⟩ xs seq) w) := by
  have HB := hide2 (boxBelow w)
  have hl := s.small
  have G := hide2 g
  have H := hide2 h
  have SS := hide2 s
  have SL := hide2 s.len
  clear g h s
  cases hok : fitsB ⟨P, ts⟩ xs
  · have W0 := hide2 (fitsE_not hok)
    have FIN := hide2 (show runL ⟨P, ts⟩ xs seq = ([], 2) from by rw [runL, hok]; rfl)
    clear hok
    go_enter Try.func78, Try.ntmps78
    go_wp2_with fail
    refine (netFits_calls (P := P) (H.out.keep (HB.out _)) (G.out.keep (HB.out _))).mono ?_
    rw [W0.out]
    rintro e w1 ⟨rfl, hb⟩
    have B1 := hide2 ((HB.out (.cells #[.int .i64 P, .slice A n c] 40)).trans (hb.mono (by simp)))
    clear hb
    go_wp2
    go_ret2
    exact ⟨none, 0, 0, by rw [FIN.out]; rfl, by rw [FIN.out]; exact Sl.nil0, B1.out⟩
  · have W0 := hide2 (fitsE_ok hok)
    have FIN := hide2 (show runL ⟨P, ts⟩ xs seq = loopL ⟨P, ts⟩ xs seq from by rw [runL, if_pos hok])
    clear hok
    go_enter Try.func78, Try.ntmps78
    go_wp2_with fail
    refine (netFits_calls (P := P) (H.out.keep (HB.out _)) (G.out.keep (HB.out _))).mono ?_
    rw [W0.out]
    rintro e w1 ⟨rfl, hb⟩
    have B1 := hide2 ((HB.out (.cells #[.int .i64 P, .slice A n c] 40)).trans (hb.mono (by simp)))
    have c10 : w1.cell? ⟨w.heap.size, 0, none⟩ = some (.int .i64 P) := (hb.cell (by simp)).trans (by simp)
    have c11 : w1.cell? ⟨w.heap.size, 1, none⟩ = some (.slice A n c) := (hb.cell (by simp)).trans (by simp)
    have hsz : w.heap.size < w1.heap.size := by have := hb.size; simp at this; omega
    clear hb
    go_wp2_with fail
    refine (cloneInts_calls (G.out.keep B1.out) hm).mono ?_
    rintro e w2 ⟨v2, rfl, own, hb2⟩
    obtain ⟨C, k2, hv, hi⟩ := own.sl (by omega)
    subst hv
    have c20 := (hb2.cell (p := ⟨w.heap.size, 0, none⟩) hsz).trans c10
    have c21 := (hb2.cell (p := ⟨w.heap.size, 1, none⟩) hsz).trans c11
    have hsz2 := Nat.lt_of_lt_of_le hsz hb2.size
    have HI := hide2 hi
    have B2 := hide2 (B1.out.trans (hb2.mono B1.out.size))
    clear own hb2 hi c10 c11
    go_wp2
    go_loopw [1, 23] (fun v i wr => ∃ (k : Nat) (C : Option Addr) (q cc : Nat) (mk : List Int), k ≤ l ∧ i = .int .i64 k ∧ v = .slice C q cc ∧ Hid (Ints wr C q cc mk) ∧ Hid (Below w2.heap.size w2 wr) ∧ Hid (loopL ⟨P, ts⟩ xs seq = loopL ⟨P, ts⟩ mk (seq.drop k))) (fun _ i _ => l - (intOf i).toNat)
    case atStart => exact ⟨0, C, m, k2, xs, Nat.zero_le _, rfl, rfl, HI.out, Below.refl _ _, rfl⟩
    case round =>
      obtain ⟨k, C1, q1, cc1, mk, hk, rfl, rfl, hI, hB, hL⟩ := hrel
      by_cases hlt : k < l
      · have BW := hide2 (B2.out.trans (hB.out.mono B2.out.size))
        obtain ⟨b, off, t, rfl, hbl, ht, hc⟩ := (SS.out.keep BW.out).get hlt
        have d0 := (hB.out.cell (p := ⟨w.heap.size, 0, none⟩) hsz2).trans c20
        have d1 := (hB.out.cell (p := ⟨w.heap.size, 1, none⟩) hsz2).trans c21
        obtain ⟨r, hr⟩ : ∃ r, fireL ⟨P, ts⟩ mk t = r := ⟨_, rfl⟩
        have HR := hide2 hr
        have LL := hide2 (show (fireL ⟨P, ts⟩ mk t).1.length ≤ 16 from fireL_length)
        have DC := hide2 (drop_cons ht.out)
        go_wp2_with fail
        refine (fire_calls (P := P) (H.out.keep BW.out) hI.out t).mono ?_
        rw [HR.out]
        rintro e w3 ⟨C3, l3, k3, rfl, i3, b3⟩
        have I3 := hide2 i3
        have B3 := hide2 (hB.out.trans (b3.mono hB.out.size))
        clear i3 b3 hr
        by_cases he : r.2 = 0
        · have HE := hide2 he
          have hr2 : (r.2 != 0) = false := by simp [he]
          clear he
          go_wp2
          go_roundw
          case rel => exact ⟨k + 1, C3, l3, k3, r.1, by omega, by go_num, rfl, I3, B3, hide2 (by rw [hL.out, DC.out, loopL_step (by rw [HR.out]; exact HE.out), HR.out])⟩
          case measure => simp [intOf]; omega
        · have HE := hide2 he
          have hr2 : (r.2 != 0) = true := by simpa using he
          have FIN2 := hide2 (show runL ⟨P, ts⟩ xs seq = ([], r.2) from by
            rw [FIN.out, hL.out, DC.out, loopL_stop (by rw [HR.out]; exact he)]
            have := fireL_err (N := ⟨P, ts⟩) (m := mk) (t := t) (by rw [HR.out]; exact he)
            rw [HR.out] at this ⊢
            rw [← this])
          have BF := hide2 (B2.out.trans (B3.out.mono B2.out.size))
          clear he
          go_wp2
          go_ret2
          exact ⟨none, 0, 0, by rw [FIN2.out]; rfl, by rw [FIN2.out]; exact Sl.nil0, BF.out⟩
      · have FIN2 := hide2 (show runL ⟨P, ts⟩ xs seq = (mk, 0) from by
          rw [FIN.out, hL.out, List.drop_eq_nil_of_le (by rw [SL.out]; omega)]; rfl)
        have BF := hide2 (B2.out.trans (hB.out.mono B2.out.size))
        go_wp2
        go_ret2
        exact ⟨_, _, _, by rw [FIN2.out]; rfl, by rw [FIN2.out]; exact hI.out, BF.out⟩
end Go.Proofs.Ytenpmekibiflaaa
