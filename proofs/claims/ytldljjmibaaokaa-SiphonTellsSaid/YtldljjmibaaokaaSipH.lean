/- The law SiphonTells as a call: it returns true. Conditions: the net and the places read as lists. -/
import Derived.Test.YtldljjmibaaokaaSipG
namespace Go.Proofs.Ytldljjmibaaokaa
open Go.RowKit

set_option maxRecDepth 100000 in
set_option maxHeartbeats 8000000 in
theorem siphonTells_calls {w : World} {P : Int} {A B : Option Addr} {n c m d : Nat} {ts : List PTran} {l : List Int} (h : Trans w A n c ts) (hn : n ≤ 2513169434916) (g : Ints w B m d l) (hm : m ≤ 17592186044416) :
    Calls Try.prog 5 #[.agg #[.int .i64 P, .slice A n c], .slice B m d] w fun e w' => e = .returned (.bool true) ∧ Below w.heap.size w w' := by
  have X0 := hide2 (Box.new w #[.int .i64 P, .slice A n c] 24)
  have B0 := hide2 (boxBelow w (.cells #[.int .i64 P, .slice A n c] 24))
  have H := hide2 h
  have G := hide2 g
  have HL := hide2 h.len
  clear h g
  go_enter Try.func5, Try.ntmps5
  go_upto_region 1 with fail
  generalize w.alloc (.cells #[.int .i64 P, .slice A n c] 24) = w0 at *
  obtain ⟨c0, c1⟩ := X0.out.two
  go_wp2_with fail
  refine (refTurned_calls (P := P) (H.out.keep B0.out) hn).mono ?_
  rintro e w1 ⟨A1, n1, k1, rfl, t1, hb⟩
  have T1 := hide2 t1
  have N1 := hide2 (show n1 ≤ 2513169434916 by rw [← t1.len, turned, List.length_map, HL.out]; exact hn)
  have X1 := hide2 (X0.out.keep hb)
  have B1 := hide2 (B0.out.trans (hb.mono B0.out.size))
  have bb := boxBelow w1 (.cells #[.int .i64 (turned ⟨P, ts⟩).places, .slice A1 n1 k1] 24)
  have XT := hide2 (Box.new w1 #[.int .i64 (turned ⟨P, ts⟩).places, .slice A1 n1 k1] 24)
  have X2 := hide2 (X1.out.keep bb)
  have B2 := hide2 (B1.out.trans (bb.mono B1.out.size))
  have T2 := hide2 (T1.out.keep bb)
  clear hb t1 bb c0 c1
  go_upto_region 2 with fail
  generalize w1.alloc (.cells #[.int .i64 (turned ⟨P, ts⟩).places, .slice A1 n1 k1] 24) = w2 at *
  generalize w1.heap.size = bt at *
  have DR := hide2 ((Below.refl w2.heap.size w2).drew)
  have KEEP := hide2 (show ∀ w', Below w2.heap.size w2 w' → w'.cell? ⟨w.heap.size, 0, none⟩ = some (.int .i64 P) ∧ w'.cell? ⟨w.heap.size, 1, none⟩ = some (.slice A n c) ∧ w'.cell? ⟨bt, 0, none⟩ = some (.int .i64 (turned ⟨P, ts⟩).places) ∧ w'.cell? ⟨bt, 1, none⟩ = some (.slice A1 n1 k1) from fun w' hb => by
    obtain ⟨x0, x1⟩ := (X2.out.keep hb).two
    obtain ⟨x2, x3⟩ := (XT.out.keep hb).two
    exact ⟨x0, x1, x2, x3⟩)
  have H2 := hide2 (fun w' (hb : Below w2.heap.size w2 w') => H.out.keep (B2.out.trans (hb.mono B2.out.size)))
  have G2 := hide2 (fun w' (hb : Below w2.heap.size w2 w') => G.out.keep (B2.out.trans (hb.mono B2.out.size)))
  have T3 := hide2 (fun w' (hb : Below w2.heap.size w2 w') => T2.out.keep hb)
  obtain ⟨c0, c1, c2, c3⟩ := KEEP.out w2.drew DR.out
  obtain ⟨s1, hs1⟩ : ∃ s, sipB ⟨P, ts⟩ l = s := ⟨_, rfl⟩
  obtain ⟨s2, hs2⟩ : ∃ s, sipB (turned ⟨P, ts⟩) l = s := ⟨_, rfl⟩
  have S1 := hide2 hs1
  have S2 := hide2 hs2
  have S3 := hide2 (show sipB ⟨(turned ⟨P, ts⟩).places, (turned ⟨P, ts⟩).trans⟩ l = s2 from hs2)
  clear hs1 hs2
  go_region_held3 (fun w' => w'.cell? ⟨w.heap.size, 0, none⟩ = some (.int .i64 P) ∧ w'.cell? ⟨w.heap.size, 1, none⟩ = some (.slice A n c) ∧ w'.cell? ⟨bt, 0, none⟩ = some (.int .i64 (turned ⟨P, ts⟩).places) ∧ w'.cell? ⟨bt, 1, none⟩ = some (.slice A1 n1 k1))
    (first | go_keep)
    (first
      | (go_at_call 18; (with_reducible refine (siphon_calls (P := P) (H2.out _ DR.out) (G2.out _ DR.out)).mono ?_); rw [S1.out]; rintro e w3 ⟨rfl, hb⟩; have F3 := hide2 (DR.out.trans (hb.mono DR.out.size)); clear hb c0 c1 c2 c3; obtain ⟨c0, c1, c2, c3⟩ := KEEP.out w3 F3.out)
      | (go_at_call 19; (with_reducible refine (fsiphon_calls (P := P) (H2.out _ F3.out) (G2.out _ F3.out)).mono ?_); rw [S1.out]; rintro e w4 ⟨rfl, hb⟩; have F4 := hide2 (F3.out.trans (hb.mono F3.out.size)); clear hb c0 c1 c2 c3; obtain ⟨c0, c1, c2, c3⟩ := KEEP.out w4 F4.out)
      | (go_at_call 20; (with_reducible refine (trap_calls (P := P) (H2.out _ F4.out) hn (G2.out _ F4.out)).mono ?_); rw [S2.out]; rintro e w5 ⟨rfl, hb⟩; have F5 := hide2 (F4.out.trans (hb.mono F4.out.size)); clear hb c0 c1 c2 c3; obtain ⟨c0, c1, c2, c3⟩ := KEEP.out w5 F5.out)
      | (go_at_call 19; (with_reducible refine (fsiphon_calls (P := (turned ⟨P, ts⟩).places) (T3.out _ F5.out) (G2.out _ F5.out)).mono ?_); rw [S3.out]; rintro e w6 ⟨rfl, hb⟩; have F6 := hide2 (F5.out.trans (hb.mono F5.out.size)); clear hb c0 c1 c2 c3; obtain ⟨c0, c1, c2, c3⟩ := KEEP.out w6 F6.out)
      | (go_at_call 22; (with_reducible refine (most_calls (P := P) (H2.out _ F6.out) (G2.out _ F6.out)).mono ?_); rintro e w7 ⟨A7, n7, k7, x7, rfl, i7, m7, hb⟩; have I7 := hide2 i7; have M7 := hide2 m7; have F7 := hide2 (F6.out.trans (hb.mono F6.out.size)); clear hb i7 m7 c0 c1 c2 c3; obtain ⟨c0, c1, c2, c3⟩ := KEEP.out w7 F7.out)
      | (go_at_call 23; (with_reducible refine (fmost_calls (P := P) (H2.out _ F7.out) (G2.out _ F7.out) hm).mono ?_); rintro e w8 ⟨A8, n8, k8, x8, rfl, i8, m8, hb⟩; obtain rfl := MostP.uniq M7.out m8; have I8 := hide2 i8; have I7' := hide2 (I7.out.keep hb); have F8 := hide2 (F7.out.trans (hb.mono F7.out.size)); clear hb i8 m8 c0 c1 c2 c3; obtain ⟨c0, c1, c2, c3⟩ := KEEP.out w8 F8.out)
      | (go_at_call 21; (with_reducible refine (equalInts_calls I7'.out I8.out).mono ?_); rintro e w9 ⟨rfl, hd⟩; rw [beq_self_eq_true]; have F9 := hide2 (F8.out.trans (hd.below.mono F8.out.size)); clear hd c0 c1 c2 c3; obtain ⟨c0, c1, c2, c3⟩ := KEEP.out w9 F9.out)
      | (go_at_call 24; (with_reducible refine (mostTrap_calls (P := P) (H2.out _ F9.out) hn (G2.out _ F9.out)).mono ?_); rintro e w10 ⟨A10, n10, k10, x10, rfl, i10, m10, hb⟩; have I10 := hide2 i10; have M10 := hide2 m10; have F10 := hide2 (F9.out.trans (hb.mono F9.out.size)); clear hb i10 m10 c0 c1 c2 c3; obtain ⟨c0, c1, c2, c3⟩ := KEEP.out w10 F10.out)
      | (go_at_call 23; (with_reducible refine (fmost_calls (P := (turned ⟨P, ts⟩).places) (T3.out _ F10.out) (G2.out _ F10.out) hm).mono ?_); rintro e w11 ⟨A11, n11, k11, x11, rfl, i11, m11, hb⟩; obtain rfl := MostP.uniq M10.out m11; have I11 := hide2 i11; have I10' := hide2 (I10.out.keep hb); have F11 := hide2 (F10.out.trans (hb.mono F10.out.size)); clear hb i11 m11 c0 c1 c2 c3; obtain ⟨c0, c1, c2, c3⟩ := KEEP.out w11 F11.out)
      | (go_at_call 21; (with_reducible refine (equalInts_calls I10'.out I11.out).mono ?_); rintro e w12 ⟨rfl, hd⟩; rw [beq_self_eq_true]; have F12 := hide2 (F11.out.trans (hd.below.mono F11.out.size)); clear hd c0 c1 c2 c3; obtain ⟨c0, c1, c2, c3⟩ := KEEP.out w12 F12.out))
  all_goals
    go_wp2_with fail
    go_ret
    exact ⟨by first | rfl | simp, B2.out.trans (F12.out.mono B2.out.size)⟩
theorem siphonTells_walk {w : World} (P : Int) {A : Option Addr} {n c : Nat} {ts : List PTran} (h : Trans w A n c ts) (hn : n ≤ 2513169434916) {B : Option Addr} {m d : Nat} {l : List Int} (g : Ints w B m d l) (hm : m ≤ 17592186044416) :
    Calls Try.prog 5 #[.agg #[.int .i64 P, .slice A n c], .slice B m d] w fun e w' => e = .returned (.bool true) ∧ Below w.heap.size w w' := siphonTells_calls h hn g hm
end Go.Proofs.Ytldljjmibaaokaa
