/- The law ChoiceTells as a call: it returns true. Conditions: the net reads as a list. -/
import Derived.Test.YtldljjmibaaokaaChoD
import Derived.Test.YtldljjmibaaokaaChoG
import Derived.Test.YtldljjmibaaokaaSameL
import Derived.Test.YtldljjmibaaokaaNetJ
namespace Go.Proofs.Ytldljjmibaaokaa
open Go.RowKit

set_option maxRecDepth 100000 in
set_option maxHeartbeats 8000000 in
theorem choiceTells_walk {w : World} (P : Int) {A : Option Addr} {n c : Nat} {ts : List PTran} (h : Trans w A n c ts) (_ : n ≤ 2513169434916) :
    Calls Try.prog 6 #[.agg #[.int .i64 P, .slice A n c]] w fun e w' => e = .returned (.bool true) ∧ Below w.heap.size w w' := by
  have X0 := hide2 (Box.new w #[.int .i64 P, .slice A n c] 24)
  have B0 := hide2 (boxBelow w (.cells #[.int .i64 P, .slice A n c] 24))
  have H := hide2 h
  clear h
  go_enter Try.func6, Try.ntmps6
  go_upto_region 1 with fail
  generalize w.alloc (.cells #[.int .i64 P, .slice A n c] 24) = w2 at *
  have DR := hide2 ((Below.refl w2.heap.size w2).drew)
  have KEEP := hide2 (show ∀ w', Below w2.heap.size w2 w' → w'.cell? ⟨w.heap.size, 0, none⟩ = some (.int .i64 P) ∧ w'.cell? ⟨w.heap.size, 1, none⟩ = some (.slice A n c) from fun w' hb => (X0.out.keep hb).two)
  have H2 := hide2 (fun w' (hb : Below w2.heap.size w2 w') => H.out.keep (B0.out.trans (hb.mono B0.out.size)))
  obtain ⟨c0, c1⟩ := KEEP.out w2.drew DR.out
  obtain ⟨s1, hs1⟩ : ∃ s, freeB ⟨P, ts⟩ = s := ⟨_, rfl⟩
  have S1 := hide2 hs1
  clear hs1
  go_region_held3 (fun w' => w'.cell? ⟨w.heap.size, 0, none⟩ = some (.int .i64 P) ∧ w'.cell? ⟨w.heap.size, 1, none⟩ = some (.slice A n c))
    (first | go_keep)
    (first
      | (go_at_call 25; (with_reducible refine (free_calls (P := P) (H2.out _ DR.out)).mono ?_); rw [S1.out]; rintro e w3 ⟨rfl, hb⟩; have F3 := hide2 (DR.out.trans (hb.mono DR.out.size)); clear hb c0 c1; obtain ⟨c0, c1⟩ := KEEP.out w3 F3.out)
      | (go_at_call 26; (with_reducible refine (nfree_calls (P := P) (H2.out _ F3.out)).mono ?_); rw [S1.out]; rintro e w4 ⟨rfl, hb⟩; have F4 := hide2 (F3.out.trans (hb.mono F3.out.size)); clear hb c0 c1; obtain ⟨c0, c1⟩ := KEEP.out w4 F4.out)
      | (go_at_call 27; (with_reducible refine (clusters_calls (P := P) (H2.out _ F4.out)).mono ?_); rintro e w7 ⟨L7, p7, v7, n7, rfl, o7, l7, hb⟩; obtain ⟨A7, k7, rfl, i7⟩ := o7.sl (by omega); have I7 := hide2 (show Lists w7 A7 n7 k7 L7 from i7.imp fun _ _ h => h.list); have M7 := hide2 p7; have F7 := hide2 (F4.out.trans (hb.mono F4.out.size)); clear hb i7 o7 p7 c0 c1; obtain ⟨c0, c1⟩ := KEEP.out w7 F7.out)
      | (go_at_call 28; (with_reducible refine (nclusters_calls (P := P) (H2.out _ F7.out)).mono ?_); rintro e w8 ⟨L8, p8, v8, n8, rfl, o8, l8, hb⟩; obtain rfl := ClustP.uniq M7.out p8; obtain ⟨A8, k8, rfl, i8⟩ := o8.sl (by omega); have I8 := hide2 (show Lists w8 A8 n8 k8 L7 from i8.imp fun _ _ h => h.list); have I7' := hide2 (Sl.keep ListR.kept I7.out hb); have F8 := hide2 (F7.out.trans (hb.mono F7.out.size)); clear hb i8 o8 p8 c0 c1; obtain ⟨c0, c1⟩ := KEEP.out w8 F8.out)
      | (go_at_call 14; (with_reducible refine (sameLists_same I7'.out I8.out).mono ?_); rintro e w9 ⟨rfl, hb⟩; have F9 := hide2 (F8.out.trans (hb.mono F8.out.size)); clear hb c0 c1; obtain ⟨c0, c1⟩ := KEEP.out w9 F9.out))
  all_goals
    go_wp2_with fail
    go_ret
    exact ⟨by first | rfl | simp, B0.out.trans (F9.out.mono B0.out.size)⟩
end Go.Proofs.Ytldljjmibaaokaa
