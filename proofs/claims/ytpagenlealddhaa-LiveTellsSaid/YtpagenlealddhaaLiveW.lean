/- The law LiveTells as a call: it returns true. Conditions: the space reads as lists. -/
import Derived.Test.YtpagenlealddhaaLiveP
import Derived.Test.YtpagenlealddhaaLiveV
namespace Go.Proofs.Ytpagenlealddhaa
open Go.RowKit

set_option maxRecDepth 100000 in
set_option maxHeartbeats 8000000 in
theorem liveTells_walk {w : World} {A D : Option Addr} {n c m d : Nat} {ms : List (List Int)} {ars : List PArc} (h : Lists w A n c ms) (g : Arcs w D m d ars) (hn : n ≤ 5864062014634) (hm : m ≤ 5864062014634) (tr : Int) (_ : (Lit.int .i64 tr).wf = true) :
    Calls Try.prog 5 #[.agg #[.slice A n c, .slice D m d], .int .i64 tr] w fun e w' => e = .returned (.bool true) ∧ Below w.heap.size w w' := by
  have HB := hide2 (boxBelow w (.cells #[.slice A n c, .slice D m d] 46))
  have X0 := hide2 (Box.new w #[.slice A n c, .slice D m d] 46)
  obtain ⟨r, hr⟩ : ∃ r, rightG n ars = r := ⟨_, rfl⟩
  obtain ⟨l1, hl1⟩ : ∃ l, deadL ars (min tr 24).toNat = l := ⟨_, rfl⟩
  obtain ⟨l2, hl2⟩ : ∃ l, liveL ars n (min tr 24).toNat = l := ⟨_, rfl⟩
  obtain ⟨l3, hl3⟩ : ∃ l, noneL PArc.from_ ars n = l := ⟨_, rfl⟩
  obtain ⟨l4, hl4⟩ : ∃ l, homeL ars n = l := ⟨_, rfl⟩
  obtain ⟨q, hq⟩ : ∃ q, boundL ms = q := ⟨_, rfl⟩
  have C1 := hide2 (fun (w' : World) (hb : Below w.heap.size w w') => liveRight_calls (Sl.keep ListR.kept h hb) (Sl.keep ArcR.kept g hb))
  have C2 := hide2 (fun (w' : World) (hb : Below w.heap.size w w') => refSpaceRight_calls (Sl.keep ListR.kept h hb) (Sl.keep ArcR.kept g hb))
  have C3 := hide2 (fun (w' : World) (hb : Below w.heap.size w w') => dead_calls tr (Sl.keep ListR.kept h hb) (Sl.keep ArcR.kept g hb) (by omega))
  have C4 := hide2 (fun (w' : World) (hb : Below w.heap.size w w') => refDead_calls tr (Sl.keep ListR.kept h hb) (Sl.keep ArcR.kept g hb))
  have C5 := hide2 (fun (w' : World) (hb : Below w.heap.size w w') => live_calls tr (Sl.keep ListR.kept h hb) (Sl.keep ArcR.kept g hb) hn hm)
  have C6 := hide2 (fun (w' : World) (hb : Below w.heap.size w w') => refLive_calls tr (Sl.keep ListR.kept h hb) (Sl.keep ArcR.kept g hb) hn)
  have C7 := hide2 (fun (w' : World) (hb : Below w.heap.size w w') => stuck_calls (Sl.keep ListR.kept h hb) (Sl.keep ArcR.kept g hb) hn hm)
  have C8 := hide2 (fun (w' : World) (hb : Below w.heap.size w w') => refStuck_calls (Sl.keep ListR.kept h hb) (Sl.keep ArcR.kept g hb) (by omega))
  have C9 := hide2 (fun (w' : World) (hb : Below w.heap.size w w') => home_calls (Sl.keep ListR.kept h hb) (Sl.keep ArcR.kept g hb) hn hm)
  have C10 := hide2 (fun (w' : World) (hb : Below w.heap.size w w') => refHome_calls (Sl.keep ListR.kept h hb) (Sl.keep ArcR.kept g hb) hn)
  have C11 := hide2 (fun (w' : World) (hb : Below w.heap.size w w') => bound_calls (D := D) (m := m) (d := d) (Sl.keep ListR.kept h hb))
  have C12 := hide2 (fun (w' : World) (hb : Below w.heap.size w w') => refBound_calls (D := D) (m := m) (d := d) (Sl.keep ListR.kept h hb))
  simp only [hr, hl1, hl2, hl3, hl4, hq] at C1 C2 C3 C4 C5 C6 C7 C8 C9 C10 C11 C12
  clear h g hr hl1 hl2 hl3 hl4 hq
  go_enter Try.func5, Try.ntmps5
  go_upto_region 1 with fail
  generalize w.alloc (.cells #[.slice A n c, .slice D m d] 46) = w0 at *
  obtain ⟨c0, c1⟩ := X0.out.two
  have KEEP := hide2 (show ∀ w', Below w0.heap.size w0 w' → w'.cell? ⟨w.heap.size, 0, none⟩ = some (.slice A n c) ∧ w'.cell? ⟨w.heap.size, 1, none⟩ = some (.slice D m d) from fun w' hb => (X0.out.keep hb).two)
  have F := hide2 ((Below.refl w0.heap.size w0).drew)
  go_region_held3 (fun w' => w'.cell? ⟨w.heap.size, 0, none⟩ = some (.slice A n c) ∧ w'.cell? ⟨w.heap.size, 1, none⟩ = some (.slice D m d))
    (first | go_keep)
    (first
      | (go_at_call 19; (with_reducible refine (C1.out _ (HB.out.trans (F.out.mono HB.out.size))).mono ?_); rintro e u ⟨rfl, hb⟩; replace F := hide2 (F.out.trans (hb.mono F.out.size)); clear hb c0 c1; obtain ⟨c0, c1⟩ := KEEP.out u F.out)
      | (go_at_call 20; (with_reducible refine (C2.out _ (HB.out.trans (F.out.mono HB.out.size))).mono ?_); rintro e u ⟨rfl, hb⟩; replace F := hide2 (F.out.trans (hb.mono F.out.size)); clear hb c0 c1; obtain ⟨c0, c1⟩ := KEEP.out u F.out)
      | (go_at_call 22; (with_reducible refine (C3.out _ (HB.out.trans (F.out.mono HB.out.size))).mono ?_); rintro e u ⟨Ca, ka, rfl, ia, hb, _⟩; have IA := hide2 ia; replace F := hide2 (F.out.trans (hb.mono F.out.size)); clear hb ia c0 c1; obtain ⟨c0, c1⟩ := KEEP.out u F.out)
      | (go_at_call 23; (with_reducible refine (C4.out _ (HB.out.trans (F.out.mono HB.out.size))).mono ?_); rintro e u ⟨Cb, kb, rfl, ib, hb, _⟩; have IB := hide2 ib; have IA2 := hide2 (Ints.keep IA.out hb); replace F := hide2 (F.out.trans (hb.mono F.out.size)); clear hb ib c0 c1 IA; obtain ⟨c0, c1⟩ := KEEP.out u F.out)
      | (go_at_call 24; (with_reducible refine (C5.out _ (HB.out.trans (F.out.mono HB.out.size))).mono ?_); rintro e u ⟨Ca, ka, rfl, ia, hb, _⟩; have IA := hide2 ia; replace F := hide2 (F.out.trans (hb.mono F.out.size)); clear hb ia c0 c1; obtain ⟨c0, c1⟩ := KEEP.out u F.out)
      | (go_at_call 25; (with_reducible refine (C6.out _ (HB.out.trans (F.out.mono HB.out.size))).mono ?_); rintro e u ⟨Cb, kb, rfl, ib, hb, _⟩; have IB := hide2 ib; have IA2 := hide2 (Ints.keep IA.out hb); replace F := hide2 (F.out.trans (hb.mono F.out.size)); clear hb ib c0 c1 IA; obtain ⟨c0, c1⟩ := KEEP.out u F.out)
      | (go_at_call 26; (with_reducible refine (C7.out _ (HB.out.trans (F.out.mono HB.out.size))).mono ?_); rintro e u ⟨Ca, ka, rfl, ia, hb, _⟩; have IA := hide2 ia; replace F := hide2 (F.out.trans (hb.mono F.out.size)); clear hb ia c0 c1; obtain ⟨c0, c1⟩ := KEEP.out u F.out)
      | (go_at_call 27; (with_reducible refine (C8.out _ (HB.out.trans (F.out.mono HB.out.size))).mono ?_); rintro e u ⟨Cb, kb, rfl, ib, hb, _⟩; have IB := hide2 ib; have IA2 := hide2 (Ints.keep IA.out hb); replace F := hide2 (F.out.trans (hb.mono F.out.size)); clear hb ib c0 c1 IA; obtain ⟨c0, c1⟩ := KEEP.out u F.out)
      | (go_at_call 28; (with_reducible refine (C9.out _ (HB.out.trans (F.out.mono HB.out.size))).mono ?_); rintro e u ⟨Ca, ka, rfl, ia, hb, _⟩; have IA := hide2 ia; replace F := hide2 (F.out.trans (hb.mono F.out.size)); clear hb ia c0 c1; obtain ⟨c0, c1⟩ := KEEP.out u F.out)
      | (go_at_call 29; (with_reducible refine (C10.out _ (HB.out.trans (F.out.mono HB.out.size))).mono ?_); rintro e u ⟨Cb, kb, rfl, ib, hb, _⟩; have IB := hide2 ib; have IA2 := hide2 (Ints.keep IA.out hb); replace F := hide2 (F.out.trans (hb.mono F.out.size)); clear hb ib c0 c1 IA; obtain ⟨c0, c1⟩ := KEEP.out u F.out)
      | (go_at_call 21; (with_reducible refine (equalInts_calls IA2.out IB.out).mono ?_); rintro e u ⟨rfl, hd⟩; rw [beq_self_eq_true]; replace F := hide2 (F.out.trans (hd.below.mono F.out.size)); clear hd c0 c1 IA2 IB; obtain ⟨c0, c1⟩ := KEEP.out u F.out)
      | (go_at_call 30; (with_reducible refine (C11.out _ (HB.out.trans (F.out.mono HB.out.size))).mono ?_); rintro e u ⟨rfl, hb⟩; replace F := hide2 (F.out.trans (hb.mono F.out.size)); clear hb c0 c1; obtain ⟨c0, c1⟩ := KEEP.out u F.out)
      | (go_at_call 31; (with_reducible refine (C12.out _ (HB.out.trans (F.out.mono HB.out.size))).mono ?_); rintro e u ⟨rfl, hb⟩; replace F := hide2 (F.out.trans (hb.mono F.out.size)); clear hb c0 c1; obtain ⟨c0, c1⟩ := KEEP.out u F.out))
  all_goals
    go_wp2
    go_ret
    exact ⟨by first | rfl | simp, HB.out.trans (F.out.mono HB.out.size)⟩
end Go.Proofs.Ytpagenlealddhaa
