/- The law BenchReads as a call: it returns true. Conditions: the block reads as a tree, the text is not too long. -/
import Derived.Test.YtadepofaobdbhaaBenD
import Derived.Test.YtadepofaobdbhaaBenG
import Derived.Test.YtadepofaobdbhaaSameL
import Derived.Test.YtadepofaobdbhaaBlkT
namespace Go.Proofs.Ytadepofaobdbhaa
open Go.RowKit

theorem logR_len : ∀ (r : List UInt8) (out : List (List Int)) (now : List Int), (logR r out now).1.length ≤ out.length + r.length
  | [], out, now => by rw [logR]; split <;> simp
  | c :: r, out, now => by
    rw [logR]
    split
    · have := logR_len r (out ++ [now]) []
      simp at this ⊢
      omega
    · split
      · have := logR_len r out (now ++ [numB c])
        simp at this ⊢
        omega
      · simp
theorem rowsLists {w : World} {B B2 n c : Nat} {A : Option Addr} {xs : List (List Int)} (h : OwnSl (OwnListR B) 1 w B2 41 (.slice A n c) n xs) (hn : xs.length ≤ 1048576) : Lists w A n c xs := by
  obtain ⟨cells, o, r, hl⟩ := h
  have h2 : OwnSl ListR 1 w B2 41 (.slice A n c) n xs := ⟨cells, o, ⟨r.1, fun i x hx => by obtain ⟨vs, a, b⟩ := r.2 i x hx; exact ⟨vs, a, b.list⟩⟩, hl⟩
  subst hl
  obtain ⟨A', c', e, hi⟩ := h2.sl (by omega)
  injection e with e1 e2 e3
  subst e1 e3
  exact hi

set_option maxRecDepth 100000 in
set_option maxHeartbeats 8000000 in
theorem benchReads_walk {d : Nat} {w : World} {kd lb : Int} {A : Option Addr} {n c : Nat} {ks : List PBlk} (h : Blks d w A n c ks) (s : List UInt8) (hs : s.length ≤ 1048576) :
    Calls Try.prog 4 #[.agg #[.int .i64 kd, .int .i64 lb, .slice A n c], .string ⟨s.toArray⟩] w (fun e w' => e = .returned (.bool true) ∧ Below w.heap.size w w') := by
  have bb := boxBelow w (.cells #[.int .i64 kd, .int .i64 lb, .slice A n c] 33)
  have BB := hide2 (Box.new w #[.int .i64 kd, .int .i64 lb, .slice A n c] 33)
  have K := hide2 (h.keep bb)
  have BX := hide2 bb
  clear h bb
  generalize hw1 : w.alloc (.cells #[.int .i64 kd, .int .i64 lb, .slice A n c] 33) = w1 at *
  obtain ⟨c0, c1, c2⟩ := BB.out.three
  have CP := hide2 (fun (w' : World) (hb : Below w1.heap.size w1 w') => print_calls (kd := kd) (lb := lb) (K.out.keep hb))
  have CQ := hide2 (fun (w' : World) (hb : Below w1.heap.size w1 w') => xprint_calls (kd := kd) (lb := lb) (K.out.keep hb))
  generalize prtB (.mk kd lb ks) = pr at *
  obtain ⟨tx, er⟩ := pr
  have CL := hide2 (fun (w' : World) => log_calls s hs w')
  have CM := hide2 (fun (w' : World) => xlog_calls s hs w')
  unfold AnsLog at CL CM
  have hlen : (logL s).1.length ≤ 1048576 := by have := logR_len s [] []; simp at this; exact Nat.le_trans this hs
  generalize logL s = lg at *
  obtain ⟨ro, li, le⟩ := lg
  clear K
  go_enter Try.func4, Try.ntmps4
  go_upto_region 2 with (go_at_call 12; (with_reducible refine (CP.out _ (Below.refl _ _)).mono ?_); rintro e w2 ⟨rfl, hb2⟩)
  have F2 := hide2 hb2
  obtain ⟨d0, d1, d2⟩ := (BB.out.keep hb2).three
  clear hb2 c0 c1 c2 hw1
  go_upto_region 3 with (go_at_call 13; (with_reducible refine (CQ.out _ F2.out).mono ?_); rintro e w3 ⟨rfl, hb3⟩)
  have F3 := hide2 (F2.out.trans (hb3.mono F2.out.size))
  clear hb3 d0 d1 d2
  go_upto_region 4 with (go_at_call 14; (with_reducible refine (CL.out _).mono ?_); rintro e w4 ⟨A4, n4, e4, rfl, O4, hb4⟩)
  have F4 := hide2 (F3.out.trans (hb4.mono F3.out.size))
  have L4 := hide2 (rowsLists O4 hlen)
  clear hb4 O4
  go_upto_region 5 with (go_at_call 15; (with_reducible refine (CM.out _).mono ?_); rintro e w5 ⟨A5, n5, e5, rfl, O5, hb5⟩)
  have F5 := hide2 (F4.out.trans (hb5.mono F4.out.size))
  have L5 := hide2 (rowsLists O5 hlen)
  have M4 := hide2 (Sl.keep ListR.kept L4.out hb5)
  clear hb5 O5 L4
  have CS := hide2 (sameLists_same M4.out L5.out)
  go_wp2_with (go_at_call 16; (with_reducible refine CS.out.mono ?_); rintro e w6 ⟨rfl, hb6⟩; have F6 := hide2 (F5.out.trans (hb6.mono F5.out.size)); clear hb6)
  go_ret
  exact ⟨rfl, BX.out.trans (F6.out.mono BX.out.size)⟩
end Go.Proofs.Ytadepofaobdbhaa
