/- The contracts of siphon.whole, Siphon and Trap. Conditions: the net and the places read as lists. -/
import Derived.Test.YtldljjmibaaokaaSipB
import Derived.Test.YtldljjmibaaokaaPlainH
namespace Go.Proofs.Ytldljjmibaaokaa
open Go.RowKit

def outP (P p : Int) : Bool := decide (p < 0) || decide (P ≤ p)
def wholeB (N : PNet) (l : List Int) : Bool := netOk N && !l.any (outP N.places)
def sipB (N : PNet) (l : List Int) : Bool := wholeB N l && !N.trans.any (badT (bitL l))
theorem whole_in {N : PNet} {l : List Int} (h : wholeB N l = true) : netOk N = true ∧ ∀ x ∈ l, 0 ≤ x ∧ x < N.places := by
  unfold wholeB at h
  rw [Bool.and_eq_true, Bool.not_eq_true', List.any_eq_false] at h
  refine ⟨h.1, fun x hx => ?_⟩
  have := h.2 x hx
  unfold outP at this
  simp only [Bool.or_eq_true, decide_eq_true_eq, not_or] at this
  omega

set_option maxRecDepth 100000 in
theorem whole_pred {w : World} {bn n c : Nat} {P : Int} {A : Option Addr} (x : Box w bn 24 #[.int .i64 P, .slice A n c]) : IsPred 95 #[.pointer (some ⟨bn, 0, none⟩)] w (outP P) where
  enters := fun args w => by kernel_rfl
  calls := fun p => by
    obtain ⟨c0, _⟩ := x.two
    show Calls Try.prog 95 #[.int .i64 p, .pointer (some ⟨bn, 0, none⟩)] w _
    by_cases h1 : p < 0
    · have FN := hide2 (show outP P p = true by simp [outP, h1])
      go_enter Try.func95, Try.ntmps95
      go_wp2
      go_ret
      exact ⟨ret_bool FN.out.symm, rfl⟩
    · have FN := hide2 (show outP P p = decide (P ≤ p) by simp [outP, h1])
      go_enter Try.func95, Try.ntmps95
      go_wp2
      all_goals
        go_ret
        exact ⟨ret_bool (by first | (rw [FN.out]; done) | (rw [FN.out]; simp; done) | (rw [FN.out]; simp; omega)), rfl⟩

set_option maxRecDepth 100000 in
set_option maxHeartbeats 1000000 in
theorem whole_calls {w : World} {P : Int} {A B : Option Addr} {n c m d : Nat} {ts : List PTran} {l : List Int} (h : Trans w A n c ts) (g : Ints w B m d l) :
    Calls Try.prog 61 #[.agg #[.int .i64 P, .slice A n c], .slice B m d] w fun e w' => e = .returned (.bool (wholeB ⟨P, ts⟩ l)) ∧ Below w.heap.size w w' := by
  have X0 := hide2 (Box.new w #[.int .i64 P, .slice A n c] 24)
  have B0 := hide2 (boxBelow w (.cells #[.int .i64 P, .slice A n c] 24))
  have H := hide2 h
  have G := hide2 g
  clear h g
  obtain ⟨r, hr⟩ : ∃ r, netOk ⟨P, ts⟩ = r := ⟨_, rfl⟩
  have WB := hide2 (show wholeB ⟨P, ts⟩ l = (r && !l.any (outP P)) by rw [wholeB, hr])
  cases r
  · have W0 := hide2 (wrongNet_not hr)
    clear hr
    go_enter Try.func61, Try.ntmps61
    go_upto_region 1 with fail
    generalize w.alloc (.cells #[.int .i64 P, .slice A n c] 24) = w0 at *
    obtain ⟨c0, c1⟩ := X0.out.two
    go_wp2_with fail
    refine (netWrong_calls _ P A n c ts (H.out.keep B0.out)).mono ?_
    rw [W0.out]
    rintro e w1 ⟨rfl, hb⟩
    have B1 := hide2 (B0.out.trans (hb.mono B0.out.size))
    clear hb
    go_wp2
    go_ret
    exact ⟨ret_bool WB.out.symm, B1.out⟩
  · have W0 := hide2 (wrongNet_ok hr)
    clear hr
    go_enter Try.func61, Try.ntmps61
    go_upto_region 1 with fail
    generalize w.alloc (.cells #[.int .i64 P, .slice A n c] 24) = w0 at *
    obtain ⟨c0, c1⟩ := X0.out.two
    go_wp2_with fail
    refine (netWrong_calls _ P A n c ts (H.out.keep B0.out)).mono ?_
    rw [W0.out]
    rintro e w1 ⟨rfl, hb⟩
    have X1 := hide2 (X0.out.keep hb)
    have B1 := hide2 (B0.out.trans (hb.mono B0.out.size))
    clear hb
    go_wp2_with (refine (containsFuncInts (G.out.keep B1.out) (whole_pred X1.out)).mono ?_; rintro e w2 ⟨rfl, rfl⟩)
    go_ret
    exact ⟨ret_bool (by rw [WB.out]; simp), B1.out⟩

theorem and16 {a b : Nat} (ha : a < 65536) (hb : b < 65536) : bits .and .u32 (a : Int) (b : Int) = ((a &&& b : Nat) : Int) := u32_and_nat a b (by omega) (by omega)

set_option maxRecDepth 100000 in
set_option maxHeartbeats 1000000 in
theorem sip_pred {w : World} {ts : List PTran} {bs s : Nat} (x : Box w bs 102 #[.int .u32 (s : Int)]) (hs : s < 65536) (hok : ∀ t ∈ ts, TOk t) : IsPredT 64 #[.pointer (some ⟨bs, 0, none⟩)] w ts (badT s) where
  enters := fun args w => by kernel_rfl
  calls := fun wr t A1 n1 d1 A2 n2 d2 hb ht i1 i2 => by
    obtain ⟨k1, k2, k3, k4⟩ := hok t ht
    have bb := boxBelow wr (.cells #[.int .i64 t.label, .slice A1 n1 d1, .slice A2 n2 d2] 79)
    have X0 := hide2 ((x.keep hb).old (.cells #[.int .i64 t.label, .slice A1 n1 d1, .slice A2 n2 d2] 79))
    have X1 := hide2 (Box.new wr #[.int .i64 t.label, .slice A1 n1 d1, .slice A2 n2 d2] 79)
    have J1 := hide2 (Ints.keep i1 bb)
    have J2 := hide2 (Ints.keep i2 bb)
    have hn1 : n1 ≤ 16 := by rw [← i1.len]; exact k1
    have hn2 : n2 ≤ 16 := by rw [← i2.len]; exact k2
    have a1 := and16 (ofW_lt k2) hs
    have a2 := and16 (ofW_lt k1) hs
    have FN := hide2 (show badT s t = (decide (ofW t.post &&& s ≠ 0) && decide (ofW t.pre &&& s = 0)) from rfl)
    generalize ofW t.post &&& s = e1 at *
    generalize ofW t.pre &&& s = e2 at *
    have BB := hide2 bb
    clear hb ht i1 i2 x k1 k2 k3 k4 bb
    show Calls Try.prog 64 #[.agg #[.int .i64 t.label, .slice A1 n1 d1, .slice A2 n2 d2], .pointer (some ⟨bs, 0, none⟩)] wr _
    rw [FN.out]
    go_enter Try.func64, Try.ntmps64
    go_upto_region 1 with fail
    generalize wr.alloc (.cells #[.int .i64 t.label, .slice A1 n1 d1, .slice A2 n2 d2] 79) = w0 at *
    obtain ⟨c0, c1, c2⟩ := X1.out.three
    have c3 := X0.out.cell 0
    simp only [List.getElem?_toArray, List.getElem?_cons_zero] at c3
    have O1 := hide2 (fun q => of_calls (Ints.keep J1.out (Drew.drewN w0 q).below) hn1)
    have O2 := hide2 (fun q => of_calls (Ints.keep J2.out (Drew.drewN w0 q).below) hn2)
    by_cases h1 : e1 = 0
    · subst h1
      go_quiet ((go_at_call 65; with_reducible exact quietCall (O2.out _)))
      go_wp2
      go_ret
      exact ⟨ret_bool (by simp), BB.out.trans ((Drew.drewN _ _).below.mono BB.out.size)⟩
    · have h1' : ((e1 : Int) == 0) = false := by simp; omega
      by_cases h2 : e2 = 0
      · subst h2
        go_quiet (first | (go_at_call 65; with_reducible exact quietCall (O2.out _)) | (go_at_call 65; with_reducible exact quietCall (O1.out _)))
        go_wp2
        go_ret
        exact ⟨ret_bool (by simp [h1]), BB.out.trans ((Drew.drewN _ _).below.mono BB.out.size)⟩
      · have h2' : ((e2 : Int) == 0) = false := by simp; omega
        go_quiet (first | (go_at_call 65; with_reducible exact quietCall (O2.out _)) | (go_at_call 65; with_reducible exact quietCall (O1.out _)))
        go_wp2
        go_ret
        exact ⟨ret_bool (by simp [h1, h2]), BB.out.trans ((Drew.drewN _ _).below.mono BB.out.size)⟩

set_option maxRecDepth 100000 in
set_option maxHeartbeats 1000000 in
theorem siphon_calls {w : World} {P : Int} {A B : Option Addr} {n c m d : Nat} {ts : List PTran} {l : List Int} (h : Trans w A n c ts) (g : Ints w B m d l) :
    Calls Try.prog 18 #[.agg #[.int .i64 P, .slice A n c], .slice B m d] w fun e w' => e = .returned (.bool (sipB ⟨P, ts⟩ l)) ∧ Below w.heap.size w w' := by
  have X0 := hide2 (Box.new w #[.int .i64 P, .slice A n c] 24)
  have B0 := hide2 (boxBelow w (.cells #[.int .i64 P, .slice A n c] 24))
  have H := hide2 h
  have G := hide2 g
  clear h g
  obtain ⟨r, hr⟩ : ∃ r, wholeB ⟨P, ts⟩ l = r := ⟨_, rfl⟩
  have SB := hide2 (show sipB ⟨P, ts⟩ l = (r && !ts.any (badT (bitL l))) by rw [sipB, hr])
  have HR := hide2 hr
  clear hr
  cases r
  · go_enter Try.func18, Try.ntmps18
    go_upto_region 1 with fail
    generalize w.alloc (.cells #[.int .i64 P, .slice A n c] 24) = w0 at *
    obtain ⟨c0, c1⟩ := X0.out.two
    go_wp2_with fail
    refine (whole_calls (P := P) (H.out.keep B0.out) (G.out.keep B0.out)).mono ?_
    rw [HR.out]
    rintro e w1 ⟨rfl, hb⟩
    have B1 := hide2 (B0.out.trans (hb.mono B0.out.size))
    clear hb
    go_wp2
    go_ret
    exact ⟨ret_bool SB.out.symm, B1.out⟩
  · go_enter Try.func18, Try.ntmps18
    go_upto_region 1 with fail
    generalize w.alloc (.cells #[.int .i64 P, .slice A n c] 24) = w0 at *
    obtain ⟨c0, c1⟩ := X0.out.two
    go_wp2_with fail
    refine (whole_calls (P := P) (H.out.keep B0.out) (G.out.keep B0.out)).mono ?_
    rw [HR.out]
    rintro e w1 ⟨rfl, hb⟩
    have X1 := hide2 (X0.out.keep hb)
    have B1 := hide2 (B0.out.trans (hb.mono B0.out.size))
    clear hb c0 c1
    go_wp2_with fail
    refine (set_calls (G.out.keep B1.out)).mono ?_
    rintro e w2 ⟨rfl, rfl⟩
    have bb := boxBelow w1 (.cells #[.int .u32 (bitL l : Int)] 102)
    have X2 := hide2 (X1.out.old (.cells #[.int .u32 (bitL l : Int)] 102))
    have X3 := hide2 (Box.new w1 #[.int .u32 (bitL l : Int)] 102)
    have B2 := hide2 (B1.out.trans (bb.mono B1.out.size))
    have TK := hide2 (tok_of (whole_in HR.out).1)
    clear bb
    go_upto_region 4 with fail
    generalize w1.alloc (.cells #[.int .u32 (bitL l : Int)] 102) = w3 at *
    obtain ⟨c0, c1⟩ := X2.out.two
    go_wp2_with fail
    refine (containsTrans_calls (H.out.keep B2.out) (sip_pred X3.out (bitL_lt l) TK.out)).mono ?_
    rintro e w4 ⟨rfl, hb⟩
    go_wp2
    go_ret
    exact ⟨ret_bool (by rw [SB.out]; simp), B2.out.trans (hb.mono B2.out.size)⟩

set_option maxRecDepth 100000 in
theorem trap_calls {w : World} {P : Int} {A B : Option Addr} {n c m d : Nat} {ts : List PTran} {l : List Int} (h : Trans w A n c ts) (hn : n ≤ 2513169434916) (g : Ints w B m d l) :
    Calls Try.prog 20 #[.agg #[.int .i64 P, .slice A n c], .slice B m d] w fun e w' => e = .returned (.bool (sipB (turned ⟨P, ts⟩) l)) ∧ Below w.heap.size w w' := by
  have X0 := hide2 (Box.new w #[.int .i64 P, .slice A n c] 24)
  have B0 := hide2 (boxBelow w (.cells #[.int .i64 P, .slice A n c] 24))
  have H := hide2 h
  have G := hide2 g
  clear h g
  go_enter Try.func20, Try.ntmps20
  go_upto_region 1 with fail
  generalize w.alloc (.cells #[.int .i64 P, .slice A n c] 24) = w0 at *
  obtain ⟨c0, c1⟩ := X0.out.two
  go_wp2_with fail
  refine (netTurned_calls (P := P) (H.out.keep B0.out) hn).mono ?_
  rintro e w1 ⟨A1, n1, k1, rfl, t1, hb⟩
  have T1 := hide2 t1
  have B1 := hide2 (B0.out.trans (hb.mono B0.out.size))
  clear hb t1
  go_wp2_with (refine (siphon_calls (P := P) T1.out (G.out.keep B1.out)).mono ?_; rintro e w2 ⟨rfl, hb⟩)
  go_ret
  exact ⟨rfl, B1.out.trans (hb.mono B1.out.size)⟩
end Go.Proofs.Ytldljjmibaaokaa
