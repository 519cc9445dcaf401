/- The contracts of search and Graph. Conditions: the net and the mark read as lists. -/
import Derived.Test.YtmnacahoamkokaaReachE
import Derived.Test.YtmnacahoamkokaaOwnB
namespace Go.Proofs.Ytmnacahoamkokaa
open Go.RowKit

theorem FinW.start (w1 : World) {B : Nat} (hB : B ≤ w1.heap.size) (P : Int) (A : Option Addr) (n c : Nat) (most : Int) :
    FinW ((w1.alloc (.map #[] 0)).alloc (.cells #[.int .i64 P, .slice A n c, .int .i64 most, .map (some w1.heap.size), .slice none 0 0, .slice none 0 0, .slice none 0 0] 144)) B (w1.heap.size + 1) w1.heap.size P A n c most (.slice none 0 0) (.slice none 0 0) (.slice none 0 0) [] [] [] [] where
  lo := by omega
  lom := hB
  box := Box.newAt (by simp) _ _
  map := (AtM.made w1).of_block (heap_alloc_old _ _ (by simp))
  marks := OwnSl.nil
  arcs := OwnSl.nil
  first := OwnSl.nil
def AnsSearch (N : PNet) (most : Int) (r : PSp × Int) (w : World) (e : Ending) (w' : World) : Prop :=
  Below w.heap.size w w' ∧ ((r.2 ≠ 0 ∧ e = .returned (.tuple #[.pointer none, .int .i64 r.2])) ∨ (r.2 = 0 ∧ ∃ (bf bm : Nat) (A : Option Addr) (n c : Nat) (u v z : Value) (fs : List Int), e = .returned (.tuple #[.pointer (some ⟨bf, 0, none⟩), .int .i64 0]) ∧ FinW w' w.heap.size bf bm N.places A n c most u v z r.1.marks r.1.marks r.1.arcs fs ∧ ExpOk N most.toNat r.1 fs 7200 ∧ r.1.marks.length ≤ 300))

set_option maxRecDepth 100000 in
set_option maxHeartbeats 2000000 in
theorem search_calls {w : World} {P : Int} {A B : Option Addr} {n c m d : Nat} {ts : List PTran} {xs : List Int} (most : Int) (h : Trans w A n c ts) (g : Ints w B m d xs) :
    Calls Try.prog 74 #[.agg #[.int .i64 P, .slice A n c], .slice B m d, .int .i64 most] w (AnsSearch ⟨P, ts⟩ most (graphL ⟨P, ts⟩ xs most) w) := by
  have HB := hide2 (boxBelow w)
  have H := hide2 h
  have G := hide2 g
  have gs := g.small
  clear h g
  have hmm := @run_makeMap Try.prog
  by_cases hm : 1 ≤ most ∧ most ≤ 300
  · obtain ⟨hm1, hm2⟩ := hm
    obtain ⟨M, rfl⟩ : ∃ M : Nat, most = (M : Int) := ⟨most.toNat, by omega⟩
    have MM := hide2 (show (1 : Int) ≤ (M : Int) ∧ (M : Int) ≤ 300 from ⟨hm1, hm2⟩)
    have hf1 : ¬ (M : Int) < 1 := by omega
    have hf2 : ¬ (M : Int) > 300 := by omega
    clear hm1 hm2
    go_enter Try.func74, Try.ntmps74
    cases hok : fitsB ⟨P, ts⟩ xs
    · have FE := hide2 (show graphL ⟨P, ts⟩ xs (M : Int) = (PSp.nil, 2) by rw [graphL, if_neg (by rw [hok]; simp)])
      have FIN := hide2 (show enabledL ⟨P, ts⟩ xs = ([], 2) by rw [enabledL, hok]; rfl)
      clear hok hmm
      go_wp2_with ((with_reducible refine (enabled_calls (H.out.keep (HB.out _)) (G.out.keep (HB.out _))).mono ?_); rw [FIN.out]; rintro e w1 ⟨C, l, lc, rfl, hi, hb1⟩; have B1 := hide2 ((HB.out (.cells #[.int .i64 P, .slice A n c] 27)).trans (hb1.mono (by simp))); clear hi hb1)
      exact bodyPost_ret (v := .tuple #[.pointer none, .int .i64 2]) (by simp [results, Try.results74, go_sem]) rfl (by rw [FE.out]; exact ⟨B1.out, .inl ⟨by decide, rfl⟩⟩)
    · have FT := hide2 hok
      have FIN := hide2 (show enabledL ⟨P, ts⟩ xs = (enIdx ts xs, 0) by rw [enabledL, hok]; rfl)
      have HX := hide2 (show xs.length ≤ 16 by
        obtain ⟨h1, h2, _⟩ := (fitsB_iff _ _).1 hok
        have h3 := ((netOk_iff _).1 h1).2.1
        simp only at h2 h3
        omega)
      have hm16 : m ≤ 16 := by rw [← G.out.len]; exact HX.out
      clear hok
      go_upto_region 6 with ((with_reducible refine (enabled_calls (H.out.keep (HB.out _)) (G.out.keep (HB.out _))).mono ?_); rw [FIN.out]; rintro e w1 ⟨C, l, lc, rfl, hi, hb1⟩; have B1 := hide2 ((HB.out (.cells #[.int .i64 P, .slice A n c] 27)).trans (hb1.mono (by simp))); have c0 : w1.cell? ⟨w.heap.size, 0, none⟩ = some (.int .i64 P) := (hb1.cell (by simp)).trans (by simp); have c1 : w1.cell? ⟨w.heap.size, 1, none⟩ = some (.slice A n c) := (hb1.cell (by simp)).trans (by simp); clear hi hb1)
      go_upto_region 7 with fail
      clear hmm c0 c1
      have F0 := hide2 (FinW.start w1 B1.out.size P A n c (M : Int))
      have B2 := hide2 ((B1.out.alloc B1.out.size (.map #[] 0)).alloc (Nat.le_trans B1.out.size (by simp)) (.cells #[.int .i64 P, .slice A n c, .int .i64 (M : Int), .map (some w1.heap.size), .slice none 0 0, .slice none 0 0, .slice none 0 0] 144))
      generalize (w1.alloc (.map #[] 0)).alloc (.cells #[.int .i64 P, .slice A n c, .int .i64 (M : Int), .map (some w1.heap.size), .slice none 0 0, .slice none 0 0, .slice none 0 0] 144) = w2 at *
      generalize w1.heap.size + 1 = bf at *
      generalize w1.heap.size = bm at *
      have G2 := hide2 (G.out.keep B2.out)
      have FP := hide2 (show findP M [] [] xs (-1) = ([xs], [-1], 0, true) by
        have hM0 : ¬ (0 = M) := by have := MM.out; omega
        simp [findP, findL, hM0])
      have GE := hide2 (show graphL ⟨P, ts⟩ xs (M : Int) = (match goM ⟨P, ts⟩ M M 0 ⟨[xs], []⟩ with | some s => (s, 0) | none => (PSp.nil, 4)) by
        rw [graphL, if_pos ⟨MM.out.1, MM.out.2, FT.out⟩]; rfl)
      have EX := hide2 (fun (w' : World) (u v z : Value) (h1 : FinW w' w.heap.size bf bm P A n c (M : Int) u v z [xs] [xs] [] [-1]) (h2 : Below w.heap.size w w') => explore_calls (s := ⟨[xs], []⟩) H.out (by have := MM.out; omega) h1 h2 ⟨SpOk.start FT.out (by have := MM.out; omega), FstOk.start xs, Nat.le_refl _⟩)
      have RX := hide2 ((fitsB_iff _ _).1 FT.out).2.2
      obtain ⟨r, hr⟩ : ∃ r, goM ⟨P, ts⟩ M M 0 ⟨[xs], []⟩ = r := ⟨_, rfl⟩
      rw [hr] at GE
      simp only [hr] at EX
      clear hr
      cases r with
      | none =>
        go_wp2_with (first
          | (go_at_call 55; (with_reducible refine (cloneInts_calls G2.out (by omega)).mono ?_); rintro e w3 ⟨vv, rfl, own, hb3⟩; obtain ⟨X, cx, rfl, ix⟩ := own.sl (by omega); have CALL := hide2 (find_calls (-1) (F0.out.keep hb3) (B2.out.trans (hb3.mono B2.out.size)) ix (by omega) RX.out (F0.out.apart (fun ad had => by subst had; exact (own.lt ad.block rfl).1)) (by simp) (by simp)); clear own ix hb3)
          | (go_at_call 145; go_loud ((with_reducible refine CALL.out.mono ?_); rw [FP.out]; rintro e w4 ⟨u', z', rfl, F4, B4, S4, K4⟩; have CALX := hide2 (EX.out w4 _ _ _ F4 B4); clear F4 B4 S4 K4))
          | (go_at_call 146; go_loud ((with_reducible refine CALX.out.mono ?_); rintro e w5 ⟨B5, rfl⟩; have BZ := hide2 B5; clear B5)))
        exact bodyPost_ret (v := .tuple #[.pointer none, .int .i64 4]) (by simp [results, Try.results74, go_sem]) rfl (by rw [GE.out]; exact ⟨BZ.out, .inl ⟨by decide, rfl⟩⟩)
      | some s =>
        go_wp2_with (first
          | (go_at_call 55; (with_reducible refine (cloneInts_calls G2.out (by omega)).mono ?_); rintro e w3 ⟨vv, rfl, own, hb3⟩; obtain ⟨X, cx, rfl, ix⟩ := own.sl (by omega); have CALL := hide2 (find_calls (-1) (F0.out.keep hb3) (B2.out.trans (hb3.mono B2.out.size)) ix (by omega) RX.out (F0.out.apart (fun ad had => by subst had; exact (own.lt ad.block rfl).1)) (by simp) (by simp)); clear own ix hb3)
          | (go_at_call 145; go_loud ((with_reducible refine CALL.out.mono ?_); rw [FP.out]; rintro e w4 ⟨u', z', rfl, F4, B4, S4, K4⟩; have CALX := hide2 (EX.out w4 _ _ _ F4 B4); clear F4 B4 S4 K4))
          | (go_at_call 146; go_loud ((with_reducible refine CALX.out.mono ?_); rintro e w5 ⟨B5, rfl, ans⟩; have BZ := hide2 B5; have AN := hide2 ans; clear B5 ans)))
        obtain ⟨u, v, z, fs, hF, hX⟩ := AN.out
        exact bodyPost_ret (v := .tuple #[.pointer (some ⟨bf, 0, none⟩), .int .i64 0]) (by simp [results, Try.results74, go_sem]) rfl (by rw [GE.out]; exact ⟨BZ.out, .inr ⟨rfl, bf, bm, A, n, c, u, v, z, fs, rfl, hF, hX, by have := hX.sp.few; have := MM.out; simp only; omega⟩⟩)
  · have FE := hide2 (show graphL ⟨P, ts⟩ xs most = (PSp.nil, 2) by rw [graphL, if_neg (fun h => hm ⟨h.1, h.2.1⟩)])
    have BX := hide2 (HB.out (.cells #[.int .i64 P, .slice A n c] 27))
    clear hmm
    go_enter Try.func74, Try.ntmps74
    by_cases h1 : most < 1
    · go_wp2
      exact bodyPost_ret (v := .tuple #[.pointer none, .int .i64 2]) (by simp [results, Try.results74, go_sem]) rfl (by rw [FE.out]; exact ⟨BX.out, .inl ⟨by decide, rfl⟩⟩)
    · have h2 : most > 300 := by omega
      clear hm
      go_wp2
      exact bodyPost_ret (v := .tuple #[.pointer none, .int .i64 2]) (by simp [results, Try.results74, go_sem]) rfl (by rw [FE.out]; exact ⟨BX.out, .inl ⟨by decide, rfl⟩⟩)
end Go.Proofs.Ytmnacahoamkokaa
