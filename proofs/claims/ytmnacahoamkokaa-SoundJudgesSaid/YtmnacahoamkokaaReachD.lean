/- The contract of the finder's find. Conditions: the mark reads as a list of at most 16 numbers of tokens, apart from the finder's blocks; the map has the row's marks. -/
import Derived.Test.YtmnacahoamkokaaReachC
import Derived.Test.YtmnacahoamkokaaPlainM
import Derived.Test.YtmnacahoamkokaaCaseL
import Derived.Deep.RegionHeld3
namespace Go.Proofs.Ytmnacahoamkokaa
open Go.RowKit

theorem tyLists : SlTy 45 33 1 24 := SlTy.mk' (z := .slice none 0 0) Try.underlying45 (by kernel_rfl) rfl (by decide)
def AnsFind (w0 w : World) (bf bm : Nat) (P : Int) (A : Option Addr) (n c : Nat) (most : Int) (u v z : Value) (ars : List PArc) (p : List (List Int) × List Int × Int × Bool) (e : Ending) (w' : World) : Prop :=
  ∃ u' z', e = .returned (.tuple #[.int .i64 p.2.2.1, .bool p.2.2.2]) ∧ FinW w' w0.heap.size bf bm P A n c most u' v z' p.1 p.1 ars p.2.1 ∧ Below w0.heap.size w0 w' ∧ w.heap.size ≤ w'.heap.size ∧ Keep4 bf w u v z w' u' v z'

set_option maxRecDepth 100000 in
set_option maxHeartbeats 2000000 in
theorem find_calls {w0 w : World} {bf bm : Nat} {P : Int} {A : Option Addr} {n c M : Nat} {u v z : Value} {ms : List (List Int)} {ars : List PArc} {fs : List Int} {X : Option Addr} {nx cx : Nat} {x : List Int} (a : Int)
    (h : FinW w w0.heap.size bf bm P A n c (M : Int) u v z ms ms ars fs) (hB : Below w0.heap.size w0 w) (hx : Ints w X nx cx x) (hn : nx ≤ 16) (hr : rightB x = true) (ha : Apart4 bf u v z X nx) (hm : ms.length ≤ 300) (hfs : fs.length ≤ 300) :
    Calls Try.prog 145 #[.pointer (some ⟨bf, 0, none⟩), .slice X nx cx, .int .i64 a] w (AnsFind w0 w bf bm P A n c (M : Int) u v z ars (findP M ms fs x a)) := by
  obtain ⟨U, cu, hu, su⟩ := h.marks.sl (by omega)
  obtain ⟨Z, cz, hz, sz⟩ := h.first.sl (by omega)
  subst hu hz
  have hxl : x.length ≤ 16 := by rw [hx.len]; exact hn
  have HF := hide2 h
  have HB := hide2 hB
  have HX := hide2 hx
  have HR := hide2 hr
  have HA := hide2 ha
  have HL := hide2 hxl
  have DR := hide2 ((Below.refl w.heap.size w).drew)
  have KEEP := hide2 (show ∀ w', Below w.heap.size w w' → w'.cell? ⟨bf, 2, none⟩ = some (.int .i64 (M : Int)) ∧ w'.cell? ⟨bf, 3, none⟩ = some (.map (some bm)) from fun w' hb => ⟨(h.box.keep hb).cell 2, (h.box.keep hb).cell 3⟩)
  have CN := hide2 (fun (w' : World) (hb : Below w.heap.size w w') => name_calls (hx.keep hb) hn hr)
  clear h hB hx hr ha su sz hxl
  obtain ⟨r, hfr⟩ : ∃ r, findL ms x = r := ⟨_, rfl⟩
  obtain ⟨d2, d3⟩ := KEEP.out w (Below.refl _ _)
  go_enter Try.func145, Try.ntmps145
  go_upto_region 1 with fail
  cases r with
  | some k =>
    have FR := hide2 hfr
    clear hfr
    go_region_held3 (fun w' => w'.cell? ⟨bf, 2, none⟩ = some (.int .i64 (M : Int)) ∧ w'.cell? ⟨bf, 3, none⟩ = some (.map (some bm)))
      (first | go_keep)
      (first | (go_at_call 180; (with_reducible refine (CN.out _ DR.out).mono ?_); rintro e1 w1 ⟨rfl, hb1⟩; have F1 := hide2 (DR.out.trans (hb1.mono DR.out.size)); clear hb1 d2 d3; obtain ⟨d2, d3⟩ := KEEP.out w1 F1.out; obtain ⟨vv, LK, hvv⟩ := (HF.out.map.keep F1.out).look HR.out HL.out; rw [FR.out] at LK; obtain rfl := hvv k FR.out; simp only [Option.isSome] at LK))
    all_goals
      clear d2 d3 LK
      have BB := hide2 (HB.out.trans (F1.out.mono HB.out.size))
      have FP := hide2 (show findP M ms fs x a = (ms, fs, (k : Int), true) by unfold findP; rw [FR.out])
      go_wp2
      exact bodyPost_ret (v := .tuple #[.int .i64 (k : Int), .bool true]) (by simp [results, Try.results145, go_sem]) rfl (by rw [FP.out]; exact ⟨_, _, rfl, HF.out.keep F1.out, BB.out, F1.out.size, Keep4.of_below F1.out⟩)
  | none =>
    have FR := hide2 hfr
    clear hfr
    go_region_held3 (fun w' => w'.cell? ⟨bf, 2, none⟩ = some (.int .i64 (M : Int)) ∧ w'.cell? ⟨bf, 3, none⟩ = some (.map (some bm)))
      (first | go_keep)
      (first | (go_at_call 180; (with_reducible refine (CN.out _ DR.out).mono ?_); rintro e1 w1 ⟨rfl, hb1⟩; have F1 := hide2 (DR.out.trans (hb1.mono DR.out.size)); clear hb1 d2 d3; obtain ⟨d2, d3⟩ := KEEP.out w1 F1.out; obtain ⟨vv, LK, hvv⟩ := (HF.out.map.keep F1.out).look HR.out HL.out; rw [FR.out] at LK; clear hvv; simp only [Option.isSome] at LK))
    all_goals
      clear d2 d3 LK
      have FW := hide2 (HF.out.keep F1.out)
      have BB := hide2 (HB.out.trans (F1.out.mono HB.out.size))
      have K1 := hide2 (Keep4.of_below F1.out (bf := bf) (u := .slice U ms.length cu) (v := v) (z := .slice Z fs.length cz))
      have HX1 := hide2 (HX.out.keep F1.out)
      have S1 := hide2 F1.out.size
      clear CN KEEP DR HF HB HX F1
      obtain ⟨L, hL⟩ : ∃ L, ms.length = L := ⟨_, rfl⟩
      have HLL := hide2 hL
      obtain ⟨e0, e2, e3, e4, e6⟩ : w1.cell? ⟨bf, 0, none⟩ = some (.int .i64 P) ∧ w1.cell? ⟨bf, 2, none⟩ = some (.int .i64 (M : Int)) ∧ w1.cell? ⟨bf, 3, none⟩ = some (.map (some bm)) ∧ w1.cell? ⟨bf, 4, none⟩ = some (.slice U ms.length cu) ∧ w1.cell? ⟨bf, 6, none⟩ = some (.slice Z fs.length cz) := ⟨FW.out.box.cell 0, FW.out.box.cell 2, FW.out.box.cell 3, FW.out.box.cell 4, FW.out.box.cell 6⟩
      rw [hL] at e4
      by_cases hLM : L = M
      · have FP := hide2 (show findP M ms fs x a = (ms, fs, 0, false) by unfold findP; rw [FR.out, HLL.out]; simp only [hLM, if_true])
        have hLi : (L : Int) = (M : Int) := by omega
        clear hL
        go_wp2
        exact bodyPost_ret (v := .tuple #[.int .i64 0, .bool false]) (by simp [results, Try.results145, go_sem]) rfl (by rw [FP.out]; exact ⟨_, _, rfl, FW.out, BB.out, S1.out, K1.out⟩)
      · have FP := hide2 (show findP M ms fs x a = (ms ++ [x], fs ++ [a], (L : Int), true) by unfold findP; rw [FR.out, HLL.out]; simp only [hLM, if_false])
        have hLi : ¬ (L : Int) = (M : Int) := by omega
        have hL3 : L ≤ 300 := by omega
        clear hL hLM
        go_upto_region 7 with fail
        clear e0 e2 e3 e4 e6
        obtain ⟨d2, d3⟩ : w1.cell? ⟨bf, 2, none⟩ = some (.int .i64 (M : Int)) ∧ w1.cell? ⟨bf, 3, none⟩ = some (.map (some bm)) := ⟨FW.out.box.cell 2, FW.out.box.cell 3⟩
        have DR := hide2 ((Below.refl w1.heap.size w1).drew)
        have KEEP := hide2 (show ∀ w', Below w1.heap.size w1 w' → w'.cell? ⟨bf, 2, none⟩ = some (.int .i64 (M : Int)) ∧ w'.cell? ⟨bf, 3, none⟩ = some (.map (some bm)) from fun w' hb => ⟨(FW.out.box.keep hb).cell 2, (FW.out.box.keep hb).cell 3⟩)
        have CN := hide2 (fun (w' : World) (hb : Below w1.heap.size w1 w') => name_calls (HX1.out.keep hb) hn HR.out)
        have HM3 := hide2 hm
        go_region_held3 (fun w' => w'.cell? ⟨bf, 2, none⟩ = some (.int .i64 (M : Int)) ∧ w'.cell? ⟨bf, 3, none⟩ = some (.map (some bm)))
          (first | go_keep)
          (first | (go_at_call 180; (with_reducible refine (CN.out _ DR.out).mono ?_); rintro e1 w2 ⟨rfl, hb1⟩; have F2 := hide2 (DR.out.trans (hb1.mono DR.out.size)); clear hb1 d2 d3; obtain ⟨d2, d3⟩ := KEEP.out w2 F2.out; obtain ⟨w3, UP, AM', GR'⟩ := (FW.out.map.keep F2.out).put HR.out HL.out FR.out (by have := HM3.out; omega); rw [HLL.out] at UP; have E3 := hide2 ((FW.out.keep F2.out).entry AM' GR'); have GR := hide2 GR'; clear AM' GR'; have g2 := E3.out.1.box.cell 2; have g3 := E3.out.1.box.cell 3; simp at g2 g3))
        all_goals
          clear d2 d3 UP g2 g3
          have B3 := hide2 ((BB.out.trans (F2.out.mono BB.out.size)).grown GR.out (Nat.le_trans BB.out.size F2.out.size) (fun k hk => by cases hk; exact E3.out.1.lom))
          have HX3 := hide2 (E3.out.2 _ _ _ _ (HX1.out.keep F2.out))
          have K3 := hide2 (K1.out.trans (fun A' n' c' xs' hi hap => ⟨E3.out.2 _ _ _ _ (hi.keep F2.out), hap⟩ : Keep4 bf w1 (.slice U ms.length cu) v (.slice Z fs.length cz) w3 (.slice U ms.length cu) v (.slice Z fs.length cz)))
          have S3 := hide2 (Nat.le_trans S1.out (Nat.le_trans F2.out.size GR.out.size))
          have F3 := hide2 E3.out.1
          clear FW BB HX1 K1 S1 F2 GR E3 CN KEEP DR HM3
          have c4 : w3.cell? ⟨bf, 4, none⟩ = some (.slice U ms.length cu) := F3.out.box.cell 4
          have MK := hide2 (show MarkR bf (.slice U ms.length cu) v (.slice Z fs.length cz) w3 (fun _ => .slice X nx cx) x from ⟨X, nx, cx, rfl, HX3.out, hn, HA.out⟩)
          have NB := hide2 (show (Value.slice U ms.length cu).ownBlock ≠ some bf by obtain ⟨_, o1, _⟩ := id F3.out.marks; exact own_neBox o1 F3.out.box (by decide))
          have OM := hide2 (show OwnSl (fun _ vs y => MarkR bf (.slice U ms.length cu) v (.slice Z fs.length cz) w3 vs y) 1 w3 w0.heap.size 33 (.slice U ms.length cu) ms.length ms from F3.out.marks.reread fun _ _ hy => hy)
          go_upto_region 9 with (at_builtin; go_loud (refine wpList_appLies (R := fun _ vs y => MarkR bf (.slice U ms.length cu) v (.slice Z fs.length cz) w3 vs y) tyLists rfl _ _ rfl [x] #[.slice X nx cx] rfl rfl (by first | rfl | simp) rfl (by omega) (by simp [Value.oneCell']) OM.out (Reads.one (vs := fun _ => .slice X nx cx) MK.out rfl (fun j hj => (by obtain rfl : j = 0 := (by omega); rfl))) rfl B3.out B3.out.size (by omega) (by omega) (fun _ _ _ _ h => h) ?_; intro g4 cap4 w4 own4' hg4' hb4' hat4'; have own4 := hide2 own4'; have hg4 := hide2 hg4'; have hb4 := hide2 hb4'; have hat4 := hide2 hat4'; clear own4' hg4' hb4' hat4' c4; have c4 : w4.cell? ⟨bf, 4, none⟩ = some (.slice U ms.length cu) := (F3.out.box.grown hg4.out NB.out).cell 4; have f4 := (F3.out.box.grown hg4.out NB.out).frozen 4))
          clear c4 f4
          have FK := hide2 (F3.out.mark (by simp) own4.out hg4.out hat4.out)
          have BX := hide2 (show Below w0.heap.size w0 (w4.setCell ⟨bf, 4, none⟩ (.slice (some ⟨g4, 0, none⟩) (ms.length + 1) cap4)) from hb4.out.grown (grown_setCell _ _ _ _) hb4.out.size (fun k hk => by cases hk; exact F3.out.lo))
          have S5 := hide2 (show w.heap.size ≤ (w4.setCell ⟨bf, 4, none⟩ (.slice (some ⟨g4, 0, none⟩) (ms.length + 1) cap4)).heap.size from Nat.le_trans S3.out (Nat.le_trans hg4.out.size (by simp [World.setCell])))
          clear OM NB MK HX3 hb4 hat4 hg4 own4 B3 S3
          generalize w4.setCell ⟨bf, 4, none⟩ (.slice (some ⟨g4, 0, none⟩) (ms.length + 1) cap4) = w5 at *
          have F5 := hide2 FK.out.1
          have K5 := hide2 (K3.out.trans FK.out.2)
          clear FK K3 F3
          have c6 : w5.cell? ⟨bf, 6, none⟩ = some (.slice Z fs.length cz) := F5.out.box.cell 6
          have NB := hide2 (show (Value.slice Z fs.length cz).ownBlock ≠ some bf by obtain ⟨_, o1, _⟩ := id F5.out.first; exact own_neBox o1 F5.out.box (by decide))
          go_wp2_with (at_builtin; go_loud (refine wpList_appLies tyInts rfl _ _ rfl [a] #[.int .i64 a] rfl rfl (by first | rfl | simp) rfl (by omega) (by simp [Value.oneCell']) F5.out.first (Reads.one (vs := fun _ => .int .i64 a) rfl rfl (fun j hj => (by obtain rfl : j = 0 := (by omega); rfl))) rfl BX.out BX.out.size (by omega) (by omega) (fun _ _ _ _ h => h) ?_; intro g6 cap6 w6 own6' hg6' hb6' hat6'; have own6 := hide2 own6'; have hg6 := hide2 hg6'; have hb6 := hide2 hb6'; have hat6 := hide2 hat6'; clear own6' hg6' hb6' hat6' c6; have c6 : w6.cell? ⟨bf, 6, none⟩ = some (.slice Z fs.length cz) := (F5.out.box.grown hg6.out NB.out).cell 6; have f6 := (F5.out.box.grown hg6.out NB.out).frozen 6))
          have FK := F5.out.firstPut (by simp) own6.out hg6.out hat6.out
          have BZ : Below w0.heap.size w0 (w6.setCell ⟨bf, 6, none⟩ (.slice (some ⟨g6, 0, none⟩) (fs.length + 1) cap6)) := hb6.out.grown (grown_setCell _ _ _ _) hb6.out.size (fun k hk => by cases hk; exact F5.out.lo)
          exact bodyPost_ret (v := .tuple #[.int .i64 (L : Int), .bool true]) (by simp [results, Try.results145, go_sem]) rfl (by rw [FP.out]; exact ⟨_, _, rfl, FK.1, BZ, Nat.le_trans S5.out (Nat.le_trans hg6.out.size (by simp [World.setCell])), K5.out.trans FK.2⟩)
end Go.Proofs.Ytmnacahoamkokaa
