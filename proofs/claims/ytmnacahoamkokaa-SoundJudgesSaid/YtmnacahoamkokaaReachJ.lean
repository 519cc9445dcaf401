/- IndexFunc on lists of lists, and the test of Path. Conditions: the slice reads as a list of lists. | The contract of Reverse on an own row of numbers. Conditions: the row is its own. | The contract of Path. Conditions: the net, the mark and the goal read as lists. -/
import Derived.Test.YtmnacahoamkokaaReachG
import Derived.Test.YtmnacahoamkokaaMarkE
import Derived.Test.YtmnacahoamkokaaContI
import Derived.Test.YtmnacahoamkokaaHeldB
import Derived.Test.YtmnacahoamkokaaPlainM
import Derived.Test.YtmnacahoamkokaaCaseE
import Derived.Test.YtmnacahoamkokaaReachC
namespace Go.Proofs.Ytmnacahoamkokaa
open Go.RowKit

/-- Function F, with what it captured, is a test of lists. -/
structure IsPredL (F : FuncId) (cap : Array Value) (w : World) (p : List Int → Bool) : Prop where
  enters : ∀ args w, (callFunc F args).run Try.prog w = .ok (.enter F args) w
  calls : ∀ (wr : World) (A : Option Addr) (n c : Nat) (y : List Int), Below w.heap.size w wr → Ints wr A n c y →
    Calls Try.prog F (#[.slice A n c] ++ cap) wr fun e w' => e = .returned (.bool (p y)) ∧ Below wr.heap.size wr w'

set_option maxRecDepth 100000 in
theorem indexLists_calls {w : World} {A : Option Addr} {n c : Nat} {ms : List (List Int)} {F : FuncId} {cap : Array Value} {p : List Int → Bool} (h : Lists w A n c ms) (hp : IsPredL F cap w p) :
    Calls Try.prog 76 #[.slice A n c, .func (.func F) #[] cap] w fun e w' => e = .returned (.int .i64 (idxFirst p ms)) ∧ Below w.heap.size w w' := by
  have hn := h.small
  have henter := hp.enters
  have H := hide2 h
  have HP := hide2 hp
  clear h hp
  go_enter Try.func76, Try.ntmps76
  go_wp2
  go_loopw [8] (fun i wr => ∃ k : Nat, k ≤ n ∧ i = .int .i64 k ∧ Hid (∀ j, j < k → ∀ y, ms[j]? = some y → p y = false) ∧ Hid (Below w.heap.size w wr)) (fun i _ => n - (intOf i).toNat)
  case atStart => exact ⟨0, Nat.zero_le _, rfl, fun j hj => absurd hj (by omega), Below.refl _ _⟩
  case round =>
    obtain ⟨k, hk, rfl, hlow, D⟩ := hrel
    by_cases hlt : k < n
    · have hki : (k : Int) < (n : Int) := by omega
      obtain ⟨b, off, t, vs, rfl, hb, ht, hc, A1, n1, c1, e1, i1, hn1⟩ := Sl.get (Sl.keep ListR.kept H.out D.out) hlt
      have q0 : wr.cell? ⟨b, off + k, none⟩ = some (.slice A1 n1 c1) := by have := hc 0 (by omega); rw [e1] at this; simpa using this
      have CL := hide2 (HP.out.calls wr A1 n1 c1 t D.out i1)
      have HT := hide2 ht
      obtain ⟨v, hv⟩ : ∃ v, p t = v := ⟨_, rfl⟩
      have HV := hide2 hv
      rw [hv] at CL
      clear hv hc e1 i1 ht
      cases v
      · go_wp2_with (refine CL.out.mono ?_; rintro e w' ⟨rfl, hb'⟩; have HB := hide2 hb'; clear hb')
        go_roundw
        case rel =>
          refine ⟨k + 1, by omega, by go_num, fun j hj y hy => ?_, D.out.trans (HB.out.mono D.out.size)⟩
          by_cases hjk : j = k
          · subst hjk
            have := HT.out
            rw [hy] at this
            injection this with this
            rw [this]
            exact HV.out
          · exact hlow.out j (by omega) y hy
        case measure => simp [intOf]; omega
      · go_wp2_with (refine CL.out.mono ?_; rintro e w' ⟨rfl, hb'⟩; have HB := hide2 hb'; clear hb')
        go_ret
        exact ⟨ret_int (idxFirst_some hlow.out HT.out HV.out).symm, D.out.trans (HB.out.mono D.out.size)⟩
    · go_wp2
      go_ret
      exact ⟨ret_int (idxFirst_none (fun j hj y hy => hlow.out j (by have := H.out.len; omega) y hy)).symm, D.out⟩
set_option maxRecDepth 100000 in
theorem goal_pred {w : World} {bn n c : Nat} {A : Option Addr} {xs : List Int} (x : Box w bn 33 #[.slice A n c]) (h : Ints w A n c xs) : IsPredL 77 #[.pointer (some ⟨bn, 0, none⟩)] w (fun y => y == xs) where
  enters := fun args w => by kernel_rfl
  calls := fun wr A1 n1 c1 y hb hi => by
    have q := (x.keep hb).cell 0
    simp only [List.getElem?_toArray, List.getElem?_cons_zero] at q
    have H := hide2 (h.keep hb)
    have HI := hide2 hi
    show Calls Try.prog 77 #[.slice A1 n1 c1, .pointer (some ⟨bn, 0, none⟩)] wr _
    clear hb x h hi
    go_enter Try.func77, Try.ntmps77
    go_wp2_with ((with_reducible refine (equalInts_calls HI.out H.out).mono ?_); rintro e w4 ⟨rfl, dr⟩; have BD := hide2 dr.below; clear dr)
    go_ret
    exact ⟨rfl, BD.out⟩
end Go.Proofs.Ytmnacahoamkokaa
namespace Go.Proofs.Ytmnacahoamkokaa
open Go.RowKit

set_option maxRecDepth 100000 in
theorem reverse0_calls (w : World) (A : Option Addr) (c : Nat) :
    Calls Try.prog 78 #[.slice A 0 c] w fun e w' => e = .returned (.tuple #[]) ∧ Below w.heap.size w w' := by
  go_enter Try.func78, Try.ntmps78
  go_wp2
  go_loopw [2, 3] (fun i j wr => i = .int .i64 0 ∧ j = .int .i64 (-1) ∧ wr = w) (fun _ _ _ => 0)
  case atStart => exact ⟨rfl, rfl, rfl⟩
  case round =>
    obtain ⟨rfl, rfl, rfl⟩ := hrel
    go_wp2
    exact bodyPost_end (v := .tuple #[]) (by simp [results, Try.results78, go_sem]) rfl ⟨rfl, Below.refl _ _⟩
set_option maxRecDepth 100000 in
theorem reverse_calls {w : World} {B g n cap : Nat} {xs : List Int} (h : OwnInts w B (.slice (some ⟨g, 0, none⟩) n cap) n xs) (h0 : 0 < n) (hn : n ≤ 7200) :
    Calls Try.prog 78 #[.slice (some ⟨g, 0, none⟩) n cap] w fun e w' => e = .returned (.tuple #[]) ∧ OwnInts w' B (.slice (some ⟨g, 0, none⟩) n cap) n xs.reverse ∧ Below B w w' := by
  have H := hide2 h
  have hlen := hide2 (show xs.length = n from h.len)
  have HBS := hide2 (show B ≤ w.heap.size from Nat.le_trans (h.lt g rfl).1 (Nat.le_of_lt (h.lt g rfl).2))
  have HBG := hide2 (show B ≤ g from (h.lt g rfl).1)
  clear h
  go_enter Try.func78, Try.ntmps78
  go_wp2
  go_loopw [2, 3] (fun iv jv wr => ∃ (i : Nat) (j : Int) (ys : List Int), iv = .int .i64 i ∧ jv = .int .i64 j ∧ j + i + 1 = n ∧ Hid (OwnInts wr B (.slice (some ⟨g, 0, none⟩) n cap) n ys) ∧ Hid (Below B w wr) ∧ Hid (TurnedTo xs ys i)) (fun iv _ _ => n - (intOf iv).toNat)
  case atStart => exact ⟨0, (n : Int) - 1, xs, rfl, rfl, by omega, H, Below.refl _ _, TurnedTo.start xs⟩
  case round =>
    obtain ⟨i, j, ys, rfl, rfl, hij, O, D, T⟩ := hrel
    by_cases hlt : (i : Int) < j
    · obtain ⟨j, rfl⟩ : ∃ q : Nat, j = (q : Int) := ⟨j.toNat, by omega⟩
      have hji : j + i + 1 = n := by omega
      have hjn : j < n := by omega
      have hin : i < n := by omega
      have hjni : (j : Int) < (n : Int) := by omega
      have hini : (i : Int) < (n : Int) := by omega
      have hyl : ys.length = n := O.out.len
      obtain ⟨x, hx⟩ : ∃ x, ys[i]? = some x := ⟨_, List.getElem?_eq_getElem (by omega)⟩
      obtain ⟨y, hy⟩ : ∃ y, ys[j]? = some y := ⟨_, List.getElem?_eq_getElem (by omega)⟩
      have O1 := hide2 (show OwnInts wr.drew B (.slice (some ⟨g, 0, none⟩) n cap) n ys from O.out.keep IntR.kept ⟨rfl, rfl, rfl, Nat.le_refl _, fun _ _ => rfl⟩)
      have D1 := hide2 (show Below B w wr.drew from D.out.trans ⟨rfl, rfl, rfl, Nat.le_refl _, fun _ _ => rfl⟩)
      have ci : wr.drew.cell? ⟨g, i, none⟩ = some (.int .i64 x) := O1.out.at hx
      have cj : wr.drew.cell? ⟨g, j, none⟩ = some (.int .i64 y) := O1.out.at hy
      have HX := hide2 hx
      have HY := hide2 hy
      clear hx hy hyl hij
      go_upto_region 3 with fail
      refine wp_region_scrPP 13 2 3 14 (.takes [0, 1, 4, 5, 8, 9, 6, 7, 10, 11] (.one 12 (.fin 13 (.fin 14 (.fin 15 .done))))) (fun w' => w'.cell? ⟨g, i, none⟩ = some (.int .i64 x) ∧ w'.cell? ⟨g, j, none⟩ = some (.int .i64 y)) (v := ?_) (u := ?_) (by kernel_rfl) (by kernel_rfl) (by kernel_rfl) rfl (by kernel_rfl) (fun _ _ _ _ _ h => h) rfl (by rfl) (fun w' => ?_) rfl (by rfl) (fun w' => ?_) ⟨ci, cj⟩ (fun hHeld => ?_)
      rotate_left 2
      · (go_simp; try with_reducible rfl)
      · (go_simp; try with_reducible rfl)
      simp only [Act.put, List.setIfInBounds_toArray, List.set_cons_zero, List.set_cons_succ]
      simp only [Scr.takes]
      generalize wr.drew = u0 at *
      iterate 10
        refine tkTake (v := ?_) rfl (by rfl) hHeld (fun w' hSw => ?_) ?_
        rotate_left
        · (go_simp; try with_reducible rfl)
        simp only [Act.put, List.setIfInBounds_toArray, List.set_cons_zero, List.set_cons_succ]
      have fi := O1.out.frozen i
      have fj := O1.out.frozen j
      have O2 := hide2 ((O1.out.put i y).put j x)
      have D2 := hide2 ((D1.out.grown (grown_setCell u0 g i (.int .i64 y)) (Nat.le_trans HBS.out D1.out.size) (fun k hk => by cases hk; exact HBG.out)).grown (grown_setCell _ g j (.int .i64 x)) (by simpa [World.setCell] using Nat.le_trans HBS.out D1.out.size) (fun k hk => by cases hk; exact HBG.out))
      have T2 := hide2 (T.out.step (by rw [hlen.out]; exact hji) (by omega) HX.out HY.out)
      refine tkOne rfl (fun K hK => ?_)
      go_simp
      refine hK.out _ _ ⟨ci, cj⟩ (fun hHeld => ?_)
      clear hK
      try simp only [Act.put, List.setIfInBounds_toArray, List.set_cons_zero, List.set_cons_succ]
      refine tkEnd rfl (fun K hK => ?_)
      go_simp
      refine hK.out _ _ ?_
      clear hK
      try simp only [Act.put, List.setIfInBounds_toArray, List.set_cons_zero, List.set_cons_succ]
      refine tkEnd rfl (fun K hK => ?_)
      go_simp
      refine hK.out _ _ ?_
      clear hK
      try simp only [Act.put, List.setIfInBounds_toArray, List.set_cons_zero, List.set_cons_succ]
      have cj2 := O1.out.put i y |>.at (show (ys.set i y)[j]? = some y by rw [List.getElem?_set_ne (by omega)]; exact HY.out)
      have fj2 := (O1.out.put i y).frozen j
      refine tkEnd rfl (fun K hK => ?_)
      go_simp
      refine hK.out _ _ ?_
      clear hK
      try simp only [Act.put, List.setIfInBounds_toArray, List.set_cons_zero, List.set_cons_succ]
      refine tkDone ?_
      clear hHeld ci cj fi fj cj2 fj2
      go_wp2
      go_roundw
      case rel => exact ⟨i + 1, (j : Int) - 1, _, by go_num, by go_num, by omega, O2, D2, T2⟩
      case measure => simp [intOf]; omega
    · have HR := hide2 (T.out.done (by rw [hlen.out]; omega))
      go_wp2
      exact bodyPost_end (v := .tuple #[]) (by simp [results, Try.results78, go_sem]) rfl ⟨rfl, by rw [← HR.out]; exact O.out, D.out⟩
end Go.Proofs.Ytmnacahoamkokaa
namespace Go.Proofs.Ytmnacahoamkokaa
open Go.RowKit

theorem FinW.rows {w : World} {B bf bm : Nat} {P : Int} {A : Option Addr} {n c : Nat} {most : Int} {u v z : Value} {mm ms : List (List Int)} {ars : List PArc} {fs : List Int} (h : FinW w B bf bm P A n c most u v z mm ms ars fs) (hl : ms.length ≤ 7200) (ha : ars.length ≤ 7200) (hf : fs.length ≤ 7200) :
    ∃ U cu V cv Z cz, u = .slice U ms.length cu ∧ v = .slice V ars.length cv ∧ z = .slice Z fs.length cz ∧ Lists w U ms.length cu ms ∧ Arcs w V ars.length cv ars ∧ Ints w Z fs.length cz fs := by
  have o1 : OwnSl ListR 1 w B 33 u ms.length ms := h.marks.reread (fun vs x hx => by
    obtain ⟨A, n, c, e, i, l, _⟩ := hx
    exact ⟨A, n, c, e, i, by omega⟩)
  obtain ⟨U, cu, e1, s1⟩ := o1.sl (by omega)
  obtain ⟨V, cv, e2, s2⟩ := h.arcs.sl (by omega)
  obtain ⟨Z, cz, e3, s3⟩ := h.first.sl (by omega)
  exact ⟨U, cu, V, cv, Z, cz, e1, e2, e3, s1, s2, s3⟩

set_option maxRecDepth 100000 in
set_option maxHeartbeats 4000000 in
theorem path_calls {w : World} {P : Int} {A B D : Option Addr} {n c m d l q : Nat} {ts : List PTran} {xs goal : List Int} (most : Int) (h : Trans w A n c ts) (g : Ints w B m d xs) (k : Ints w D l q goal) :
    Calls Try.prog 24 #[.agg #[.int .i64 P, .slice A n c], .slice B m d, .slice D l q, .int .i64 most] w (AnsIE (pathL ⟨P, ts⟩ xs goal most) w) := by
  generalize hw : ((w.alloc (.cells #[.int .i64 P, .slice A n c] 27)).alloc (.cells #[.slice D l q] 33)) = w0
  have HB := hide2 (show Below w.heap.size w w0 by rw [← hw]; exact ((Below.refl _ _).alloc (Nat.le_refl _) _).alloc (by simp) _)
  have X0 := hide2 (show Box w0 w.heap.size 27 #[.int .i64 P, .slice A n c] by rw [← hw]; exact (Box.new _ _ _).old _)
  have X1 := hide2 (show Box w0 (w.heap.size + 1) 33 #[.slice D l q] by rw [← hw]; exact Box.newAt (by simp) _ _)
  have CS := hide2 (search_calls (P := P) most (h.keep HB.out) (g.keep HB.out))
  have GL := hide2 (k.keep HB.out)
  have PE := hide2 (fun (s : PSp) (k : Int) => pathL_err (N := ⟨P, ts⟩) (m := xs) (goal := goal) (most := most) (s := s) (k := k))
  have PN := hide2 (fun (s : PSp) => pathL_none (N := ⟨P, ts⟩) (m := xs) (goal := goal) (most := most) (s := s))
  have PS := hide2 (fun (s : PSp) (k : Nat) => pathL_some (N := ⟨P, ts⟩) (m := xs) (goal := goal) (most := most) (s := s) (k := k))
  clear h g k
  obtain ⟨r, hr⟩ : ∃ r, graphL ⟨P, ts⟩ xs most = r := ⟨_, rfl⟩
  rw [hr] at CS
  simp only [hr] at PE PN PS
  clear hr
  obtain ⟨s, e0⟩ := r
  generalize pathL ⟨P, ts⟩ xs goal most = R at *
  go_enter Try.func24, Try.ntmps24
  go_upto_region 1 with fail
  clear hw
  obtain ⟨a0, a1⟩ := X0.out.two
  by_cases hk : e0 = 0
  · subst hk
    go_upto_region 2 with (go_at_call 74; go_loud ((with_reducible refine CS.out.mono ?_); rintro e w1 ⟨B1, ⟨hne, _⟩ | ⟨_, bf, bm, A1, n1, c1, u, v, z, fs, rfl, hF, hX, hms'⟩⟩; (exact absurd rfl hne); have FF := hide2 hF; have XX := hide2 hX; have BB := hide2 B1; have HMS := hide2 hms'; clear hF hX B1 hms'))
    have hms : s.marks.length ≤ 300 := HMS.out
    have hlf : fs.length = s.marks.length := XX.out.fst.len
    obtain ⟨U, cu, V, cv, Z, cz, eu, ev, ez, hL, hA, hI⟩ := FF.out.rows (by omega) XX.out.arcs (by omega)
    subst eu ev ez
    have LL := hide2 hL
    have LA := hide2 hA
    have LI := hide2 hI
    have BX := hide2 FF.out.box
    have GP := hide2 (goal_pred (X1.out.keep BB.out) (GL.out.keep BB.out))
    have BZ := hide2 (HB.out.trans (BB.out.mono HB.out.size))
    have SP := hide2 XX.out.sp
    have FSX := hide2 XX.out.fst
    clear FF hL hA hI X0 X1 CS a0 a1 GL
    have c4 : w1.cell? ⟨bf, 4, none⟩ = some (.slice U s.marks.length cu) := BX.out.cell 4
    have hn := idx_findL s.marks goal
    have hni := hide2 hn
    clear hn
    obtain ⟨fi, hfi⟩ : ∃ fi, findL s.marks goal = fi := ⟨_, rfl⟩
    have HFI := hide2 hfi
    rw [hfi] at hni
    clear hfi
    cases fi with
    | none =>
      go_wp2_with (go_at_call 76; (with_reducible refine (indexLists_calls LL.out GP.out).mono ?_); rw [hni.out]; rintro e w2 ⟨rfl, hb2⟩; have B2 := hide2 hb2; clear hb2)
      exact bodyPost_ret (v := .tuple #[.slice none 0 0, .int .i64 3]) (by simp [results, Try.results24, go_sem]) rfl (by rw [PN.out s rfl HFI.out]; exact ⟨none, 0, 0, rfl, Sl.nil0, BZ.out.trans (B2.out.mono BZ.out.size)⟩)
    | some K =>
      have hK := findL_lt HFI.out
      have RE := hide2 (PS.out s K rfl HFI.out)
      go_wp2_with (go_at_call 76; (with_reducible refine (indexLists_calls LL.out GP.out).mono ?_); rw [hni.out]; rintro e w2 ⟨rfl, hb2⟩; have B2 := hide2 hb2; clear hb2)
      have BX2 := hide2 (BX.out.keep B2.out)
      have LA2 := hide2 (Sl.keep ArcR.kept LA.out B2.out)
      have LI2 := hide2 (LI.out.keep B2.out)
      have BZ2 := hide2 (BZ.out.trans (B2.out.mono BZ.out.size))
      clear BX LA LI LL GP c4 BB hni PE PN PS BZ B2
      go_loopw [12, 13] (fun kv ov wr => ∃ (k : Nat) (v : Value) (L : List Int), kv = .int .i64 k ∧ ov = v ∧ k < s.marks.length ∧ L.length + k ≤ K ∧ Hid (OwnInts wr w2.heap.size v L.length L) ∧ Hid (Below w2.heap.size w2 wr) ∧ Hid (backL s K K = backL s k k ++ L.reverse)) (fun kv _ _ => (intOf kv).toNat)
      case atStart => exact ⟨K, _, [], rfl, rfl, hK, by simp, OwnSl.nil, Below.refl _ _, hide2 (by simp)⟩
      case round =>
        obtain ⟨k, v, L, rfl, rfl, hkl, hLk, OW, BW, BK⟩ := hrel
        by_cases h0 : 0 < k
        · have hki : (0 : Int) < (k : Int) := by omega
          obtain ⟨jf, hj1, hj2⟩ := FSX.out.at_ k h0 hkl
          obtain ⟨a, ha1, ha2⟩ := firstL_arc hj2
          obtain ⟨_, a', _, _, hf0, hf1, _, hf2⟩ := SP.out.find h0 hkl
          obtain rfl : a = a' := by rw [ha2] at hf2; injection hf2
          have STEP := hide2 (backL_step SP.out h0 hkl ha2 ⟨hf0, hf1⟩)
          have hjl : jf < s.arcs.length := (List.getElem?_eq_some_iff.1 ha1).1
          obtain ⟨b, off, x, rfl, hb, hx, x0, x1, x2, _⟩ := Arcs.get (Sl.keep ArcR.kept LA2.out BW.out) hjl
          obtain rfl : x = a := by have := hx.out; rw [ha1] at this; injection this with this; exact this.symm
          obtain ⟨b', off', y, rfl, hb', hy, y0⟩ := Ints.get (LI2.out.keep BW.out) (show k < fs.length by omega)
          obtain rfl : y = (jf : Int) := by rw [hj1] at hy; injection hy with hy; exact hy.symm
          obtain ⟨f, hf⟩ : ∃ f : Nat, x.from_ = (f : Int) := ⟨x.from_.toNat, by omega⟩
          have HF := hide2 hf
          rw [hf] at x0 hf0 hf1 STEP
          have hjli : (jf : Int) < (s.arcs.length : Int) := by omega
          have hkfi : (k : Int) < (fs.length : Int) := by omega
          have c5 : wr.cell? ⟨bf, 5, none⟩ = some (.slice (some ⟨b, off, none⟩) s.arcs.length cv) := (BX2.out.keep BW.out).cell 5
          have c6 : wr.cell? ⟨bf, 6, none⟩ = some (.slice (some ⟨b', off', none⟩) fs.length cz) := (BX2.out.keep BW.out).cell 6
          clear hj1 hj2 ha1 ha2 hx hy hf2 hf
          go_upto_region 9 with fail
          go_region_held3 (fun w' => w'.cell? ⟨bf, 5, none⟩ = some (.slice (some ⟨b, off, none⟩) s.arcs.length cv) ∧ w'.cell? ⟨bf, 6, none⟩ = some (.slice (some ⟨b', off', none⟩) fs.length cz) ∧ w'.cell? ⟨b', off' + k, none⟩ = some (.int .i64 jf) ∧ w'.cell? ⟨b, off + jf * 3, none⟩ = some (.int .i64 f) ∧ w'.cell? ⟨b, off + jf * 3 + 1, none⟩ = some (.int .i64 x.tran) ∧ w'.cell? ⟨b, off + jf * 3 + 2, none⟩ = some (.int .i64 x.to_))
            (first | go_keep) (fail)
          generalize hw3 : (wr.alloc (.cells #[.int .i64 f, .int .i64 x.tran, .int .i64 k] 147)).drew = w3
          have B3 := hide2 (show Below wr.heap.size wr w3 by rw [← hw3]; exact ((Below.refl _ _).alloc (Nat.le_refl _) _).drew)
          have X9 := hide2 (show Box w3 wr.heap.size 147 #[.int .i64 f, .int .i64 x.tran, .int .i64 k] by rw [← hw3]; exact (Box.new _ _ _).drew)
          have OW3 := hide2 (OW.out.keep IntR.kept B3.out)
          have BW3 := hide2 (BW.out.trans (B3.out.mono BW.out.size))
          have hL300 : L.length ≤ 300 := by omega
          have NB := hide2 (show u13.ownBlock ≠ some wr.heap.size from fun e => by have := (OW.out.lt _ e).2; omega)
          have t0 := X9.out.cell 0
          have t1 := X9.out.cell 1
          simp only [List.getElem?_toArray, List.getElem?_cons_zero, List.getElem?_cons_succ] at t0 t1
          clear hw3 c5 c6 x0 x1 x2 y0 OW BW B3
          go_wp2_with (at_builtin; refine wpList_appInt rfl _ _ rfl rfl rfl (by first | rfl | simp) OW3.out BW3.out BW3.out.size (by omega) ?_; intro v2 w4 own2 hg2 hb2; have O4 := hide2 own2; have B4 := hide2 hb2; clear t0 t1; have t0 := (X9.out.grown hg2 NB.out).cell 0; (simp only [List.getElem?_toArray, List.getElem?_cons_zero] at t0); clear own2 hg2 hb2)
          go_roundw
          case rel => exact ⟨f, v2, L ++ [x.tran], by go_num, rfl, by omega, by simp; omega, hide2 (by simpa using O4.out), B4, hide2 (by rw [BK.out, STEP.out]; simp)⟩
          case measure => simp [intOf]; omega
        · obtain rfl : k = 0 := by omega
          have RR := hide2 (show R = (L.reverse, 0) by rw [RE.out, BK.out, backL_zero]; rfl)
          by_cases hL0 : L.length = 0
          · obtain ⟨A2, c2, hv, i2⟩ := OW.out.sl (by omega)
            subst hv
            have I2 := hide2 i2
            clear i2
            obtain rfl : L = [] := List.eq_nil_of_length_eq_zero hL0
            simp only [List.length_nil] at *
            go_wp2_with (go_at_call 78; (with_reducible refine (reverse0_calls _ _ _).mono ?_); rintro e w5 ⟨rfl, hb5⟩; have B5 := hide2 hb5; clear hb5)
            exact bodyPost_ret (v := .tuple #[.slice A2 0 c2, .int .i64 0]) (by simp [results, Try.results24, go_sem]) rfl (by rw [RR.out]; exact ⟨_, _, _, rfl, Sl.keep IntR.kept I2.out B5.out, BZ2.out.trans ((BW.out.trans (B5.out.mono BW.out.size)).mono BZ2.out.size)⟩)
          · obtain ⟨g, cap, hv, _, _⟩ := OW.out.form (by omega)
            subst hv
            have CR := hide2 (reverse_calls OW.out (by omega) (by omega))
            go_wp2_with (go_at_call 78; (with_reducible refine CR.out.mono ?_); rintro e w5 ⟨rfl, own5, hb5⟩; have B5 := hide2 hb5; have O5 := hide2 own5; clear hb5 own5)
            exact bodyPost_ret (v := .tuple #[.slice (some ⟨g, 0, none⟩) L.length cap, .int .i64 0]) (by simp [results, Try.results24, go_sem]) rfl (by rw [RR.out]; exact ⟨_, _, _, rfl, O5.out.ints (by omega), BZ2.out.trans ((BW.out.trans B5.out).mono BZ2.out.size)⟩)
  · have RE := hide2 (PE.out s e0 rfl hk)
    go_wp2_with (go_at_call 74; go_loud ((with_reducible refine CS.out.mono ?_); rintro e w1 ⟨B1, ⟨_, rfl⟩ | ⟨he, _⟩⟩; rotate_left; (exact absurd he hk); have BB := hide2 B1; clear B1))
    exact bodyPost_ret (v := .tuple #[.slice none 0 0, .int .i64 e0]) (by simp [results, Try.results24, go_sem]) rfl (by rw [RE.out]; exact ⟨none, 0, 0, rfl, Sl.nil0, HB.out.trans (BB.out.mono HB.out.size)⟩)
end Go.Proofs.Ytmnacahoamkokaa
