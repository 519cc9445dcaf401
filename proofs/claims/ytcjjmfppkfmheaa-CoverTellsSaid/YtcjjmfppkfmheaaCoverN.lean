/- The contract of ETree. Conditions: the net and the mark read as lists. -/
import Derived.Test.YtcjjmfppkfmheaaCoverM
namespace Go.Proofs.Ytcjjmfppkfmheaa
open Go.RowKit

theorem wrap_fire2 (x q r : Int) : wrap64 (wrap64 (x - r) + q) = wrap64 (x + q - r) := by
  unfold wrap64
  omega
theorem fireC_take {t : PTran} {m : List Int} {k : Nat} (hk : k < m.length) : (fireC t m).take (k + 1) = (fireC t m).take k ++ [fireP t m k] := by
  have h : (fireC t m)[k]? = some (fireP t m k) := by simp [fireC, fireTo, hk]
  rw [List.take_add_one, h]; rfl
theorem anyTake {α : Type} {l : List α} {p : α → Bool} {i : Nat} {y : α} (h : l[i]? = some y) : (l.take (i + 1)).any p = ((l.take i).any p || p y) := by
  rw [List.take_add_one, h, List.any_append]; simp
theorem takeSnoc {α : Type} {l : List α} {i : Nat} {y : α} (h : l[i]? = some y) : l.take (i + 1) = l.take i ++ [y] := by
  rw [List.take_add_one, h]; rfl
theorem Row1 {N b : Nat} {w : World} {A : Option Addr} {n c : Nat} {m : List Int} (x : Box w b 33 #[.slice A n c]) (i : Ints w A n c m) (f : Far N w A n) : Refs N w (some ⟨b, 0, none⟩) 1 1 [m] := by
  refine ⟨rfl, Nat.le_refl _, by simp [maxLen], by omega, fun h => (by cases h), fun _ => ⟨b, 0, rfl, x.lt, fun j y hy => ?_⟩⟩
  obtain rfl : j = 0 := by
    have := (List.getElem?_eq_some_iff.1 hy).1
    simpa using this
  simp only [List.getElem?_cons_zero, Option.some.injEq] at hy
  subst hy
  refine ⟨fun _ => .slice A n c, fun q hq => ?_, A, n, c, rfl, i, f⟩
  obtain rfl : q = 0 := by omega
  exact x.cell 0
theorem TreeOk.short {n most : Nat} {ks : List LKnot} (h : TreeOk n most ks) : ∀ (j : Nat) (x : LKnot), ks[j]? = some x → x.2.length ≤ j := by
  intro j
  induction j using Nat.strongRecOn with
  | ind j ih =>
    intro x hx
    rcases h.up j x hx with ⟨_, h2⟩ | ⟨u, z, h1, _, h3, h4⟩
    · rw [h2]; simp
    · rw [h4, List.length_append]
      have := ih u h1 z h3
      simp
      omega
theorem refKeep {N B n : Nat} {w : World} {v : Value} {l : List (List Int)} (own : OwnSl (RefR N) 1 w B 33 v n l) (hB : N ≤ B) : ∀ w', w.grownBy w' v.ownBlock → ∀ vs y, RefR N w vs y → RefR N w' vs y := by
  obtain ⟨cells, o1, _⟩ := own
  exact fun w' hg vs y hk => RefR.same hg.size (fun b hlt hs => hg.block b hlt (fun e => by
    obtain ⟨h1, cur, h2⟩ := own_at o1 e.symm
    exact hs.ne (Nat.le_trans hB h1) h2 (by decide) rfl)) hk
theorem endS {P : Program} {ops : Array Oper} {Q : Exit → Act → World → Prop} {S : World → Prop} {T : Scr} (Tend : Scr) {a0 : Act} {w0 : World} (F : Act → Act → World → Prop) (hF : ∀ a' w', F a0 a' w' → S w' → wpScr P ops Q S Tend a' w')
    (h : Hid (∀ a' w', F a0 a' w' → S w' → wpScr P ops Q S Tend a' w') → wpScr P ops Q S T a0 w0) : wpScr P ops Q S T a0 w0 := h hF

set_option maxRecDepth 100000 in
set_option maxHeartbeats 60000000 in
theorem etree_calls {w : World} {P : Int} {A B : Option Addr} {n c m d : Nat} {ts : List PTran} {xs : List Int} (most : Int) (h : Trans w A n c ts) (g : Ints w B m d xs) :
    Calls Try.prog 15 #[.agg #[.int .i64 P, .slice A n c], .slice B m d, .int .i64 most] w (AnsTree (treeL ⟨P, ts⟩ xs most) w) := by
  have HB := hide2 (boxBelow w (.cells #[.int .i64 P, .slice A n c] 27))
  have X0 := hide2 (Box.new w #[.int .i64 P, .slice A n c] 27)
  have H := hide2 h
  have G := hide2 g
  have GL := hide2 (show xs.length = m from g.len)
  have TL := hide2 (show ts.length = n from h.len)
  clear h g
  by_cases hr : 1 ≤ most ∧ most ≤ 300
  · have hm1 : ¬ most < 1 := by omega
    have hm2 : ¬ 300 < most := by omega
    have HR := hide2 hr
    clear hr
    obtain ⟨r, hr⟩ : ∃ r, fitsB ⟨P, ts⟩ xs = r := ⟨_, rfl⟩
    have CE := hide2 (fun (w' : World) (hb : Below w.heap.size w w') => refFits_calls (P := P) (H.out.keep hb) (G.out.keep hb))
    rw [hr] at CE
    cases r
    · have FIN := hide2 (treeL_not (N := ⟨P, ts⟩) (m := xs) (most := most) (fun h => by rw [hr] at h; cases h.2.2))
      clear hr
      go_enter Try.func15, Try.ntmps15
      go_upto_region 1 with fail
      generalize w.alloc (.cells #[.int .i64 P, .slice A n c] 27) = w0 at *
      obtain ⟨c0, c1⟩ := X0.out.two
      go_wp2_with (go_at_call 61; (with_reducible refine (CE.out _ HB.out).mono ?_); rintro e w1 ⟨rfl, hb1⟩)
      go_ret2
      exact ⟨none, 0, by rw [FIN.out]; rfl, by rw [FIN.out]; exact Sl.nil0, HB.out.trans (hb1.mono HB.out.size)⟩
    · have hok := (netOk_iff _).1 ((fitsB_iff _ _).1 hr).1
      obtain rfl : P = (m : Int) := by have h1 := ((fitsB_iff _ _).1 hr).2.1; simp only [] at h1; rw [GL.out] at h1; exact h1.symm
      have hm16 : m ≤ 16 := by have h2 := hok.2.1; simp only [] at h2; omega
      have hn24 : n ≤ 24 := by have := hok.2.2.1; simp only [] at this; rw [TL.out] at this; exact this
      have TO := hide2 (show ∀ t, t ∈ ts → t.pre.length = m ∧ t.post.length = m from fun t ht => by
        have h2 := (tranOk_iff _ _).1 (hok.2.2.2 t ht)
        have h3 := h2.2.2.1
        have h4 := h2.2.2.2.1
        simp only [] at h3 h4
        exact ⟨by omega, by omega⟩)
      have OKr := hide2 (show 1 ≤ most ∧ most ≤ 300 ∧ fitsB ⟨m, ts⟩ xs = true from ⟨HR.out.1, HR.out.2, hr⟩)
      clear hr hok
      obtain ⟨M, hM⟩ : ∃ M : Nat, most = (M : Int) := ⟨most.toNat, by have := HR.out.1; omega⟩
      subst hM
      have hM1 : 1 ≤ M := by have := HR.out.1; omega
      have hM3 : M ≤ 300 := by have := HR.out.2; omega
      obtain ⟨R, hR⟩ : ∃ R, goK M ts M 0 (firstK xs) = R := ⟨_, rfl⟩
      have RN := hide2 (show R = none → treeL ⟨m, ts⟩ xs (M : Int) = ([], 4) from fun h => treeL_none OKr.out (by rw [Int.toNat_natCast]; exact hR.trans h))
      have RS := hide2 (show ∀ ks, R = some ks → treeL ⟨m, ts⟩ xs (M : Int) = (ks.map fun x => x.1, 0) from fun ks h => treeL_some OKr.out (by rw [Int.toNat_natCast]; exact hR.trans h))
      have HR1 := hide2 hR
      clear hR
      go_enter Try.func15, Try.ntmps15
      go_upto_region 1 with fail
      generalize w.alloc (.cells #[.int .i64 (m : Int), .slice A n c] 27) = w0 at *
      obtain ⟨c0, c1⟩ := X0.out.two
      go_upto_region 3 with (go_at_call 61; (with_reducible refine (CE.out _ HB.out).mono ?_); rintro e w1 ⟨rfl, hb1⟩)
      have X1 := hide2 (X0.out.keep hb1)
      have B1 := hide2 (HB.out.trans (hb1.mono HB.out.size))
      clear c0 c1 hb1 HB X0 CE
      go_upto_region 5 with fail
      have TM := hide2 (ETreeM.start (N := w.heap.size) (G.out.keep B1.out) (Far.low G.out (Nat.le_refl _) w1) B1.out.size)
      have B5 := hide2 (show Below w.heap.size w ((w1.alloc (.cells #[.int .i64 (-1), .int .i64 (-1), .slice B m d] 100)).alloc (.cells #[.slice none 0 0] 47)) from (B1.out.alloc B1.out.size _).alloc (by have := B1.out.size; simp; omega) _)
      have X5 := hide2 ((X1.out.old (.cells #[.int .i64 (-1), .int .i64 (-1), .slice B m d] 100)).old (.cells #[.slice none 0 0] 47))
      clear X1 B1
      try simp only [World.size_alloc]
      generalize (w1.alloc (.cells #[.int .i64 (-1), .int .i64 (-1), .slice B m d] 100)).alloc (.cells #[.slice none 0 0] 47) = w3 at *
      generalize w1.heap.size = b1 at *
      have OK0 := hide2 (TreeOk.start (n := m) (most := M) GL.out hM1)
      obtain ⟨N, hN⟩ : ∃ N, w.heap.size = N := ⟨_, rfl⟩
      rw [hN] at TM X5 B5 ⊢
      have HN := hide2 hN
      clear hN
      go_wp2
      go_loopw [8, 9, 10] (fun v u kv wr => ∃ (k g : Nat) (ks : List LKnot), kv = .int .i64 k ∧ k ≤ ks.length ∧ Hid (k + g = M) ∧ Hid (ETreeM N (ks.map fun x => x.1) (ks.map fun x => x.2) v u wr) ∧ Hid (TreeOk m M ks) ∧ Hid (Below N w wr) ∧ Hid (Box wr N 27 #[.int .i64 m, .slice A n c]) ∧ Hid (goK M ts g k ks = R)) (fun _ _ kv _ => M - (intOf kv).toNat)
      case atStart => exact ⟨0, M, firstK xs, rfl, Nat.zero_le _, hide2 (by omega), TM, OK0, B5, X5, HR1⟩
      case round =>
        clear TM OK0 B5 X5
        obtain ⟨k, g, ks, rfl, hk, KG, TM, TK, BW, XN, GO⟩ := hrel
        have hkl : ks.length ≤ 300 := Nat.le_trans TK.out.few hM3
        obtain ⟨Am, cm, Bl, dl, rfl, rfl, KN, LN, KM⟩ := TM.out.rows (by simp; omega) (by simp; omega)
        simp only [List.length_map] at KN LN KM TM ⊢
        obtain ⟨L, hL⟩ : ∃ L, ks.length = L := ⟨_, rfl⟩
        have HL := hide2 hL
        rw [hL] at KN LN KM hkl hk ⊢
        rw [hL] at TM
        clear hL
        by_cases hlt : k < L
        · obtain ⟨x, hx⟩ : ∃ x, ks[k]? = some x := ⟨_, List.getElem?_eq_getElem (by rw [HL.out]; exact hlt)⟩
          have hki : (k : Int) < (L : Int) := by omega
          have HX := hide2 hx
          obtain ⟨g', hg'⟩ : ∃ g', g = g' + 1 := ⟨g - 1, by have := KG.out; have := TK.out.few; rw [HL.out] at this; omega⟩
          subst hg'
          have ST := hide2 (show (if seenK x = true then some ks else foldK M x k ts (some ks)).bind (goK M ts g' (k + 1)) = R by
            have := GO.out
            rw [goK, if_pos (by rw [HL.out]; exact hlt), stepK, HX.out] at this
            exact this)
          obtain ⟨b9, off9, l, A9, n9, c9, rfl, hb9, hl9, q9, RF, FL⟩ := LN.get hlt
          obtain rfl : l = x.2 := by have := hl9.out; rw [List.getElem?_map, HX.out] at this; simpa using this.symm
          obtain ⟨b8, off8, y, Bm, km, dm, rfl, hb8, hy, q8, im, fm⟩ := ETreeM.knotMk KM hlt
          obtain rfl : x.1 = y := by have := hy.out; rw [List.getElem?_map, HX.out] at this; simpa using this
          obtain rfl : km = m := im.out.len.symm.trans (TK.out.lens x (List.mem_of_getElem? HX.out)).1
          have Q9 := hide2 q9
          have Q8 := hide2 q8
          have IM := im
          have FM := fm
          have hL9 := hide2 RF.out.len
          have h9k : n9 ≤ 300 := by have := TK.out.short k x HX.out; rw [hL9.out] at this; omega
          have h9s := RF.out.small
          clear hx GO hl9 hy im fm KN LN KM q8
          obtain ⟨wo, hwo⟩ : ∃ wo : World, wo = wr := ⟨_, rfl⟩
          subst hwo
          go_wp2
          go_loopw [11, 49] (fun fv iv wr => ∃ (i : Nat) (b : Bool), i ≤ n9 ∧ iv = .int .i64 i ∧ fv = .bool b ∧ Hid (b = (x.2.take i).any (fun y => y == x.1.mark)) ∧ Hid (Below wo.heap.size wo wr)) (fun _ iv _ => n9 - (intOf iv).toNat)
          case atStart => exact ⟨0, false, Nat.zero_le _, rfl, rfl, rfl, Below.refl _ _⟩
          case round =>
            obtain ⟨i, b, hi, rfl, rfl, HB, BI⟩ := hrel
            by_cases hin : i < n9
            · obtain ⟨b7, off7, z, B7, m7, d7, rfl, hb7, hz, q7, iz⟩ := Refs.get (Sl.keep (RefR.kept N) RF.out BI.out) hin
              have hii : (i : Int) < (n9 : Int) := by omega
              have AT := hide2 (anyTake (p := fun y => y == x.1.mark) hz.out)
              have q8 := (BI.out.cell (p := ⟨b8, _, none⟩) hb8).trans Q8.out
              cases b with
              | true =>
                have NX := hide2 (show true = (x.2.take (i + 1)).any (fun y => y == x.1.mark) by rw [AT.out, ← HB.out]; rfl)
                clear hz iz
                go_wp2
                go_roundw
                case rel => exact ⟨i + 1, true, by omega, by go_num, rfl, NX, BI⟩
                case measure => simp [intOf]; omega
              | false =>
                have NX := hide2 (show (z == x.1.mark) = (x.2.take (i + 1)).any (fun y => y == x.1.mark) by rw [AT.out, ← HB.out]; rfl)
                have IM2 := hide2 (IM.out.keep BI.out)
                obtain ⟨r, hr⟩ : ∃ r, (z == x.1.mark) = r := ⟨_, rfl⟩
                have CQ := hide2 (equalInts_calls iz.out IM2.out)
                rw [hr] at CQ NX
                clear hz iz hr
                go_wp2_with ((with_reducible refine CQ.out.mono ?_); rintro e w4 ⟨rfl, dr⟩; have BD := hide2 dr.below; clear dr)
                go_roundw
                case rel => exact ⟨i + 1, r, by omega, by go_num, rfl, NX, hide2 (BI.out.trans (BD.out.mono BI.out.size))⟩
                case measure => simp [intOf]; omega
            · obtain rfl : n9 = i := by omega
              have SN := hide2 (show seenK x = b by
                have := HB.out
                rw [List.take_of_length_le (by rw [hL9.out]; exact Nat.le_refl _)] at this
                exact this.symm)
              have TM4 := hide2 (TM.out.keep BI.out)
              have hNs := Nat.le_trans (Nat.le_of_eq HN.out.symm) BW.out.size
              have BW4 := hide2 (BW.out.trans (BI.out.mono hNs))
              have XN4 := hide2 (XN.out.keep BI.out)
              have c9' := (BI.out.cell (p := ⟨b9, _, none⟩) hb9).trans Q9.out
              have c8' := (BI.out.cell (p := ⟨b8, _, none⟩) hb8).trans Q8.out
              have RF4 := hide2 (Refs.same FL.out RF.out BI.out.size (fun b hb _ => BI.out.block b hb))
              have IM4 := hide2 (IM.out.keep BI.out)
              have FM4 := hide2 (FM.out.same IM.out BI.out.size (fun b hb _ => BI.out.block b hb)).1
              have L9 := hide2 (Nat.lt_of_lt_of_le hb9 BI.out.size)
              have L8 := hide2 (Nat.lt_of_lt_of_le hb8 BI.out.size)
              clear q9 TM BW XN RF FL Q9 Q8 IM FM HB BI hNs
              clear hb9 hb8
              cases b with
              | true =>
                have ST2 := hide2 (show goK M ts g' (k + 1) ks = R by have := ST.out; rw [if_pos SN.out] at this; exact this)
                clear ST SN c9' c8'
                go_wp2
                go_roundw
                case rel => exact ⟨k + 1, g', ks, by simp, by rw [HL.out]; omega, hide2 (by have := KG.out; omega), TM4, TK, BW4, XN4, ST2⟩
                case measure =>
                  have := KG.out
                  simp [intOf]
                  omega
              | false =>
                have ST2 := hide2 (show (foldK M x k ts (some ks)).bind (goK M ts g' (k + 1)) = R by have := ST.out; rw [if_neg (by rw [SN.out]; decide)] at this; exact this)
                clear ST SN
                go_upto_region 15 with fail
                refine wp_region_scr 12 (.takes [1, 2, 3, 4, 6, 7, 8, 9, 10] (.two 0 (.two 5 (.one 11 (.fin 12 (.fin 13 .done))) 11 (.one 5 (.fin 12 (.fin 13 .done)))) 11 (.one 0 (.one 5 (.fin 12 (.fin 13 .done)))))) (fun w' => w'.cell? ⟨b9, off9 + k, none⟩ = some (.slice A9 n9 c9) ∧ w'.cell? ⟨b8, off8 + k * 3 + 2, none⟩ = some (.slice Bm km dm)) (by kernel_rfl) (by kernel_rfl) (by kernel_rfl) (fun _ _ _ _ _ h => h) ⟨c9', c8'⟩ (fun hHeld => ?_)
                simp only [Scr.takes]
                have C9 := hide2 (show wr.drew.cell? ⟨b9, off9 + k, none⟩ = some (.slice A9 n9 c9) from c9')
                have C8 := hide2 (show wr.drew.cell? ⟨b8, off8 + k * 3 + 2, none⟩ = some (.slice Bm km dm) from c8')
                have TMu := hide2 (TM4.out.keep (Below.refl _ _).drew)
                have BWu := hide2 BW4.out.drew
                have XNu := hide2 XN4.out.drew
                have RFu := hide2 (Sl.keep (RefR.kept N) RF4.out.2 (Below.refl _ _).drew)
                have FLu := hide2 (show FarL wr.drew A9 n9 from RF4.out.1)
                have IMu := hide2 (IM4.out.keep (Below.refl _ _).drew)
                have FMu := hide2 (show Far N wr.drew Bm km from FM4.out)
                have hNu := Nat.le_trans (Nat.le_of_eq HN.out.symm) BWu.out.size
                clear TM4 BW4 XN4 RF4 IM4 FM4 c9' c8'
                change Hid (b9 < wr.drew.heap.size) at L9
                change Hid (b8 < wr.drew.heap.size) at L8
                generalize wr.drew = u0 at *
                have E := hide2 (Below.refl u0.heap.size u0)
                iterate 9
                  refine tkTake (v := ?_) rfl (by rfl) hHeld (fun w' hSw => ?_) ?_
                  rotate_left
                  · (go_simp; try with_reducible rfl)
                  try simp only [Act.put, List.setIfInBounds_toArray, List.set_cons_zero, List.set_cons_succ]
                refine endS (.fin 13 .done) (fun a0 a' w' => ∃ e1 e2 e3 v : Value, a' = ((((a0.put (some 65) e1).put (some 70) e2).put (some 76) e3).put (some 77) v) ∧ Hid (OwnSl (RefR N) 1 w' u0.heap.size 33 v (0 + n9 + 1) ([] ++ x.2 ++ [x.1.mark])) ∧ Hid (Below u0.heap.size u0 w')) ?_ (fun EN => ?_)
                · rintro a' w6 ⟨e1, e2, e3, v, rfl, R1, E⟩ hHeld
                  simp only [Act.put, List.setIfInBounds_toArray, List.set_cons_zero, List.set_cons_succ]
                  have R2 : OwnSl (RefR N) 1 w6 u0.heap.size 33 v (n9 + 1) (x.2 ++ [x.1.mark]) := by simpa using R1.out
                  obtain ⟨A14, c14, rfl, r14⟩ := R2.sl (by omega)
                  have FL6 := hide2 (FarL.own R2)
                  have RF6 := hide2 r14
                  have TM6 := hide2 (TMu.out.keep E.out)
                  have BW6 := hide2 (BWu.out.trans (E.out.mono hNu))
                  have XN6 := hide2 (XNu.out.keep E.out)
                  clear TMu BWu XNu RFu FLu IMu FMu C9 C8 hHeld L9 L8 E hNu R1 R2 r14
                  refine tkEnd rfl (fun K hK => ?_)
                  go_simp
                  refine hK.out _ _ ?_
                  clear hK
                  try simp only [Act.put, List.setIfInBounds_toArray, List.set_cons_zero, List.set_cons_succ]
                  refine tkDone ?_
                  have x1 := XN6.out.two.2
                  have FO := hide2 (show foldK M x k (ts.take 0) (some ks) = some ks from rfl)
                  go_wp2
                  go_loopw [8, 9, 81] (fun v u iv wr => ∃ (i : Nat) (ks1 : List LKnot), iv = .int .i64 i ∧ i ≤ n ∧ Hid (ETreeM N (ks1.map fun x => x.1) (ks1.map fun x => x.2) v u wr) ∧ Hid (TreeOk km M ks1) ∧ Hid (Below N w wr) ∧ Hid (Box wr N 27 #[.int .i64 km, .slice A n c]) ∧ Hid (ks <+: ks1) ∧ Hid (foldK M x k (ts.take i) (some ks) = some ks1) ∧ Hid (Refs N wr A14 (n9 + 1) c14 (x.2 ++ [x.1.mark])) ∧ Hid (FarL wr A14 (n9 + 1))) (fun _ _ iv _ => n - (intOf iv).toNat)
                  case atStart => exact ⟨0, ks, rfl, Nat.zero_le _, TM6, TK, BW6, XN6, List.prefix_rfl, FO, RF6, FL6⟩
                  case round =>
                    clear TM6 BW6 XN6 FO TK x1 RF6 FL6
                    obtain ⟨i, ks1, rfl, hi, TM, TK, BW, XN, PF, FO, RF, FL⟩ := hrel
                    have BW' : Hid (Below w.heap.size w wr) := hide2 (BW.out.mono (Nat.le_of_eq HN.out))
                    by_cases hin : i < n
                    · obtain ⟨bt, offt, t, A1, n1, c1, A2, n2, c2, rfl, hbt, ht, q0, q1, q2, i1, i2, _, _⟩ := (H.out.keep BW'.out).get hin
                      have hii : (i : Int) < (n : Int) := by omega
                      have hlen := TO.out t (List.mem_of_getElem? ht.out)
                      obtain rfl : km = n1 := hlen.1.symm.trans i1.len
                      obtain rfl : km = n2 := hlen.2.symm.trans i2.len
                      have NX := hide2 (show foldK M x k (ts.take (i + 1)) (some ks) = pushK M x k i t ks1 by
                        rw [take_snoc ht.out, foldK_snoc, FO.out, List.length_take, Nat.min_eq_left (by rw [TL.out]; omega)]; rfl)
                      have HX1 := hide2 (prefixK_at PF.out HX.out)
                      have hfew1 : ks1.length ≤ 300 := Nat.le_trans TK.out.few hM3
                      have hk1 : k < ks1.length := (List.getElem?_eq_some_iff.1 HX1.out).1
                      obtain ⟨Am1, cm1, Bl1, dl1, rfl, rfl, KN, LN, KM⟩ := TM.out.rows (by simp; omega) (by simp; omega)
                      simp only [List.length_map] at KN LN KM TM ⊢
                      obtain ⟨L1, hL1⟩ : ∃ L1, ks1.length = L1 := ⟨_, rfl⟩
                      have HL1 := hide2 hL1
                      rw [hL1] at KN LN KM hk1 hfew1 TM ⊢
                      clear hL1
                      have hkL : (k : Int) < (L1 : Int) := by omega
                      obtain ⟨bk, offk, y, Bm1, km1, dm1, rfl, hbk, hy, qm, im, fm⟩ := ETreeM.knotMk KM hk1
                      obtain rfl : x.1 = y := by have := hy.out; rw [List.getElem?_map, HX1.out] at this; simpa using this
                      obtain rfl : km = km1 := (TK.out.lens x (List.mem_of_getElem? HX1.out)).1.symm.trans im.out.len
                      have I1 := hide2 i1
                      have I2 := hide2 i2
                      have IM := im
                      have FM := fm
                      have x1 := XN.out.two.2
                      obtain ⟨r, hr⟩ : ∃ r, belowB t.pre x.1.mark = r := ⟨_, rfl⟩
                      have CB := hide2 (fun q => show Calls Try.prog 62 #[.slice A1 km c1, .slice Bm1 km dm1] (wr.drewN q) fun e w' => e = .returned (.bool r) ∧ Drew (wr.drewN q) w' from by
                        rw [← hr]; exact ebelow_calls (I1.out.keep (Drew.drewN wr q).below) (IM.out.keep (Drew.drewN wr q).below))
                      have HRB := hide2 hr
                      have Q1 := hide2 q1
                      have Q2 := hide2 q2
                      have QM := hide2 qm
                      clear hr ht hy im fm i1 i2 KN LN KM
                      go_upto_region 19 with fail
                      go_quiet ((go_at_call 62; exact quietCallD (CB.out _)))
                      clear q0 q1 q2 qm x1 CB
                      have dq := hide2 (Drew.drewN wr nq).below
                      have hNw := Nat.le_trans (Nat.le_of_eq HN.out.symm) BW.out.size
                      replace TM := hide2 (TM.out.keep dq.out)
                      replace BW := hide2 (BW.out.trans (dq.out.mono hNw))
                      replace XN := hide2 (XN.out.keep dq.out)
                      replace RF := hide2 (Refs.same FL.out RF.out dq.out.size (fun b hb _ => dq.out.block b hb)).2
                      replace FL := hide2 (show FarL (wr.drewN nq) A14 (n9 + 1) from FL.out)
                      replace I1 := hide2 (I1.out.keep dq.out)
                      replace I2 := hide2 (I2.out.keep dq.out)
                      replace FM := hide2 (show Far N (wr.drewN nq) Bm1 km from FM.out)
                      replace IM := hide2 (IM.out.keep dq.out)
                      replace Q1 := hide2 ((dq.out.cell (p := ⟨bt, _, none⟩) hbt).trans Q1.out)
                      replace Q2 := hide2 ((dq.out.cell (p := ⟨bt, _, none⟩) hbt).trans Q2.out)
                      replace QM := hide2 ((dq.out.cell (p := ⟨bk, _, none⟩) hbk).trans QM.out)
                      replace hbt : bt < (wr.drewN nq).heap.size := hbt
                      replace hbk : bk < (wr.drewN nq).heap.size := hbk
                      replace BW' := hide2 (show Below w.heap.size w (wr.drewN nq) from BW.out.mono (Nat.le_of_eq HN.out))
                      clear dq hNw
                      generalize wr.drewN nq = wt at *
                      cases r with
                      | false =>
                        have NX2 := hide2 (show foldK M x k (ts.take (i + 1)) (some ks) = some ks1 by rw [NX.out, pushK, if_neg (by rw [HRB.out]; decide)])
                        go_wp2
                        go_roundw
                        case rel => exact ⟨i + 1, ks1, by simp, hin, TM, TK, BW, XN, PF, NX2, RF, FL⟩
                        case measure => simp [intOf]; omega
                      | true =>
                        by_cases hfull : (M : Int) ≤ (L1 : Int)
                        · have NONE := hide2 (show R = none by
                            have hLM : ks1.length = M := by have h1 := TK.out.few; have h2 := HL1.out; omega
                            rw [← ST2.out, foldK_ended (i + 1) (by rw [NX.out, pushK, if_pos HRB.out, if_pos hLM])]
                            rfl)
                          go_wp2
                          go_ret2
                          exact ⟨none, 0, by rw [RN.out NONE.out]; rfl, by rw [RN.out NONE.out]; exact Sl.nil0, by rw [HN.out]; exact BW.out⟩
                        · have hfl : (L1 : Int) < (M : Int) := by omega
                          have qm := QM.out
                          have HN1 := hide2 (Nat.le_trans (Nat.le_of_eq HN.out.symm) BW.out.size)
                          obtain ⟨wo, hwo⟩ : ∃ wo : World, wo = wt := ⟨_, rfl⟩
                          subst hwo
                          go_wp2
                          have hmk := hide2 (show x.1.mark.length = km from IM.out.len)
                          have hLl := hide2 (show (x.2 ++ [x.1.mark]).length = n9 + 1 by simp [hL9.out])
                          go_loopw [16, 107] (fun v pv wr => ∃ p : Nat, p ≤ km ∧ pv = .int .i64 p ∧ Hid (OwnInts wr wo.heap.size v p ((fireC t x.1.mark).take p)) ∧ Hid (Below wo.heap.size wo wr)) (fun _ pv _ => km - (intOf pv).toNat)
                          case atStart => exact ⟨0, Nat.zero_le _, rfl, OwnSl.nil, Below.refl _ _⟩
                          case round =>
                            obtain ⟨p, hp, rfl, OX, BX⟩ := hrel
                            by_cases hpm : p < km
                            · obtain ⟨bm, offm, mv, rfl, hbm, hmv, qmv⟩ := (IM.out.keep BX.out).get hpm
                              have hpi : (p : Int) < (km : Int) := by omega
                              have FT := hide2 (fireC_take (t := t) (m := x.1.mark) (k := p) (by rw [hmk.out]; exact hpm))
                              have hmx := hide2 (getD_at hmv.out)
                              by_cases hmany : mv = -1
                              · have FP := hide2 (show fireP t x.1.mark p = -1 by rw [fireP, hmx.out, if_pos hmany])
                                subst hmany
                                clear hmv
                                go_wp2_with (at_builtin; refine wpList_appInt rfl _ _ rfl rfl rfl (by first | rfl | simp) OX.out BX.out BX.out.size (by omega) ?_; intro v2 w2 own2 hg2 hb2; replace own2 := hide2 own2; replace hb2 := hide2 hb2; clear hg2)
                                go_roundw
                                case rel => exact ⟨p + 1, by omega, by go_num, by rw [FT.out, FP.out]; exact own2.out, hb2⟩
                                case measure => simp [intOf]; omega
                              · obtain ⟨b1', off1', q, hA1, hb1', hq, qq⟩ := (I1.out.keep BX.out).get hpm
                                obtain ⟨b2', off2', r, hA2, hb2', hr, qr⟩ := (I2.out.keep BX.out).get hpm
                                subst hA1 hA2
                                have FP := hide2 (show fireP t x.1.mark p = wrap64 (mv + r - q) by rw [fireP, hmx.out, if_neg hmany, getD_at hr.out, getD_at hq.out])
                                have hne : (mv != -1) = true := by simpa using hmany
                                have x1 := (XN.out.keep BX.out).two.2
                                have q1 := (BX.out.cell (p := ⟨bt, _, none⟩) hbt).trans Q1.out
                                have q2 := (BX.out.cell (p := ⟨bt, _, none⟩) hbt).trans Q2.out
                                clear hmv hq hr hmany
                                go_upto_region 27 with fail
                                go_quiet (fail)
                                clear x1 q1 q2 qq qr qmv
                                rw [wrap_fire2]
                                have dq := hide2 (Drew.drewN wr nq).below
                                have OX2 := hide2 (OX.out.keep IntR.kept dq.out)
                                have BX2 := hide2 (BX.out.trans (dq.out.mono BX.out.size))
                                clear OX BX dq
                                generalize wr.drewN nq = w8 at *
                                go_wp2_with (at_builtin; refine wpList_appInt rfl _ _ rfl rfl rfl (by first | rfl | simp) OX2.out BX2.out BX2.out.size (by omega) ?_; intro v2 w2 own2 hg2 hb2; replace own2 := hide2 own2; replace hb2 := hide2 hb2; clear hg2)
                                go_roundw
                                case rel => exact ⟨p + 1, by omega, by go_num, by rw [FT.out, FP.out]; exact own2.out, hb2⟩
                                case measure => simp [intOf]; omega
                            · obtain rfl : km = p := by omega
                              have x0 := (XN.out.keep BX.out).two.1
                              have OY := OX.out
                              rw [List.take_of_length_le (by rw [fireC_len, hmk.out]; exact Nat.le_refl _)] at OY
                              obtain ⟨Ax, cx, rfl, _⟩ := OY.sl (by omega)
                              have OZ := hide2 OY
                              have RD := hide2 (RdE.start (L := x.2 ++ [x.1.mark]) (ms := fireC t x.1.mark))
                              clear OX OY hpm hp
                              obtain ⟨wp, hwp⟩ : ∃ wp : World, wp = wr := ⟨_, rfl⟩
                              subst hwp
                              go_wp2
                              go_loopw [143] (fun rv wr => ∃ (r : Nat) (ys : List Int), r ≤ km + 1 ∧ rv = .int .i64 r ∧ Hid (OwnInts wr wo.heap.size (.slice Ax km cx) km ys) ∧ Hid (Below wo.heap.size wo wr) ∧ Hid (RdE (x.2 ++ [x.1.mark]) (fireC t x.1.mark) r ys)) (fun rv _ => km + 1 - (intOf rv).toNat)
                              case atStart => exact ⟨0, _, by omega, rfl, OZ, BX, RD⟩
                              case round =>
                                clear OZ BX RD x0
                                obtain ⟨r, ys, hr, rfl, OZ, BX, RD⟩ := hrel
                                by_cases hrk : r < km + 1
                                · have hri : (r : Int) < (km : Int) + 1 := by omega
                                  obtain ⟨wq, hwq⟩ : ∃ wq : World, wq = wr := ⟨_, rfl⟩
                                  subst hwq
                                  have EN := hide2 RD.out.enter
                                  go_wp2
                                  go_loopw [147] (fun jv wr => ∃ (j : Nat) (zs : List Int), j ≤ n9 + 1 ∧ jv = .int .i64 j ∧ Hid (OwnInts wr wo.heap.size (.slice Ax km cx) km zs) ∧ Hid (Below wo.heap.size wo wr) ∧ Hid (OnE (x.2 ++ [x.1.mark]) (fireC t x.1.mark) ys ((x.2 ++ [x.1.mark]).take j) zs)) (fun jv _ => n9 + 1 - (intOf jv).toNat)
                                  case atStart => exact ⟨0, _, by omega, rfl, OZ, BX, EN⟩
                                  case round =>
                                    clear OZ BX EN
                                    obtain ⟨j, zs, hj, rfl, OZ, BX, ON⟩ := hrel
                                    by_cases hjn : j < n9 + 1
                                    · have hji : (j : Int) < (n9 : Int) + 1 := by omega
                                      obtain ⟨b14, off14, y, By, ny, dy, rfl, hb14, hy, qy', iy⟩ := Refs.get RF.out hjn
                                      have qy := (BX.out.cell (p := ⟨b14, _, none⟩) hb14).trans qy'
                                      have hym := hide2 (List.mem_of_getElem? hy.out)
                                      have hyl := (show y.length = km from by
                                        rcases List.mem_append.1 hym.out with h1 | h1
                                        · exact (TK.out.lens x (List.mem_of_getElem? HX1.out)).2 y h1
                                        · rw [List.mem_singleton.1 h1]; exact hmk.out)
                                      obtain rfl : km = ny := hyl.symm.trans iy.out.len
                                      have TS := hide2 (takeSnoc hy.out)
                                      have INN := hide2 (OnE.enter (y := y) ON.out)
                                      have IY := iy
                                      obtain ⟨wv, hwv⟩ : ∃ wv : World, wv = wr := ⟨_, rfl⟩
                                      subst hwv
                                      clear hy iy ON qy'
                                      go_wp2
                                      go_loopw [153] (fun qv wr => ∃ (q : Nat) (us : List Int), q ≤ km ∧ qv = .int .i64 q ∧ Hid (OwnInts wr wo.heap.size (.slice Ax km cx) km us) ∧ Hid (Below wo.heap.size wo wr) ∧ Hid (InE (x.2 ++ [x.1.mark]) (fireC t x.1.mark) ys ((x.2 ++ [x.1.mark]).take j) y q us)) (fun qv _ => km - (intOf qv).toNat)
                                      case atStart => exact ⟨0, _, Nat.zero_le _, rfl, OZ, BX, INN⟩
                                      case round =>
                                        clear OZ BX INN
                                        obtain ⟨q, us, hq, rfl, OZ, BX, INN⟩ := hrel
                                        by_cases hqk : q < km
                                        · have hqi : (q : Int) < (km : Int) := by omega
                                          obtain ⟨bz, offz, yv, rfl, hbz, hyv, qyv⟩ := (IY.out.keep BX.out).get hqk
                                          obtain ⟨g, cap, hv, hBg, hgl⟩ := OZ.out.form (by omega)
                                          injection hv with e1 _ e3
                                          subst e1 e3
                                          obtain ⟨xv, hxv⟩ : ∃ xv, us[q]? = some xv := ⟨_, List.getElem?_eq_getElem (by rw [OZ.out.len]; exact hqk)⟩
                                          have qx := OZ.out.at hxv
                                          have HXV := hide2 hxv
                                          have hus := hide2 (show q < us.length by rw [OZ.out.len]; exact hqk)
                                          have YG := hide2 (getD_at hyv.out)
                                          have XG := hide2 (getD_at hxv)
                                          have IX := hide2 (OZ.out.ints (by omega))
                                          have IYr := hide2 (IY.out.keep BX.out)
                                          obtain ⟨rb, hrb⟩ : ∃ rb, belowB y us = rb := ⟨_, rfl⟩
                                          have CB := hide2 (fun q => show Calls Try.prog 62 #[.slice (some ⟨bz, offz, none⟩) km dy, .slice (some ⟨g, 0, none⟩) km cx] (wr.drewN q) fun e w' => e = .returned (.bool rb) ∧ Drew (wr.drewN q) w' from by
                                            rw [← hrb]; exact ebelow_calls (IYr.out.keep (Drew.drewN wr q).below) (IX.out.keep (Drew.drewN wr q).below))
                                          have HRBb := hide2 hrb
                                          clear hrb hxv hyv IX IYr
                                          cases rb with
                                          | false =>
                                            have IN2 := hide2 (INN.out.miss (fun h => by rw [HRBb.out] at h; cases h))
                                            go_upto_region 38 with fail
                                            go_quiet ((go_at_call 62; exact quietCallD (CB.out _)))
                                            clear qx qyv CB
                                            have dq := hide2 (Drew.drewN wr nq).below
                                            have OX2 := hide2 (OZ.out.keep IntR.kept dq.out)
                                            have BX2 := hide2 (BX.out.trans (dq.out.mono BX.out.size))
                                            go_wp2
                                            go_roundw
                                            case rel => exact ⟨q + 1, us, by omega, by go_num, OX2, BX2, IN2⟩
                                            case measure => simp [intOf]; omega
                                          | true =>
                                            obtain ⟨re, hre⟩ : ∃ re, emoreB xv yv = re := ⟨_, rfl⟩
                                            have EM := hide2 (fun (w' : World) => emore_calls w' xv yv)
                                            rw [hre] at EM
                                            have HRE := hide2 hre
                                            clear hre
                                            go_upto_region 38 with fail
                                            go_quiet (first
                                              | (go_at_call 62; exact quietCallD (CB.out _))
                                              | (go_at_call 63; exact quietCall (EM.out _)))
                                            clear qx qyv CB EM
                                            have dq := hide2 (Drew.drewN wr nq).below
                                            have OX2 := hide2 (OZ.out.keep IntR.kept dq.out)
                                            have BX2 := hide2 (BX.out.trans (dq.out.mono BX.out.size))
                                            clear OZ BX dq
                                            generalize wr.drewN nq = w8 at *
                                            cases re with
                                            | false =>
                                              have IN2 := hide2 (INN.out.miss (fun _ h1 h2 h3 => by
                                                rw [XG.out] at h1 h3
                                                rw [YG.out] at h2 h3
                                                rcases (emoreB_not _ _).1 HRE.out with h | ⟨_, h⟩
                                                · exact h2 h
                                                · omega))
                                              go_wp2
                                              go_roundw
                                              case rel => exact ⟨q + 1, us, by omega, by go_num, OX2, BX2, IN2⟩
                                              case measure => simp [intOf]; omega
                                            | true =>
                                              have IN2 := hide2 (INN.out.hit hym.out hus.out HRBb.out (by rw [XG.out, YG.out]; exact HRE.out))
                                              have s0 : w8.cell? ⟨g, q, none⟩ = some (.int .i64 xv) := OwnInts.at OX2.out HXV.out
                                              have f0 : w8.frozen? ⟨g, q, none⟩ = false := OwnInts.frozen OX2.out q
                                              have OX3 := hide2 (OwnInts.put OX2.out q (-1))
                                              have BX3 := hide2 (BX2.out.setCell (p := ⟨g, q, none⟩) hBg (.int .i64 (-1)))
                                              go_wp2
                                              go_roundw
                                              case rel => exact ⟨q + 1, us.set q (-1), by omega, by go_num, OX3, BX3, IN2⟩
                                              case measure => simp [intOf]; omega
                                        · obtain rfl : km = q := by omega
                                          have ON2 := hide2 (show OnE (x.2 ++ [x.1.mark]) (fireC t x.1.mark) ys ((x.2 ++ [x.1.mark]).take (j + 1)) us by
                                            rw [TS.out]; exact INN.out.leave (Nat.le_of_eq OZ.out.len))
                                          go_wp2
                                          go_roundw
                                          case rel => exact ⟨j + 1, us, by omega, by go_num, OZ, BX, ON2⟩
                                          case measure => simp [intOf]; omega
                                    · obtain rfl : j = n9 + 1 := by omega
                                      have RD2 := hide2 (RD.out.next (by have := ON.out; rw [List.take_of_length_le (by rw [hLl.out]; exact Nat.le_refl _)] at this; exact this))
                                      go_wp2
                                      go_roundw
                                      case rel => exact ⟨r + 1, zs, by omega, by go_num, OZ, BX, RD2⟩
                                      case measure => simp [intOf]; omega
                                · have hre : r = km + 1 := by omega
                                  subst hre
                                  have FIN := hide2 (RD.out.end_ (by rw [fireC_len, hmk.out]; exact Nat.lt_succ_self _))
                                  have HC := hide2 FIN.out
                                  have TMz := hide2 (TM.out.keep BX.out)
                                  have BWz := hide2 (BW.out.trans (BX.out.mono HN1.out))
                                  have XNz := hide2 (XN.out.keep BX.out)
                                  have RFz := hide2 (Refs.same FL.out RF.out BX.out.size (fun b hb _ => BX.out.block b hb))
                                  have PUSH := hide2 (show pushK M x k i t ks1 = some (ks1 ++ [nextK x k i t]) by rw [pushK, if_pos HRB.out, if_neg (by rw [HL1.out]; omega)])
                                  obtain ⟨Ay, cy, hvy, jy⟩ := OZ.out.sl (by omega)
                                  injection hvy with g1 _ g3
                                  subst g1 g3
                                  have FY := Far.own (N := N) OZ.out
                                  have hread := hide2 (show Reads (MkR N) 3 wr #[.int .i64 (k : Int), .int .i64 (i : Int), .slice Ax km cx].toList [(nextK x k i t).1] from by
                                    refine Reads.one (vs := fun j => match j with | 0 => .int .i64 (k : Int) | 1 => .int .i64 (i : Int) | _ => .slice Ax km cx) ⟨rfl, rfl, Ax, km, cx, rfl, by rw [show (nextK x k i t).1.mark = ys from FIN.out.symm]; exact jy, FY⟩ rfl (fun j hj => ?_)
                                    match j, hj with
                                    | 0, _ => rfl
                                    | 1, _ => rfl
                                    | 2, _ => rfl)
                                  have OK := hide2 (show OwnSl (MkR N) 3 wr N 100 (.slice (some ⟨bk, offk, none⟩) L1 cm1) L1 (ks1.map fun x => x.1) by simpa [HL1.out] using TMz.out.own)
                                  clear jy FY OZ TM BW XN RF FL BX
                                  go_upto_region 44 with (at_builtin; refine wpList_appNew (v := .slice (some ⟨bk, offk, none⟩) L1 cm1) tyKnots rfl _ _ rfl [(nextK x k i t).1] #[.int .i64 (k : Int), .int .i64 (i : Int), .slice Ax km cx] rfl rfl (by first | rfl | simp) rfl (by simp [Value.oneCell']) OK.out hread.out rfl BWz.out (Nat.le_trans (Nat.le_of_eq HN.out.symm) BWz.out.size) (by omega) (by omega) TMz.out.keepKnots ?_; intro v1 w9 own9 hg9 hb9)
                                  have TM9 := hide2 (TMz.out.knot own9 hg9)
                                  have RF9 := hide2 (TMz.out.refsK hg9 RFz.out.1 RFz.out.2)
                                  have XN9 := hide2 (TMz.out.boxK hg9 XNz.out (by decide))
                                  have BW9 := hide2 hb9
                                  have OL := hide2 (show OwnSl (LnR N) 1 w9 N 47 (.slice Bl1 L1 dl1) L1 (ks1.map fun x => x.2) by simpa [HL1.out] using TM9.out.lin)
                                  have hread2 := hide2 (show Reads (LnR N) 1 w9 #[.slice A14 (n9 + 1) c14].toList [x.2 ++ [x.1.mark]] from
                                    Reads.one (vs := fun _ => .slice A14 (n9 + 1) c14) ⟨A14, n9 + 1, c14, rfl, RF9.out.2, RF9.out.1⟩ rfl (fun j hj => (by obtain rfl : j = 0 := (by omega); rfl)))
                                  clear own9 hg9 hb9 TMz RFz XNz BWz OK hread
                                  go_wp2_with (at_builtin; refine wpList_appNew (v := .slice Bl1 L1 dl1) tyLss rfl _ _ rfl [x.2 ++ [x.1.mark]] #[.slice A14 (n9 + 1) c14] rfl rfl (by first | rfl | simp) rfl (by simp [Value.oneCell']) OL.out hread2.out rfl BW9.out (Nat.le_trans (Nat.le_of_eq HN.out.symm) BW9.out.size) (by omega) (by omega) TM9.out.keepLines ?_; intro v2 wz ownz hgz hbz)
                                  have TMy := hide2 (TM9.out.line ownz hgz)
                                  have RFy := hide2 (TM9.out.refsL hgz RF9.out.1 RF9.out.2)
                                  have XNy := hide2 (TM9.out.boxL hgz XN9.out (by decide))
                                  have TKy := hide2 (TK.out.push HX1.out PUSH.out)
                                  have BWy := hide2 hbz
                                  go_roundw
                                  case rel => exact ⟨i + 1, ks1 ++ [nextK x k i t], by simp, hin, hide2 (by have := TMy.out; simpa [nextK] using this), hide2 TKy.out.1, BWy, XNy, hide2 (PF.out.trans TKy.out.2), hide2 (NX.out.trans PUSH.out), hide2 RFy.out.2, hide2 RFy.out.1⟩
                                  case measure => simp [intOf]; omega
                    · have hge : ¬ (i : Int) < (n : Int) := by omega
                      have RT := hide2 (show goK M ts g' (k + 1) ks1 = R by
                        have h1 := FO.out
                        have h2 := ST2.out
                        rw [List.take_of_length_le (by rw [TL.out]; omega)] at h1
                        rw [h1] at h2
                        exact h2)
                      have LE := hide2 (show k + 1 ≤ ks1.length from (List.getElem?_eq_some_iff.1 (prefixK_at PF.out HX.out)).1)
                      go_wp2
                      go_roundw
                      case rel => exact ⟨k + 1, g', ks1, by simp, LE.out, hide2 (by have := KG.out; omega), TM, TK, BW, XN, RT⟩
                      case measure =>
                        have := KG.out
                        simp [intOf]
                        omega
                refine tkTwo rfl rfl (fun K hK => ?_) (fun K hK => ?_)
                · go_simp
                  have hb := boxBelow u0 (.cells #[] 33)
                  have RR := OwnSl.empty (R := RefR N) (sz := 1) (w := u0) (B := u0.heap.size) (e := 33) E.out.size
                  obtain ⟨vb, hv⟩ : ∃ v : Value, v = .slice (some ⟨u0.heap.size, 0, none⟩) 0 0 := ⟨_, rfl⟩
                  rw [← hv] at RR ⊢
                  generalize hE : u0.alloc (.cells #[] 33) = u1 at *
                  replace E := hide2 (E.out.trans (hb.mono E.out.size))
                  have R1 := hide2 RR
                  clear hb hv hE RR
                  refine hK.out _ _ ⟨(E.out.cell (p := ⟨b9, _, none⟩) L9.out).trans C9.out, (E.out.cell (p := ⟨b8, _, none⟩) L8.out).trans C8.out⟩ (fun hHeld => ?_)
                  clear hK
                  try simp only [Act.put, List.setIfInBounds_toArray, List.set_cons_zero, List.set_cons_succ]
                  refine tkTwo rfl rfl (fun K hK => ?_) (fun K hK => ?_)
                  · refine step_appAny tyLs (RefR.good N) rfl (.tmp 65) (.tmp 69) rfl rfl rfl R1.out (Sl.keep (RefR.kept N) RFu.out E.out) E.out.size (by omega) (by omega) (refKeep R1.out hNu) E.out (Nat.le_refl _) ?_
                    intro vc u2 own' hg' hb' hat'
                    replace R1 := hide2 own'
                    replace E := hide2 hb'
                    clear own' hg' hb' hat'
                    refine hK.out _ _ ⟨(E.out.cell (p := ⟨b9, _, none⟩) L9.out).trans C9.out, (E.out.cell (p := ⟨b8, _, none⟩) L8.out).trans C8.out⟩ (fun hHeld => ?_)
                    clear hK
                    try simp only [Act.put, List.setIfInBounds_toArray, List.set_cons_zero, List.set_cons_succ]
                    refine tkOne rfl (fun K hK => ?_)
                    go_simp
                    have hb := boxBelow u2 (.cells #[.slice Bm km dm] 33)
                    have SB := Box.new u2 #[.slice Bm km dm] 33
                    obtain ⟨HH, hHH⟩ : ∃ HH, u2.heap.size = HH := ⟨_, rfl⟩
                    have NE := hide2 (show vc.ownBlock ≠ some HH from fun e => by
                     have := (R1.out.lt _ e).2
                     omega)
                    replace R1 := hide2 (R1.out.keep (RefR.kept N) hb)
                    replace E := hide2 (E.out.trans (hb.mono E.out.size))
                    rw [hHH] at SB ⊢
                    generalize hE : u2.alloc (.cells #[.slice Bm km dm] 33) = u3 at *
                    have S1 := hide2 SB
                    clear hb hE SB hHH
                    refine hK.out _ _ ⟨(E.out.cell (p := ⟨b9, _, none⟩) L9.out).trans C9.out, (E.out.cell (p := ⟨b8, _, none⟩) L8.out).trans C8.out⟩ (fun hHeld => ?_)
                    clear hK
                    try simp only [Act.put, List.setIfInBounds_toArray, List.set_cons_zero, List.set_cons_succ]
                    refine tkEnd rfl (fun K hK => ?_)
                    refine step_appAny tyLs (RefR.good N) rfl (.tmp 70) (.tmp 76) rfl rfl rfl R1.out (Row1 S1.out (IMu.out.keep E.out) (FMu.out.same IMu.out E.out.size (fun b hb _ => E.out.block b hb)).1) E.out.size (by omega) (by omega) (refKeep R1.out hNu) E.out (Nat.le_refl _) ?_
                    intro vd u4 own' hg' hb' hat'
                    replace R1 := hide2 own'
                    replace E := hide2 hb'
                    clear own' hg' hb' hat'
                    refine hK.out _ _ ?_
                    clear hK
                    try simp only [Act.put, List.setIfInBounds_toArray, List.set_cons_zero, List.set_cons_succ]
                    exact EN.out _ _ ⟨_, _, _, _, rfl, R1, E⟩ ⟨(E.out.cell (p := ⟨b9, _, none⟩) L9.out).trans C9.out, (E.out.cell (p := ⟨b8, _, none⟩) L8.out).trans C8.out⟩
                  · go_simp
                    have hb := boxBelow u1 (.cells #[.slice Bm km dm] 33)
                    have SB := Box.new u1 #[.slice Bm km dm] 33
                    obtain ⟨HH, hHH⟩ : ∃ HH, u1.heap.size = HH := ⟨_, rfl⟩
                    have NE := hide2 (show vb.ownBlock ≠ some HH from fun e => by
                     have := (R1.out.lt _ e).2
                     omega)
                    replace R1 := hide2 (R1.out.keep (RefR.kept N) hb)
                    replace E := hide2 (E.out.trans (hb.mono E.out.size))
                    rw [hHH] at SB ⊢
                    generalize hE : u1.alloc (.cells #[.slice Bm km dm] 33) = u2 at *
                    have S1 := hide2 SB
                    clear hb hE SB hHH
                    refine hK.out _ _ ⟨(E.out.cell (p := ⟨b9, _, none⟩) L9.out).trans C9.out, (E.out.cell (p := ⟨b8, _, none⟩) L8.out).trans C8.out⟩ (fun hHeld => ?_)
                    clear hK
                    try simp only [Act.put, List.setIfInBounds_toArray, List.set_cons_zero, List.set_cons_succ]
                    refine tkOne rfl (fun K hK => ?_)
                    refine step_appAny tyLs (RefR.good N) rfl (.tmp 65) (.tmp 69) rfl rfl rfl R1.out (Sl.keep (RefR.kept N) RFu.out E.out) E.out.size (by omega) (by omega) (refKeep R1.out hNu) E.out (Nat.le_refl _) ?_
                    intro vc u3 own' hg' hb' hat'
                    have NX := hide2 (show vc.ownBlock ≠ some HH from fun e => by
                     rcases hat' with h1 | h1
                     · exact NE.out (h1.symm.trans e)
                     · rw [e] at h1
                       injection h1 with h1
                       have := S1.out.lt
                       omega)
                    replace S1 := hide2 (S1.out.grown hg' NE.out)
                    replace NE := NX
                    clear NX
                    replace R1 := hide2 own'
                    replace E := hide2 hb'
                    clear own' hg' hb' hat'
                    refine hK.out _ _ ⟨(E.out.cell (p := ⟨b9, _, none⟩) L9.out).trans C9.out, (E.out.cell (p := ⟨b8, _, none⟩) L8.out).trans C8.out⟩ (fun hHeld => ?_)
                    clear hK
                    try simp only [Act.put, List.setIfInBounds_toArray, List.set_cons_zero, List.set_cons_succ]
                    refine tkEnd rfl (fun K hK => ?_)
                    refine step_appAny tyLs (RefR.good N) rfl (.tmp 70) (.tmp 76) rfl rfl rfl R1.out (Row1 S1.out (IMu.out.keep E.out) (FMu.out.same IMu.out E.out.size (fun b hb _ => E.out.block b hb)).1) E.out.size (by omega) (by omega) (refKeep R1.out hNu) E.out (Nat.le_refl _) ?_
                    intro vd u4 own' hg' hb' hat'
                    replace R1 := hide2 own'
                    replace E := hide2 hb'
                    clear own' hg' hb' hat'
                    refine hK.out _ _ ?_
                    clear hK
                    try simp only [Act.put, List.setIfInBounds_toArray, List.set_cons_zero, List.set_cons_succ]
                    exact EN.out _ _ ⟨_, _, _, _, rfl, R1, E⟩ ⟨(E.out.cell (p := ⟨b9, _, none⟩) L9.out).trans C9.out, (E.out.cell (p := ⟨b8, _, none⟩) L8.out).trans C8.out⟩
                · go_simp
                  have hb := boxBelow u0 (.cells #[.slice Bm km dm] 33)
                  have SB := Box.new u0 #[.slice Bm km dm] 33
                  obtain ⟨HH, hHH⟩ : ∃ HH, u0.heap.size = HH := ⟨_, rfl⟩
                  replace E := hide2 (E.out.trans (hb.mono E.out.size))
                  rw [hHH] at SB ⊢
                  generalize hE : u0.alloc (.cells #[.slice Bm km dm] 33) = u1 at *
                  have S1 := hide2 SB
                  clear hb hE SB hHH
                  refine hK.out _ _ ⟨(E.out.cell (p := ⟨b9, _, none⟩) L9.out).trans C9.out, (E.out.cell (p := ⟨b8, _, none⟩) L8.out).trans C8.out⟩ (fun hHeld => ?_)
                  clear hK
                  try simp only [Act.put, List.setIfInBounds_toArray, List.set_cons_zero, List.set_cons_succ]
                  refine tkOne rfl (fun K hK => ?_)
                  go_simp
                  have hb := boxBelow u1 (.cells #[] 33)
                  have RR := OwnSl.empty (R := RefR N) (sz := 1) (w := u1) (B := u0.heap.size) (e := 33) E.out.size
                  obtain ⟨vb, hv⟩ : ∃ v : Value, v = .slice (some ⟨u1.heap.size, 0, none⟩) 0 0 := ⟨_, rfl⟩
                  have NE := hide2 (show vb.ownBlock ≠ some HH from fun e => by
                   rw [hv] at e
                   simp only [Value.ownBlock, Option.some.injEq] at e
                   have := S1.out.lt
                   omega)
                  replace S1 := hide2 (S1.out.keep hb)
                  rw [← hv] at RR ⊢
                  generalize hE : u1.alloc (.cells #[] 33) = u2 at *
                  replace E := hide2 (E.out.trans (hb.mono E.out.size))
                  have R1 := hide2 RR
                  clear hb hv hE RR
                  refine hK.out _ _ ⟨(E.out.cell (p := ⟨b9, _, none⟩) L9.out).trans C9.out, (E.out.cell (p := ⟨b8, _, none⟩) L8.out).trans C8.out⟩ (fun hHeld => ?_)
                  clear hK
                  try simp only [Act.put, List.setIfInBounds_toArray, List.set_cons_zero, List.set_cons_succ]
                  refine tkOne rfl (fun K hK => ?_)
                  refine step_appAny tyLs (RefR.good N) rfl (.tmp 65) (.tmp 69) rfl rfl rfl R1.out (Sl.keep (RefR.kept N) RFu.out E.out) E.out.size (by omega) (by omega) (refKeep R1.out hNu) E.out (Nat.le_refl _) ?_
                  intro vc u3 own' hg' hb' hat'
                  have NX := hide2 (show vc.ownBlock ≠ some HH from fun e => by
                   rcases hat' with h1 | h1
                   · exact NE.out (h1.symm.trans e)
                   · rw [e] at h1
                     injection h1 with h1
                     have := S1.out.lt
                     omega)
                  replace S1 := hide2 (S1.out.grown hg' NE.out)
                  replace NE := NX
                  clear NX
                  replace R1 := hide2 own'
                  replace E := hide2 hb'
                  clear own' hg' hb' hat'
                  refine hK.out _ _ ⟨(E.out.cell (p := ⟨b9, _, none⟩) L9.out).trans C9.out, (E.out.cell (p := ⟨b8, _, none⟩) L8.out).trans C8.out⟩ (fun hHeld => ?_)
                  clear hK
                  try simp only [Act.put, List.setIfInBounds_toArray, List.set_cons_zero, List.set_cons_succ]
                  refine tkEnd rfl (fun K hK => ?_)
                  refine step_appAny tyLs (RefR.good N) rfl (.tmp 70) (.tmp 76) rfl rfl rfl R1.out (Row1 S1.out (IMu.out.keep E.out) (FMu.out.same IMu.out E.out.size (fun b hb _ => E.out.block b hb)).1) E.out.size (by omega) (by omega) (refKeep R1.out hNu) E.out (Nat.le_refl _) ?_
                  intro vd u4 own' hg' hb' hat'
                  replace R1 := hide2 own'
                  replace E := hide2 hb'
                  clear own' hg' hb' hat'
                  refine hK.out _ _ ?_
                  clear hK
                  try simp only [Act.put, List.setIfInBounds_toArray, List.set_cons_zero, List.set_cons_succ]
                  exact EN.out _ _ ⟨_, _, _, _, rfl, R1, E⟩ ⟨(E.out.cell (p := ⟨b9, _, none⟩) L9.out).trans C9.out, (E.out.cell (p := ⟨b8, _, none⟩) L8.out).trans C8.out⟩
        · have hge : ¬ (k : Int) < (L : Int) := by omega
          have DONE := hide2 (show R = some ks by
            rw [← GO.out]
            cases g with
            | zero => rfl
            | succ g => rw [goK, if_neg (by rw [HL.out]; omega)])
          go_wp2
          go_ret2
          refine ⟨Am, cm, ?_, ?_, by rw [HN.out]; exact BW.out⟩
          · rw [RS.out _ DONE.out]
            simp [HL.out]
          · rw [RS.out _ DONE.out]
            have := KN
            simpa [HL.out] using this
  · have FIN := hide2 (treeL_not (N := ⟨P, ts⟩) (m := xs) (most := most) (fun h => hr ⟨h.1, h.2.1⟩))
    by_cases hm1 : most < 1
    · clear hr
      go_enter Try.func15, Try.ntmps15
      go_wp2
      go_ret2
      exact ⟨none, 0, by rw [FIN.out]; rfl, by rw [FIN.out]; exact Sl.nil0, HB.out⟩
    · have hm2 : 300 < most := by omega
      clear hr
      go_enter Try.func15, Try.ntmps15
      go_wp2
      go_ret2
      exact ⟨none, 0, by rw [FIN.out]; rfl, by rw [FIN.out]; exact Sl.nil0, HB.out⟩
end Go.Proofs.Ytcjjmfppkfmheaa
