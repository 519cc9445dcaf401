/- The reference's wled. Conditions: the prints read as lists. -/
import Derived.Test.YtcopnfdknclhnaaGreatMineTellsK43
namespace Go.Proofs.YtcopnfdknclhnaaGreat
open Go.RowKit Go.Maps

theorem scrEndM {P : Program} {ops : Array Oper} {Q : Exit → Act → World → Prop} {S : World → Prop} {T : Scr} (Tend : Scr) {a0 : Act} {w0 : World} (F : Act → Act → World → Prop) (hF : ∀ a' w', F a0 a' w' → S w' → wpScr P ops Q S Tend a' w')
    (h : Hid (∀ a' w', F a0 a' w' → S w' → wpScr P ops Q S Tend a' w') → wpScr P ops Q S T a0 w0) : wpScr P ops Q S T a0 w0 := h hF
/-- What has been led to, and what is still to be looked at. -/
structure LedM (wB w : World) (vo vt : Value) (nO nT : Nat) (out todo : List Int) : Prop where
  d : Below wB.heap.size wB w
  o : OwnInts w wB.heap.size vo nO out
  t : OwnQ w wB.heap.size vt nT todo
  ne : vo.ownBlock = none ∨ vo.ownBlock ≠ vt.ownBlock
theorem LedM.keep {wB w w' : World} {vo vt : Value} {nO nT : Nat} {out todo : List Int} (h : LedM wB w vo vt nO nT out todo) (hb : Below w.heap.size w w') : LedM wB w' vo vt nO nT out todo :=
  ⟨h.d.trans (hb.mono h.d.size), h.o.keep IntR.kept hb, h.t.keep hb, h.ne⟩
theorem LedM.appO {wB w w' : World} {vo vt v' : Value} {nO nT : Nat} {out todo : List Int} {y : Int} (h : LedM wB w vo vt nO nT out todo) (o : OwnInts w' wB.heap.size v' (nO + 1) (out ++ [y])) (hg : w.grownBy w' vo.ownBlock) (hv : v'.ownBlock = vo.ownBlock ∨ v'.ownBlock = some w.heap.size) : LedM wB w' v' vt (nO + 1) nT (out ++ [y]) todo := by
  have hne : vt.ownBlock ≠ vo.ownBlock := by
    obtain ⟨g, off, cap, cur, e, _⟩ := h.t
    rcases h.ne with e1 | e1
    · rw [e1, e]; exact fun e => nomatch e
    · exact fun e2 => e1 e2.symm
  refine ⟨h.d.grown hg h.d.size (fun k hk => (h.o.lt k hk).1), o, h.t.kept hg hne, .inr ?_⟩
  rcases hv with e | e
  · rw [e]; exact fun e2 => hne e2.symm
  · rw [e]; intro e2; have := (h.t.lt _ e2.symm).2; omega
theorem LedM.appT {wB w w' : World} {vo vt v' : Value} {nO nT : Nat} {out todo : List Int} {y : Int} (h : LedM wB w vo vt nO nT out todo) (o : OwnQ w' wB.heap.size v' (nT + 1) (todo ++ [y])) (hg : w.grownBy w' vt.ownBlock) (hv : v'.ownBlock = vt.ownBlock ∨ v'.ownBlock = some w.heap.size) : LedM wB w' vo v' nO (nT + 1) out (todo ++ [y]) := by
  refine ⟨h.d.grown hg h.d.size (fun k hk => (h.t.lt k hk).1), h.o.kept hg h.ne (fun _ _ x => x), o, ?_⟩
  cases e1 : vo.ownBlock with
  | none => exact .inl rfl
  | some k =>
    refine .inr ?_
    rcases hv with e | e
    · rw [e, ← e1]
      exact h.ne.resolve_left (by rw [e1]; exact fun e => nomatch e)
    · rw [e]; intro e2; injection e2 with e2; have := (h.o.lt k e1).2; omega
theorem OwnQ.notBox {w : World} {B n b ty : Nat} {v : Value} {xs : List Int} {cs : Array Value} (h : OwnQ w B v n xs) (x : Box w b ty cs) (hne : 3 ≠ ty) : v.ownBlock ≠ some b := fun e => by
  obtain ⟨g, off, cap, cur, rfl, _, h2, _⟩ := h
  injection e with e
  change g = b at e
  subst e
  have := h2.symm.trans x
  injection this with this
  injection this with _ this _
  exact hne this
def AnsLed (p : PPrints) (a : Int) (w : World) (e : Ending) (w' : World) : Prop :=
  ∃ A n c out, e = .returned (.slice A n c) ∧ Ints w' A n c out ∧ (∀ y, y ∈ out ↔ Via (fun a b => (a, b) ∈ p.behind) p.labels a y) ∧ Below w.heap.size w w'
theorem led_count {ls out : List Int} (hn : out.Nodup) (h : ∀ y ∈ out, y ∈ ls) : out.length ≤ ls.length := nodup_lenM out ls hn h
theorem Via.right {R : Int → Int → Prop} {K : List Int} {a b : Int} (hR : ∀ u v, R u v → v ∈ K) (h : Via R K a b) : b ∈ K := by
  induction h with
  | one hr => exact hR _ _ hr
  | step _ _ hr _ => exact hR _ _ hr

set_option maxRecDepth 100000 in
set_option maxHeartbeats 8000000 in
theorem wled_calls {w : World} {A1 A2 A3 A4 : Option Addr} {n1 c1 n2 c2 n3 c3 n4 c4 : Nat} {p : PPrints} (a : Int) (h : PrI w A1 A2 A3 A4 n1 c1 n2 c2 n3 c3 n4 c4 p) (hR : ∀ u v, (u, v) ∈ p.behind → u ∈ p.labels ∧ v ∈ p.labels) (hl : p.labels.length ≤ 26) :
    Calls Tryz.prog 40 #[.agg #[.slice A1 n1 c1, .slice A2 n2 c2, .slice A3 n3 c3, .slice A4 n4 c4], .int .i64 a] w (AnsLed p a w) := by
  have H := hide2 h
  have RR := hide2 hR
  have NL := hide2 hl
  have NB := h.i4.small
  have B0 := hide2 (boxBelow w (.cells #[.slice A1 n1 c1, .slice A2 n2 c2, .slice A3 n3 c3, .slice A4 n4 c4] 45))
  have X0 := hide2 (Box.new w #[.slice A1 n1 c1, .slice A2 n2 c2, .slice A3 n3 c3, .slice A4 n4 c4] 45)
  clear h hR hl
  go_enter Tryz.func40, Tryz.ntmps40
  go_upto_region 2 with fail
  generalize w.alloc (.cells #[.slice A1 n1 c1, .slice A2 n2 c2, .slice A3 n3 c3, .slice A4 n4 c4] 45) = wB at *
  have L0 := hide2 (show LedM wB (wB.alloc (.cells #[.int .i64 a] 3)) (.slice none 0 0) (.slice (some ⟨wB.heap.size, 0, none⟩) 1 1) 0 1 [] [a] from ⟨boxBelow wB _, OwnSl.nil, ⟨wB.heap.size, 0, 1, _, rfl, Nat.le_refl _, Box.new wB #[.int .i64 a] 3, Nat.le_refl _, by simp [maxLen], by simp, rfl, by simp⟩, .inl rfl⟩)
  go_wp2
  generalize wB.alloc (.cells #[.int .i64 a] 3) = w2 at *
  go_loopg [5, 6] (p.labels.length + 1) (fun gk s5 s6 wr => ∃ vo vt nO nT dn out todo, vo = s5 ∧ vt = s6 ∧ Hid (nT + dn = 1 + nO ∧ dn + gk = p.labels.length + 1) ∧ Hid (BfI (fun a b => (a, b) ∈ p.behind) p.labels a out todo) ∧ Hid (LedM wB wr vo vt nO nT out todo))
  case atStart => exact ⟨_, _, 0, 1, 0, [], [a], rfl, rfl, hide2 (by omega), hide2 BfI.start, L0⟩
  case round =>
    clear L0
    obtain ⟨vo, vt, nO, nT, dn, out, todo, rfl, rfl, HK, BF, LM⟩ := hrel
    have hcnt := led_count BF.out.nd (fun y hy => Via.right (fun u v h => (RR.out u v h).2) (BF.out.snd y hy))
    have hlen := LM.out.o.len
    obtain ⟨g, off, cap, cur, rfl, hgB, hgh, hnc, hcm, hcs, htl, htk⟩ := LM.out.t
    cases todo with
    | nil =>
      obtain rfl : nT = 0 := by simpa using htl.symm
      obtain ⟨AO, cO, rfl, io⟩ := LM.out.o.sl (by have := NL.out; omega)
      have FIN := hide2 (show AnsLed p a w (.returned (.slice AO nO cO)) wr from ⟨AO, nO, cO, out, rfl, io, BF.out.fin, B0.out.trans (LM.out.d.mono B0.out.size)⟩)
      clear hgB hgh hnc hcm hcs htl htk io hcnt hlen
      go_wp2
      go_ret
      exact FIN.out
    | cons x rest =>
      obtain ⟨n, rfl⟩ : ∃ n, nT = n + 1 := ⟨rest.length, by rw [← htl]; rfl⟩
      have HX := hide2 (show nO ≤ 26 ∧ n ≤ 60 ∧ 1 ≤ cap ∧ gk ≠ 0 by have := HK.out; have := NL.out; omega)
      have x3 : wr.cell? ⟨w.heap.size, 3, none⟩ = some (.slice A4 n4 c4) := ((X0.out.keep LM.out.d)).cell 3
      clear hgB hgh hnc hcm hcs htl htk hcnt hlen
      obtain ⟨go, hgo⟩ : ∃ z : Nat, z = gk := ⟨_, rfl⟩
      subst hgo
      have BX := hide2 (BF.out.open_)
      go_wp2
      clear x3
      go_loopg [5, 6, 17] n4 (fun gk s5 s6 s17 wr => ∃ vo k nO nT cap g off out rest, vo = s5 ∧ s6 = .slice (some ⟨g, off, none⟩) (nT + 1) cap ∧ s17 = .int .i64 (k : Nat) ∧ Hid (k + gk = n4 ∧ nT + 1 + dn = 1 + nO) ∧ Hid (BxI (fun a b => (a, b) ∈ p.behind) p.labels a x (p.behind.take k) out rest) ∧ Hid (LedM wB wr vo (.slice (some ⟨g, off, none⟩) (nT + 1) cap) nO (nT + 1) out (x :: rest)))
      case atStart => exact ⟨vo, 0, nO, n, cap, g, off, out, rest, rfl, rfl, rfl, hide2 (by have := HK.out; omega), by simpa using BX, LM⟩
      case round =>
        clear BX LM
        obtain ⟨vo, k, nO, nT, cap, g, off, out, rest, rfl, rfl, rfl, HI, BX, LM⟩ := hrel
        by_cases hlt : k < n4
        · have hki : (k : Int) < (n4 : Int) := by omega
          obtain ⟨b, offb, t, vs, rfl, hb, ht, hc, e0, e1⟩ := Sl.get (Sl.keep PairR.kept H.out.i4 (B0.out.trans (LM.out.d.mono B0.out.size))) hlt
          have q0 : wr.cell? ⟨b, offb + k * 2, none⟩ = some (.int .i64 t.1) := by have := hc 0 (by omega); rw [e0] at this; simpa using this
          have q1 : wr.cell? ⟨b, offb + k * 2 + 1, none⟩ = some (.int .i64 t.2) := by have := hc 1 (by omega); rw [e1] at this; simpa [Nat.add_assoc] using this
          have HT := hide2 (show p.behind[k]? = some t from ht)
          have TK := hide2 (show p.behind.take (k + 1) = p.behind.take k ++ [t] by rw [List.take_add_one, HT.out]; rfl)
          have hcnt := led_count BX.out.nd (fun y hy => Via.right (fun u v h => (RR.out u v h).2) (BX.out.snd y hy))
          have HJ := hide2 (show gk - 1 < gk ∧ (k + 1) + (gk - 1) = n4 ∧ nO ≤ 26 ∧ nT ≤ 60 by have := HI.out; have := NL.out; have := LM.out.o.len; omega)
          have hk1 : (k : Int) + 1 ≤ 281474976710656 := by omega
          have BB := hide2 (boxBelow wr (.cells #[.int .i64 t.1, .int .i64 t.2] 57))
          have TB := hide2 (Box.new wr #[.int .i64 t.1, .int .i64 t.2] 57)
          have LB := hide2 (LM.out.keep BB.out)
          clear hb ht hc e0 e1 hcnt LM
          go_upto_region 7 with fail
          clear q0 q1
          generalize wr.alloc (.cells #[.int .i64 t.1, .int .i64 t.2] 57) = w3 at *
          generalize wr.heap.size = bz at *
          have z0 := TB.out.cell 0
          have z1 := TB.out.cell 1
          have y0 := LB.out.t.cell (i := 0) (x := x) rfl
          rw [Nat.add_zero] at y0
          have DD := hide2 ((Below.refl w3.heap.size w3).drew)
          have LD := hide2 (LB.out.keep DD.out)
          have TD := hide2 (TB.out.keep DD.out)
          have hnT : 0 < nT + 1 := by omega
          obtain ⟨AO, cO, rfl, io⟩ := LB.out.o.sl (by have := HJ.out; omega)
          by_cases hx : t.1 = x
          · have hxe : (t.1 == x) = true := by simp [hx]
            have CC := hide2 (containsInt_calls t.2 (Ints.keep io DD.out))
            obtain ⟨z, hz⟩ : ∃ z, (out.any fun y => t.2 == y) = z := ⟨_, rfl⟩
            have HZ := hide2 hz
            rw [hz] at CC
            have HX2 := hide2 hx
            clear hx hz io
            cases z
            · refine wp_region_scr 12 (.takes [0, 1, 2, 3, 4, 5, 6, 7, 8, 9] (.one 10 (.take 11 (.fin 12 .done)))) (fun w' => w'.cell? ⟨bz, 0, none⟩ = some (.int .i64 t.1) ∧ w'.cell? ⟨bz, 1, none⟩ = some (.int .i64 t.2) ∧ w'.cell? ⟨g, off, none⟩ = some (.int .i64 x)) (by kernel_rfl) (by kernel_rfl) (by kernel_rfl) (fun _ _ _ _ _ h => h) ⟨z0, z1, y0⟩ (fun hHeld => ?_)
              simp only [Scr.takes]
              clear z0 z1 y0
              generalize w3.drew = w4 at *
              iterate 5
                refine tkTake (v := ?_) rfl (by rfl) hHeld (fun w' hSw => ?_) ?_
                rotate_left
                · (go_simp; try with_reducible rfl)
                try simp only [Act.put, List.setIfInBounds_toArray, List.set_cons_zero, List.set_cons_succ]
              refine tkTake (v := .bool true) rfl (by rfl) hHeld (fun w' hSw => ?_) ?_
              · (go_simp; try with_reducible rfl)
              try simp only [Act.put, List.setIfInBounds_toArray, List.set_cons_zero, List.set_cons_succ]
              refine tkTake (v := .bool true) rfl (by rfl) hHeld (fun w' hSw => ?_) ?_
              · (go_simp; try with_reducible rfl)
              try simp only [Act.put, List.setIfInBounds_toArray, List.set_cons_zero, List.set_cons_succ]
              iterate 3
                refine tkTake (v := ?_) rfl (by rfl) hHeld (fun w' hSw => ?_) ?_
                rotate_left
                · (go_simp; try with_reducible rfl)
                try simp only [Act.put, List.setIfInBounds_toArray, List.set_cons_zero, List.set_cons_succ]
              refine tkOne rfl (fun Kf hKf => ?_)
              go_simp
              refine CC.out.mono ?_
              rintro e w' ⟨rfl, rfl⟩
              refine hKf.out _ _ hHeld (fun hHeld => ?_)
              clear hKf
              try simp only [Act.put, List.setIfInBounds_toArray, List.set_cons_zero, List.set_cons_succ]
              refine tkTake (v := .bool true) rfl (by rfl) hHeld (fun w' hSw => ?_) ?_
              · (go_simp; try with_reducible rfl)
              try simp only [Act.put, List.setIfInBounds_toArray, List.set_cons_zero, List.set_cons_succ]
              refine tkEnd rfl (fun Kf hKf => ?_)
              go_simp
              refine hKf.out _ _ ?_
              clear hKf
              try simp only [Act.put, List.setIfInBounds_toArray, List.set_cons_zero, List.set_cons_succ]
              refine tkDone ?_
              clear hHeld
              go_upto_region 8 with fail
              have z1 := TD.out.cell 1
              have TD2 := hide2 (TD.out.keep (Below.refl w4.heap.size w4).drew)
              have LD2 := hide2 (LD.out.keep (Below.refl w4.heap.size w4).drew)
              have BN := hide2 (show BxI (fun a b => (a, b) ∈ p.behind) p.labels a x (p.behind.take (k + 1)) (out ++ [t.2]) (rest ++ [t.2]) from by
                rw [TK.out]
                exact BX.out.take HX2.out (fun hm => by have := List.any_eq_false.1 HZ.out _ hm; simp at this) (List.mem_of_getElem? HT.out) (fun u v h => RR.out u v h))
              refine wp_region_scr 11 (.takes [0, 1, 2, 5, 6, 7] (.two 3 (.two 4 (.one 8 (.one 9 (.take 10 (.fin 11 .done)))) 8 (.one 4 (.one 9 (.take 10 (.fin 11 .done))))) 8 (.one 3 (.one 4 (.one 9 (.take 10 (.fin 11 .done))))))) (fun w' => w'.cell? ⟨bz, 1, none⟩ = some (.int .i64 t.2)) (by kernel_rfl) (by kernel_rfl) (by kernel_rfl) (fun _ _ _ _ _ h => h) z1 (fun hHeld => ?_)
              simp only [Scr.takes]
              clear z1
              generalize w4.drew = u0 at *
              iterate 6
                refine tkTake (v := ?_) rfl (by rfl) hHeld (fun w' hSw => ?_) ?_
                rotate_left
                · (go_simp; try with_reducible rfl)
                try simp only [Act.put, List.setIfInBounds_toArray, List.set_cons_zero, List.set_cons_succ]
              refine scrEndM (.one 9 (.take 10 (.fin 11 .done))) (fun a0 a' w' => ∃ (H1 H2 : Nat) (v' : Value), a' = (((a0.put (some 37) (.slice (some ⟨H1, 0, none⟩) 1 1)).put (some 38) v').put (some 42) (.slice (some ⟨H2, 0, none⟩) 1 1)) ∧ Hid (LedM wB w' v' (.slice (some ⟨g, off, none⟩) (nT + 1) cap) (nO + 1) (nT + 1) (out ++ [t.2]) (x :: rest)) ∧ Hid (Box w' H2 3 #[.int .i64 t.2]) ∧ Hid (Box w' bz 57 #[.int .i64 t.1, .int .i64 t.2])) ?_ (fun EN => ?_)
              rotate_left
              · refine tkTwo rfl rfl (fun Kf hKf => ?_) (fun Kf hKf => ?_)
                · go_simp
                  have BB1 := hide2 (boxBelow u0 (.cells #[.int .i64 t.2] 3))
                  have N1 := hide2 (Box.new u0 #[.int .i64 t.2] 3)
                  have LS1 := hide2 (show u0.heap.size < (u0.alloc (.cells #[.int .i64 t.2] 3)).heap.size by simp)
                  have T1 := hide2 (TD2.out.keep BB1.out)
                  have L1 := hide2 (LD2.out.keep BB1.out)
                  refine hKf.out _ _ (T1.out.cell 1) (fun hHeld => ?_)
                  clear hKf
                  try simp only [Act.put, List.setIfInBounds_toArray, List.set_cons_zero, List.set_cons_succ]
                  generalize u0.alloc (.cells #[.int .i64 t.2] 3) = u1 at *
                  refine tkTwo rfl rfl (fun Kf hKf => ?_) (fun Kf hKf => ?_)
                  · refine step_appAny tyInts IntR.good rfl (.tmp 34) (.tmp 37) rfl rfl rfl L1.out.o (Ints.box (xs := [t.2]) N1.out rfl rfl (by omega)) L1.out.d.size (by have := HJ.out; omega) (by have := HJ.out; omega) (fun _ _ _ _ h => h) (Below.refl wB.heap.size u1) (Nat.le_refl _) ?_
                    intro v8 u2 o8 g8 b8 l8
                    have L1x := hide2 (L1.out.appO o8 g8 l8)
                    have T1x := hide2 (T1.out.grown g8 (OwnSl.notBox L1.out.o T1.out (by decide)))
                    clear o8 g8 b8 l8
                    refine hKf.out _ _ (T1x.out.cell 1) (fun hHeld => ?_)
                    clear hKf
                    try simp only [Act.put, List.setIfInBounds_toArray, List.set_cons_zero, List.set_cons_succ]
                    refine tkOne rfl (fun Kf hKf => ?_)
                    go_simp
                    have BB3 := hide2 (boxBelow u2 (.cells #[.int .i64 t.2] 3))
                    have N3 := hide2 (Box.new u2 #[.int .i64 t.2] 3)
                    have LS3 := hide2 (show u2.heap.size < (u2.alloc (.cells #[.int .i64 t.2] 3)).heap.size by simp)
                    have L3 := hide2 (L1x.out.keep BB3.out)
                    refine hKf.out _ _ ((T1x.out.keep BB3.out).cell 1) (fun hHeld => ?_)
                    clear hKf
                    try simp only [Act.put, List.setIfInBounds_toArray, List.set_cons_zero, List.set_cons_succ]
                    exact EN.out _ _ ⟨_, _, v8, rfl, L3, N3, hide2 (T1x.out.keep BB3.out)⟩ hHeld
                  · go_simp
                    have BB2 := hide2 (boxBelow u1 (.cells #[.int .i64 t.2] 3))
                    have N2 := hide2 (Box.new u1 #[.int .i64 t.2] 3)
                    have LS2 := hide2 (show u1.heap.size < (u1.alloc (.cells #[.int .i64 t.2] 3)).heap.size by simp)
                    have T2 := hide2 (T1.out.keep BB2.out)
                    have L2 := hide2 (L1.out.keep BB2.out)
                    have N1b := hide2 (N1.out.keep BB2.out)
                    refine hKf.out _ _ (T2.out.cell 1) (fun hHeld => ?_)
                    clear hKf
                    try simp only [Act.put, List.setIfInBounds_toArray, List.set_cons_zero, List.set_cons_succ]
                    generalize u1.alloc (.cells #[.int .i64 t.2] 3) = u2 at *
                    refine tkOne rfl (fun Kf hKf => ?_)
                    refine step_appAny tyInts IntR.good rfl (.tmp 34) (.tmp 37) rfl rfl rfl L2.out.o (Ints.box (xs := [t.2]) N1b.out rfl rfl (by omega)) L2.out.d.size (by have := HJ.out; omega) (by have := HJ.out; omega) (fun _ _ _ _ h => h) (Below.refl wB.heap.size u2) (Nat.le_refl _) ?_
                    intro v8 u3 o8 g8 b8 l8
                    have L2x := hide2 (L2.out.appO o8 g8 l8)
                    have T2x := hide2 (T2.out.grown g8 (OwnSl.notBox L2.out.o T2.out (by decide)))
                    have N3 := hide2 (N2.out.grown g8 (fun e => by have h1 := (L1.out.o.lt _ e).2; omega))
                    clear o8 g8 b8 l8
                    refine hKf.out _ _ (T2x.out.cell 1) (fun hHeld => ?_)
                    clear hKf
                    try simp only [Act.put, List.setIfInBounds_toArray, List.set_cons_zero, List.set_cons_succ]
                    exact EN.out _ _ ⟨_, _, v8, rfl, L2x, N3, T2x⟩ hHeld
                · go_simp
                  have BB1 := hide2 (boxBelow u0 (.cells #[.int .i64 t.2] 3))
                  have N1 := hide2 (Box.new u0 #[.int .i64 t.2] 3)
                  have LS1 := hide2 (show u0.heap.size < (u0.alloc (.cells #[.int .i64 t.2] 3)).heap.size by simp)
                  have T1 := hide2 (TD2.out.keep BB1.out)
                  have L1 := hide2 (LD2.out.keep BB1.out)
                  refine hKf.out _ _ (T1.out.cell 1) (fun hHeld => ?_)
                  clear hKf
                  try simp only [Act.put, List.setIfInBounds_toArray, List.set_cons_zero, List.set_cons_succ]
                  generalize u0.alloc (.cells #[.int .i64 t.2] 3) = u1 at *
                  refine tkOne rfl (fun Kf hKf => ?_)
                  go_simp
                  have BB2 := hide2 (boxBelow u1 (.cells #[.int .i64 t.2] 3))
                  have N2 := hide2 (Box.new u1 #[.int .i64 t.2] 3)
                  have LS2 := hide2 (show u1.heap.size < (u1.alloc (.cells #[.int .i64 t.2] 3)).heap.size by simp)
                  have T2 := hide2 (T1.out.keep BB2.out)
                  have L2 := hide2 (L1.out.keep BB2.out)
                  have N1b := hide2 (N1.out.keep BB2.out)
                  refine hKf.out _ _ (T2.out.cell 1) (fun hHeld => ?_)
                  clear hKf
                  try simp only [Act.put, List.setIfInBounds_toArray, List.set_cons_zero, List.set_cons_succ]
                  generalize u1.alloc (.cells #[.int .i64 t.2] 3) = u2 at *
                  refine tkOne rfl (fun Kf hKf => ?_)
                  refine step_appAny tyInts IntR.good rfl (.tmp 34) (.tmp 37) rfl rfl rfl L2.out.o (Ints.box (xs := [t.2]) N2.out rfl rfl (by omega)) L2.out.d.size (by have := HJ.out; omega) (by have := HJ.out; omega) (fun _ _ _ _ h => h) (Below.refl wB.heap.size u2) (Nat.le_refl _) ?_
                  intro v8 u3 o8 g8 b8 l8
                  have L2x := hide2 (L2.out.appO o8 g8 l8)
                  have T2x := hide2 (T2.out.grown g8 (OwnSl.notBox L2.out.o T2.out (by decide)))
                  have N3 := hide2 (N1b.out.grown g8 (fun e => by have h1 := (LD2.out.o.lt _ e).2; omega))
                  clear o8 g8 b8 l8
                  refine hKf.out _ _ (T2x.out.cell 1) (fun hHeld => ?_)
                  clear hKf
                  try simp only [Act.put, List.setIfInBounds_toArray, List.set_cons_zero, List.set_cons_succ]
                  exact EN.out _ _ ⟨_, _, v8, rfl, L2x, N3, T2x⟩ hHeld
              intro a' w' hF hHeld
              obtain ⟨H1, H2, v', rfl, LN, NN2, TN⟩ := hF
              try simp only [Act.put, List.setIfInBounds_toArray, List.set_cons_zero, List.set_cons_succ]
              refine tkOne rfl (fun Kf hKf => ?_)
              refine step_appQ rfl (.tmp 39) (.tmp 42) rfl rfl rfl LN.out.t (NN2.out.cell 0) LN.out.d.size (by have := HJ.out; omega) ?_
              intro v9 w9 o9 g9 l9
              have LF := hide2 (LN.out.appT o9 g9 l9)
              have TF := hide2 (TN.out.grown g9 (LN.out.t.notBox TN.out (by decide)))
              obtain ⟨g2, off2, cap2, _, rfl, _⟩ := o9
              clear g9 l9
              refine hKf.out _ _ (TF.out.cell 1) (fun hHeld => ?_)
              clear hKf
              try simp only [Act.put, List.setIfInBounds_toArray, List.set_cons_zero, List.set_cons_succ]
              refine tkTake (v := ?_) rfl (by rfl) hHeld (fun w' hSw => ?_) ?_
              rotate_left
              · (go_simp; try with_reducible rfl)
              try simp only [Act.put, List.setIfInBounds_toArray, List.set_cons_zero, List.set_cons_succ]
              refine tkEnd rfl (fun Kf hKf => ?_)
              go_simp
              refine hKf.out _ _ ?_
              clear hKf
              try simp only [Act.put, List.setIfInBounds_toArray, List.set_cons_zero, List.set_cons_succ]
              refine tkDone ?_
              clear hHeld
              go_wp2
              go_roundg (gk - 1)
              case measure => exact HJ.out.1
              case rel => exact ⟨v', k + 1, nO + 1, nT + 1, cap2, g2, off2, out ++ [t.2], rest ++ [t.2], rfl, rfl, by go_num, hide2 ⟨HJ.out.2.1, by have := HI.out.2; omega⟩, BN, LF⟩
            · refine wp_region_scr 12 (.takes [0, 1, 2, 3, 4, 5, 6, 7, 8, 9] (.one 10 (.take 11 (.fin 12 .done)))) (fun w' => w'.cell? ⟨bz, 0, none⟩ = some (.int .i64 t.1) ∧ w'.cell? ⟨bz, 1, none⟩ = some (.int .i64 t.2) ∧ w'.cell? ⟨g, off, none⟩ = some (.int .i64 x)) (by kernel_rfl) (by kernel_rfl) (by kernel_rfl) (fun _ _ _ _ _ h => h) ⟨z0, z1, y0⟩ (fun hHeld => ?_)
              simp only [Scr.takes]
              clear z0 z1 y0
              generalize w3.drew = w4 at *
              iterate 5
                refine tkTake (v := ?_) rfl (by rfl) hHeld (fun w' hSw => ?_) ?_
                rotate_left
                · (go_simp; try with_reducible rfl)
                try simp only [Act.put, List.setIfInBounds_toArray, List.set_cons_zero, List.set_cons_succ]
              refine tkTake (v := .bool true) rfl (by rfl) hHeld (fun w' hSw => ?_) ?_
              · (go_simp; try with_reducible rfl)
              try simp only [Act.put, List.setIfInBounds_toArray, List.set_cons_zero, List.set_cons_succ]
              refine tkTake (v := .bool true) rfl (by rfl) hHeld (fun w' hSw => ?_) ?_
              · (go_simp; try with_reducible rfl)
              try simp only [Act.put, List.setIfInBounds_toArray, List.set_cons_zero, List.set_cons_succ]
              iterate 3
                refine tkTake (v := ?_) rfl (by rfl) hHeld (fun w' hSw => ?_) ?_
                rotate_left
                · (go_simp; try with_reducible rfl)
                try simp only [Act.put, List.setIfInBounds_toArray, List.set_cons_zero, List.set_cons_succ]
              refine tkOne rfl (fun Kf hKf => ?_)
              go_simp
              refine CC.out.mono ?_
              rintro e w' ⟨rfl, rfl⟩
              refine hKf.out _ _ hHeld (fun hHeld => ?_)
              clear hKf
              try simp only [Act.put, List.setIfInBounds_toArray, List.set_cons_zero, List.set_cons_succ]
              refine tkTake (v := .bool false) rfl (by rfl) hHeld (fun w' hSw => ?_) ?_
              · (go_simp; try with_reducible rfl)
              try simp only [Act.put, List.setIfInBounds_toArray, List.set_cons_zero, List.set_cons_succ]
              refine tkEnd rfl (fun Kf hKf => ?_)
              go_simp
              refine hKf.out _ _ ?_
              clear hKf
              try simp only [Act.put, List.setIfInBounds_toArray, List.set_cons_zero, List.set_cons_succ]
              refine tkDone ?_
              clear hHeld
              have BN := hide2 (show BxI (fun a b => (a, b) ∈ p.behind) p.labels a x (p.behind.take (k + 1)) out rest from by rw [TK.out]; exact BX.out.skip (.inr (by obtain ⟨q, hq, e⟩ := List.any_eq_true.1 HZ.out; rw [beq_iff_eq] at e; rw [e]; exact hq)))
              go_wp2
              go_roundg (gk - 1)
              case measure => exact HJ.out.1
              case rel => exact ⟨_, k + 1, nO, nT, cap, g, off, out, rest, rfl, rfl, by go_num, hide2 ⟨HJ.out.2.1, HI.out.2⟩, BN, LD⟩
          · have hxe : (t.1 == x) = false := by simp [hx]
            have BN := hide2 (show BxI (fun a b => (a, b) ∈ p.behind) p.labels a x (p.behind.take (k + 1)) out rest from by rw [TK.out]; exact BX.out.skip (.inl hx))
            clear hx io
            refine wp_region_scr 12 (.takes [0, 1, 2, 3, 4, 5, 6, 7, 8, 9, 10, 11] (.fin 12 .done)) (fun w' => w'.cell? ⟨bz, 0, none⟩ = some (.int .i64 t.1) ∧ w'.cell? ⟨bz, 1, none⟩ = some (.int .i64 t.2) ∧ w'.cell? ⟨g, off, none⟩ = some (.int .i64 x)) (by kernel_rfl) (by kernel_rfl) (by kernel_rfl) (fun _ _ _ _ _ h => h) ⟨z0, z1, y0⟩ (fun hHeld => ?_)
            simp only [Scr.takes]
            clear z0 z1 y0
            generalize w3.drew = w4 at *
            iterate 5
              refine tkTake (v := ?_) rfl (by rfl) hHeld (fun w' hSw => ?_) ?_
              rotate_left
              · (go_simp; try with_reducible rfl)
              try simp only [Act.put, List.setIfInBounds_toArray, List.set_cons_zero, List.set_cons_succ]
            refine tkTake (v := .bool false) rfl (by rfl) hHeld (fun w' hSw => ?_) ?_
            · (go_simp; try with_reducible rfl)
            try simp only [Act.put, List.setIfInBounds_toArray, List.set_cons_zero, List.set_cons_succ]
            refine tkTake (v := .bool false) rfl (by rfl) hHeld (fun w' hSw => ?_) ?_
            · (go_simp; try with_reducible rfl)
            try simp only [Act.put, List.setIfInBounds_toArray, List.set_cons_zero, List.set_cons_succ]
            iterate 5
              refine tkPassI rfl (by rfl) hHeld ?_
              try simp only [Act.put, List.setIfInBounds_toArray, List.set_cons_zero, List.set_cons_succ]
            refine tkEnd rfl (fun Kf hKf => ?_)
            go_simp
            refine hKf.out _ _ ?_
            clear hKf
            try simp only [Act.put, List.setIfInBounds_toArray, List.set_cons_zero, List.set_cons_succ]
            refine tkDone ?_
            clear hHeld
            go_wp2
            go_roundg (gk - 1)
            case measure => exact HJ.out.1
            case rel => exact ⟨_, k + 1, nO, nT, cap, g, off, out, rest, rfl, rfl, by go_num, hide2 ⟨HJ.out.2.1, HI.out.2⟩, BN, LD⟩
        · have hki : ¬ (k : Int) < (n4 : Int) := by omega
          have hB := BX.out
          rw [List.take_of_length_le (by rw [H.out.i4.len]; omega)] at hB
          have BC := hide2 (show BfI (fun a b => (a, b) ∈ p.behind) p.labels a out rest from hB.close (fun u v h => h))
          clear hB
          have hcnt := led_count BX.out.nd (fun y hy => Via.right (fun u v h => (RR.out u v h).2) (BX.out.snd y hy))
          have hol := LM.out.o.len
          have HJ := hide2 (show go - 1 < go ∧ nT + (dn + 1) = 1 + nO ∧ (dn + 1) + (go - 1) = p.labels.length + 1 by have := HK.out; have := HI.out; have := HX.out; omega)
          have TL := hide2 (LM.out.t.tail)
          have hcap1 : 1 ≤ cap := by obtain ⟨g', o', c', cu, e, _, _, h4, _⟩ := LM.out.t; injection e with _ _ e3; omega
          have LT := hide2 (show LedM wB wr vo (.slice (if cap = 1 then some ⟨g, off, none⟩ else some ⟨g, off + 1, none⟩) nT (cap - 1)) nO nT out rest from ⟨LM.out.d, LM.out.o, TL.out, by
            rcases LM.out.ne with e | e
            · exact .inl e
            · refine .inr ?_
              by_cases hc : cap = 1
              · rw [if_pos hc]; exact e
              · rw [if_neg hc]; exact e⟩)
          clear hlt hcnt hol
          by_cases hc : cap = 1
          · subst hc
            clear hcap1
            go_wp2
            go_roundg (go - 1)
            case measure => exact HJ.out.1
            case rel => exact ⟨vo, _, nO, nT, dn + 1, out, rest, rfl, rfl, hide2 HJ.out.2, BC, by simpa using LT⟩
          · have hcI : (1 : Int) ≤ (cap : Int) := by omega
            rw [if_neg hc] at LT
            go_wp2
            go_roundg (go - 1)
            case measure => exact HJ.out.1
            case rel => exact ⟨vo, _, nO, nT, dn + 1, out, rest, rfl, rfl, hide2 HJ.out.2, BC, LT⟩
end Go.Proofs.YtcopnfdknclhnaaGreat
