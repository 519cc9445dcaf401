/- The reference's wgroups. Conditions: the labels are 1 to 26, in order; the function that links two labels tells so in each later world. -/
import Derived.Test.YtcopnfdknclhnaaGreatMineTellsK40
namespace Go.Proofs.YtcopnfdknclhnaaGreat
open Go.RowKit Go.Maps

/-- What the map holds: the head of each label. -/
def hdM (ls : List Int) (h : Int → Int) (z : Int) : Int := if z ∈ ls then h z else 0
/-- What stands after so many a, b of a round. -/
def hdA (lk : Int → Int → Bool) (ls : List Int) (h : Int → Int) (j : Nat) : Int → Int := ((ls.take j).flatMap fun a => ls.map fun b => (a, b)).foldl (hdF lk) h
def hdB (lk : Int → Int → Bool) (ls : List Int) (h : Int → Int) (a : Int) (j l : Nat) : Int → Int := ((ls.take l).map fun b => (a, b)).foldl (hdF lk) (hdA lk ls h j)
section
variable {lk : Int → Int → Bool} {ls : List Int} {h : Int → Int} {a b : Int} {j l : Nat}
theorem hdB_next (hb : ls[l]? = some b) : hdB lk ls h a j (l + 1) = hdF lk (hdB lk ls h a j l) (a, b) := by
  unfold hdB
  rw [List.take_add_one, hb]
  simp
theorem hdB_all (ha : ls[j]? = some a) (hl : ls.length ≤ l) : hdB lk ls h a j l = hdA lk ls h (j + 1) := by
  unfold hdB hdA
  rw [List.take_of_length_le hl, List.take_add_one, ha]
  simp
theorem hdA_all (hj : ls.length ≤ j) : hdA lk ls h j = roundH lk ls h := by
  unfold hdA roundH prsG
  rw [List.take_of_length_le hj]
theorem HdI.ok (H : HdI lk ls h) (hl : ∀ x ∈ ls, okI x) {x : Int} (hx : x ∈ ls) : okI (h x) := hl _ ((H.con x hx).right)
theorem hdF_yes (hk : lk a b = true) : hdF lk h (a, b) = fun x => if x = a ∨ x = b then min (h a) (h b) else h x := by
  unfold hdF; rw [if_pos hk]
theorem hdF_no (hk : lk a b = false) : hdF lk h (a, b) = h := by
  unfold hdF; rw [if_neg (by rw [hk]; exact fun h => nomatch h)]
end
structure WgM (w wr : World) (bm : Nat) (ls : List Int) (h : Int → Int) (q : Nat) : Prop where
  d : Below w.heap.size w wr
  m : MapI wr bm (hdM ls h) q
  b : w.heap.size ≤ bm
theorem WgM.keep {w wr w' : World} {bm : Nat} {ls : List Int} {h : Int → Int} {q : Nat} (H : WgM w wr bm ls h q) (hb : Below wr.heap.size wr w') : WgM w w' bm ls h q := ⟨H.d.trans (hb.mono H.d.size), H.m.keep hb, H.b⟩
theorem WgM.mono {w wr : World} {bm : Nat} {ls : List Int} {h : Int → Int} {q q' : Nat} (H : WgM w wr bm ls h q) (hq : q ≤ q') : WgM w wr bm ls h q' := ⟨H.d, H.m.mono hq, H.b⟩
theorem WgM.look {w wr : World} {bm : Nat} {ls : List Int} {h : Int → Int} {q : Nat} (H : WgM w wr bm ls h q) (hl : ∀ x ∈ ls, okI x) {x : Int} (hx : x ∈ ls) : (Instr.lookup 77 (.map (some bm)) (.int .i64 x) false).run Tryz.prog wr = .ok (.int .i64 (h x)) wr := by
  rw [MapI.look H.m (hl x hx)]
  unfold hdM
  rw [if_pos hx]
/-- Both a and b get y. -/
theorem WgM.two {w wr : World} {bm : Nat} {ls : List Int} {h : Int → Int} {q : Nat} (H : WgM w wr bm ls h q) (hl : ∀ x ∈ ls, okI x) {a b y : Int} (ha : a ∈ ls) (hb : b ∈ ls) (hy : okI y) (hq : q ≤ 1000000) :
    ∃ w1, (Instr.mapUpdate 77 (.map (some bm)) (.int .i64 a) (.int .i64 y)).run Tryz.prog wr = .ok () w1 ∧ ∃ w2, (Instr.mapUpdate 77 (.map (some bm)) (.int .i64 b) (.int .i64 y)).run Tryz.prog w1 = .ok () w2 ∧ WgM w w2 bm ls (fun x => if x = a ∨ x = b then y else h x) (q + 2) := by
  obtain ⟨w1, u1, m1, g1⟩ := MapI.put H.m (hl a ha) y hy (by simp only [maxLen]; omega)
  obtain ⟨w2, u2, m2, g2⟩ := MapI.put m1 (hl b hb) y hy (by simp only [maxLen]; omega)
  refine ⟨w1, u1, w2, u2, (H.d.grown g1 H.d.size (fun k hk => by injection hk with hk; have := H.b; omega)).grown g2 (Nat.le_trans H.d.size g1.size) (fun k hk => by injection hk with hk; have := H.b; omega), m2.same (fun z _ => ?_), H.b⟩
  unfold hdM
  by_cases h1 : z = b
  · subst h1; simp [hb]
  · by_cases h2 : z = a
    · subst h2; simp [ha, h1]
    · simp [h1, h2]

theorem OutS.appL {w0 w w' : World} {vl vo v' : Value} {n n3 : Nat} {l : List Int} {out : List (List Int)} {y : Int} (h : OutS w0 w vl vo n n3 l out) (o : OwnInts w' w0.heap.size v' (n + 1) (l ++ [y])) (hg : w.grownBy w' vl.ownBlock) (hv : v'.ownBlock = vl.ownBlock ∨ v'.ownBlock = some (w.heap.size + 1)) : OutS w0 w' v' vo (n + 1) n3 (l ++ [y]) out := by
  obtain ⟨c1, o1, _⟩ := h.ou
  obtain ⟨c2, o2, _⟩ := h.lf
  refine ⟨h.bel.grown hg h.bel.size (fun k hk => (h.lf.lt k hk).1), o, ((h.ou.wide (Q := fun k => (w0.heap.size ≤ k ∧ vl.ownBlock ≠ some k) ∧ (w0.heap.size ≤ k ∧ v'.ownBlock ≠ some k)) (fun k hk hp => ⟨hp, hp.1, ?_⟩)).grown hg (fun k hk hp => hp.1.2 hk) (own_apart o1 o2 (by decide))).wide (fun k _ hp => hp.2)⟩
  rcases hv with e | e
  · rw [e]; exact hp.2
  · rw [e]; intro e2; injection e2 with e2; omega
theorem groups_next {ls : List Int} {h : Int → Int} {k : Nat} {m : Int} (hm : ls[k]? = some m) : (((ls.take (k + 1)).map fun m => ls.filter fun a => h a == m).filter fun l => decide (0 < l.length)) = (((ls.take k).map fun m => ls.filter fun a => h a == m).filter fun l => decide (0 < l.length)) ++ (if 0 < (ls.filter fun a => h a == m).length then [ls.filter fun a => h a == m] else []) := by
  rw [List.take_add_one, hm]
  simp only [Option.toList_some, List.map_append, List.map_cons, List.map_nil, List.filter_append]
  congr 1
  by_cases h0 : 0 < (ls.filter fun a => h a == m).length
  · rw [if_pos h0]; simp [h0]
  · rw [if_neg h0]; simp at h0 ⊢; exact h0
set_option maxRecDepth 100000 in
set_option maxHeartbeats 8000000 in
theorem wgroups_calls {w : World} {A : Option Addr} {n c : Nat} {ls : List Int} {F : FuncId} {bd cv : Array Value} {lk : Int → Int → Bool} (h : Ints w A n c ls) (hn : n ≤ 26) (hs : ls.Pairwise (· < ·)) (hl : ∀ x ∈ ls, okI x) (hF : IsLk F bd cv w ls lk) :
    Calls Tryz.prog 32 #[.slice A n c, .func (.func F) bd cv] w (AnsGrp lk ls w) := by
  have hmm := @run_makeMap Tryz.prog
  have H := hide2 h
  have HN := hide2 (And.intro hn hs)
  have OK := hide2 hl
  have henter := hF.enters
  have HF := hide2 hF
  have LN := hide2 h.len
  have M0 := hide2 (show WgM w (w.alloc (.map #[] 0)) w.heap.size [] (fun x => x) 0 from ⟨boxBelow w _, (MapZ.made 3 okI kkI w).same (fun z _ => by unfold hdM; simp), Nat.le_refl _⟩)
  clear h hn hs hl hF
  go_enter Tryz.func32, Tryz.ntmps32
  go_upto_region 2 with fail
  clear hmm
  generalize w.alloc (.map #[] 0) = w1 at *
  go_wp2
  go_loopg [22] n (fun gk u wr => ∃ k : Nat, u = .int .i64 k ∧ Hid (k + gk = n) ∧ Hid (WgM w wr w.heap.size (ls.take k) (fun x => x) k))
  case atStart => exact ⟨0, rfl, hide2 (by omega), M0⟩
  case round =>
    clear M0
    obtain ⟨k, rfl, hgk, SS⟩ := hrel
    by_cases hlt : k < n
    · have hki : (k : Int) < (n : Int) := by omega
      obtain ⟨b, off, a, rfl, hb, ha, q0⟩ := Ints.get (H.out.keep SS.out.d) hlt
      have HJ := hide2 (show gk - 1 < gk ∧ (k + 1) + (gk - 1) = n ∧ k ≤ 26 by have := hgk.out; have := HN.out; omega)
      have hwk : IntKind.i64.wrap ((k : Int) + 1) = ((k + 1 : Nat) : Int) := by
        have := HJ.out
        simp [IntKind.wrap, IntKind.bits, IntKind.signed]; omega
      have oa := OK.out a (List.mem_of_getElem? ha.out)
      obtain ⟨w2, up, m2, g2⟩ := MapI.put SS.out.m oa a oa (by have := HJ.out; simp only [maxLen]; omega)
      have SN := hide2 (show WgM w w2 w.heap.size (ls.take (k + 1)) (fun x => x) (k + 1) from ⟨SS.out.d.grown g2 SS.out.d.size (fun q hq => by injection hq with hq; omega), m2.same (fun z _ => by
        unfold hdM
        rw [List.take_add_one, ha.out]
        simp only [Option.toList_some, List.mem_append, List.mem_singleton]
        by_cases h1 : z = a
        · simp [h1]
        · simp [h1]), Nat.le_refl _⟩)
      clear hb oa m2 g2
      go_wp2
      go_roundg (gk - 1)
      case measure => exact HJ.out.1
      case rel => exact ⟨k + 1, rfl, hide2 HJ.out.2.1, SN⟩
    · have hki : ¬ (k : Int) < (n : Int) := by omega
      have SA := hide2 (show WgM w wr w.heap.size ls (roundsH lk ls 0) (n + 1352 * 0) from by
        have := SS.out
        rw [List.take_of_length_le (by rw [LN.out]; omega)] at this
        exact this.mono (by have := hgk.out; omega))
      clear SS hlt hgk
      obtain ⟨go, hgo⟩ : ∃ x : Nat, x = gk := ⟨_, rfl⟩
      subst hgo
      go_wp2
      go_loopg [32] n (fun gk u wr => ∃ r : Nat, u = .int .i64 r ∧ Hid (r + gk = n) ∧ Hid (WgM w wr w.heap.size ls (roundsH lk ls r) (n + 1352 * r)))
      case atStart => exact ⟨0, rfl, hide2 (by omega), SA⟩
      case round =>
        clear SA
        obtain ⟨r, rfl, hgk, SS⟩ := hrel
        by_cases hlt : r < n
        · have hki : (r : Int) < (n : Int) := by omega
          have HJ := hide2 (show gk - 1 < gk ∧ (r + 1) + (gk - 1) = n ∧ r ≤ 26 by have := hgk.out; have := HN.out; omega)
          have hwr2 : IntKind.i64.wrap ((r : Int) + 1) = ((r + 1 : Nat) : Int) := by
            have := HJ.out
            simp [IntKind.wrap, IntKind.bits, IntKind.signed]; omega
          obtain ⟨hr, hhr⟩ : ∃ x, x = roundsH lk ls r := ⟨_, rfl⟩
          have HI0 := hide2 (show HdI lk ls hr from hhr ▸ HdI.rounds r)
          rw [← hhr] at SS
          have HR := hide2 (show roundsH lk ls (r + 1) = roundH lk ls hr by rw [roundsH_succ, hhr])
          have SA := hide2 (show WgM w wr w.heap.size ls (hdA lk ls hr 0) (n + 1352 * r + 52 * 0) ∧ HdI lk ls (hdA lk ls hr 0) from ⟨SS.out, HI0.out⟩)
          obtain ⟨g1, hg1⟩ : ∃ x : Nat, x = gk := ⟨_, rfl⟩
          subst hg1
          clear SS hlt hgk hhr
          go_wp2
          go_loopg [36] n (fun gk u wr => ∃ j : Nat, u = .int .i64 j ∧ Hid (j + gk = n) ∧ Hid (WgM w wr w.heap.size ls (hdA lk ls hr j) (n + 1352 * r + 52 * j) ∧ HdI lk ls (hdA lk ls hr j)))
          case atStart => exact ⟨0, rfl, hide2 (by omega), SA⟩
          case round =>
            clear SA
            obtain ⟨j, rfl, hgk, SS⟩ := hrel
            by_cases hlt : j < n
            · have hkj : (j : Int) < (n : Int) := by omega
              obtain ⟨b, off, a, rfl, hb, ha, q0⟩ := Ints.get (H.out.keep SS.out.1.d) hlt
              have HJ2 := hide2 (show gk - 1 < gk ∧ (j + 1) + (gk - 1) = n ∧ j ≤ 26 by have := hgk.out; have := HN.out; omega)
              have hwj : IntKind.i64.wrap ((j : Int) + 1) = ((j + 1 : Nat) : Int) := by
                have := HJ2.out
                simp [IntKind.wrap, IntKind.bits, IntKind.signed]; omega
              have SA := hide2 (show WgM w wr w.heap.size ls (hdB lk ls hr a j 0) (n + 1352 * r + 52 * j + 2 * 0) ∧ HdI lk ls (hdB lk ls hr a j 0) from SS.out)
              obtain ⟨g2, hg2⟩ : ∃ x : Nat, x = gk := ⟨_, rfl⟩
              subst hg2
              clear SS hb hlt hgk
              go_wp2
              clear q0
              go_loopg [42] n (fun gk u wr => ∃ l : Nat, u = .int .i64 l ∧ Hid (l + gk = n) ∧ Hid (WgM w wr w.heap.size ls (hdB lk ls hr a j l) (n + 1352 * r + 52 * j + 2 * l) ∧ HdI lk ls (hdB lk ls hr a j l)))
              case atStart => exact ⟨0, rfl, hide2 (by omega), SA⟩
              case round =>
                clear SA
                obtain ⟨l, rfl, hgk, SS⟩ := hrel
                by_cases hlt : l < n
                · have hkl : (l : Int) < (n : Int) := by omega
                  obtain ⟨b2, off2, d, e2, hb2, hd, q0⟩ := Ints.get (H.out.keep SS.out.1.d) hlt
                  injection e2 with e2
                  injection e2 with e21 e22
                  subst e21 e22
                  have HJ3 := hide2 (show gk - 1 < gk ∧ (l + 1) + (gk - 1) = n ∧ l ≤ 26 ∧ n + 1352 * r + 52 * j + 2 * l ≤ 1000000 by have := hgk.out; have := HN.out; have := HJ.out; have := HJ2.out; omega)
                  have hwl : IntKind.i64.wrap ((l : Int) + 1) = ((l + 1 : Nat) : Int) := by
                    have := HJ3.out
                    simp [IntKind.wrap, IntKind.bits, IntKind.signed]; omega
                  have AM := hide2 (List.mem_of_getElem? ha.out)
                  have DM := hide2 (List.mem_of_getElem? hd.out)
                  have CL := hide2 (HF.out.calls wr a d AM.out DM.out SS.out.1.d)
                  have NX := hide2 (hdB_next (lk := lk) (h := hr) (a := a) (j := j) hd.out)
                  have HS := hide2 (show HdI lk ls (hdF lk (hdB lk ls hr a j l) (a, d)) from (SS.out.2.step (p := (a, d)) AM.out DM.out).1)
                  obtain ⟨T, hT⟩ : ∃ T, hdB lk ls hr a j l = T := ⟨_, rfl⟩
                  rw [hT] at SS NX HS
                  cases hv : lk a d
                  · have SN := hide2 (show ∀ w', Below wr.heap.size wr w' → WgM w w' w.heap.size ls (hdB lk ls hr a j (l + 1)) (n + 1352 * r + 52 * j + 2 * (l + 1)) ∧ HdI lk ls (hdB lk ls hr a j (l + 1)) from fun w' hq => by
                      rw [NX.out]
                      refine ⟨?_, HS.out⟩
                      rw [hdF_no hv]
                      exact (SS.out.1.keep hq).mono (by omega))
                    rw [hv] at CL
                    clear hT hb2 hlt hgk hv
                    go_wp2_with fail
                    refine CL.out.mono ?_
                    rintro e w2 ⟨rfl, hq2⟩
                    have S2 := hide2 (SN.out w2 hq2)
                    clear hq2 CL
                    go_wp2
                    go_roundg (gk - 1)
                    case measure => exact HJ3.out.1
                    case rel => exact ⟨l + 1, rfl, hide2 HJ3.out.2.1, S2⟩
                  · have HV := hide2 hv
                    rw [hv] at CL
                    clear hT hb2 hlt hgk hv
                    go_wp2_with fail
                    refine CL.out.mono ?_
                    rintro e w2 ⟨rfl, hq2⟩
                    have S2 := hide2 (SS.out.1.keep hq2)
                    have lk1 := S2.out.look OK.out AM.out
                    have lk2 := S2.out.look OK.out DM.out
                    obtain ⟨M, hM⟩ : ∃ M, min (T a) (T d) = M := ⟨_, rfl⟩
                    have oM : okI M := by
                      have h1 := SS.out.2.ok OK.out AM.out
                      have h2 := SS.out.2.ok OK.out DM.out
                      unfold okI at h1 h2 ⊢
                      omega
                    obtain ⟨w3, up1, w4, up2, m4⟩ := S2.out.two OK.out AM.out DM.out oM HJ3.out.2.2.2
                    have S4 := hide2 (show WgM w w4 w.heap.size ls (hdB lk ls hr a j (l + 1)) (n + 1352 * r + 52 * j + 2 * (l + 1)) ∧ HdI lk ls (hdB lk ls hr a j (l + 1)) from by
                      rw [NX.out]
                      refine ⟨?_, HS.out⟩
                      rw [hdF_yes HV.out, hM]
                      exact m4)
                    obtain ⟨x, hx⟩ : ∃ x, T a = x := ⟨_, rfl⟩
                    obtain ⟨y, hy⟩ : ∃ y, T d = y := ⟨_, rfl⟩
                    rw [hx] at lk1 hM
                    rw [hy] at lk2 hM
                    clear hq2 CL hx hy oM m4 S2
                    go_wp2
                    go_roundg (gk - 1)
                    case measure => exact HJ3.out.1
                    case rel => exact ⟨l + 1, rfl, hide2 HJ3.out.2.1, S4⟩
                · have hkl : ¬ (l : Int) < (n : Int) := by omega
                  have SN := hide2 (show WgM w wr w.heap.size ls (hdA lk ls hr (j + 1)) (n + 1352 * r + 52 * (j + 1)) ∧ HdI lk ls (hdA lk ls hr (j + 1)) from by
                    have := SS.out
                    rw [hdB_all ha.out (by rw [LN.out]; omega)] at this
                    exact ⟨this.1.mono (by have := HN.out; have := hgk.out; omega), this.2⟩)
                  clear SS hlt hgk
                  go_wp2
                  go_roundg (g2 - 1)
                  case measure => exact HJ2.out.1
                  case rel => exact ⟨j + 1, rfl, hide2 HJ2.out.2.1, SN⟩
            · have hkj : ¬ (j : Int) < (n : Int) := by omega
              have SN := hide2 (show WgM w wr w.heap.size ls (roundsH lk ls (r + 1)) (n + 1352 * (r + 1)) from by
                have := SS.out.1
                rw [hdA_all (by rw [LN.out]; omega), ← HR.out] at this
                exact this.mono (by have := HN.out; have := hgk.out; omega))
              clear SS hlt hgk
              go_wp2
              go_roundg (g1 - 1)
              case measure => exact HJ.out.1
              case rel => exact ⟨r + 1, rfl, hide2 HJ.out.2.1, SN⟩
        · have hki : ¬ (r : Int) < (n : Int) := by omega
          obtain ⟨hh, hhh⟩ : ∃ x, x = roundsH lk ls ls.length := ⟨_, rfl⟩
          have HH := hide2 (show grpL lk ls = groupsH ls hh by rw [hhh]; rfl)
          have SM := hide2 (show WgM w wr w.heap.size ls hh (n + 1352 * r) from by
            have h1 := LN.out
            have h2 := hgk.out
            rw [hhh, show ls.length = r by omega]
            exact SS.out)
          have HIn := hide2 (show HdI lk ls hh from hhh ▸ HdI.rounds ls.length)
          obtain ⟨wM, hwM⟩ : ∃ x : World, x = wr := ⟨_, rfl⟩
          subst hwM
          obtain ⟨g1, hg1⟩ : ∃ x : Nat, x = gk := ⟨_, rfl⟩
          subst hg1
          clear SS hlt hgk hhh
          go_wp2
          go_loopg [13, 68] n (fun gk s13 s68 wr => ∃ vo k n3, vo = s13 ∧ s68 = .int .i64 (k : Nat) ∧ Hid (k + gk = n ∧ n3 ≤ k) ∧ Hid (RowP wr (fun q => wM.heap.size ≤ q) wM.heap.size vo n3 (((ls.take k).map fun m => ls.filter fun a => hh a == m).filter fun l => decide (0 < l.length))) ∧ Hid (Below wM.heap.size wM wr))
          case atStart => exact ⟨_, 0, 0, rfl, rfl, hide2 (by omega), hide2 OwnSl.nil, hide2 (Below.refl _ _)⟩
          case round =>
            obtain ⟨vo, k, n3, rfl, rfl, hgk, RO, DB⟩ := hrel
            by_cases hlt : k < n
            · have hki2 : (k : Int) < (n : Int) := by omega
              obtain ⟨b, off, m, rfl, hb, hm, q0⟩ := Ints.get (H.out.keep (SM.out.d.trans (DB.out.mono SM.out.d.size))) hlt
              have HJ := hide2 (show gk - 1 < gk ∧ (k + 1) + (gk - 1) = n ∧ k ≤ 26 ∧ n3 ≤ 26 ∧ n3 + 1 ≤ k + 1 ∧ n3 ≤ k + 1 by have := hgk.out; have := HN.out; omega)
              have hwk : IntKind.i64.wrap ((k : Int) + 1) = ((k + 1 : Nat) : Int) := by
                have := HJ.out
                simp [IntKind.wrap, IntKind.bits, IntKind.signed]; omega
              have GN := hide2 (groups_next (h := hh) hm.out)
              have OS := hide2 (show OutS wM wr (.slice none 0 0) vo 0 n3 [] (((ls.take k).map fun m => ls.filter fun a => hh a == m).filter fun l => decide (0 < l.length)) from ⟨DB.out, OwnSl.nil, RO.out.wide (fun q _ hp => ⟨hp, fun e => nomatch e⟩)⟩)
              obtain ⟨g2, hg2⟩ : ∃ x : Nat, x = gk := ⟨_, rfl⟩
              subst hg2
              clear RO DB hb hlt hgk
              go_wp2
              clear q0
              go_loopg [16, 74] n (fun gk s16 s74 wr => ∃ vl j nl, vl = s16 ∧ s74 = .int .i64 (j : Nat) ∧ Hid (j + gk = n ∧ nl ≤ j) ∧ Hid (OutS wM wr vl vo nl n3 ((ls.take j).filter fun a => hh a == m) (((ls.take k).map fun m => ls.filter fun a => hh a == m).filter fun l => decide (0 < l.length))))
              case atStart => exact ⟨_, 0, 0, rfl, rfl, hide2 (by omega), OS⟩
              case round =>
                clear OS
                obtain ⟨vl, j, nl, rfl, rfl, hgk, OS⟩ := hrel
                by_cases hlt : j < n
                · have hkj : (j : Int) < (n : Int) := by omega
                  obtain ⟨b2, off2, a, e2, hb2, ha, q0⟩ := Ints.get (H.out.keep (SM.out.d.trans (OS.out.bel.mono SM.out.d.size))) hlt
                  injection e2 with e2
                  injection e2 with e21 e22
                  subst e21 e22
                  have HJ2 := hide2 (show gk - 1 < gk ∧ (j + 1) + (gk - 1) = n ∧ j ≤ 26 ∧ nl + 1 ≤ j + 1 ∧ nl ≤ j + 1 by have := hgk.out; have := HN.out; omega)
                  have hwj : IntKind.i64.wrap ((j : Int) + 1) = ((j + 1 : Nat) : Int) := by
                    have := HJ2.out
                    simp [IntKind.wrap, IntKind.bits, IntKind.signed]; omega
                  have hnl : nl ≤ 26 := by have := HJ2.out; omega
                  have hB := OS.out.bel.size
                  have TK := hide2 (show (ls.take (j + 1)).filter (fun a => hh a == m) = (ls.take j).filter (fun a => hh a == m) ++ (if (hh a == m) = true then [a] else []) by
                    rw [List.take_add_one, ha.out, List.filter_append]
                    simp only [Option.toList_some]
                    congr 1
                    by_cases e : (hh a == m) = true <;> simp [e])
                  have lk1 := WgM.look (SM.out.keep OS.out.bel) OK.out (List.mem_of_getElem? ha.out)
                  by_cases he : hh a = m
                  · have hei : (hh a == m) = true := by simp [he]
                    have T2 := hide2 (show (ls.take (j + 1)).filter (fun a => hh a == m) = (ls.take j).filter (fun a => hh a == m) ++ [a] by rw [TK.out, if_pos hei])
                    obtain ⟨x, hx⟩ : ∃ x, hh a = x := ⟨_, rfl⟩
                    rw [hx] at lk1 hei
                    clear hb2 hlt hgk TK he hx
                    go_wp2_with (at_builtin; refine wpList_appIntAt rfl _ _ rfl rfl rfl rfl OS.out.lf hB hnl ?_; intro v8 w8 own8 hg8 hl8; have O8 := hide2 (OS.out.appL own8 hg8 hl8))
                    go_roundg (gk - 1)
                    case measure => exact HJ2.out.1
                    case rel => exact ⟨v8, j + 1, nl + 1, rfl, rfl, hide2 ⟨HJ2.out.2.1, HJ2.out.2.2.2.1⟩, hide2 (by rw [T2.out]; exact O8.out)⟩
                  · have hei : (hh a == m) = false := by simp [he]
                    have T2 := hide2 (show (ls.take (j + 1)).filter (fun a => hh a == m) = (ls.take j).filter (fun a => hh a == m) by rw [TK.out, if_neg (by rw [hei]; exact fun h => nomatch h), List.append_nil])
                    obtain ⟨x, hx⟩ : ∃ x, hh a = x := ⟨_, rfl⟩
                    rw [hx] at lk1 hei
                    clear hb2 hlt hgk TK he hx
                    go_wp2
                    go_roundg (gk - 1)
                    case measure => exact HJ2.out.1
                    case rel => exact ⟨vl, j + 1, nl, rfl, rfl, hide2 ⟨HJ2.out.2.1, HJ2.out.2.2.2.2⟩, hide2 (by rw [T2.out]; exact OS.out)⟩
                · have hkj : ¬ (j : Int) < (n : Int) := by omega
                  have hte : ls.take j = ls := List.take_of_length_le (by rw [LN.out]; omega)
                  rw [hte] at OS
                  obtain ⟨lg, hlg⟩ : ∃ x, x = ls.filter fun a => hh a == m := ⟨_, rfl⟩
                  rw [← hlg] at OS GN
                  have NL := hide2 (show lg.length = nl ∧ nl ≤ 26 from ⟨OS.out.lf.len, by have := hgk.out; have := HN.out; omega⟩)
                  have ROW := hide2 (show RowP wr (fun q => wM.heap.size ≤ q) wM.heap.size vo n3 (((ls.take k).map fun m => ls.filter fun a => hh a == m).filter fun l => decide (0 < l.length)) from OS.out.ou.wide (fun q _ hp => hp.1))
                  have LF := hide2 OS.out.lf
                  have DB := hide2 OS.out.bel
                  clear OS hlt hgk hte hlg
                  by_cases h0 : 0 < nl
                  · have h0i : (0 : Int) < (nl : Int) := by omega
                    have G2 := hide2 (show (((ls.take (k + 1)).map fun m => ls.filter fun a => hh a == m).filter fun l => decide (0 < l.length)) = (((ls.take k).map fun m => ls.filter fun a => hh a == m).filter fun l => decide (0 < l.length)) ++ [lg] by rw [GN.out, if_pos (by rw [NL.out.1]; exact h0)])
                    obtain ⟨gs, cs, rfl, hgB, _⟩ := LF.out.form h0
                    have RD := hide2 (show Reads (ApR (fun q => wM.heap.size ≤ q)) 1 wr [.slice (some ⟨gs, 0, none⟩) nl cs] [lg] from Reads.list1 ⟨gs, nl, cs, rfl, (HasI.of_own LF.out).1, hgB, by have := NL.out; omega⟩)
                    have hB := DB.out.size
                    have h24 : (n3 + 1) * 24 ≤ 140737488355328 := by have := HJ.out; omega
                    have h26 : n3 + 1 ≤ 281474976710656 := by have := HJ.out; omega
                    have KP := hide2 (show ∀ w', wr.grownBy w' vo.ownBlock → ∀ vs y, ApR (fun q => wM.heap.size ≤ q) wr vs y → ApR (fun q => wM.heap.size ≤ q) w' vs y from by
                      obtain ⟨c2, o2, _⟩ := ROW.out
                      exact fun w' hg vs y hy => hy.grownRow o2 (by decide) hg)
                    clear h0 hgB GN
                    go_wp2_with (at_builtin; refine wpList_appNewAt (v := vo) tyLists rfl _ _ rfl [lg] _ rfl rfl rfl rfl (by simp [Value.oneCell']) ROW.out RD.out rfl hB h26 h24 KP.out ?_; intro v9 w9 own9 hg9 hl9; have O9 := hide2 own9; have D9 := hide2 (DB.out.grown hg9 hB (fun q hq => (ROW.out.lt q hq).1)))
                    go_roundg (g2 - 1)
                    case measure => exact HJ.out.1
                    case rel => exact ⟨v9, k + 1, n3 + 1, rfl, rfl, hide2 ⟨HJ.out.2.1, HJ.out.2.2.2.2.1⟩, hide2 (by rw [G2.out]; exact O9.out), D9⟩
                  · have h0i : ¬ (0 : Int) < (nl : Int) := by omega
                    have G2 := hide2 (show (((ls.take (k + 1)).map fun m => ls.filter fun a => hh a == m).filter fun l => decide (0 < l.length)) = (((ls.take k).map fun m => ls.filter fun a => hh a == m).filter fun l => decide (0 < l.length)) by rw [GN.out, if_neg (by rw [NL.out.1]; exact h0), List.append_nil])
                    obtain ⟨AL, cL, rfl, _⟩ := LF.out.sl (by have := NL.out; omega)
                    clear h0 GN
                    go_wp2
                    go_roundg (g2 - 1)
                    case measure => exact HJ.out.1
                    case rel => exact ⟨vo, k + 1, n3, rfl, rfl, hide2 ⟨HJ.out.2.1, HJ.out.2.2.2.2.2⟩, hide2 (by rw [G2.out]; exact ROW.out), DB⟩
            · have hki2 : ¬ (k : Int) < (n : Int) := by omega
              have FIN := hide2 (show AnsGrp lk ls w (.returned vo) wr from by
                have hr := RO.out
                rw [List.take_of_length_le (by rw [LN.out]; omega)] at hr
                have hb := SM.out.d.size
                refine ⟨vo, n3, rfl, by have := hgk.out; have := HN.out; omega, ?_, groupsH_is HN.out.2, SM.out.d.trans (DB.out.mono hb)⟩
                rw [HH.out]
                exact (hr.wide (fun q _ hp => Nat.le_trans hb hp)).base hb)
              clear RO DB hlt hgk
              go_wp2
              go_ret
              exact FIN.out
end Go.Proofs.YtcopnfdknclhnaaGreat
