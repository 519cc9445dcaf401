/- The contract of mine.groups. Conditions: the labels read as a list, in order; the function that links two labels tells so in each later world. -/
import Derived.Test.YtcopnfdknclhnaaGreatMineTellsK23
import Derived.Test.YtcopnfdknclhnaaGreatMineTellsK09
import Derived.Deep.DeepCutAuto
namespace Go.Proofs.YtcopnfdknclhnaaGreat
open Go.RowKit

/-- Function F, with what it has got first and what it captured, tells whether two labels are linked. -/
structure IsLk (F : FuncId) (bd cv : Array Value) (w : World) (ls : List Int) (lk : Int → Int → Bool) : Prop where
  enters : ∀ args w, (callFunc F args).run Tryz.prog w = .ok (.enter F args) w
  calls : ∀ (wr : World) (a b : Int), a ∈ ls → b ∈ ls → Below w.heap.size w wr → Calls Tryz.prog F (bd ++ (#[.int .i64 a, .int .i64 b] ++ cv)) wr fun e w' => e = .returned (.bool (lk a b)) ∧ Below wr.heap.size wr w'
/-- The groups. -/
def grpL (lk : Int → Int → Bool) (ls : List Int) : List (List Int) := groupsH ls (roundsH lk ls ls.length)
def AnsGrp (lk : Int → Int → Bool) (ls : List Int) (w : World) (e : Ending) (w' : World) : Prop :=
  ∃ vo n, e = .returned vo ∧ n ≤ 26 ∧ RowG w' w.heap.size w.heap.size vo n (grpL lk ls) ∧ IsGr lk ls (grpL lk ls) ∧ Below w.heap.size w w'
theorem sort_strict {l : List Int} (h : l.Nodup) : (l.mergeSort fun x y => decide (x ≤ y)).Pairwise (· < ·) := by
  have h1 := List.pairwise_mergeSort (le := fun (x y : Int) => decide (x ≤ y)) (fun a b c h1 h2 => by simp at *; omega) (fun a b => by simp; omega) l
  have h2 : (l.mergeSort fun x y => decide (x ≤ y)).Nodup := (List.mergeSort_perm l _).symm.nodup h
  exact (List.pairwise_and_iff.2 ⟨h1, h2⟩).imp (fun {a b} hab => by have := hab.1; have := hab.2; simp at *; omega)

set_option maxRecDepth 100000 in
set_option maxHeartbeats 8000000 in
theorem groups_calls {w : World} {A : Option Addr} {n c : Nat} {ls : List Int} {F : FuncId} {bd cv : Array Value} {lk : Int → Int → Bool} (h : Ints w A n c ls) (hn : n ≤ 26) (hs : ls.Pairwise (· < ·)) (hF : IsLk F bd cv w ls lk) :
    Calls Tryz.prog 50 #[.slice A n c, .func (.func F) bd cv] w (AnsGrp lk ls w) := by
  have H := hide2 h
  have HN := hide2 (And.intro hn hs)
  have henter := hF.enters
  have HF := hide2 hF
  have hl := hide2 h.len
  clear h hn hs hF
  go_enter Tryz.func50, Tryz.ntmps50
  go_wp2_with fail
  refine (cloneInts_calls H.out (by have := HN.out.1; omega)).mono ?_
  rintro e w1 ⟨v0, rfl, own, hb⟩
  have OS := hide2 (show OutS w w1 v0 (.slice none 0 0) n 0 ls [] from ⟨hb, own, OwnSl.nil⟩)
  clear own hb
  go_wp2
  go_loopg [5, 6] n (fun gk s5 s6 wr => ∃ vo vl n' n3 l G, vo = s5 ∧ vl = s6 ∧ Hid (n' ≤ gk ∧ n3 + n' ≤ n) ∧ Hid (OutS w wr vl vo n' n3 l G) ∧ Hid (GrI lk ls G l))
  case atStart => exact ⟨_, _, n, 0, ls, [], rfl, rfl, hide2 (by omega), OS, hide2 (GrI.start HN.out.2)⟩
  case round =>
    clear OS
    obtain ⟨vo, vl, n', n3, l, G, rfl, rfl, hgk, OS, GI⟩ := hrel
    cases l with
    | nil =>
      have FIN := hide2 (show AnsGrp lk ls w (.returned vo) wr from by
        have e := (GI.out.fin).uniq (groupsH_is HN.out.2)
        subst e
        exact ⟨vo, n3, rfl, by have := hgk.out; have := HN.out; omega, OS.out.ou.wide (fun k _ hp => hp.1), groupsH_is HN.out.2, OS.out.bel⟩)
      obtain rfl : n' = 0 := OS.out.lf.len.symm
      obtain ⟨A1, c1, rfl, _⟩ := OS.out.lf.sl (by omega)
      clear OS GI hgk
      go_wp2
      go_ret
      exact FIN.out
    | cons x l =>
      have hn' := OS.out.lf.len
      obtain ⟨m0, rfl⟩ : ∃ m0, n' = m0 + 1 := ⟨l.length, by rw [← hn']; rfl⟩
      obtain ⟨g, cap, rfl, hgB, hgl⟩ := OS.out.lf.form (by omega)
      have hc1 := (HasI.of_own OS.out.lf).1.le
      have GM := hide2 (OS.out.start (by have := hgk.out; have := HN.out; omega))
      have L0 := hide2 (show l.length = m0 by simpa using hn')
      have AB := hide2 (show AbI lk ls (x :: l) [x] l 0 from AbI.start GI.out.lasc (GI.out.lsub x (by simp)))
      have hpos : (0 : Int) < ((m0 + 1 : Nat) : Int) := by omega
      have hcap : (1 : Int) ≤ (cap : Int) := by omega
      clear hn' hgB hgl
      go_upto_region 5 with fail
      go_cut [6] from 19 to 20 (fun s6 wx => s6 = .slice (if cap = 1 then some ⟨g, 0, none⟩ else some ⟨g, 1, none⟩) m0 (cap - 1) ∧ wx = wr)
      case first =>
        by_cases hc : cap = 1
        · subst hc
          clear hc1
          go_wp2
          go_meet
          exact ⟨by simp, rfl⟩
        · have HC := hide2 hc
          have hc2 : 1 < cap := by omega
          clear hc hc1
          go_wp2
          go_meet
          exact ⟨by rw [if_neg HC.out], rfl⟩
      case rest =>
      obtain ⟨rfl, rfl⟩ := hcut
      obtain ⟨wo, hwo⟩ : ∃ x : World, x = wc := ⟨_, rfl⟩
      subst hwo
      obtain ⟨go, hgo⟩ : ∃ x : Nat, x = gk := ⟨_, rfl⟩
      subst hgo
      rw [Nat.add_sub_cancel] at GM
      obtain ⟨vl, hvl⟩ : ∃ v : Value, v = .slice (if cap = 1 then some ⟨g, 0, none⟩ else some ⟨g, 1, none⟩) m0 (cap - 1) := ⟨_, rfl⟩
      rw [← hvl] at GM
      rw [← hvl]
      clear hvl
      obtain ⟨L, hL⟩ : ∃ L, L = x :: l := ⟨_, rfl⟩
      have LS := hide2 (show ∀ y ∈ L, y ∈ ls from hL ▸ GI.out.lsub)
      rw [← hL] at GI AB
      clear hL OS
      go_wp2
      go_loopg [6, 7, 8] (m0 + 1) (fun gk s6 s7 s8 wr => ∃ vl vg m n1 k l grp, vl = s6 ∧ vg = s7 ∧ s8 = .int .i64 (k : Nat) ∧ Hid (m0 + 1 ≤ k + gk ∧ n1 + m = m0 + 1) ∧ Hid (AbI lk ls L grp l k) ∧ Hid (GrM w wr vl vg (.slice none 0 0) vo m n1 0 n3 l grp [] G) ∧ Hid (0 < k → vg.ownBlock ≠ vl.ownBlock ∧ OwnInts wr w.heap.size vl m l))
      case atStart => exact ⟨_, _, m0, 1, 0, l, [x], rfl, rfl, rfl, hide2 (by omega), AB, GM, hide2 (fun h => absurd h (by omega))⟩
      case round =>
        clear AB GM
        obtain ⟨vl, vg, m, n1, k, l, grp, rfl, rfl, rfl, HK, AB, GM, NE⟩ := hrel
        obtain ⟨gg, gc, rfl, hG, hGB⟩ := GM.out.gi
        have hgl := hG.len
        have hgn := hG.le
        by_cases hk : k < n1
        · have hki : (k : Int) < (n1 : Int) := by omega
          obtain ⟨z, hz⟩ : ∃ z, grp[k]? = some z := ⟨_, List.getElem?_eq_getElem (by omega)⟩
          have HZ := hide2 (show grp[k]? = some z ∧ k < grp.length from ⟨hz, by omega⟩)
          obtain ⟨A3, c3, rfl, hI⟩ := GM.out.lf
          have HL := hide2 hI.len
          have HKM := hide2 (show m ≤ 26 ∧ k ≤ 26 by have := HK.out; have := HN.out; have := hgk.out; omega)
          have HG0 := hide2 (show gk - 1 < gk ∧ m0 + 1 ≤ (k + 1) + (gk - 1) by have := HK.out; omega)
          obtain ⟨g2, hg2⟩ : ∃ x : Nat, x = gk := ⟨_, rfl⟩
          subst hg2
          clear hG hGB hgl hgn hz hI hk
          go_wp2
          go_loopg [7, 9, 29] m (fun gk s7 s9 s29 wr => ∃ vg vr n1' n2 i, vg = s7 ∧ vr = s9 ∧ s29 = .int .i64 (i : Nat) ∧ Hid (i + gk = m ∧ n1' + n2 + gk = m0 + 1) ∧ Hid (GrM w wr (.slice A3 m c3) vg vr vo m n1' n2 n3 l (grp ++ (l.take i).filter (lkB lk z)) ((l.take i).filter fun b => !lkB lk z b) G))
          case atStart => exact ⟨_, _, n1, 0, 0, rfl, rfl, rfl, hide2 (by have := HK.out; omega), hide2 (by simpa using GM.out)⟩
          case round =>
            clear GM NE
            obtain ⟨vg, vr, n1', n2, i, rfl, rfl, rfl, HI, GN⟩ := hrel
            by_cases hi : i < m
            · have him : (i : Int) < (m : Int) := by omega
              obtain ⟨A4, c4, e4, hI⟩ := GN.out.lf
              injection e4 with e41 _ e42
              subst e41 e42
              obtain ⟨b, off, y, eA, hbl, hy, hc⟩ := hI.get hi
              subst eA
              obtain ⟨g3, c5, rfl, hG3, _⟩ := GN.out.gi
              have hcz := hG3.cell (i := k) (x := z) (by rw [List.getElem?_append_left HZ.out.2]; exact HZ.out.1)
              have hk3 : (k : Int) < (n1' : Int) := by
                have := hG3.len
                rw [List.length_append] at this
                have := HZ.out.2
                omega
              have hg3 := hG3.lt
              have HY := hide2 (show l[i]? = some y from hy)
              have zM := LS.out z ((AB.out.mem z).2 (.inl (List.mem_of_getElem? HZ.out.1)))
              have yM := LS.out y ((AB.out.mem y).2 (.inr (List.mem_of_getElem? hy)))
              have CL1 := hide2 (HF.out.calls wr z y zM yM GN.out.bel)
              have CL2 := hide2 (fun (w2 : World) (hb : Below wr.heap.size wr w2) => HF.out.calls w2 y z yM zM (GN.out.bel.trans (hb.mono GN.out.bel.size)))
              have HJ := hide2 (show gk - 1 < gk ∧ (i + 1) + (gk - 1) = m ∧ (n1' + 1) + n2 + (gk - 1) = m0 + 1 ∧ n1' + (n2 + 1) + (gk - 1) = m0 + 1 ∧ n1' ≤ 25 ∧ n2 ≤ 25 by have := HI.out; have := HN.out; have := hgk.out; have := hl.out; omega)
              clear hG3 hI hy hi zM yM
              go_upto_region 13 with fail
              go_cut [48] from 48 to 48 (fun s wx => ∃ bb : Bool, s = .bool bb ∧ Hid (bb = lkB lk z y) ∧ Hid (Below wr.heap.size wr wx))
              case first =>
                cases h1 : lk z y
                · have HB := hide2 h1
                  clear h1
                  go_wp2_with fail
                  refine CL1.out.mono ?_
                  rw [HB.out]
                  rintro e w2 ⟨rfl, hb2⟩
                  have hcz2 := (hb2.cell (p := ⟨g3, k, none⟩) hg3).trans hcz
                  have BB := hide2 hb2
                  clear hb2 hcz hc
                  go_wp2_with fail
                  refine (CL2.out w2 BB.out).mono ?_
                  rintro e w3 ⟨rfl, hb3⟩
                  have B3 := hide2 (BB.out.trans (hb3.mono BB.out.size))
                  clear hb3
                  go_wp2
                  go_meet
                  exact ⟨lk y z, rfl, hide2 (by unfold lkB; rw [HB.out]; rfl), B3⟩
                · have HB := hide2 h1
                  clear h1
                  go_wp2_with fail
                  refine CL1.out.mono ?_
                  rw [HB.out]
                  rintro e w2 ⟨rfl, hb2⟩
                  have BB := hide2 hb2
                  clear hb2
                  go_wp2
                  go_meet
                  exact ⟨true, rfl, hide2 (by unfold lkB; rw [HB.out]; rfl), BB⟩
              case rest =>
              obtain ⟨bb, rfl, HB, BB⟩ := hcut
              have GN := hide2 (GN.out.keep BB.out)
              have TK := hide2 (show l.take (i + 1) = l.take i ++ [y] by rw [List.take_add_one, HY.out]; rfl)
              have hB := GN.out.bel.size
              clear hc hcz BB
              have hwi : IntKind.i64.wrap ((i : Int) + 1) = ((i + 1 : Nat) : Int) := by
                have := HJ.out.2.1
                have := HKM.out
                simp [IntKind.wrap, IntKind.bits, IntKind.signed]; omega
              have hn1 : n1' ≤ 26 := by have := HJ.out; omega
              have hn2 : n2 ≤ 26 := by have := HJ.out; omega
              cases bb
              · have FN := hide2 (show (l.take (i + 1)).filter (lkB lk z) = (l.take i).filter (lkB lk z) ∧ (l.take (i + 1)).filter (fun b => !lkB lk z b) = (l.take i).filter (fun b => !lkB lk z b) ++ [y] by
                  rw [TK.out, List.filter_append, List.filter_append]
                  have := HB.out
                  simp [← this])
                clear HB TK
                go_wp2_with (at_builtin; refine wpList_appIntAt rfl _ _ rfl rfl rfl rfl GN.out.rs hB hn2 ?_; intro v8 w8 own8 hg8 hl8; have GV := hide2 (GN.out.appR own8 hg8 hl8))
                go_roundg (gk - 1)
                case measure => exact HJ.out.1
                case rel => exact ⟨_, v8, n1', n2 + 1, i + 1, rfl, rfl, rfl, hide2 ⟨HJ.out.2.1, HJ.out.2.2.2.1⟩, hide2 (by rw [FN.out.1, FN.out.2]; exact GV.out)⟩
              · have FN := hide2 (show grp ++ (l.take (i + 1)).filter (lkB lk z) = grp ++ (l.take i).filter (lkB lk z) ++ [y] ∧ (l.take (i + 1)).filter (fun b => !lkB lk z b) = (l.take i).filter (fun b => !lkB lk z b) by
                  rw [TK.out, List.filter_append, List.filter_append]
                  have := HB.out
                  simp [← this])
                clear HB TK
                rcases GN.out.gw with ⟨o, ne⟩ | ⟨h1, g6, e6⟩
                · have NE := hide2 ne
                  clear ne
                  go_wp2_with (at_builtin; refine wpList_appIntAt rfl _ _ rfl rfl rfl rfl o hB hn1 ?_; intro v8 w8 own8 hg8 hl8; have GV := hide2 (GN.out.appG ⟨o, NE.out⟩ own8 hg8 hl8))
                  go_roundg (gk - 1)
                  case measure => exact HJ.out.1
                  case rel => exact ⟨v8, _, n1' + 1, n2, i + 1, rfl, rfl, rfl, hide2 ⟨HJ.out.2.1, HJ.out.2.2.1⟩, hide2 (by rw [FN.out.1, FN.out.2]; exact GV.out)⟩
                · subst h1
                  injection e6 with e61 _ e62
                  subst e62
                  have SRC : Ints wc (some ⟨g3, 0, none⟩) 1 1 (grp ++ (l.take i).filter (lkB lk z)) := by
                    obtain ⟨g7, c7, e7, h7, _⟩ := GN.out.gi
                    injection e7 with e71 _ e72
                    subst e72
                    injection e71 with e71
                    injection e71 with e71
                    subst e71
                    exact h7.ints (by omega)
                  clear e61
                  go_wp2_with (at_builtin; refine wpList_appClipI rfl _ _ rfl rfl rfl rfl SRC (by omega) ?_; intro g8 c8 w8 own8 hb8; have GV := hide2 (GN.out.appC own8 hb8))
                  go_roundg (gk - 1)
                  case measure => exact HJ.out.1
                  case rel => exact ⟨_, _, 1 + 1, n2, i + 1, rfl, rfl, rfl, hide2 ⟨HJ.out.2.1, HJ.out.2.2.1⟩, hide2 (by rw [FN.out.1, FN.out.2]; exact GV.out)⟩
            · have hie : l.take i = l := List.take_of_length_le (by have := HL.out; omega)
              have him : ¬ (i : Int) < (m : Int) := by omega
              rw [hie] at GN
              have HI2 := hide2 (show n1' + n2 = m0 + 1 by have := HI.out; omega)
              have GT := hide2 (GN.out.turn (by have := HI2.out; have := HN.out; have := hgk.out; have := hl.out; omega))
              have NE2 := hide2 (show vg.ownBlock ≠ vr.ownBlock by
                obtain ⟨g9, c9, e9, _⟩ := GN.out.gi
                rcases GT.out.2 with e | e
                · rw [e, e9]; exact fun e => nomatch e
                · exact fun e2 => e e2.symm)
              have RS := hide2 GN.out.rs
              have AN := hide2 (AB.out.next HZ.out.1 LS.out)
              have hwk : IntKind.i64.wrap ((k : Int) + 1) = ((k + 1 : Nat) : Int) := by
                have := HKM.out
                simp [IntKind.wrap, IntKind.bits, IntKind.signed]; omega
              clear hie hi GN HI
              go_wp2
              go_roundg (g2 - 1)
              case measure => exact HG0.out.1
              case rel => exact ⟨vr, vg, n2, n1', k + 1, _, _, rfl, rfl, rfl, hide2 ⟨HG0.out.2, HI2.out⟩, AN, hide2 GT.out.1, hide2 (fun _ => ⟨NE2.out, RS.out⟩)⟩
        · have hki : ¬ (k : Int) < (n1 : Int) := by omega
          have HK2 := hide2 (show k = grp.length ∧ 0 < k ∧ n1 ≤ 26 ∧ n3 ≤ 25 ∧ m ≤ go - 1 ∧ go - 1 < go ∧ (n3 + 1) + m ≤ n by
            have h1 := AB.out.k1
            have h2 := HK.out
            have h3 := hgk.out
            have h4 := HN.out
            have h5 : grp.length ≠ 0 := fun e => AB.out.ne (List.length_eq_zero_iff.1 e)
            omega)
          have GB0 := hide2 hGB
          have CS := hide2 (sortHas_calls (P := fun q => w.heap.size ≤ q ∧ vl.ownBlock ≠ some q) ⟨gg, gc, rfl, hG, hGB, fun e => (NE.out HK2.out.2.1).1 e.symm⟩ (by have := HK2.out; omega))
          have OL := hide2 (NE.out HK2.out.2.1)
          have hB := GM.out.bel.size
          clear hG hgl hgn hk NE
          go_wp2_with fail
          refine CS.out.mono ?_
          rintro e w2 ⟨rfl, hs2, hg2⟩
          obtain ⟨c1, o1, _⟩ := GM.out.ou
          have hne : vo.ownBlock = none ∨ vo.ownBlock ≠ some gg := by
            obtain ⟨g8, c8, e8, h8, _⟩ := GM.out.gi
            injection e8 with e8 _ _
            injection e8 with e8
            injection e8 with e8
            subst e8
            obtain ⟨cur, hcur, _⟩ := h8.blk
            rcases o1.2 with ⟨e, _⟩ | ⟨g9, cap9, cur9, e, _, hb9, _⟩
            · exact .inl (by rw [e]; rfl)
            · refine .inr ?_
              rw [e]
              intro e2
              injection e2 with e2
              change g9 = gg at e2
              subst e2
              rw [hb9] at hcur
              injection hcur with hcur
              injection hcur with _ hcur _
              exact absurd hcur (by decide)
          have OU := hide2 (show RowP w2 (fun q => w.heap.size ≤ q ∧ vl.ownBlock ≠ some q) w.heap.size vo n3 G from
            (GM.out.ou.grown hg2 (fun k hk hp => hp.2.2.1 hk) hne).wide (fun k _ hp => ⟨hp.1, hp.2.1⟩))
          have LF := hide2 (show OwnInts w2 w.heap.size vl m l from OL.out.2.kept hg2 (.inr (fun e => OL.out.1 e.symm)) (fun _ _ x => x))
          have BE := hide2 (show Below w.heap.size w w2 from GM.out.bel.grown hg2 hB (fun k hk => by injection hk with hk; rw [← hk]; exact GB0.out))
          obtain ⟨gs, cs, es, hs3, hs4⟩ := hs2
          injection es with es1 _ es2
          injection es1 with es1
          injection es1 with es1
          subst es1 es2
          have RD := hide2 (show Reads (ApR (fun q => w.heap.size ≤ q ∧ vl.ownBlock ≠ some q)) 1 w2 [.slice (some ⟨gg, 0, none⟩) n1 gc] [grp.mergeSort fun x y => decide (x ≤ y)] from Reads.list1 ⟨gg, n1, gc, rfl, hs3, hs4, by have := HK2.out; omega⟩)
          have GI2 := hide2 (show GrI lk ls (G ++ [grp.mergeSort fun x y => decide (x ≤ y)]) l from (HK2.out.1 ▸ AB.out).group GI.out (List.mergeSort_perm _ _) (sort_strict AB.out.nd))
          have hB2 := BE.out.size
          have h24 : (n3 + 1) * 24 ≤ 140737488355328 := by have := HK2.out; omega
          have h26 : n3 + 1 ≤ 281474976710656 := by omega
          have KP := hide2 (show ∀ w', w2.grownBy w' vo.ownBlock → ∀ vs y, ApR (fun q => w.heap.size ≤ q ∧ vl.ownBlock ≠ some q) w2 vs y → ApR (fun q => w.heap.size ≤ q ∧ vl.ownBlock ≠ some q) w' vs y from by
            obtain ⟨c2, o2, _⟩ := OU.out
            exact fun w' hg vs y hy => hy.grownRow o2 (by decide) hg)
          clear hs3 hs4 hne o1 hg2
          go_wp2_with (at_builtin; refine wpList_appNewAt (v := vo) tyLists rfl _ _ rfl [grp.mergeSort fun x y => decide (x ≤ y)] _ rfl rfl rfl rfl (by simp [Value.oneCell']) OU.out RD.out rfl hB2 h26 h24 KP.out ?_; intro v9 w9 own9 hg9 hl9; have O9 := hide2 own9; have G9 := hide2 hg9)
          go_roundg (go - 1)
          case measure => exact HK2.out.2.2.2.2.2.1
          case rel =>
            refine ⟨v9, vl, m, n3 + 1, l, _, rfl, rfl, hide2 ⟨HK2.out.2.2.2.2.1, HK2.out.2.2.2.2.2.2⟩, hide2 ⟨BE.out.grown G9.out hB2 (fun k hk => (OU.out.lt k hk).1), ?_, O9.out⟩, GI2⟩
            obtain ⟨c2, o2, _⟩ := OU.out
            obtain ⟨c3, o3, o4, o5⟩ := LF.out
            exact OwnSl.kept ⟨c3, o3, o4, o5⟩ G9.out (own_apart o3 o2 (by decide)) (fun _ _ x => x)
end Go.Proofs.YtcopnfdknclhnaaGreat
