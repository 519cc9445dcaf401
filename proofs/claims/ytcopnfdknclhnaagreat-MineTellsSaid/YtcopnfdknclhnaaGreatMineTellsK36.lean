/- mine's order and beside. Conditions: the log reads as lists and prints; what is found with less fuel is told. -/
import Derived.Test.YtcopnfdknclhnaaGreatMineTellsK35
import Derived.Laws.EntriesVeiled
namespace Go.Proofs.YtcopnfdknclhnaaGreat
open Go.RowKit Go.Maps

theorem nodup_lenM {α : Type} [DecidableEq α] : ∀ (l all : List α), l.Nodup → (∀ x ∈ l, x ∈ all) → l.length ≤ all.length
  | [], _, _, _ => by simp
  | a :: l, all, hn, hs => by
    have ha : a ∈ all := hs a (by simp)
    have hal : a ∉ l := (List.nodup_cons.1 hn).1
    have := nodup_lenM l (all.erase a) (List.nodup_cons.1 hn).2 (fun x hx => (List.mem_erase_of_ne (a := x) (b := a) (by intro e; subst e; exact hal hx)).2 (hs x (by simp [hx])))
    rw [List.length_erase_of_mem ha] at this
    have : 0 < all.length := List.length_pos_of_mem ha
    simp only [List.length_cons]
    omega
theorem behind_count {log : List (List Int)} {p : PPrints} (hp : ShowsP log p) (h0 : wrongV log = 0) : p.behind.length ≤ 1000 := by
  have h := nodup_lenM p.behind (prsG ((List.range 26).map fun i : Nat => (i : Int) + 1)) (hp.2.2.2.1.imp (fun {a b} hab e => by subst e; unfold pairLt at hab; omega)) (fun q hq => by
    obtain ⟨t, ht, k, h1, h2⟩ := (hp.2.2.2.2 q).1 hq
    have a1 := hp.lab h0 q.1 ((hp.1.2 _).2 ⟨t, ht, List.mem_of_getElem? h1⟩)
    have a2 := hp.lab h0 q.2 ((hp.1.2 _).2 ⟨t, ht, List.mem_of_getElem? h2⟩)
    have m : ∀ a : Int, 1 ≤ a ∧ a ≤ 26 → a ∈ (List.range 26).map fun i : Nat => (i : Int) + 1 := fun a ha => List.mem_map.2 ⟨(a - 1).toNat, by rw [List.mem_range]; omega, by omega⟩
    exact mem_prsG.2 ⟨m _ a1, m _ a2⟩)
  have e : (prsG ((List.range 26).map fun i : Nat => (i : Int) + 1)).length = 676 := by decide +kernel
  omega
/-- What a cut answers: if P holds, T; if not, nothing. -/
def AnsCutP (d : Nat) (P : Prop) (T : PBlk) (w : World) (e : Ending) (w' : World) : Prop := (P → AnsCut d true T w e w') ∧ (¬ P → AnsCut d false zeroB w e w')
theorem cut_ways (d : Nat) (P : Prop) (T : PBlk) (w : World) : (∀ {w' : World} (v : Value), P → BlkA (fun k => w.heap.size ≤ k) d w' v T → Below w.heap.size w w' → AnsCutP d P T w (.returned (.tuple #[v, .bool true])) w') ∧ (∀ {w' : World} (v : Value), ¬ P → BlkA (fun k => w.heap.size ≤ k) d w' v zeroB → Below w.heap.size w w' → AnsCutP d P T w (.returned (.tuple #[v, .bool false])) w') :=
  ⟨fun v hP hb hw => ⟨fun _ => ⟨v, rfl, hb, hw⟩, fun h => absurd hP h⟩, fun v hP hb hw => ⟨fun h => absurd h hP, fun _ => ⟨v, rfl, hb, hw⟩⟩⟩
noncomputable def seqT (f : Nat) (log : List (List Int)) (p : PPrints) : PBlk := .mk 3 0 ((ordG (leadB p) (grpL (alikeB (leadB p)) p.labels)).map fun g => findB f (ontoL log g))
noncomputable def bothT (f : Nat) (log : List (List Int)) (p : PPrints) : PBlk := .mk 5 0 ((grpL (awayB p) p.labels).map fun g => findB f (ontoL log g))
def seqP (p : PPrints) : Prop := 2 ≤ (grpL (alikeB (leadB p)) p.labels).length
def bothP (p : PPrints) : Prop := 2 ≤ (grpL (awayB p) p.labels).length ∧ ((grpL (awayB p) p.labels).all fun g => meetB g p.first && meetB g p.last) = true
theorem tabF_of (G : List (List Int)) : tabF (fun k => (G[k]?).getD []) G.length = G := by
  apply List.ext_getElem?
  intro k
  by_cases hk : k < G.length
  · rw [tabF_at hk, List.getElem?_eq_getElem hk]; rfl
  · rw [List.getElem?_eq_none (by rw [tabF_len]; omega), List.getElem?_eq_none (by omega)]
theorem good_of {G : List (List Int)} (h : G.Nodup) : GoodF (fun x => x ∈ G) (fun k => (G[k]?).getD []) G.length where
  mem := fun k hk => by simp only [List.getElem?_eq_getElem hk, Option.getD_some]; exact List.getElem_mem hk
  inj := fun i j hi hj e => by
    simp only [List.getElem?_eq_getElem hi, List.getElem?_eq_getElem hj, Option.getD_some] at e
    rcases Nat.lt_trichotomy i j with h1 | h1 | h1
    · exact absurd e (List.pairwise_iff_getElem.1 h i j hi hj h1)
    · exact h1
    · exact absurd e.symm (List.pairwise_iff_getElem.1 h j i hj hi h1)
/-- What is sorted is the order. -/
theorem order_of {lds : Int → Int → Bool} {ls : List Int} {G : List (List Int)} (hG : IsGr (alikeB lds) ls G) {q : Nat → List Int} (h1 : GoodF (fun x => x ∈ G) q G.length) (h2 : SegF (ltG lds) q 0 G.length) (h3 : SameF q (fun k => (G[k]?).getD []) 0 G.length) : ordG lds G = tabF q G.length := by
  refine ordG_is hG ?_ ?_ (fun x => ?_)
  · unfold tabF
    refine List.nodup_iff_pairwise_ne.2 (List.pairwise_map.2 ((List.pairwise_lt_range).imp_of_mem (fun {a b} ha hb hab e => ?_)))
    have := h1.inj a b (List.mem_range.1 ha) (List.mem_range.1 hb) e
    omega
  · unfold tabF
    exact List.pairwise_map.2 ((List.pairwise_lt_range).imp_of_mem (fun {a b} ha hb hab => h2 a b (Nat.zero_le _) hab (List.mem_range.1 hb)))
  · unfold tabF
    rw [List.mem_map]
    constructor
    · rintro ⟨k, hk, rfl⟩
      exact h1.mem k (List.mem_range.1 hk)
    · intro hx
      obtain ⟨k, hk, rfl⟩ := List.getElem_of_mem hx
      obtain ⟨j, _, j2, e⟩ := h3.all k (Nat.zero_le _) hk
      exact ⟨j, List.mem_range.2 j2, by rw [e]; simp [List.getElem?_eq_getElem hk]⟩

set_option maxRecDepth 100000 in
set_option maxHeartbeats 4000000 in
theorem mnOrder_calls {f : Nat} (IH : FindIH f) {w : World} {A A1 A2 A3 A4 : Option Addr} {n c n1 c1 n2 c2 n3 c3 n4 c4 : Nat} {log : List (List Int)} {p : PPrints} (h : LogI w A A1 A2 A3 A4 n c n1 c1 n2 c2 n3 c3 n4 c4 log p) (hp : ShowsP log p) (hf : Fuel (f + 1) log) :
    Calls Tryz.prog 26 #[logV A A1 A2 A3 A4 n c n1 c1 n2 c2 n3 c3 n4 c4] w (AnsCutP (f + 3) (seqP p) (seqT f log p) w) := by
  have CUT := hide2 (cut_ways (f + 3) (seqP p) (seqT f log p) w)
  have H := hide2 h
  have HSP := hide2 hp
  have HFU := hide2 hf
  have NN := hide2 (show n ≤ 60 ∧ p.labels.length ≤ 26 ∧ p.labels.Pairwise (· < ·) from ⟨by rw [← h.il.len]; exact hf.n, asc_count hp.1.1 (hp.lab hf.1), hp.1.1⟩)
  have OK := hide2 (show (∀ a ∈ p.labels, okI a) ∧ (∀ q ∈ p.behind, okP q) from ⟨hp.lab hf.1, fun q hq => by
    obtain ⟨t, ht, k, h1, h2⟩ := (hp.2.2.2.2 q).1 hq
    exact ⟨hp.lab hf.1 q.1 ((hp.1.2 _).2 ⟨t, ht, List.mem_of_getElem? h1⟩), hp.lab hf.1 q.2 ((hp.1.2 _).2 ⟨t, ht, List.mem_of_getElem? h2⟩)⟩⟩)
  have IHH := hide2 IH
  clear h hp hf IH
  obtain ⟨LV, hLV⟩ : ∃ LV : Array Value, LV = #[.slice A n c, .slice A1 n1 c1, .slice A2 n2 c2, .slice A3 n3 c3, .slice A4 n4 c4] := ⟨_, rfl⟩
  have B0 := hide2 ((boxBelow w (.cells #[.slice A n c, .slice A1 n1 c1, .slice A2 n2 c2, .slice A3 n3 c3, .slice A4 n4 c4] 47)).alloc (by simp) (.cells #[.int .i64 0, .int .i64 0, .slice none 0 0] 25))
  have X0 := hide2 (show Box ((w.alloc (.cells #[.slice A n c, .slice A1 n1 c1, .slice A2 n2 c2, .slice A3 n3 c3, .slice A4 n4 c4] 47)).alloc (.cells #[.int .i64 0, .int .i64 0, .slice none 0 0] 25)) w.heap.size 47 LV from by subst hLV; exact (Box.new w _ _).old _)
  have X1 := hide2 (show Box ((w.alloc (.cells #[.slice A n c, .slice A1 n1 c1, .slice A2 n2 c2, .slice A3 n3 c3, .slice A4 n4 c4] 47)).alloc (.cells #[.int .i64 0, .int .i64 0, .slice none 0 0] 25)) (w.heap.size + 1) 25 #[.int .i64 0, .int .i64 0, .slice none 0 0] from Box.newAt (by simp) _ _)
  have HLV := hide2 hLV
  clear hLV
  go_enter Tryz.func26, Tryz.ntmps26
  go_upto_region 1 with fail
  generalize ((w.alloc (.cells #[.slice A n c, .slice A1 n1 c1, .slice A2 n2 c2, .slice A3 n3 c3, .slice A4 n4 c4] 47)).alloc (.cells #[.int .i64 0, .int .i64 0, .slice none 0 0] 25)) = w1 at *
  have x0 : w1.cell? ⟨w.heap.size, 0, none⟩ = some (.slice A n c) := (X0.out.cell 0).trans (by rw [HLV.out]; rfl)
  have x1 : w1.cell? ⟨w.heap.size, 1, none⟩ = some (.slice A1 n1 c1) := (X0.out.cell 1).trans (by rw [HLV.out]; rfl)
  have x2 : w1.cell? ⟨w.heap.size, 2, none⟩ = some (.slice A2 n2 c2) := (X0.out.cell 2).trans (by rw [HLV.out]; rfl)
  have x3 : w1.cell? ⟨w.heap.size, 3, none⟩ = some (.slice A3 n3 c3) := (X0.out.cell 3).trans (by rw [HLV.out]; rfl)
  have x4 : w1.cell? ⟨w.heap.size, 4, none⟩ = some (.slice A4 n4 c4) := (X0.out.cell 4).trans (by rw [HLV.out]; rfl)
  have CL := hide2 (mnLeads_calls (H.out.keep B0.out) OK.out.1 OK.out.2 (by rw [← H.out.ip.i1.len]; exact NN.out.2.1) (by rw [← H.out.ip.i4.len]; exact behind_count HSP.out HFU.out.1))
  go_wp2_with fail
  refine CL.out.mono ?_
  rintro e w2 ⟨b, bm, q, rfl, xb, mb, hb2⟩
  have LF2 := hide2 (show LdF w2 b bm (leadB p) from ⟨xb, q, mb⟩)
  have LT2 := hide2 (And.intro (And.intro xb.lt mb.lt) hb2.size)
  have D2 := hide2 (B0.out.trans (hb2.mono B0.out.size))
  have B3 := hide2 (boxBelow w2 (.cells #[ldV b] 58))
  have TB := hide2 (Box.new w2 #[ldV b] 58)
  have D3 := hide2 (D2.out.trans (B3.out.mono D2.out.size))
  have X2 := hide2 ((X0.out.keep hb2).keep B3.out)
  have X3 := hide2 ((X1.out.keep hb2).keep B3.out)
  have y0 : w2.cell? ⟨w.heap.size, 0, none⟩ = some (.slice A n c) := ((X0.out.keep hb2).cell 0).trans (by rw [HLV.out]; rfl)
  clear x0 x1 x2 x3 x4 xb mb hb2 CL
  go_upto_region 2 with fail
  clear y0
  have HS3 := hide2 (show (w2.alloc (.cells #[ldV b] 58)).heap.size = w2.heap.size + 1 by simp)
  generalize hw3 : w2.alloc (.cells #[ldV b] 58) = w3 at *
  clear hw3
  have x1 : w3.cell? ⟨w.heap.size, 1, none⟩ = some (.slice A1 n1 c1) := (X2.out.cell 1).trans (by rw [HLV.out]; rfl)
  have CG := hide2 (groups_calls (H.out.keep D3.out).ip.i1 (by rw [← H.out.ip.i1.len]; exact NN.out.2.1) NN.out.2.2 (order1_lk OK.out.1 TB.out (LF2.out.keep B3.out)))
  go_wp2_with fail
  refine CG.out.mono ?_
  rintro e w4 ⟨vo, m, rfl, hm, rg, hG, hb4⟩
  have ML := hide2 (show (grpL (alikeB (leadB p)) p.labels).length = m from OwnSl.len rg)
  have RG := hide2 rg
  have GR := hide2 hG
  have HM := hide2 hm
  have B4 := hide2 hb4
  have D4 := hide2 (D3.out.trans (hb4.mono D3.out.size))
  have X4 := hide2 (X2.out.keep hb4)
  have X5 := hide2 (X3.out.keep hb4)
  have TB4 := hide2 (TB.out.keep hb4)
  have LF4 := hide2 ((LF2.out.keep B3.out).keep hb4)
  clear x1 hG hb4 hm CG
  by_cases hlt : m < 2
  · have hmi : (m : Int) < 2 := by omega
    have NO := hide2 (show ¬ seqP p by unfold seqP; rw [ML.out]; omega)
    obtain ⟨AG, cG, rfl, _⟩ := RowG.lists rg (by omega)
    clear rg hlt
    have BA := hide2 (show BlkA (fun k => w4.heap.size ≤ k) (f + 3) w4 (.agg #[.int .i64 0, .int .i64 0, .slice none 0 0]) zeroB from ⟨none, 0, 0, rfl, Sl.nil0, fun h => absurd h (by omega)⟩)
    have hgt := X5.out.lt
    obtain ⟨u0, u1, u2⟩ := X5.out.three
    have fz := fun j => X5.out.frozen j
    have W5 := hide2 (blk_set (w := w) BA.out X5.out (Below.refl _ _) D4.out (by omega) (by omega))
    clear hgt
    go_wp2
    generalize (((w4.setCell ⟨w.heap.size + 1, 0, none⟩ (.int .i64 0)).setCell ⟨w.heap.size + 1, 1, none⟩ (.int .i64 0)).setCell ⟨w.heap.size + 1, 2, none⟩ (.slice none 0 0)) = w5 at *
    obtain ⟨z0, z1, z2⟩ := W5.out.1.three
    exact bodyPost_ret (v := .tuple #[.agg #[.int .i64 0, .int .i64 0, .slice none 0 0], .bool false]) (by simp [results, Tryz.results26, go_sem, z0, z1, z2]) rfl (CUT.out.2 _ NO.out W5.out.2.1 W5.out.2.2)
  · have hmi : ¬ (m : Int) < 2 := by omega
    have YES := hide2 (show seqP p by unfold seqP; rw [ML.out]; omega)
    obtain ⟨g, cap, rfl, hgB, hgl⟩ : ∃ g cap, vo = .slice (some ⟨g, 0, none⟩) m cap ∧ w3.heap.size ≤ g ∧ g < w4.heap.size := by
      obtain ⟨cells, o1, _⟩ := rg
      exact o1.form (by omega)
    have RF := hide2 (show RowF w4 w3.heap.size w3.heap.size g m cap (fun k => ((grpL (alikeB (leadB p)) p.labels)[k]?).getD []) from by
      have e := tabF_of (grpL (alikeB (leadB p)) p.labels)
      rw [ML.out] at e
      show OwnSl _ _ _ _ _ _ _ (tabF _ m)
      rw [e]
      exact RG.out)
    have tr := fun a b c (_ : a ∈ p.labels) (hb : b ∈ p.labels) (_ : c ∈ p.labels) h1 h2 => leadB_trans HSP.out a b c hb h1 h2
    have CS := hide2 (sortStableL_calls (R := ltG (leadB p)) (S := fun x => x ∈ grpL (alikeB (leadB p)) p.labels) RF.out HM.out
      ⟨fun x y hx hy hne => ltG_one GR.out hx hy hne, fun x y z hx hy hz h1 h2 => ltG_trans tr GR.out hx hy hz h1 h2⟩
      (by have := good_of (GR.out.nodup); rwa [ML.out] at this)
      (order2_cmp (b := b) (bm := bm) (fun x hx => ⟨GR.out.ne x hx, fun a ha => OK.out.1 a (GR.out.sub x hx a ha)⟩) TB4.out LF4.out (by have := HS3.out; omega) (by have := HS3.out; have := LT2.out.1; omega) (by have := HS3.out; have := LT2.out.1; omega)))
    have HGB := hide2 (And.intro hgB hgl)
    clear rg hlt tr hgB hgl
    go_wp2_with fail
    refine CS.out.mono ?_
    rintro e w5 ⟨⟨y, rfl⟩, ⟨q2, r1, r2, r3, r4⟩, hg5⟩
    have EO := hide2 (show ordG (leadB p) (grpL (alikeB (leadB p)) p.labels) = tabF q2 m from by
      have := order_of GR.out (q := q2)
      rw [ML.out] at this
      exact this r2 r3 r4)
    have hgw : ∀ k, some g = some k → w.heap.size + 2 ≤ k := fun k hk => by
      injection hk with hk
      have := HGB.out.1
      have := HS3.out
      have := X1.out.lt
      have h9 : w1.heap.size ≤ w2.heap.size := LT2.out.2
      omega
    have D5 := hide2 (show Below w.heap.size w w5 from D4.out.grown hg5 D4.out.size (fun k hk => by have := hgw k hk; omega))
    have X6 := hide2 (X4.out.grown hg5 (fun e => by have := hgw _ e; omega))
    have X7 := hide2 (X5.out.grown hg5 (fun e => by have := hgw _ e; omega))
    obtain ⟨AM, cM, eM, il5⟩ := RowG.lists r1 (by have := HM.out; omega)
    injection eM with eM1 _ eM2
    subst eM1 eM2
    have x0 : w5.cell? ⟨w.heap.size, 0, none⟩ = some (.slice A n c) := (X6.out.cell 0).trans (by rw [HLV.out]; rfl)
    have x1 : w5.cell? ⟨w.heap.size, 1, none⟩ = some (.slice A1 n1 c1) := (X6.out.cell 1).trans (by rw [HLV.out]; rfl)
    have x2 : w5.cell? ⟨w.heap.size, 2, none⟩ = some (.slice A2 n2 c2) := (X6.out.cell 2).trans (by rw [HLV.out]; rfl)
    have x3 : w5.cell? ⟨w.heap.size, 3, none⟩ = some (.slice A3 n3 c3) := (X6.out.cell 3).trans (by rw [HLV.out]; rfl)
    have x4 : w5.cell? ⟨w.heap.size, 4, none⟩ = some (.slice A4 n4 c4) := (X6.out.cell 4).trans (by rw [HLV.out]; rfl)
    have CP := hide2 (mnParts_calls IHH.out (H.out.keep D5.out) il5 3 (fun gx hgx => HFU.out.onto HSP.out YES.out (by
      obtain ⟨k, hk, rfl⟩ := List.mem_map.1 hgx
      exact r2.mem k (List.mem_range.1 hk))) HM.out NN.out.1)
    rw [show (PBlk.mk 3 0 ((tabF q2 m).map fun g => findB f (ontoL log g))) = seqT f log p by unfold seqT; rw [EO.out]] at CP
    clear r1 r2 r3 r4 hg5 il5 hgw CS
    go_wp2_with fail
    refine CP.out.mono ?_
    rintro e w6 ⟨v6, rfl, ⟨A6, n6, c6, rfl, s6, p6⟩, hb6⟩
    have X6 := hide2 (X7.out.keep hb6)
    have BA := hide2 (show BlkA (fun k => w5.heap.size ≤ k) (f + 3) w6 (.agg #[.int .i64 (seqT f log p).kind, .int .i64 (seqT f log p).label, .slice A6 n6 c6]) (seqT f log p) from ⟨A6, n6, c6, rfl, s6, p6⟩)
    generalize (seqT f log p).kind = kd3 at *
    generalize (seqT f log p).label = lb3 at *
    have D6 := hide2 hb6
    have hgt := X7.out.lt
    obtain ⟨u0, u1, u2⟩ := X6.out.three
    have fz := fun j => X6.out.frozen j
    have W7 := hide2 (blk_set (w := w) BA.out X6.out D6.out D5.out (by omega) (by omega))
    clear s6 p6 hb6 hgt CP
    go_wp2
    generalize (((w6.setCell ⟨w.heap.size + 1, 0, none⟩ (.int .i64 kd3)).setCell ⟨w.heap.size + 1, 1, none⟩ (.int .i64 lb3)).setCell ⟨w.heap.size + 1, 2, none⟩ (.slice A6 n6 c6)) = w7 at *
    obtain ⟨z0, z1, z2⟩ := W7.out.1.three
    exact bodyPost_ret (v := .tuple #[.agg #[.int .i64 kd3, .int .i64 lb3, .slice A6 n6 c6], .bool true]) (by simp [results, Tryz.results26, go_sem, z0, z1, z2]) rfl (CUT.out.1 _ YES.out W7.out.2.1 W7.out.2.2)

set_option maxRecDepth 100000 in
set_option maxHeartbeats 4000000 in
theorem mnBeside_calls {f : Nat} (IH : FindIH f) {w : World} {A A1 A2 A3 A4 : Option Addr} {n c n1 c1 n2 c2 n3 c3 n4 c4 : Nat} {log : List (List Int)} {p : PPrints} (h : LogI w A A1 A2 A3 A4 n c n1 c1 n2 c2 n3 c3 n4 c4 log p) (hp : ShowsP log p) (hf : Fuel (f + 1) log) :
    Calls Tryz.prog 27 #[logV A A1 A2 A3 A4 n c n1 c1 n2 c2 n3 c3 n4 c4] w (AnsCutP (f + 3) (bothP p) (bothT f log p) w) := by
  have CUT := hide2 (cut_ways (f + 3) (bothP p) (bothT f log p) w)
  have H := hide2 h
  have HSP := hide2 hp
  have HFU := hide2 hf
  have NN := hide2 (show n ≤ 60 ∧ p.labels.length ≤ 26 ∧ p.labels.Pairwise (· < ·) from ⟨by rw [← h.il.len]; exact hf.n, asc_count hp.1.1 (hp.lab hf.1), hp.1.1⟩)
  have OK := hide2 (show (∀ a ∈ p.labels, okI a) ∧ (∀ q ∈ p.behind, okP q) from ⟨hp.lab hf.1, fun q hq => by
    obtain ⟨t, ht, k, h1, h2⟩ := (hp.2.2.2.2 q).1 hq
    exact ⟨hp.lab hf.1 q.1 ((hp.1.2 _).2 ⟨t, ht, List.mem_of_getElem? h1⟩), hp.lab hf.1 q.2 ((hp.1.2 _).2 ⟨t, ht, List.mem_of_getElem? h2⟩)⟩⟩)
  have IHH := hide2 IH
  clear h hp hf IH
  obtain ⟨LV, hLV⟩ : ∃ LV : Array Value, LV = #[.slice A n c, .slice A1 n1 c1, .slice A2 n2 c2, .slice A3 n3 c3, .slice A4 n4 c4] := ⟨_, rfl⟩
  have B0 := hide2 ((boxBelow w (.cells #[.slice A n c, .slice A1 n1 c1, .slice A2 n2 c2, .slice A3 n3 c3, .slice A4 n4 c4] 47)).alloc (by simp) (.cells #[.int .i64 0, .int .i64 0, .slice none 0 0] 25))
  have X0 := hide2 (show Box ((w.alloc (.cells #[.slice A n c, .slice A1 n1 c1, .slice A2 n2 c2, .slice A3 n3 c3, .slice A4 n4 c4] 47)).alloc (.cells #[.int .i64 0, .int .i64 0, .slice none 0 0] 25)) w.heap.size 47 LV from by subst hLV; exact (Box.new w _ _).old _)
  have X1 := hide2 (show Box ((w.alloc (.cells #[.slice A n c, .slice A1 n1 c1, .slice A2 n2 c2, .slice A3 n3 c3, .slice A4 n4 c4] 47)).alloc (.cells #[.int .i64 0, .int .i64 0, .slice none 0 0] 25)) (w.heap.size + 1) 25 #[.int .i64 0, .int .i64 0, .slice none 0 0] from Box.newAt (by simp) _ _)
  have HLV := hide2 hLV
  clear hLV
  go_enter Tryz.func27, Tryz.ntmps27
  go_upto_region 1 with fail
  generalize ((w.alloc (.cells #[.slice A n c, .slice A1 n1 c1, .slice A2 n2 c2, .slice A3 n3 c3, .slice A4 n4 c4] 47)).alloc (.cells #[.int .i64 0, .int .i64 0, .slice none 0 0] 25)) = w1 at *
  have x0 : w1.cell? ⟨w.heap.size, 0, none⟩ = some (.slice A n c) := (X0.out.cell 0).trans (by rw [HLV.out]; rfl)
  have x1 : w1.cell? ⟨w.heap.size, 1, none⟩ = some (.slice A1 n1 c1) := (X0.out.cell 1).trans (by rw [HLV.out]; rfl)
  have x2 : w1.cell? ⟨w.heap.size, 2, none⟩ = some (.slice A2 n2 c2) := (X0.out.cell 2).trans (by rw [HLV.out]; rfl)
  have x3 : w1.cell? ⟨w.heap.size, 3, none⟩ = some (.slice A3 n3 c3) := (X0.out.cell 3).trans (by rw [HLV.out]; rfl)
  have x4 : w1.cell? ⟨w.heap.size, 4, none⟩ = some (.slice A4 n4 c4) := (X0.out.cell 4).trans (by rw [HLV.out]; rfl)
  have CG := hide2 (groups_calls (H.out.keep B0.out).ip.i1 (by rw [← H.out.ip.i1.len]; exact NN.out.2.1) NN.out.2.2 (beside1_lk p.labels (H.out.keep B0.out) (by rw [← HLV.out]; exact X0.out)))
  go_wp2_with fail
  refine CG.out.mono ?_
  rintro e w2 ⟨vo, m, rfl, hm, rg, hG, hb2⟩
  have ML := hide2 (show (grpL (awayB p) p.labels).length = m from OwnSl.len rg)
  obtain ⟨AG, cG, rfl, ig⟩ := RowG.lists rg (by omega)
  have FV := hide2 (show Value.func (.func 59) #[] #[] = Value.func (.func 59) #[] #[] from rfl)
  have B3 := hide2 (boxBelow w2 (.cells #[.func (.func 59) #[] #[]] 65))
  have TB := hide2 (Box.new w2 #[.func (.func 59) #[] #[]] 65)
  have D3 := hide2 ((B0.out.trans (hb2.mono B0.out.size)).trans (B3.out.mono (Nat.le_trans B0.out.size hb2.size)))
  have IG := hide2 (Sl.keep ListR.kept ig B3.out)
  have HM := hide2 hm
  have GR := hide2 hG
  have X2 := hide2 ((X0.out.keep hb2).keep B3.out)
  have X3 := hide2 ((X1.out.keep hb2).keep B3.out)
  clear x0 x1 x2 x3 x4 rg hG hb2 hm ig CG
  go_upto_region 3 with fail
  generalize w2.alloc (.cells #[.func (.func 59) #[] #[]] 65) = w3 at *
  by_cases hlt : m < 2
  · have hmi : (m : Int) < 2 := by omega
    have NO := hide2 (show ¬ bothP p by unfold bothP; rw [ML.out]; omega)
    clear hlt
    have BA := hide2 (show BlkA (fun k => w3.heap.size ≤ k) (f + 3) w3 (.agg #[.int .i64 0, .int .i64 0, .slice none 0 0]) zeroB from ⟨none, 0, 0, rfl, Sl.nil0, fun h => absurd h (by omega)⟩)
    have hgt := X3.out.lt
    obtain ⟨u0, u1, u2⟩ := X3.out.three
    have fz := fun j => X3.out.frozen j
    have W5 := hide2 (blk_set (w := w) BA.out X3.out (Below.refl _ _) D3.out (by omega) (by omega))
    clear hgt
    go_wp2
    generalize (((w3.setCell ⟨w.heap.size + 1, 0, none⟩ (.int .i64 0)).setCell ⟨w.heap.size + 1, 1, none⟩ (.int .i64 0)).setCell ⟨w.heap.size + 1, 2, none⟩ (.slice none 0 0)) = w5 at *
    obtain ⟨z0, z1, z2⟩ := W5.out.1.three
    exact bodyPost_ret (v := .tuple #[.agg #[.int .i64 0, .int .i64 0, .slice none 0 0], .bool false]) (by simp [results, Tryz.results27, go_sem, z0, z1, z2]) rfl (CUT.out.2 _ NO.out W5.out.2.1 W5.out.2.2)
  · have hmi : ¬ (m : Int) < 2 := by omega
    have TWO := hide2 (show 2 ≤ (grpL (awayB p) p.labels).length by rw [ML.out]; omega)
    have CC := hide2 (containsT_calls IG.out (beside3_pred (bx := w.heap.size) (bf := w2.heap.size) (H.out.keep D3.out) (by rw [← HLV.out]; exact X2.out) TB.out))
    obtain ⟨v, hv⟩ : ∃ v, (grpL (awayB p) p.labels).any (wantB p) = v := ⟨_, rfl⟩
    have HV := hide2 hv
    rw [hv] at CC
    clear hlt hv
    cases v
    · have YES := hide2 (show bothP p from ⟨TWO.out, by
        rw [List.all_eq_true]
        intro g hg
        have := List.any_eq_false.1 HV.out g hg
        unfold wantB at this
        cases h1 : meetB g p.first <;> cases h2 : meetB g p.last <;> simp [h1, h2] at this ⊢⟩)
      go_wp2_with fail
      refine CC.out.mono ?_
      rintro e w5 ⟨rfl, hb5⟩
      have D5 := hide2 (D3.out.trans (hb5.mono D3.out.size))
      have X6 := hide2 (X2.out.keep hb5)
      have X7 := hide2 (X3.out.keep hb5)
      have IG5 := hide2 (Sl.keep ListR.kept IG.out hb5)
      have x0 : w5.cell? ⟨w.heap.size, 0, none⟩ = some (.slice A n c) := (X6.out.cell 0).trans (by rw [HLV.out]; rfl)
      have x1 : w5.cell? ⟨w.heap.size, 1, none⟩ = some (.slice A1 n1 c1) := (X6.out.cell 1).trans (by rw [HLV.out]; rfl)
      have x2 : w5.cell? ⟨w.heap.size, 2, none⟩ = some (.slice A2 n2 c2) := (X6.out.cell 2).trans (by rw [HLV.out]; rfl)
      have x3 : w5.cell? ⟨w.heap.size, 3, none⟩ = some (.slice A3 n3 c3) := (X6.out.cell 3).trans (by rw [HLV.out]; rfl)
      have x4 : w5.cell? ⟨w.heap.size, 4, none⟩ = some (.slice A4 n4 c4) := (X6.out.cell 4).trans (by rw [HLV.out]; rfl)
      have CP := hide2 (mnParts_calls IHH.out (H.out.keep D5.out) IG5.out 5 (fun gx hgx => HFU.out.onto HSP.out TWO.out hgx) HM.out NN.out.1)
      rw [show (PBlk.mk 5 0 ((grpL (awayB p) p.labels).map fun g => findB f (ontoL log g))) = bothT f log p from rfl] at CP
      clear hb5 CC
      go_wp2_with fail
      refine CP.out.mono ?_
      rintro e w6 ⟨v6, rfl, ⟨A6, n6, c6, rfl, s6, p6⟩, hb6⟩
      have X6 := hide2 (X7.out.keep hb6)
      have BA := hide2 (show BlkA (fun k => w5.heap.size ≤ k) (f + 3) w6 (.agg #[.int .i64 (bothT f log p).kind, .int .i64 (bothT f log p).label, .slice A6 n6 c6]) (bothT f log p) from ⟨A6, n6, c6, rfl, s6, p6⟩)
      generalize (bothT f log p).kind = kd3 at *
      generalize (bothT f log p).label = lb3 at *
      have D6 := hide2 hb6
      have hgt := X7.out.lt
      obtain ⟨u0, u1, u2⟩ := X6.out.three
      have fz := fun j => X6.out.frozen j
      have W7 := hide2 (blk_set (w := w) BA.out X6.out D6.out D5.out (by omega) (by omega))
      clear s6 p6 hb6 hgt CP
      go_wp2
      generalize (((w6.setCell ⟨w.heap.size + 1, 0, none⟩ (.int .i64 kd3)).setCell ⟨w.heap.size + 1, 1, none⟩ (.int .i64 lb3)).setCell ⟨w.heap.size + 1, 2, none⟩ (.slice A6 n6 c6)) = w7 at *
      obtain ⟨z0, z1, z2⟩ := W7.out.1.three
      exact bodyPost_ret (v := .tuple #[.agg #[.int .i64 kd3, .int .i64 lb3, .slice A6 n6 c6], .bool true]) (by simp [results, Tryz.results27, go_sem, z0, z1, z2]) rfl (CUT.out.1 _ YES.out W7.out.2.1 W7.out.2.2)
    · have NO := hide2 (show ¬ bothP p from fun h => by
        obtain ⟨g, hg, hw⟩ := List.any_eq_true.1 HV.out
        have := List.all_eq_true.1 h.2 g hg
        unfold wantB at hw
        cases h1 : meetB g p.first <;> cases h2 : meetB g p.last <;> simp [h1, h2] at this hw)
      go_wp2_with fail
      refine CC.out.mono ?_
      rintro e w5 ⟨rfl, hb5⟩
      have D5 := hide2 (D3.out.trans (hb5.mono D3.out.size))
      have X7 := hide2 (X3.out.keep hb5)
      clear hb5 CC
      have BA := hide2 (show BlkA (fun k => w5.heap.size ≤ k) (f + 3) w5 (.agg #[.int .i64 0, .int .i64 0, .slice none 0 0]) zeroB from ⟨none, 0, 0, rfl, Sl.nil0, fun h => absurd h (by omega)⟩)
      have hgt := X7.out.lt
      obtain ⟨u0, u1, u2⟩ := X7.out.three
      have fz := fun j => X7.out.frozen j
      have W5 := hide2 (blk_set (w := w) BA.out X7.out (Below.refl _ _) D5.out (by omega) (by omega))
      clear hgt
      go_wp2
      generalize (((w5.setCell ⟨w.heap.size + 1, 0, none⟩ (.int .i64 0)).setCell ⟨w.heap.size + 1, 1, none⟩ (.int .i64 0)).setCell ⟨w.heap.size + 1, 2, none⟩ (.slice none 0 0)) = w5 at *
      obtain ⟨z0, z1, z2⟩ := W5.out.1.three
      exact bodyPost_ret (v := .tuple #[.agg #[.int .i64 0, .int .i64 0, .slice none 0 0], .bool false]) (by simp [results, Tryz.results27, go_sem, z0, z1, z2]) rfl (CUT.out.2 _ NO.out W5.out.2.1 W5.out.2.2)
end Go.Proofs.YtcopnfdknclhnaaGreat
