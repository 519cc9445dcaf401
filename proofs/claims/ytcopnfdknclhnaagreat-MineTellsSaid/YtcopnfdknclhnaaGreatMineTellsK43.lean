/- Texts melted into one: The functions that the reference's WFind hands on: what is linked, what is handed on for a group. Conditions: the log reads as lists, the prints as lists. | A queue of integers of the call's own, at any place of its block: read, its head taken off, appended to. Conditions: none; plain lemmas on memory. -/
import Derived.Test.YtcopnfdknclhnaaGreatMineTellsK42
import Derived.Test.YtcopnfdknclhnaaGreatMineTellsK23
import Derived.Deep.MidRow
namespace Go.Proofs.YtcopnfdknclhnaaGreat
open Go.RowKit Go.Maps

/-- The prints in a block of their own. -/
def PrB (w : World) (b : Nat) (p : PPrints) : Prop := ∃ A1 A2 A3 A4 n1 c1 n2 c2 n3 c3 n4 c4, Box w b 45 #[.slice A1 n1 c1, .slice A2 n2 c2, .slice A3 n3 c3, .slice A4 n4 c4] ∧ PrI w A1 A2 A3 A4 n1 c1 n2 c2 n3 c3 n4 c4 p
theorem PrB.keep {w w' : World} {b : Nat} {p : PPrints} (h : PrB w b p) (hb : Below w.heap.size w w') : PrB w' b p := by
  obtain ⟨A1, A2, A3, A4, n1, c1, n2, c2, n3, c3, n4, c4, x, i⟩ := h
  exact ⟨A1, A2, A3, A4, n1, c1, n2, c2, n3, c3, n4, c4, x.keep hb, i.keep hb⟩
abbrev w1V (b : Nat) : Value := .func (.func 30) #[] #[.pointer (some ⟨b, 0, none⟩)]
set_option maxRecDepth 100000 in
theorem w1_calls {w : World} {bp : Nat} {p : PPrints} (a b : Int) (h : PrB w bp p) :
    Calls Tryz.prog 30 #[.int .i64 a, .int .i64 b, .pointer (some ⟨bp, 0, none⟩)] w fun e w' => e = .returned (.bool (bhB p a b)) ∧ Below w.heap.size w w' := by
  obtain ⟨A1, A2, A3, A4, n1, c1, n2, c2, n3, c3, n4, c4, x, i⟩ := h
  have C1 := hide2 (containsPair_calls a b i.i4)
  have x3 := x.cell 3
  clear x i
  go_enter Tryz.func30, Tryz.ntmps30
  go_wp2_with (refine C1.out.mono ?_; rintro e w' ⟨rfl, hb⟩; have HB := hide2 hb; clear hb)
  go_ret
  exact ⟨rfl, HB.out⟩
set_option maxRecDepth 100000 in
theorem w2_lk {w : World} {bp b9 : Nat} {p : PPrints} (ls : List Int) (h : PrB w bp p) (x : Box w b9 58 #[w1V bp]) : IsLk 33 #[] #[.pointer (some ⟨b9, 0, none⟩)] w ls (fun a b => bhB p a b || bhB p b a) where
  enters := fun args w => by kernel_rfl
  calls := fun wr a b _ _ hb => by
    have H := hide2 (h.keep hb)
    have X := hide2 (x.keep hb)
    clear h x hb
    simp only [Array.empty_append]
    change Calls _ _ #[.int .i64 a, .int .i64 b, .pointer (some ⟨b9, 0, none⟩)] _ _
    have x0 := X.out.cell 0
    obtain ⟨v, hv⟩ : ∃ v, bhB p a b = v := ⟨_, rfl⟩
    have HV := hide2 hv
    have C1 := hide2 (w1_calls a b H.out)
    rw [hv] at C1
    clear hv
    cases v
    · go_enter Tryz.func33, Tryz.ntmps33
      go_wp2_with fail
      refine C1.out.mono ?_
      rintro e w2 ⟨rfl, hb⟩
      have HB := hide2 hb
      have C2 := hide2 (w1_calls b a (H.out.keep hb))
      have x0 := (X.out.keep hb).cell 0
      clear hb
      go_wp2_with fail
      refine C2.out.mono ?_
      rintro e w3 ⟨rfl, hb3⟩
      have H3 := hide2 (HB.out.trans (hb3.mono HB.out.size))
      clear hb3
      go_wp2
      go_ret
      exact ⟨ret_bool (by first | rfl | (show _ = (bhB p a b || bhB p b a); rw [HV.out]; rfl) | (unfold awayB; rw [HV.out]; rfl)), H3.out⟩
    · go_enter Tryz.func33, Tryz.ntmps33
      go_wp2_with fail
      refine C1.out.mono ?_
      rintro e w2 ⟨rfl, hb⟩
      have HB := hide2 hb
      clear hb
      go_wp2
      go_ret
      exact ⟨ret_bool (by first | rfl | (show _ = (bhB p a b || bhB p b a); rw [HV.out]; rfl) | (unfold awayB; rw [HV.out]; rfl)), HB.out⟩

set_option maxRecDepth 100000 in
theorem w9_lk {w : World} {bp b9 : Nat} {p : PPrints} (ls : List Int) (h : PrB w bp p) (x : Box w b9 58 #[w1V bp]) : IsLk 44 #[] #[.pointer (some ⟨b9, 0, none⟩)] w ls (awayB p) where
  enters := fun args w => by kernel_rfl
  calls := fun wr a b _ _ hb => by
    have H := hide2 (h.keep hb)
    have X := hide2 (x.keep hb)
    clear h x hb
    simp only [Array.empty_append]
    change Calls _ _ #[.int .i64 a, .int .i64 b, .pointer (some ⟨b9, 0, none⟩)] _ _
    have x0 := X.out.cell 0
    obtain ⟨v, hv⟩ : ∃ v, bhB p a b = v := ⟨_, rfl⟩
    have HV := hide2 hv
    have C1 := hide2 (w1_calls a b H.out)
    rw [hv] at C1
    clear hv
    cases v
    · go_enter Tryz.func44, Tryz.ntmps44
      go_wp2_with fail
      refine C1.out.mono ?_
      rintro e w2 ⟨rfl, hb⟩
      have HB := hide2 hb
      clear hb
      go_wp2
      go_ret
      exact ⟨ret_bool (by first | rfl | (show _ = (bhB p a b || bhB p b a); rw [HV.out]; rfl) | (unfold awayB; rw [HV.out]; rfl)), HB.out⟩
    · go_enter Tryz.func44, Tryz.ntmps44
      go_wp2_with fail
      refine C1.out.mono ?_
      rintro e w2 ⟨rfl, hb⟩
      have HB := hide2 hb
      have C2 := hide2 (w1_calls b a (H.out.keep hb))
      have x0 := (X.out.keep hb).cell 0
      clear hb
      go_wp2_with fail
      refine C2.out.mono ?_
      rintro e w3 ⟨rfl, hb3⟩
      have H3 := hide2 (HB.out.trans (hb3.mono HB.out.size))
      clear hb3
      go_wp2
      go_ret
      exact ⟨ret_bool (by first | rfl | (show _ = (bhB p a b || bhB p b a); rw [HV.out]; rfl) | (unfold awayB; rw [HV.out]; rfl)), H3.out⟩

/-- A box that holds a log. -/
def LgB (w : World) (b : Nat) (log : List (List Int)) : Prop := ∃ A n c, Box w b 22 #[.slice A n c] ∧ Lists w A n c log
theorem LgB.keep {w w' : World} {b : Nat} {log : List (List Int)} (h : LgB w b log) (hb : Below w.heap.size w w') : LgB w' b log := by
  obtain ⟨A, n, c, x, i⟩ := h
  exact ⟨A, n, c, x.keep hb, Sl.keep ListR.kept i hb⟩
set_option maxRecDepth 100000 in
theorem w4_part {w : World} {bl : Nat} {log gs : List (List Int)} (h : LgB w bl log) (hn : log.length ≤ 60) : IsPart 37 #[.pointer (some ⟨bl, 0, none⟩)] w gs (fun g => ontoL log g) where
  enters := fun args w => by kernel_rfl
  calls := fun wr B m d g _ hb ig => by
    obtain ⟨A, n, c, x, i⟩ := h.keep hb
    have C1 := hide2 (vonto_calls i ig (by have := i.len; omega))
    have x0 := x.cell 0
    clear x i ig hb h
    change Calls _ _ #[_, .pointer (some ⟨bl, 0, none⟩)] _ _
    go_enter Tryz.func37, Tryz.ntmps37
    go_wp2_with fail
    refine C1.out.mono ?_
    rintro e w2 ⟨v, n', rfl, ow, hn', hb⟩
    obtain ⟨A2, c2, rfl, il⟩ := RowL.lists ow hn'
    have IL := hide2 il
    have HB := hide2 hb
    clear ow il hb hn' C1
    go_wp2
    go_ret
    exact ⟨_, _, _, rfl, IL.out, HB.out⟩
set_option maxRecDepth 100000 in
set_option maxHeartbeats 2000000 in
theorem w3_part {w : World} {bl : Nat} {log gs : List (List Int)} (h : LgB w bl log) (hn : log.length ≤ 60) (he : ∀ t ∈ log, t.length ≠ 0) : IsPart 35 #[.pointer (some ⟨bl, 0, none⟩)] w gs (fun g => log.filter fun t => inS g (t.headD 0)) where
  enters := fun args w => by kernel_rfl
  calls := fun wr B m d g _ hb ig => by
    obtain ⟨A, n, c, x, i⟩ := h.keep hb
    have hl := i.len
    have NN := hide2 (show n ≤ 60 by omega)
    have HE := hide2 he
    have I := hide2 i
    have G := hide2 ig
    have x0 := x.cell 0
    clear x i ig hb h he hl
    change Calls _ _ #[_, .pointer (some ⟨bl, 0, none⟩)] _ _
    go_enter Tryz.func35, Tryz.ntmps35
    go_wp2
    clear x0
    obtain ⟨w1, hw1⟩ : ∃ x : World, x = wr := ⟨_, rfl⟩
    subst hw1
    go_loopg [4, 9] n (fun gk s4 s9 wr => ∃ v k nl, v = s4 ∧ s9 = .int .i64 (k : Nat) ∧ Hid (k + gk = n ∧ nl ≤ k) ∧ Hid (RowN wr w1.heap.size w1.heap.size v nl ((log.take k).filter fun t => inS g (t.headD 0))) ∧ Hid (Below w1.heap.size w1 wr))
    case atStart => exact ⟨_, 0, 0, rfl, rfl, hide2 (by omega), hide2 OwnSl.nil, hide2 (Below.refl _ _)⟩
    case round =>
      obtain ⟨v, k, nl, rfl, rfl, hgk, RO, DB⟩ := hrel
      by_cases hlt : k < n
      · have hki : (k : Int) < (n : Int) := by omega
        obtain ⟨b, off, t, vs, rfl, hb, ht, hc, mt, ⟨Bt, dt, e1, it, lt⟩, hmt⟩ := Sl.get (Sl.keep (LowR.kept _) (Sl.lows I.out) DB.out) hlt
        have q0 : wr.cell? ⟨b, off + k, none⟩ = some (.slice Bt mt dt) := by have := hc 0 (by omega); rw [e1] at this; simpa using this
        have ht0 := HE.out t (List.mem_of_getElem? ht)
        obtain ⟨bt, ot, y, rfl, hbt, hy, qy⟩ := Ints.get it (k := 0) (by have := it.len; omega)
        rw [Nat.add_zero] at qy
        have hmt0 : 0 < mt := by have := it.len; omega
        have HY := hide2 (show t.headD 0 = y from by
          have h1 := hy.out
          cases t with
          | nil => simp at h1
          | cons z t => simpa using h1)
        have HT := hide2 (show log[k]? = some t from ht)
        have HJ := hide2 (show gk - 1 < gk ∧ (k + 1) + (gk - 1) = n ∧ k ≤ 60 ∧ nl + 1 ≤ k + 1 ∧ nl ≤ k + 1 by have := hgk.out; have := NN.out; omega)
        have hwk : IntKind.i64.wrap ((k : Int) + 1) = ((k + 1 : Nat) : Int) := by
          have := HJ.out
          simp [IntKind.wrap, IntKind.bits, IntKind.signed]; omega
        have CC := hide2 (containsInt_calls y (G.out.keep DB.out))
        have RD := hide2 (show Reads (LowR w1.heap.size) 1 wr [.slice (some ⟨bt, ot, none⟩) mt dt] [t] from Reads.list1 ⟨mt, ⟨_, dt, rfl, it, lt⟩, hmt⟩)
        have TK := hide2 (show (log.take (k + 1)).filter (fun t => inS g (t.headD 0)) = (log.take k).filter (fun t => inS g (t.headD 0)) ++ (if inS g y = true then [t] else []) by
          rw [List.take_add_one, HT.out, List.filter_append]
          simp only [Option.toList_some]
          congr 1
          rw [List.filter_cons, HY.out]
          by_cases e : inS g y = true <;> simp [e])
        have hB := DB.out.size
        have h24 : (nl + 1) * 24 ≤ 140737488355328 := by have := HJ.out; omega
        have h26 : nl + 1 ≤ 281474976710656 := by omega
        have KP := hide2 (show ∀ w', wr.grownBy w' v.ownBlock → ∀ vs y, LowR w1.heap.size wr vs y → LowR w1.heap.size w' vs y from fun w' hg vs y hy => hy.grownR hg (fun q hq => (RO.out.lt q hq).1))
        obtain ⟨z, hz⟩ : ∃ z, inS g y = z := ⟨_, rfl⟩
        have HZ := hide2 hz
        rw [show (g.any fun x => y == x) = z from hz] at CC
        clear hc e1 it lt ht0 hy hb hbt hlt hz ht
        cases z
        · have T2 := hide2 (show (log.take (k + 1)).filter (fun t => inS g (t.headD 0)) = (log.take k).filter (fun t => inS g (t.headD 0)) by rw [TK.out, HZ.out]; simp)
          go_wp2_with (refine CC.out.mono ?_; rintro e w' ⟨rfl, rfl⟩)
          go_roundg (gk - 1)
          case measure => exact HJ.out.1
          case rel => exact ⟨v, k + 1, nl, rfl, rfl, hide2 ⟨HJ.out.2.1, HJ.out.2.2.2.2⟩, hide2 (by rw [T2.out]; exact RO.out), DB⟩
        · have T2 := hide2 (show (log.take (k + 1)).filter (fun t => inS g (t.headD 0)) = (log.take k).filter (fun t => inS g (t.headD 0)) ++ [t] by rw [TK.out, HZ.out]; simp)
          go_wp2_with (first | (refine CC.out.mono ?_; rintro e w' ⟨rfl, rfl⟩) | (at_builtin; refine wpList_appNewAt (v := v) tyLists rfl _ _ rfl [t] _ rfl rfl rfl rfl (by simp [Value.oneCell']) RO.out RD.out rfl hB h26 h24 KP.out ?_; intro v8 w8 own8 hg8 hl8; have O8 := hide2 own8; have D8 := hide2 (DB.out.grown hg8 hB (fun q hq => (RO.out.lt q hq).1))))
          go_roundg (gk - 1)
          case measure => exact HJ.out.1
          case rel => exact ⟨v8, k + 1, nl + 1, rfl, rfl, hide2 ⟨HJ.out.2.1, HJ.out.2.2.2.1⟩, hide2 (by rw [T2.out]; exact O8.out), D8⟩
      · have hki : ¬ (k : Int) < (n : Int) := by omega
        have RF := hide2 (show RowN wr w1.heap.size w1.heap.size v nl (log.filter fun t => inS g (t.headD 0)) from by
          have := RO.out
          rwa [List.take_of_length_le (by have := I.out.len; omega)] at this)
        obtain ⟨A2, c2, rfl, il⟩ := RowN.lists RF.out (by have := hgk.out; have := NN.out; omega)
        have IL := hide2 il
        clear il hlt hgk RO
        go_wp2
        go_ret
        exact ⟨_, _, _, rfl, by simpa using IL.out, DB.out⟩
end Go.Proofs.YtcopnfdknclhnaaGreat
namespace Go.Proofs.YtcopnfdknclhnaaGreat
open Go.RowKit

def OwnQ (w : World) (B : Nat) (v : Value) (n : Nat) (xs : List Int) : Prop :=
  ∃ g off cap cur, v = .slice (some ⟨g, off, none⟩) n cap ∧ B ≤ g ∧ w.heap[g]? = some (.cells cur 3 (0, 0)) ∧ n ≤ cap ∧ cap ≤ maxLen ∧ off + cap ≤ cur.size ∧ xs.length = n ∧ (cur.toList.drop off).take n = xs.map (Value.int .i64)
section
variable {w w' : World} {B n : Nat} {v : Value} {xs : List Int}
theorem OwnQ.lt (h : OwnQ w B v n xs) : ∀ k, v.ownBlock = some k → B ≤ k ∧ k < w.heap.size := fun k hk => by
  obtain ⟨g, off, cap, cur, rfl, h1, h2, _⟩ := h
  injection hk with hk
  subst hk
  exact ⟨h1, (Array.getElem?_eq_some_iff.1 h2).1⟩
theorem OwnQ.kept (h : OwnQ w B v n xs) {row : Option Nat} (hg : w.grownBy w' row) (hne : v.ownBlock ≠ row) : OwnQ w' B v n xs := by
  obtain ⟨g, off, cap, cur, rfl, h1, h2, h3⟩ := h
  exact ⟨g, off, cap, cur, rfl, h1, (hg.block g (Array.getElem?_eq_some_iff.1 h2).1 hne).trans h2, h3⟩
theorem OwnQ.keep (h : OwnQ w B v n xs) (hb : Below w.heap.size w w') : OwnQ w' B v n xs := by
  obtain ⟨g, off, cap, cur, rfl, h1, h2, h3⟩ := h
  exact ⟨g, off, cap, cur, rfl, h1, (hb.block g (Array.getElem?_eq_some_iff.1 h2).1).trans h2, h3⟩
theorem OwnQ.cell {g off cap : Nat} (h : OwnQ w B (.slice (some ⟨g, off, none⟩) n cap) n xs) {i : Nat} {x : Int} (hx : xs[i]? = some x) : w.cell? ⟨g, off + i, none⟩ = some (.int .i64 x) := by
  obtain ⟨g', off', cap', cur, e, h1, h2, h3, h4, h5, h6, h7⟩ := h
  injection e with e1 _ e3
  injection e1 with e1
  injection e1 with e1 e2
  subst e1 e2 e3
  have hi : i < n := by rw [← h6]; exact (List.getElem?_eq_some_iff.1 hx).1
  have h8 : ((cur.toList.drop off).take n)[i]? = (xs.map (Value.int .i64))[i]? := by rw [h7]
  rw [List.getElem?_take_of_lt hi, List.getElem?_map, hx, List.getElem?_drop] at h8
  simp only [World.cell?, h2]
  simp only [Option.isSome_none, Bool.false_eq_true, if_false]
  rw [← Array.getElem?_toList, h8]
  rfl
theorem OwnQ.ints (h : OwnQ w B v n xs) (hn : n ≤ 281474976710656) : ∃ A c, v = .slice A n c ∧ Ints w A n c xs := by
  obtain ⟨g, off, cap, cur, rfl, h1, h2, h3, h4, h5, h6, h7⟩ := h
  refine ⟨_, cap, rfl, h6, h3, h4, hn, fun e => (by cases e), fun _ => ⟨g, off, rfl, (Array.getElem?_eq_some_iff.1 h2).1, fun i x hx => ⟨fun _ => .int .i64 x, fun j hj => ?_, rfl⟩⟩⟩
  obtain rfl : j = 0 := by omega
  rw [Nat.mul_one, Nat.add_zero]
  exact OwnQ.cell ⟨g, off, cap, cur, rfl, h1, h2, h3, h4, h5, h6, h7⟩ hx
theorem OwnQ.of_own (h : OwnInts w B v n xs) (hn : 0 < n) : OwnQ w B v n xs := by
  obtain ⟨g, cap, rfl, hB, _⟩ := h.form hn
  obtain ⟨⟨a1, a2, a3, cur, b1, b2⟩, _⟩ := HasI.of_own h
  rcases h.row.2 with ⟨e, _⟩ | ⟨g', cap', cur', e, _, hb, _, _, c3, _⟩
  · cases e
  · injection e with e1 _ e3
    injection e1 with e1
    injection e1 with e1
    subst e1 e3
    rw [hb] at b1
    injection b1 with b1
    injection b1 with b1 _ _
    subst b1
    exact ⟨g, 0, cap, _, rfl, hB, hb, a2, a3, by omega, a1, by simpa using b2⟩
/-- The head is taken off. -/
theorem OwnQ.tail {g off cap : Nat} {x : Int} (h : OwnQ w B (.slice (some ⟨g, off, none⟩) (n + 1) cap) (n + 1) (x :: xs)) : OwnQ w B (.slice (if cap = 1 then some ⟨g, off, none⟩ else some ⟨g, off + 1, none⟩) n (cap - 1)) n xs := by
  obtain ⟨g', off', cap', cur, e, h1, h2, h3, h4, h5, h6, h7⟩ := h
  injection e with e1 _ e3
  injection e1 with e1
  injection e1 with e1 e2
  subst e1 e2 e3
  have hl : xs.length = n := by simpa using h6
  by_cases hc : cap = 1
  · subst hc
    have hn : n = 0 := by omega
    subst hn
    have : xs = [] := List.eq_nil_of_length_eq_zero hl
    subst this
    exact ⟨g, off, 0, cur, by simp, h1, h2, by omega, by omega, by omega, rfl, by simp⟩
  · refine ⟨g, off + 1, cap - 1, cur, by rw [if_neg hc], h1, h2, by omega, by omega, by omega, hl, ?_⟩
    have h8 := congrArg (List.drop 1) h7
    rw [List.drop_take, List.drop_drop] at h8
    simpa [Nat.add_comm] using h8
set_option maxRecDepth 100000 in
theorem run_append_mid {P : Program} {w : World} (t ty e : TypeId) (i : TypeInfo) (ht : P.underlying t = some (.slice e)) (hi : P.info? e = some i)
    (g off sLen sCap : Nat) (cur : Array Value) (hg : w.heap[g]? = some (.cells cur e (0, 0)))
    (a : Addr) (m c : Nat) (news : List Value) (hl : news.length = m * i.size) (hnews : ∀ j u, news[j]? = some u → w.cell? (a.add j) = some u) (h1 : ∀ u ∈ news, u.oneCell' = true)
    (hroom : sLen + m ≤ sCap) (hfit : off + sLen * i.size + news.length ≤ cur.size) :
    (Builtin.append_ #[t, t] ty #[.slice (some ⟨g, off, none⟩) sLen sCap, .slice (some a) m c]).run P w =
      .ok (.slice (some ⟨g, off, none⟩) (sLen + m) sCap) (w.setRow g (cur.toList.take (off + sLen * i.size) ++ news ++ cur.toList.drop (off + sLen * i.size + news.length)).toArray) := by
  have hf := run_firstCells_some (P := P) w i.size m a m c news hl hnews
  have hst := run_storeCells_at P g (off + sLen * i.size) e news 0 cur w hg (by simpa using hfit) h1
  simp only [Nat.add_zero] at hst
  simp [Builtin.append_, run_underlying ht, sizeOf, typeInfo, hi, Builtin.lenOf, hroom, hf, Addr.add_mid, hst]
theorem mid_list {α : Type} {L xs : List α} {off n : Nat} {y : α} (h : (L.drop off).take n = xs) (hn : xs.length = n) (hl : off + n ≤ L.length) (R : List α) : ((L.take (off + n) ++ [y] ++ R).drop off).take (n + 1) = xs ++ [y] := by
  have h1 : (L.take (off + n)).drop off = xs := by rw [List.drop_take, show off + n - off = n by omega]; exact h
  rw [List.append_assoc, List.drop_append_of_le_length (by rw [List.length_take]; omega), h1, ← List.append_assoc]
  exact List.take_left' (by simp [hn])
theorem run_appQ (h : OwnQ w B v n xs) {ty H c : Nat} {y : Int} (hy : w.cell? ⟨H, 0, none⟩ = some (.int .i64 y)) (hB : B ≤ w.heap.size) (hn : n ≤ 1000000) :
    ∃ v' w', (Builtin.append_ #[35, 35] ty #[v, .slice (some ⟨H, 0, none⟩) 1 c]).run Tryz.prog w = .ok v' w' ∧ OwnQ w' B v' (n + 1) (xs ++ [y]) ∧ w.grownBy w' v.ownBlock ∧ (v'.ownBlock = v.ownBlock ∨ v'.ownBlock = some w.heap.size) := by
  obtain ⟨i, z, k1, k2, k3, k4, k5⟩ := tyInts.info
  have hnews : ∀ j u, [Value.int .i64 y][j]? = some u → w.cell? ((⟨H, 0, none⟩ : Addr).add j) = some u := fun j u hu => by
    match j, hu with
    | 0, hu =>
      rw [Addr.add_mid]
      simp only [List.getElem?_cons_zero, Option.some.injEq] at hu
      subst hu
      exact hy
    | j + 1, hu => simp at hu
  have h1s : ∀ u ∈ [Value.int .i64 y], u.oneCell' = true := fun u hu => by rw [List.mem_singleton.1 hu]; rfl
  obtain ⟨g, off, cap, cur, rfl, h1, h2, h3, h4, h5, h6, h7⟩ := h
  have hxl : (xs.map (Value.int .i64)).length = n := by rw [List.length_map]; exact h6
  by_cases hroom : n + 1 ≤ cap
  · have hr := run_append_mid (P := Tryz.prog) (w := w) 35 ty 3 i tyInts.und k1 g off n cap cur h2 ⟨H, 0, none⟩ 1 c [Value.int .i64 y] (by rw [k3]; rfl) hnews h1s hroom (by rw [k3]; simp; omega)
    refine ⟨_, _, hr, ⟨g, off, cap, _, rfl, h1, setRow_heap w g cur _ _ _ h2, hroom, h4, ?_, by simp [h6], ?_⟩, ⟨rfl, rfl, rfl, by simp, fun k _ hk => setRow_other w g k _ (fun e => hk (by simp [Value.ownBlock, e]))⟩, .inl rfl⟩
    · simp only [List.size_toArray, List.length_append, List.length_take, List.length_drop, Array.length_toList, k3]
      simp
      omega
    · rw [k3, Nat.mul_one, List.map_append]
      exact mid_list h7 hxl (by rw [Array.length_toList]; omega) _
  · have holds : ∀ j u, (xs.map (Value.int .i64))[j]? = some u → w.cell? ((⟨g, off, none⟩ : Addr).add j) = some u := fun j u hu => by
      rw [Addr.add_mid]
      rw [List.getElem?_map] at hu
      obtain ⟨x, hx, rfl⟩ := Option.map_eq_some_iff.1 hu
      exact OwnQ.cell ⟨g, off, cap, cur, rfl, h1, h2, h3, h4, h5, h6, h7⟩ hx
    have hr := run_append_grow (P := Tryz.prog) w 35 ty 3 i z tyInts.und k1 k2 ⟨g, off, none⟩ n cap (xs.map (Value.int .i64)) (by rw [hxl, k3, Nat.mul_one]) holds ⟨H, 0, none⟩ 1 c [Value.int .i64 y] (by rw [k3]; rfl) hnews (by omega) (by omega) (growslice_fits (by omega) (by rw [k4]; omega))
    have hge := grownCap_ge w (n + 1) cap 3
    have hcm : grownCap w (n + 1) cap 3 ≤ maxLen := grownCap_le_maxLen w (n + 1) cap 3 (by simp only [maxLen]; omega)
    refine ⟨_, _, hr, ⟨w.heap.size, 0, _, _, rfl, hB, heap_alloc_new w.drew _, hge, hcm, ?_, by simp [h6], ?_⟩, ⟨rfl, rfl, rfl, by simp, fun k hk _ => heap_alloc_old w.drew _ hk⟩, .inr rfl⟩
    · simp only [Array.size_append, List.size_toArray, size_zeroCells, k5, List.length_map, h6, List.length_singleton]
      omega
    · simp only [Array.toList_append, List.append_assoc, List.drop_zero]
      rw [← List.append_assoc, List.map_append]
      exact List.take_left' (by simp [h6])
theorem step_appQ {ops : Array Oper} {o : Oper} {a : Act} {K : Act → World → Prop} {Q : Exit → Act → World → Prop} {E : Prop} (hgd : o.guard = none) (s x : Operand)
    (ho : o.op = .call { callee := .builtin .append, args := #[s, x], argTypes := #[35, 35] })
    {H c : Nat} {y : Int} (hs : a.eval s = v) (hx : a.eval x = .slice (some ⟨H, 0, none⟩) 1 c) (own : OwnQ w B v n xs) (hy : w.cell? ⟨H, 0, none⟩ = some (.int .i64 y)) (hB : B ≤ w.heap.size) (hn : n ≤ 1000000)
    (hK : ∀ v' w', OwnQ w' B v' (n + 1) (xs ++ [y]) → w.grownBy w' v.ownBlock → (v'.ownBlock = v.ownBlock ∨ v'.ownBlock = some w.heap.size) → K (a.put o.dst v') w') :
    if Region.wanted o (yielded ops a.tmps) = true then Oper.wp Tryz.prog o a w K Q else E := by
  rw [if_pos (by simp [Region.wanted, hgd])]
  obtain ⟨v', w', hr, r1, r2, r3⟩ := run_appQ own (ty := o.type) (c := c) hy hB hn
  have h := hK v' w' r1 r2 r3
  unfold Oper.wp execOp
  simp only [ho, resolve, invoke, builtin, Sem.run_bind, Sem.run_pure, Result.andThen_ok, List.map_toArray, List.map_cons, List.map_nil, hs, hx, hr]
  exact h
end
end Go.Proofs.YtcopnfdknclhnaaGreat
