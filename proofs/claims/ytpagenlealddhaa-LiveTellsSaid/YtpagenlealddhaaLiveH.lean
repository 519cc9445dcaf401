/- The contracts of live.spread and of slices.Contains on bools. Conditions: the arcs are between marks; what to start from are marks. | The contracts of slices.Contains on bools and of live.Home. Conditions: the slices read as lists. | The contract of live.Live. Conditions: the slices read as lists. -/
import Derived.Test.YtpagenlealddhaaLiveE
import Derived.Test.YtpagenlealddhaaBusyC
namespace Go.Proofs.Ytpagenlealddhaa
open Go.RowKit

theorem nil_or_snoc {α : Type} (l : List α) : l = [] ∨ ∃ L b, l = L ++ [b] := by
  rcases List.eq_nil_or_concat l with h | ⟨L, b, h⟩
  · exact .inl h
  · exact .inr ⟨L, b, by rw [h, List.concat_eq_append]⟩
def lenOf : Value → Nat
  | .slice _ n _ => n
  | _ => 0
theorem OwnInts.init {w : World} {B g n cap : Nat} {xs : List Int} {y : Int} (h : OwnInts w B (.slice (some ⟨g, 0, none⟩) (n + 1) cap) (n + 1) (xs ++ [y])) : OwnInts w B (.slice (some ⟨g, 0, none⟩) n cap) n xs := by
  have hl : xs.length = n := by have := h.len; simpa using this
  have hr := h.row
  refine OwnInts.of_row ⟨by simp [hl], ?_⟩
  rcases hr.2 with ⟨e, _⟩ | ⟨g', cap', cur, e, h1, h2, h3, h4, h5, h6⟩
  · cases e
  · injection e with e1 e2 e3
    subst e3
    injection e1 with e1
    injection e1 with e1
    subst e1
    refine .inr ⟨_, _, cur, rfl, h1, h2, by omega, h4, h5, ?_⟩
    have : cur.toList.take (n * 1) = (cur.toList.take ((n + 1) * 1)).take (n * 1) := by
      rw [List.take_take]
      congr 1
      omega
    rw [this, h6, List.map_append]
    rw [List.take_append_of_le_length (by simp [hl])]
    exact List.take_of_length_le (by simp [hl])
def OwnBools (w : World) (B g n : Nat) (bs : List Bool) : Prop := w.ownsRow B 4 1 (.slice (some ⟨g, 0, none⟩) n n) n (bs.map Value.bool)
section
variable {w w' : World} {B g n : Nat} {bs : List Bool}
theorem OwnBools.len (h : OwnBools w B g n bs) : bs.length = n := by have := h.1; simpa using this
theorem OwnBools.lt (h : OwnBools w B g n bs) : B ≤ g ∧ g < w.heap.size := World.ownsRow.lt h g rfl
theorem OwnBools.at (h : OwnBools w B g n bs) {k : Nat} {b : Bool} (hk : bs[k]? = some b) : w.cell? ⟨g, k, none⟩ = some (.bool b) := by
  have hl := (List.getElem?_eq_some_iff.1 hk).1
  have := h.len
  rw [World.ownsRow.cellAt h k (by omega), List.getElem?_map, hk]; rfl
theorem OwnBools.frozen (h : OwnBools w B g n bs) (k : Nat) : w.frozen? ⟨g, k, none⟩ = false := World.ownsRow.frozenAt h k
theorem OwnBools.keep (h : OwnBools w B g n bs) (hb : Below w.heap.size w w') : OwnBools w' B g n bs :=
  World.ownsRow.kept h (row := none) ⟨hb.os, hb.tape, hb.output, hb.size, fun k hk _ => hb.block k hk⟩ (.inr (by simp [Value.ownBlock]))
theorem OwnBools.put (h : OwnBools w B g n bs) (k : Nat) (b : Bool) : OwnBools (w.setCell ⟨g, k, none⟩ (.bool b)) B g n (bs.set k b) := by
  have := (World.ownsRow.stored h k (.bool b)).1
  rw [← List.map_set] at this
  exact this
theorem OwnBools.grown (h : OwnBools w B g n bs) {B2 m : Nat} {v : Value} {xs : List Int} (own : OwnInts w B2 v m xs) (hg : w.grownBy w' v.ownBlock) : OwnBools w' B g n bs := by
  refine World.ownsRow.kept h hg ?_
  obtain ⟨cs, b1, _⟩ := own
  rcases own_ne b1 h (by decide) with e | e
  · exact .inr (by rw [e]; simp [Value.ownBlock])
  · exact .inr (fun e2 => e e2.symm)
theorem OwnBools.phi (h : OwnBools w B g n bs) {ls : List (List Int)} (hl : ls.length = n) : phiW w g 0 ls = restL bs ls :=
  phiW_rest w g 0 bs ls (by rw [h.len, hl]) (fun i b hb => by rw [Nat.zero_add]; exact h.at hb)
theorem OwnBools.besideInts (h : OwnBools w B g n bs) {B2 m : Nat} {v : Value} {xs : List Int} (own : OwnInts w B2 v m xs) (k : Nat) (u : Value) : OwnInts (w.setCell ⟨g, k, none⟩ u) B2 v m xs := by
  refine OwnInts.of_row (ownsRow_setCell_other own.row ?_ _)
  obtain ⟨cs, b1, _⟩ := own
  rcases own_ne b1 h (by decide) with e | e
  · rw [e]; simp
  · exact e
end
def AnsBs (bs : List Bool) (n : Nat) (w : World) (e : Ending) (w' : World) : Prop := ∃ g, e = .returned (.slice (some ⟨g, 0, none⟩) n n) ∧ OwnBools w' w.heap.size g n bs ∧ Below w.heap.size w w'

set_option maxRecDepth 100000 in
set_option maxHeartbeats 2000000 in
theorem spread_calls {w : World} {A D : Option Addr} {n c m d : Nat} {src : List Int} {ars : List PArc} (h : Lists w A n c (linkL PArc.to_ PArc.from_ ars n)) (g : Ints w D m d src) (hn : n ≤ 5864062014634) (ham : ars.length ≤ 5864062014634) (hm : m ≤ 5864062014634)
    (hs : ∀ s ∈ src, Inn n s) (ha : ∀ a ∈ ars, Inn n a.from_) (hto : ∀ a ∈ ars, Inn n a.to_) :
    Calls Try.prog 68 #[.slice A n c, .slice D m d] w (AnsBs (spreadL ars n src) n w) := by
  have H := hide2 h
  have G := hide2 g
  have HS := hide2 hs
  have HA := hide2 ha
  have TOT := hide2 (show totL (linkL PArc.to_ PArc.from_ ars n) ≤ 5864062014634 by
    have := totL_link (n := n) (val := PArc.from_) ars hto ars.length (Nat.le_refl _)
    rw [List.take_of_length_le (Nat.le_refl _)] at this
    omega)
  clear h g hs ha hto ham
  go_enter Try.func68, Try.ntmps68
  go_upto_region 2 with (at_make; refine wpList_mk Try.underlying123 infoBool rfl rfl _ _ rfl n rfl rfl rfl rfl (by omega) (by omega) (Below.refl w.heap.size w) (Nat.le_refl _) ?_; intro w1 own1 hg1 hb1; have OB := hide2 (show OwnBools w1 w.heap.size w.heap.size n (List.replicate n false) by unfold OwnBools; rw [List.map_replicate]; exact own1); have B1 := hide2 hb1; clear own1 hg1 hb1)
  go_wp2_with (refine (cloneInts_calls (G.out.keep B1.out) (by omega)).mono ?_; rintro e w2 ⟨v2, rfl, O2, b2⟩; have OW := hide2 (show OwnInts w2 w.heap.size v2 src.length src by rw [G.out.len]; exact O2.base B1.out.size); have OB2 := hide2 (OB.out.keep b2); have B2 := hide2 (B1.out.trans (b2.mono B1.out.size)); clear O2 b2)
  go_loopw [6] (fun v wr => ∃ (bs : List Bool) (todo : List Int), Hid (OwnInts wr w.heap.size v todo.length todo) ∧ Hid (OwnBools wr w.heap.size w.heap.size n bs) ∧ Hid (SpI ars n src bs todo) ∧ Hid (Below w.heap.size w wr) ∧ Hid (todo.length + restL bs (linkL PArc.to_ PArc.from_ ars n) ≤ 11728124029268)) (fun v wr => lenOf v + phiW wr w.heap.size 0 (linkL PArc.to_ PArc.from_ ars n))
  case atStart => exact ⟨_, _, OW, OB2, SpI.start HS.out, B2, hide2 (by have := restL_tot (List.replicate n false) (linkL PArc.to_ PArc.from_ ars n); have := TOT.out; have := G.out.len; omega)⟩
  case round =>
    obtain ⟨bs, todo, OI, OBr, SP, BR, PH⟩ := hrel
    rcases nil_or_snoc todo with rfl | ⟨todo, x, rfl⟩
    · obtain ⟨Au, cu, hu, _⟩ := OI.out.sl (by simp)
      subst hu
      have FN := hide2 (SP.out.list HS.out HA.out)
      go_wp2
      go_ret
      exact ⟨_, rfl, by rw [← FN.out]; exact OBr.out, BR.out⟩
    · obtain ⟨g2, cap, rfl, hlo, hhi⟩ := OI.out.form (by simp)
      obtain ⟨k, hk⟩ : ∃ k, todo.length = k := ⟨_, rfl⟩
      have OJ := OI.out
      have PJ := PH.out
      rw [show (todo ++ [x]).length = k + 1 by simp [hk]] at OJ PJ
      rw [show (todo ++ [x]).length = k + 1 by simp [hk]]
      have PJ2 := hide2 PJ
      have hcap := hide2 OJ
      have cx := OJ.at (j := k) (x := x) (by rw [← hk]; simp)
      obtain ⟨⟨hx0, hx1⟩, _⟩ := SP.out.due x (List.mem_append_right _ (List.mem_singleton.2 rfl))
      obtain ⟨q, rfl⟩ : ∃ q : Nat, x = (q : Int) := ⟨x.toNat, by omega⟩
      have hq : q < n := by omega
      obtain ⟨b, hb⟩ : ∃ b, bs[q]? = some b := ⟨_, List.getElem?_eq_getElem (by rw [SP.out.len]; exact hq)⟩
      have cb := OBr.out.at hb
      have fb := OBr.out.frozen q
      have HB := hide2 hb
      have hk1 : k ≤ 11728124029268 := by omega
      have hle := (OJ.ints (by omega)).le
      have hkc : k ≤ cap := by omega
      have hkc1 : (k : Int) ≤ (cap : Int) := by omega
      have hkc0 : ¬ cap = 0 := by omega
      clear OJ PJ hb OI PH hx0
      cases b
      · have B3' : Below w.heap.size w (wr.setCell ⟨w.heap.size, q, none⟩ (.bool true)) := BR.out.setCell (Nat.le_refl _) _
        have OB3' := OBr.out.put q true
        have OI3' := OBr.out.besideInts hcap.out.init q (.bool true)
        have PHI := hide2 (OBr.out.phi (linkL_length PArc.to_ PArc.from_ ars n))
        go_upto_region 8 with fail
        generalize wr.setCell ⟨w.heap.size, q, none⟩ (.bool true) = w3 at *
        have B3 := hide2 B3'
        have OB3 := hide2 OB3'
        have OI3 := hide2 OI3'
        clear B3' OB3' OI3' cx fb cb
        obtain ⟨bl, off, l, Bl, ml, dl, rfl, hbl, hl, hc, il, hml⟩ := Lists.get (Sl.keep ListR.kept H.out B3.out) hq
        have IL := hide2 il
        have RS := hide2 (restL_set bs _ q l HB.out hl.out)
        have hll := il.len
        have hle2 : k + ml ≤ 17592186044416 := by have := RS.out; have := PJ2.out; omega
        have HL := hide2 (show l = nxt ars (q : Int) by
          have h1 := hl.out
          rw [linkL_get hq] at h1
          injection h1 with h1
          exact h1.symm)
        clear il
        go_wp2_with (at_builtin; refine wpList_appOwn rfl _ _ rfl rfl rfl OI3.out IL.out B3.out.size hle2 B3.out (Nat.le_refl _) ?_; intro v4 w4 own4 hg4 hb4 _; obtain ⟨A4, c4, rfl, _⟩ := own4.sl (by omega); have OI4 := hide2 own4; have OB4 := hide2 (OB3.out.grown OI3.out hg4); have B4 := hide2 hb4; clear own4 hg4 hb4)
        go_roundw
        case rel =>
          refine ⟨_, todo ++ l, hide2 ?_, OB4, hide2 ?_, B4, hide2 ?_⟩
          · rw [List.length_append, hk, hll]; exact OI4.out
          · rw [HL.out]; exact SP.out.take HA.out
          · rw [List.length_append, hk]; have := RS.out; have := PJ2.out; omega
        case measure =>
          rw [OB4.out.phi (linkL_length _ _ _ _), PHI.out]
          show k + ml + _ < k + 1 + _
          have := RS.out
          omega
      · have OI3 := hide2 hcap.out.init
        go_wp2
        go_roundw
        case rel => exact ⟨bs, todo, hide2 (by rw [hk]; exact OI3.out), OBr, SP.out.skip HB.out, BR, hide2 (by rw [hk]; have := PJ2.out; omega)⟩
        case measure =>
          show k + _ < k + 1 + _
          omega
end Go.Proofs.Ytpagenlealddhaa
namespace Go.Proofs.Ytpagenlealddhaa
open Go.RowKit

abbrev BoolS (w : World) (g n : Nat) (bs : List Bool) : Prop := bs.length = n ∧ ∀ (k : Nat) (b : Bool), bs[k]? = some b → w.cell? ⟨g, k, none⟩ = some (.bool b)
theorem OwnBools.s {w : World} {B g n : Nat} {bs : List Bool} (h : OwnBools w B g n bs) : BoolS w g n bs := ⟨h.len, fun _ _ hb => h.at hb⟩

set_option maxRecDepth 100000 in
theorem indexBool_calls {w : World} {g n : Nat} {bs : List Bool} (x : Bool) (h : BoolS w g n bs) (hn : n ≤ 281474976710656) :
    Calls Try.prog 121 #[.slice (some ⟨g, 0, none⟩) n n, .bool x] w fun e w' => e = .returned (.int .i64 (idxFirst (fun y => x == y) bs)) ∧ w = w' := by
  have H := hide2 h
  clear h
  go_enter Try.func121, Try.ntmps121
  go_wp2
  go_loop [8] (fun v => ∃ k : Nat, k ≤ n ∧ v = .int .i64 k ∧ Hid (∀ j, j < k → ∀ y, bs[j]? = some y → (x == y) = false)) (fun v => n - (intOf v).toNat)
  case atStart => exact ⟨0, Nat.zero_le _, rfl, fun j hj => absurd hj (by omega)⟩
  case round =>
    obtain ⟨k, hk, rfl, lo⟩ := hrel
    by_cases hlt : k < n
    · have hki : (k : Int) < (n : Int) := by omega
      obtain ⟨y, hy0⟩ : ∃ y, bs[k]? = some y := ⟨_, List.getElem?_eq_getElem (by rw [H.out.1]; exact hlt)⟩
      have qy := H.out.2 k y hy0
      have hy := hide2 hy0
      clear hy0
      by_cases he : x = y
      · subst he
        go_wp2
        go_ret
        exact ⟨ret_int (idxFirst_some lo.out hy.out (by simp)).symm, rfl⟩
      · have hne : (x == y) = false := by simpa using he
        have HN := hide2 hne
        clear he
        go_wp2
        go_round
        case rel =>
          refine ⟨k + 1, by omega, by go_num, fun j hj z hz => ?_⟩
          by_cases hjk : j = k
          · subst hjk
            have := hy.out
            rw [hz] at this
            injection this with this
            rw [this]
            exact HN.out
          · exact lo.out j (by omega) z hz
        case measure => simp [intOf]; omega
    · go_wp2
      go_ret
      exact ⟨ret_int (idxFirst_none (fun j hj z hz => lo.out j (by have := H.out.1; omega) z hz)).symm, rfl⟩
set_option maxRecDepth 100000 in
theorem containsBool_calls {w : World} {g n : Nat} {bs : List Bool} (x : Bool) (h : BoolS w g n bs) (hn : n ≤ 281474976710656) :
    Calls Try.prog 67 #[.slice (some ⟨g, 0, none⟩) n n, .bool x] w fun e w' => e = .returned (.bool (bs.any fun y => x == y)) ∧ w = w' := by
  have H := hide2 h
  clear h
  go_enter Try.func67, Try.ntmps67
  go_wp2_with (refine (indexBool_calls x H.out hn).mono ?_; rintro e w' ⟨rfl, rfl⟩)
  go_ret
  exact ⟨ret_bool (idxFirst_any _ _), rfl⟩

/-! ### what is picked -/
def pickL (p : Nat → Bool) (N : Nat) : List Int := ((List.range N).filter p).map fun (t : Nat) => (t : Int)
theorem pickL_succ (p : Nat → Bool) (k : Nat) : pickL p (k + 1) = pickL p k ++ if p k = true then [(k : Int)] else [] := by
  unfold pickL
  rw [List.range_succ, List.filter_append, List.map_append]
  congr 1
  by_cases h : p k = true
  · rw [if_pos h]; simp only [List.filter, h, List.map]
  · rw [if_neg h]
    have h' : p k = false := by simpa using h
    simp only [List.filter, h', List.map]
theorem pickL_len (p : Nat → Bool) (k : Nat) : (pickL p k).length ≤ k := by
  unfold pickL
  rw [List.length_map]
  exact Nat.le_trans (List.length_filter_le _ _) (by simp)
theorem intsOne (w : World) (x : Int) : Ints (w.alloc (.cells #[.int .i64 x] 3)) (some ⟨w.heap.size, 0, none⟩) 1 1 [x] :=
  ⟨rfl, Nat.le_refl _, by simp [maxLen], by omega, fun h => (by cases h), fun _ => ⟨w.heap.size, 0, rfl, by simp, fun i y hy => by
    obtain rfl : i = 0 := by have := (List.getElem?_eq_some_iff.1 hy).1; simp at this; exact this
    simp only [List.getElem?_cons_zero, Option.some.injEq] at hy
    subst hy
    exact ⟨fun _ => .int .i64 x, fun j hj => (by obtain rfl : j = 0 := (by omega); exact (Box.new w #[.int .i64 x] 3).cell 0), rfl⟩⟩⟩
noncomputable def homeAt (ars : List PArc) (n k : Nat) : Bool := !(spreadL ars n [(k : Int)]).any fun y => false == y
noncomputable def homeL (ars : List PArc) (n : Nat) : List Int := if rightG n ars = true then pickL (homeAt ars n) n else []
theorem rightG_in {n : Nat} {ars : List PArc} (h : rightG n ars = true) : (∀ a ∈ ars, Inn n a.from_) ∧ (∀ a ∈ ars, Inn n a.to_) := by
  unfold rightG at h
  rw [Bool.not_eq_true', List.any_eq_false] at h
  have key : ∀ a ∈ ars, Inn n a.from_ ∧ Inn n a.to_ := fun a ha => by
    have := h a ha
    unfold arcBad at this
    simp only [Bool.or_eq_true, decide_eq_true_eq] at this
    unfold Inn
    omega
  exact ⟨fun a ha => (key a ha).1, fun a ha => (key a ha).2⟩

set_option maxRecDepth 100000 in
set_option maxHeartbeats 2000000 in
theorem home_calls {w : World} {A D : Option Addr} {n c m d : Nat} {ms : List (List Int)} {ars : List PArc} (h : Lists w A n c ms) (g : Arcs w D m d ars) (hn : n ≤ 5864062014634) (hm : m ≤ 5864062014634) :
    Calls Try.prog 28 #[.agg #[.slice A n c, .slice D m d]] w (AnsIF (homeL ars n).length (homeL ars n) w) := by
  have HB := hide2 (boxBelow w (.cells #[.slice A n c, .slice D m d] 46))
  have X0 := hide2 (Box.new w #[.slice A n c, .slice D m d] 46)
  have H := hide2 (Sl.keep ListR.kept h HB.out)
  have G := hide2 (Sl.keep ArcR.kept g HB.out)
  have gl := g.len
  clear h g
  obtain ⟨r, hr⟩ : ∃ r, rightG n ars = r := ⟨_, rfl⟩
  have HR := hide2 hr
  clear hr
  go_enter Try.func28, Try.ntmps28
  go_upto_region 1 with fail
  generalize w.alloc (.cells #[.slice A n c, .slice D m d] 46) = w0 at *
  obtain ⟨c0, c1⟩ := X0.out.two
  cases r
  · have FN := hide2 (show homeL ars n = [] by unfold homeL; rw [HR.out]; rfl)
    go_wp2_with (refine (liveRight_calls H.out G.out).mono ?_; rintro e w1 ⟨rfl, b1⟩; rw [HR.out]; have B1 := hide2 (HB.out.trans (b1.mono HB.out.size)); clear b1)
    go_ret
    rw [FN.out]
    exact ⟨none, 0, rfl, Sl.nil0, B1.out, Fresh.none⟩
  · have FN := hide2 (show homeL ars n = pickL (homeAt ars n) n by unfold homeL; rw [HR.out]; rfl)
    obtain ⟨hf, ht⟩ := rightG_in HR.out
    have HF := hide2 hf
    have HT := hide2 ht
    clear hf ht
    rw [FN.out]
    go_wp2_with (first
      | (refine (liveRight_calls H.out G.out).mono ?_; rintro e w1 ⟨rfl, b1⟩; rw [HR.out]; have B1 := hide2 b1; clear b1 c0 c1; obtain ⟨c0, c1⟩ := (X0.out.keep B1.out).two)
      | (refine (linksBack_calls (Sl.keep ListR.kept H.out B1.out) (Sl.keep ArcR.kept G.out B1.out) hn hm (fun k a ha => HT.out a (List.mem_of_getElem? ha))).mono ?_; rintro e w2 ⟨go, rfl, lw, b2⟩; have LW := hide2 (lw.lists (by omega) (fun x hx => Nat.le_trans (linkL_small hx) (by omega))); have B2 := hide2 (B1.out.trans (b2.mono B1.out.size)); clear b2 lw c0 c1; obtain ⟨c0, c1⟩ := (X0.out.keep B2.out).two))
    clear c0 c1
    go_loopw [4, 14] (fun u v wr => ∃ j : Nat, j ≤ n ∧ v = .int .i64 j ∧ Hid (OwnInts wr w2.heap.size u (pickL (homeAt ars n) j).length (pickL (homeAt ars n) j)) ∧ Hid (Below w2.heap.size w2 wr)) (fun _ v _ => n - (intOf v).toNat)
    case atStart => exact ⟨0, Nat.zero_le _, rfl, OwnSl.nil, Below.refl _ _⟩
    case round =>
      obtain ⟨j, hj, rfl, OW, BQ⟩ := hrel
      by_cases hlj : j < n
      · have hji : (j : Int) < (n : Int) := by omega
        have DS := hide2 (pickL_succ (homeAt ars n) j)
        have hdl := pickL_len (homeAt ars n) j
        have ba := boxBelow wr (.cells #[.int .i64 j] 3)
        have IN := hide2 (intsOne wr (j : Int))
        have BW := hide2 (BQ.out.trans (ba.mono BQ.out.size))
        have OW1 := hide2 (OW.out.keep IntR.kept ba)
        clear ba
        obtain ⟨p, hp⟩ : ∃ p, homeAt ars n j = p := ⟨_, rfl⟩
        have HP := hide2 (show (spreadL ars n [(j : Int)]).any (fun y => false == y) = !p by rw [← hp]; unfold homeAt; rw [Bool.not_not])
        rw [hp] at DS
        clear hp
        cases p
        · rw [if_neg (by decide), List.append_nil] at DS
          go_wp2_with (first
            | (refine (spread_calls (Sl.keep ListR.kept LW.out BW.out) IN.out hn (by omega) (by omega) (fun s hs => by rw [List.mem_singleton.1 hs]; exact ⟨by omega, hji⟩) HF.out HT.out).mono ?_; rintro e w3 ⟨gs, rfl, ob, b3⟩; have OB := hide2 ob.s; have OW3 := hide2 (OW1.out.keep IntR.kept b3); have B3 := hide2 (BW.out.trans (b3.mono BW.out.size)); clear ob b3)
            | (refine (containsBool_calls false OB.out (by omega)).mono ?_; rintro e w' ⟨rfl, rfl⟩; rw [HP.out]))
          go_roundw
          case rel => exact ⟨j + 1, by omega, by go_num, by rw [DS.out]; exact OW3, B3⟩
          case measure => simp [intOf]; omega
        · rw [if_pos rfl] at DS
          have HDL := hide2 (show (pickL (homeAt ars n) (j + 1)).length = (pickL (homeAt ars n) j).length + 1 by rw [DS.out]; simp)
          go_wp2_with (first
            | (refine (spread_calls (Sl.keep ListR.kept LW.out BW.out) IN.out hn (by omega) (by omega) (fun s hs => by rw [List.mem_singleton.1 hs]; exact ⟨by omega, hji⟩) HF.out HT.out).mono ?_; rintro e w3 ⟨gs, rfl, ob, b3⟩; have OB := hide2 ob.s; have OW3 := hide2 (OW1.out.keep IntR.kept b3); have B3 := hide2 (BW.out.trans (b3.mono BW.out.size)); clear ob b3)
            | (refine (containsBool_calls false OB.out (by omega)).mono ?_; rintro e w' ⟨rfl, rfl⟩; rw [HP.out])
            | (at_builtin; refine wpList_appInt rfl _ _ rfl rfl rfl (by first | rfl | simp) OW3.out B3.out B3.out.size (by omega) ?_; intro v4 w4 own4 hg4 hb4; have O4 := hide2 own4; have B4 := hide2 hb4; clear own4 hg4 hb4))
          go_roundw
          case rel => exact ⟨j + 1, by omega, by go_num, by rw [HDL.out, DS.out]; exact O4, B4⟩
          case measure => simp [intOf]; omega
      · obtain rfl : n = j := by omega
        have hdl := pickL_len (homeAt ars n) n
        obtain ⟨Au, cu, hu, iu⟩ := OW.out.sl (by omega)
        have FR := hide2 (((OW.out.fresh hu).mono B2.out.size).mono HB.out.size)
        have IU := hide2 iu
        subst hu
        clear iu
        go_wp2
        go_ret
        try rw [FN.out]
        exact ⟨Au, cu, rfl, IU.out, HB.out.trans ((B2.out.trans (BQ.out.mono B2.out.size)).mono HB.out.size), FR.out⟩
end Go.Proofs.Ytpagenlealddhaa
namespace Go.Proofs.Ytpagenlealddhaa
open Go.RowKit

noncomputable def liveAt (ars : List PArc) (n t : Nat) : Bool := !(spreadL ars n (linkAt PArc.tran PArc.from_ ars (t : Int))).any fun y => false == y
noncomputable def liveL (ars : List PArc) (n N : Nat) : List Int := if rightG n ars = true then pickL (liveAt ars n) N else []

set_option maxRecDepth 100000 in
set_option maxHeartbeats 4000000 in
theorem live_calls {w : World} {A D : Option Addr} {n c m d : Nat} {ms : List (List Int)} {ars : List PArc} (tr : Int) (h : Lists w A n c ms) (g : Arcs w D m d ars) (hn : n ≤ 5864062014634) (hm : m ≤ 5864062014634) :
    Calls Try.prog 24 #[.agg #[.slice A n c, .slice D m d], .int .i64 tr] w (AnsIF (liveL ars n (min tr 24).toNat).length (liveL ars n (min tr 24).toNat) w) := by
  have HB := hide2 (boxBelow w (.cells #[.slice A n c, .slice D m d] 46))
  have X0 := hide2 (Box.new w #[.slice A n c, .slice D m d] 46)
  have H := hide2 (Sl.keep ListR.kept h HB.out)
  have G := hide2 (Sl.keep ArcR.kept g HB.out)
  have gl := g.len
  clear h g
  obtain ⟨M, hM⟩ : ∃ M, min tr 24 = M := ⟨_, rfl⟩
  obtain ⟨N, hN⟩ : ∃ N, M.toNat = N := ⟨_, rfl⟩
  have HN := hide2 hN
  rw [hM, hN]
  have hN24 : N ≤ 24 := by omega
  clear hN
  obtain ⟨r, hr⟩ : ∃ r, rightG n ars = r := ⟨_, rfl⟩
  have HR := hide2 hr
  clear hr
  go_enter Try.func24, Try.ntmps24
  go_upto_region 1 with fail
  generalize w.alloc (.cells #[.slice A n c, .slice D m d] 46) = w0 at *
  obtain ⟨c0, c1⟩ := X0.out.two
  cases r
  · have FN := hide2 (show liveL ars n N = [] by unfold liveL; rw [HR.out]; rfl)
    go_wp2_with (refine (liveRight_calls H.out G.out).mono ?_; rintro e w1 ⟨rfl, b1⟩; rw [HR.out]; have B1 := hide2 (HB.out.trans (b1.mono HB.out.size)); clear b1)
    go_ret
    rw [FN.out]
    exact ⟨none, 0, rfl, Sl.nil0, B1.out, Fresh.none⟩
  · have FN := hide2 (show liveL ars n N = pickL (liveAt ars n) N by unfold liveL; rw [HR.out]; rfl)
    obtain ⟨hf, ht⟩ := rightG_in HR.out
    have HF := hide2 hf
    have HT := hide2 ht
    clear hf ht
    go_wp2_with (first
      | (refine (liveRight_calls H.out G.out).mono ?_; rintro e w1 ⟨rfl, b1⟩; rw [HR.out]; have B1 := hide2 b1; clear b1 c0 c1; obtain ⟨c0, c1⟩ := (X0.out.keep B1.out).two)
      | (refine (linksBack_calls (Sl.keep ListR.kept H.out B1.out) (Sl.keep ArcR.kept G.out B1.out) hn hm (fun k a ha => HT.out a (List.mem_of_getElem? ha))).mono ?_; rintro e w2 ⟨go, rfl, lw, b2⟩; have LW := hide2 (lw.lists (by omega) (fun x hx => Nat.le_trans (linkL_small hx) (by omega))); have B2 := hide2 (B1.out.trans (b2.mono B1.out.size)); clear b2 lw c0 c1; obtain ⟨c0, c1⟩ := (X0.out.keep B2.out).two))
    clear c0 c1 hM
    have X2 := hide2 (X0.out.keep B2.out)
    have G2 := hide2 (Sl.keep ArcR.kept G.out B2.out)
    go_loopw [6, 18] (fun u v wr => ∃ j : Nat, j ≤ N ∧ v = .int .i64 j ∧ Hid (OwnInts wr w2.heap.size u (pickL (liveAt ars n) j).length (pickL (liveAt ars n) j)) ∧ Hid (Below w2.heap.size w2 wr)) (fun _ v _ => N - (intOf v).toNat)
    case atStart => exact ⟨0, Nat.zero_le _, rfl, OwnSl.nil, Below.refl _ _⟩
    case round =>
      obtain ⟨j, hj, rfl, OW, BQ⟩ := hrel
      by_cases hlj : j < N
      · have hji : (j : Int) < M := by have := HN.out; omega
        have DS := hide2 (pickL_succ (liveAt ars n) j)
        have hdl := pickL_len (liveAt ars n) j
        obtain ⟨c0, c1⟩ := (X2.out.keep BQ.out).two
        obtain ⟨wq, hwq⟩ : ∃ wq : World, wq = wr := ⟨_, rfl⟩
        subst hwq
        go_wp2
        clear c0 c1
        go_loopw [8, 24] (fun u v wr => ∃ k : Nat, k ≤ m ∧ v = .int .i64 k ∧ Hid (OwnInts wr wq.heap.size u (linkAt PArc.tran PArc.from_ (ars.take k) (j : Int)).length (linkAt PArc.tran PArc.from_ (ars.take k) (j : Int))) ∧ Hid (Below wq.heap.size wq wr)) (fun _ v _ => m - (intOf v).toNat)
        case atStart => exact ⟨0, Nat.zero_le _, rfl, OwnSl.nil, Below.refl _ _⟩
        case round =>
          obtain ⟨k, hk, rfl, OI, BR⟩ := hrel
          by_cases hlt : k < m
          · have hki : (k : Int) < (m : Int) := by omega
            obtain ⟨bl, off, a, rfl, hbl, ha, q0, q1, q2, _⟩ := Arcs.get (Sl.keep ArcR.kept G2.out (BQ.out.trans (BR.out.mono BQ.out.size))) hlt
            have bb := boxBelow wr (.cells #[.int .i64 a.from_, .int .i64 a.tran, .int .i64 a.to_] 118)
            have WA := hide2 (Box.new wr #[.int .i64 a.from_, .int .i64 a.tran, .int .i64 a.to_] 118)
            have BW := hide2 (BR.out.trans (bb.mono BR.out.size))
            have OX := hide2 (OI.out.keep IntR.kept bb)
            go_upto_region 12 with fail
            clear bb q0 q1 q2 BR OI
            generalize wr.alloc (.cells #[.int .i64 a.from_, .int .i64 a.tran, .int .i64 a.to_] 118) = u0 at *
            generalize wr.heap.size = bx at *
            obtain ⟨t0, t1, t2⟩ := WA.out.three
            have NX := hide2 (show linkAt PArc.tran PArc.from_ (ars.take (k + 1)) (j : Int) = linkAt PArc.tran PArc.from_ (ars.take k) (j : Int) ++ if a.tran = (j : Int) then [a.from_] else [] by rw [take_snoc ha.out]; exact linkAt_snoc _ _ _ _ _)
            have hlen : (linkAt PArc.tran PArc.from_ (ars.take k) (j : Int)).length ≤ k := Nat.le_trans (linkAt_len _ _ _ _) (by rw [List.length_take]; omega)
            obtain ⟨y, hy⟩ : ∃ y, a.from_ = y := ⟨_, rfl⟩
            obtain ⟨x, hx⟩ : ∃ x, a.tran = x := ⟨_, rfl⟩
            rw [hx] at t1
            rw [hy] at t0
            rw [hx, hy] at NX
            clear hx hy
            by_cases hxe : x = (j : Int)
            · subst hxe
              rw [if_pos rfl] at NX
              have HDL := hide2 (show (linkAt PArc.tran PArc.from_ (ars.take (k + 1)) (j : Int)).length = (linkAt PArc.tran PArc.from_ (ars.take k) (j : Int)).length + 1 by rw [NX.out]; simp)
              go_wp2_with (at_builtin; refine wpList_appInt rfl _ _ rfl rfl rfl (by first | rfl | simp) OX.out BW.out BW.out.size (by omega) ?_; intro v4 w4 own4 hg4 hb4; have O4 := hide2 own4; have B4 := hide2 hb4; clear own4 hg4 hb4)
              go_roundw
              case rel => exact ⟨k + 1, by omega, by go_num, by rw [HDL.out, NX.out]; exact O4, B4⟩
              case measure => simp [intOf]; omega
            · rw [if_neg hxe, List.append_nil] at NX
              have hne : (x == (j : Int)) = false := by simpa using hxe
              clear hxe
              go_wp2
              go_roundw
              case rel => exact ⟨k + 1, by omega, by go_num, by rw [NX.out]; exact OX, BW⟩
              case measure => simp [intOf]; omega
          · obtain rfl : k = m := by omega
            have OF := hide2 (show OwnInts wr wq.heap.size u8 (linkAt PArc.tran PArc.from_ ars (j : Int)).length (linkAt PArc.tran PArc.from_ ars (j : Int)) by have := OI.out; rwa [List.take_of_length_le (by rw [gl]; exact Nat.le_refl _)] at this)
            have hsl := linkAt_len PArc.tran PArc.from_ ars (j : Int)
            obtain ⟨Af, cf, hfv, iff⟩ := OF.out.sl (by omega)
            have IN := hide2 iff
            have BW := hide2 (BQ.out.trans (BR.out.mono BQ.out.size))
            have OW1 := hide2 (OW.out.keep IntR.kept BR.out)
            have HSI := hide2 (show ∀ s ∈ linkAt PArc.tran PArc.from_ ars (j : Int), Inn n s from fun s hs => by
              obtain ⟨a, ha, rfl⟩ := List.mem_map.1 hs
              exact HF.out a (List.mem_filter.1 ha).1)
            subst hfv
            clear iff OF OI
            obtain ⟨p, hp⟩ : ∃ p, liveAt ars n j = p := ⟨_, rfl⟩
            have HP := hide2 (show (spreadL ars n (linkAt PArc.tran PArc.from_ ars (j : Int))).any (fun y => false == y) = !p by rw [← hp]; unfold liveAt; rw [Bool.not_not])
            rw [hp] at DS
            clear hp
            cases p
            · rw [if_neg (by decide), List.append_nil] at DS
              go_wp2_with (first
                | (refine (spread_calls (Sl.keep ListR.kept LW.out BW.out) IN.out hn (by omega) (by omega) HSI.out HF.out HT.out).mono ?_; rintro e w3 ⟨gs, rfl, ob, b3⟩; have OB := hide2 ob.s; have OW3 := hide2 (OW1.out.keep IntR.kept b3); have B3 := hide2 (BW.out.trans (b3.mono BW.out.size)); clear ob b3)
                | (refine (containsBool_calls false OB.out (by omega)).mono ?_; rintro e w' ⟨rfl, rfl⟩; rw [HP.out]))
              go_roundw
              case rel => exact ⟨j + 1, by omega, by go_num, by rw [DS.out]; exact OW3, B3⟩
              case measure => simp [intOf]; omega
            · rw [if_pos rfl] at DS
              have HDL := hide2 (show (pickL (liveAt ars n) (j + 1)).length = (pickL (liveAt ars n) j).length + 1 by rw [DS.out]; simp)
              go_wp2_with (first
                | (refine (spread_calls (Sl.keep ListR.kept LW.out BW.out) IN.out hn (by omega) (by omega) HSI.out HF.out HT.out).mono ?_; rintro e w3 ⟨gs, rfl, ob, b3⟩; have OB := hide2 ob.s; have OW3 := hide2 (OW1.out.keep IntR.kept b3); have B3 := hide2 (BW.out.trans (b3.mono BW.out.size)); clear ob b3)
                | (refine (containsBool_calls false OB.out (by omega)).mono ?_; rintro e w' ⟨rfl, rfl⟩; rw [HP.out])
                | (at_builtin; refine wpList_appInt rfl _ _ rfl rfl rfl (by first | rfl | simp) OW3.out B3.out B3.out.size (by omega) ?_; intro v4 w4 own4 hg4 hb4; have O4 := hide2 own4; have B4 := hide2 hb4; clear own4 hg4 hb4))
              go_roundw
              case rel => exact ⟨j + 1, by omega, by go_num, by rw [HDL.out, DS.out]; exact O4, B4⟩
              case measure => simp [intOf]; omega
      · obtain rfl : N = j := by omega
        have hji : M ≤ (N : Int) := by have := HN.out; omega
        have hdl := pickL_len (liveAt ars n) N
        obtain ⟨Au, cu, hu, iu⟩ := OW.out.sl (by omega)
        have FR := hide2 (((OW.out.fresh hu).mono B2.out.size).mono HB.out.size)
        have IU := hide2 iu
        subst hu
        clear iu
        go_wp2
        go_ret
        rw [FN.out]
        exact ⟨Au, cu, rfl, IU.out, HB.out.trans ((B2.out.trans (BQ.out.mono B2.out.size)).mono HB.out.size), FR.out⟩
end Go.Proofs.Ytpagenlealddhaa
