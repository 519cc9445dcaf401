/- Lists that a call owns, side by side in a row that it owns; the contract of live.links. Conditions: the slices read as lists; the ends that links takes for places lie among the marks. | The contract of live.links, both ways. Conditions: the slices read as lists; the ends that links takes for places lie among the marks. | What live.spread finds: the plain law of its rounds. Conditions: the arcs are between marks. -/
import Derived.Test.YtpagenlealddhaaLiveB
import Derived.Test.YtpagenlealddhaaCaseE
import Derived.Test.YtpagenlealddhaaCaseL
import Derived.Test.YtpagenlealddhaaPlainH
namespace Go.Proofs.Ytpagenlealddhaa
open Go.RowKit

def LinkW (w : World) (B g n : Nat) (ls : List (List Int)) : Prop :=
  ∃ cells : List Value, w.ownsRow B 49 1 (.slice (some ⟨g, 0, none⟩) n n) n cells ∧ ls.length = n ∧ (∀ (k : Nat) (x : List Int), ls[k]? = some x → ∃ v, cells[k]? = some v ∧ OwnInts w B v x.length x) ∧
    (∀ (k l : Nat) (u v : Value), k ≠ l → cells[k]? = some u → cells[l]? = some v → u.ownBlock = none ∨ u.ownBlock ≠ v.ownBlock)
section
variable {w w' : World} {B g n : Nat} {ls : List (List Int)}
theorem LinkW.made (h : w.ownsRow B 49 1 (.slice (some ⟨g, 0, none⟩) n n) n (List.replicate n (.slice none 0 0))) : LinkW w B g n (List.replicate n []) := by
  refine ⟨_, h, List.length_replicate, fun k x hx => ?_, fun k l u v _ hu _ => ?_⟩
  · obtain ⟨hk, rfl⟩ := List.getElem?_eq_some_iff.1 hx
    rw [List.length_replicate] at hk
    refine ⟨_, List.getElem?_replicate_of_lt hk, ?_⟩
    rw [List.getElem_replicate]
    exact OwnSl.nil
  · obtain ⟨hk, rfl⟩ := List.getElem?_eq_some_iff.1 hu
    rw [List.getElem_replicate]
    exact .inl rfl
theorem LinkW.keep (h : LinkW w B g n ls) (hb : Below w.heap.size w w') : LinkW w' B g n ls := by
  obtain ⟨cells, h1, h2, h3, h4⟩ := h
  refine ⟨cells, h1.kept (row := none) ⟨hb.os, hb.tape, hb.output, hb.size, fun k hk _ => hb.block k hk⟩ (.inr (by simp [Value.ownBlock])), h2, fun k x hx => ?_, h4⟩
  obtain ⟨v, a, b⟩ := h3 k x hx
  exact ⟨v, a, b.keep IntR.kept hb⟩
theorem LinkW.base {B' : Nat} (h : LinkW w B g n ls) (hB : B' ≤ B) : LinkW w B' g n ls := by
  obtain ⟨cells, h1, h2, h3, h4⟩ := h
  refine ⟨cells, ⟨h1.1, ?_⟩, h2, fun k x hx => ?_, h4⟩
  · rcases h1.2 with e | ⟨g1, cap, cur, e1, e2, e3⟩
    · exact .inl e
    · exact .inr ⟨g1, cap, cur, e1, Nat.le_trans hB e2, e3⟩
  obtain ⟨v, a, b⟩ := h3 k x hx
  exact ⟨v, a, b.base hB⟩
theorem LinkW.lt (h : LinkW w B g n ls) : B ≤ g ∧ g < w.heap.size := by
  obtain ⟨cells, h1, _⟩ := h
  exact h1.lt g rfl
theorem LinkW.get (h : LinkW w B g n ls) {k : Nat} (hk : k < n) : ∃ v x, ls[k]? = some x ∧ w.cell? ⟨g, k, none⟩ = some v ∧ OwnInts w B v x.length x := by
  obtain ⟨cells, h1, h2, h3, _⟩ := h
  have hx : ls[k]? = some (ls[k]'(by omega)) := List.getElem?_eq_getElem _
  obtain ⟨v, a, b⟩ := h3 k _ hx
  exact ⟨v, _, hx, by rw [h1.cellAt k (by omega)]; exact a, b⟩
/-- One list, appended to, and laid in its place again. -/
theorem LinkW.put {w1 : World} (h : LinkW w B g n ls) {i g' cap : Nat} {x : List Int} {y : Int} {v : Value} (hx : ls[i]? = some x) (hv : w.cell? ⟨g, i, none⟩ = some v) (hg : w.grownBy w1 v.ownBlock)
    (own : OwnInts w1 B (.slice (some ⟨g', 0, none⟩) (x.length + 1) cap) (x.length + 1) (x ++ [y])) (lies : v.ownBlock = some g' ∨ w.heap.size ≤ g') :
    w1.cell? ⟨g, i, none⟩ = some v ∧ w1.frozen? ⟨g, i, none⟩ = false ∧ LinkW (w1.setCell ⟨g, i, none⟩ (.slice (some ⟨g', 0, none⟩) (x.length + 1) cap)) B g n (ls.set i (x ++ [y])) := by
  obtain ⟨cells, h1, h2, h3, h4⟩ := h
  have hi : i < n := by rw [← h2]; exact (List.getElem?_eq_some_iff.1 hx).1
  obtain ⟨v', a, b⟩ := h3 i x hx
  have hvv : v' = v := by
    rw [h1.cellAt i (by omega), a] at hv
    injection hv
  subst hvv
  have r1 := h1.kept hg (by
    obtain ⟨cs, b1, _⟩ := b
    rcases own_ne b1 h1 (by decide) with e | e
    · exact .inr (by rw [e]; simp [Value.ownBlock])
    · exact .inr (fun e2 => e e2.symm))
  have hgne : g ≠ g' := by
    intro e
    subst e
    obtain ⟨cs, b1, _⟩ := own
    rcases own_ne b1 r1 (by decide) with e | e
    · cases e
    · exact e rfl
  have hlt := (h1.lt g rfl).2
  refine ⟨by rw [r1.cellAt i (by omega)]; exact a, r1.frozenAt i, ⟨_, (r1.stored i _).1, by rw [List.length_set]; exact h2, fun k z hz => ?_, fun k l u t hkl hu ht => ?_⟩⟩
  · by_cases hki : k = i
    · subst hki
      rw [List.getElem?_set_self (by omega)] at hz
      injection hz with hz
      subst hz
      refine ⟨_, List.getElem?_set_self (by have := h1.1; omega), ?_⟩
      rw [List.length_append]
      refine OwnInts.of_row (ownsRow_setCell_other own.row (fun e => ?_) _)
      simp only [Value.ownBlock, Option.some.injEq] at e
      exact hgne e.symm
    · rw [List.getElem?_set_ne (fun e => hki e.symm)] at hz
      obtain ⟨t, c, d⟩ := h3 k z hz
      refine ⟨t, by rw [List.getElem?_set_ne (fun e => hki e.symm)]; exact c, ?_⟩
      refine OwnInts.of_row (ownsRow_setCell_other ((d.row).kept hg (h4 k i t v' hki c a)) ?_ _)
      obtain ⟨cs, d1, _⟩ := d
      rcases own_ne d1 h1 (by decide) with e | e
      · rw [e]; simp
      · exact e
  · by_cases hki : k = i
    · subst hki
      rw [List.getElem?_set_self (by have := h1.1; omega)] at hu
      rw [List.getElem?_set_ne hkl] at ht
      injection hu with hu
      subst hu
      refine .inr (fun e => ?_)
      rcases lies with e2 | e2
      · rcases h4 k l v' t hkl a ht with e3 | e3
        · rw [e3] at e2; cases e2
        · exact e3 (by rw [e2]; exact e)
      · have hl : l < ls.length := by have := (List.getElem?_eq_some_iff.1 ht).1; have := h1.1; omega
        obtain ⟨t', c, d⟩ := h3 l _ (List.getElem?_eq_getElem hl)
        rw [ht] at c
        injection c with c
        subst c
        have := (d.lt g' e.symm).2
        omega
    · rw [List.getElem?_set_ne (fun e => hki e.symm)] at hu
      by_cases hli : l = i
      · subst hli
        rw [List.getElem?_set_self (by have := h1.1; omega)] at ht
        injection ht with ht
        subst ht
        have hl : k < ls.length := by have := (List.getElem?_eq_some_iff.1 hu).1; have := h1.1; omega
        obtain ⟨t', c, d⟩ := h3 k _ (List.getElem?_eq_getElem hl)
        rw [hu] at c
        injection c with c
        subst c
        rcases lies with e2 | e2
        · rcases h4 k l u v' hki hu a with e3 | e3
          · exact .inl e3
          · exact .inr (fun e => e3 (e.trans e2.symm))
        · refine .inr (fun e => ?_)
          have := (d.lt g' e).2
          omega
      · rw [List.getElem?_set_ne (fun e => hli e.symm)] at ht
        exact h4 k l u t hkl hu ht
theorem LinkW.lists (h : LinkW w B g n ls) (hn : n ≤ 281474976710656) (hl : ∀ x ∈ ls, x.length ≤ 17592186043904) : Lists w (some ⟨g, 0, none⟩) n n ls := by
  obtain ⟨cells, h1, h2, h3, h4⟩ := h
  have hr : Reads ListR 1 w cells ls := by
    refine ⟨by rw [h1.1, h2], fun i x hx => ?_⟩
    obtain ⟨v, a, b⟩ := h3 i x hx
    have hlen := hl x (List.mem_of_getElem? hx)
    obtain ⟨A, c, e, s⟩ := b.sl (by omega)
    exact ⟨fun _ => v, fun j hj => (by
      obtain rfl : j = 0 := by omega
      simpa using a), A, x.length, c, e, s, hlen⟩
  obtain ⟨A, c, e, s⟩ := OwnSl.sl (⟨cells, h1, hr, h2⟩ : OwnSl ListR 1 w B 49 (.slice (some ⟨g, 0, none⟩) n n) n ls) hn
  injection e with e1 e2 e3
  subst e1 e3
  exact s
end

/-! ### what leads where -/
def linkAt (key val : PArc → Int) (ars : List PArc) (k : Int) : List Int := (ars.filter fun a => key a == k).map val
def linkL (key val : PArc → Int) (ars : List PArc) (n : Nat) : List (List Int) := (List.range n).map fun (k : Nat) => linkAt key val ars (k : Int)
theorem linkL_nil (key val : PArc → Int) (n : Nat) : linkL key val [] n = List.replicate n [] := by
  apply List.ext_getElem (by simp [linkL])
  intro i h1 h2
  simp [linkL, linkAt]
theorem linkL_get {key val : PArc → Int} {ars : List PArc} {n k : Nat} (hk : k < n) : (linkL key val ars n)[k]? = some (linkAt key val ars (k : Int)) := by simp [linkL, hk]
theorem linkAt_snoc (key val : PArc → Int) (l : List PArc) (a : PArc) (k : Int) : linkAt key val (l ++ [a]) k = linkAt key val l k ++ if key a = k then [val a] else [] := by
  unfold linkAt
  rw [List.filter_append, List.map_append]
  congr 1
  by_cases h : key a = k <;> simp [h]
theorem linkL_snoc {key val : PArc → Int} {l : List PArc} {a : PArc} {n i : Nat} (hi : key a = (i : Int)) : linkL key val (l ++ [a]) n = (linkL key val l n).set i (linkAt key val l (i : Int) ++ [val a]) := by
  apply List.ext_getElem (by simp [linkL])
  intro j h1 h2
  by_cases hj : i = j
  · subst hj
    rw [List.getElem_set_self]
    simp only [linkL, List.getElem_map, List.getElem_range]
    rw [linkAt_snoc, if_pos hi]
  · rw [List.getElem_set_ne hj]
    simp only [linkL, List.getElem_map, List.getElem_range]
    rw [linkAt_snoc, if_neg (by rw [hi]; omega), List.append_nil]
theorem linkAt_len (key val : PArc → Int) (l : List PArc) (k : Int) : (linkAt key val l k).length ≤ l.length := by
  unfold linkAt
  rw [List.length_map]
  exact List.length_filter_le _ _
theorem linkL_length (key val : PArc → Int) (l : List PArc) (n : Nat) : (linkL key val l n).length = n := by simp [linkL]
theorem linkL_small {key val : PArc → Int} {l : List PArc} {n : Nat} {x : List Int} (hx : x ∈ linkL key val l n) : x.length ≤ l.length := by
  obtain ⟨k, _, rfl⟩ := List.mem_map.1 hx
  exact linkAt_len _ _ _ _
theorem infoListInt : (Try.prog.info? 49).map (fun i => (i.zero, i.size, i.bytes)) = some (some (.slice none 0 0), 1, 24) := by kernel_rfl

/-- What links answers: lists of its own. -/
def AnsLink (ls : List (List Int)) (n : Nat) (w : World) (e : Ending) (w' : World) : Prop :=
  ∃ g, e = .returned (.slice (some ⟨g, 0, none⟩) n n) ∧ LinkW w' w.heap.size g n ls ∧ Below w.heap.size w w'
end Go.Proofs.Ytpagenlealddhaa
namespace Go.Proofs.Ytpagenlealddhaa
open Go.RowKit

set_option maxRecDepth 100000 in
set_option maxHeartbeats 2000000 in
theorem linksBack_calls {w : World} {A D : Option Addr} {n c m d : Nat} {ms : List (List Int)} {ars : List PArc} (_ : Lists w A n c ms) (g : Arcs w D m d ars) (hn : n ≤ 5864062014634) (hm : m ≤ 5864062014634) (hin : ∀ (k : Nat) (a : PArc), ars[k]? = some a → 0 ≤ a.to_ ∧ a.to_ < (n : Int)) :
    Calls Try.prog 66 #[.agg #[.slice A n c, .slice D m d], .bool true] w (AnsLink (linkL PArc.to_ PArc.from_ ars n) n w) := by
  have HB := hide2 (boxBelow w (.cells #[.slice A n c, .slice D m d] 46))
  have HIN := hide2 hin
  clear hin
  go_enter Try.func66, Try.ntmps66
  go_upto_region 1 with fail
  generalize hw0 : w.alloc (.cells #[.slice A n c, .slice D m d] 46) = w0
  have D0 := hide2 (show Below w.heap.size w w0 by rw [← hw0]; exact HB.out)
  have X0 := hide2 (show Box w0 w.heap.size 46 #[.slice A n c, .slice D m d] by rw [← hw0]; exact Box.new _ _ _)
  have G := hide2 (Sl.keep ArcR.kept g D0.out)
  have hms := g.small
  clear hw0 g
  obtain ⟨c0, c1⟩ := X0.out.two
  go_upto_region 3 with (at_make; refine wpList_mk Try.underlying43 infoListInt rfl rfl _ _ rfl n rfl rfl rfl rfl (by omega) (by omega) (Below.refl w0.heap.size w0) (Nat.le_refl _) ?_; intro w2 own2 hg2 hb2; have L2 := hide2 (LinkW.made own2); have B2 := hide2 hb2; have gg := hide2 L2.out.lt; have c1' := (X0.out.keep B2.out).two.2; clear own2 hg2 hb2)
  clear c0 c1
  go_loopw [17] (fun v wr => ∃ k : Nat, k ≤ m ∧ v = .int .i64 k ∧ Hid (LinkW wr w0.heap.size w0.heap.size n (linkL PArc.to_ PArc.from_ (ars.take k) n)) ∧ Hid (Below w0.heap.size w0 wr)) (fun v _ => m - (intOf v).toNat)
  case atStart => exact ⟨0, Nat.zero_le _, rfl, hide2 (by rw [List.take_zero, linkL_nil]; exact L2.out), B2⟩
  case round =>
    obtain ⟨k, hk, rfl, LW, BR⟩ := hrel
    by_cases hlt : k < m
    · have hki : (k : Int) < (m : Int) := by omega
      obtain ⟨bl, off, a, rfl, hbl, ha, q0, q1, q2, _⟩ := Arcs.get (Sl.keep ArcR.kept G.out BR.out) hlt
      have bb := boxBelow wr (.cells #[.int .i64 a.from_, .int .i64 a.tran, .int .i64 a.to_] 118)
      have WA := hide2 (Box.new wr #[.int .i64 a.from_, .int .i64 a.tran, .int .i64 a.to_] 118)
      have BW := hide2 (BR.out.trans (bb.mono BR.out.size))
      have LX := hide2 (LW.out.keep bb)
      go_upto_region 5 with fail
      clear bb q0 q1 q2 BR LW
      generalize wr.alloc (.cells #[.int .i64 a.from_, .int .i64 a.tran, .int .i64 a.to_] 118) = u0 at *
      generalize wr.heap.size = bx at *
      obtain ⟨t0, t1, t2⟩ := WA.out.three
      obtain ⟨hi0, hi1⟩ := HIN.out k a ha.out
      obtain ⟨i, hi⟩ : ∃ i : Nat, a.to_ = (i : Int) := ⟨a.to_.toNat, by omega⟩
      have hin : i < n := by omega
      have hii : (i : Int) < (n : Int) := by omega
      have NX := hide2 (show linkL PArc.to_ PArc.from_ (ars.take (k + 1)) n = (linkL PArc.to_ PArc.from_ (ars.take k) n).set i (linkAt PArc.to_ PArc.from_ (ars.take k) (i : Int) ++ [a.from_]) by rw [take_snoc ha.out]; exact linkL_snoc hi)
      have hlen : (linkAt PArc.to_ PArc.from_ (ars.take k) (i : Int)).length ≤ k := Nat.le_trans (linkAt_len _ _ _ _) (by rw [List.length_take]; omega)
      obtain ⟨y, hy⟩ : ∃ y, a.from_ = y := ⟨_, rfl⟩
      rw [hi] at t2
      rw [hy] at t0
      rw [hy] at NX
      clear hi0 hi1 hi hy
      go_wp2
      go_quiet (fail)
      clear t0 t1 t2
      have LD := hide2 (LX.out.keep (Drew.drewN u0 nq).below)
      have BE := hide2 (BW.out.trans ((Drew.drewN u0 nq).below.mono BW.out.size))
      generalize u0.drewN nq = u1 at *
      obtain ⟨v, x, hx, hc, ov⟩ := LD.out.get hin
      obtain rfl : x = linkAt PArc.to_ PArc.from_ (ars.take k) (i : Int) := by
        have h := linkL_get (key := PArc.to_) (val := PArc.from_) (ars := ars.take k) hin
        rw [h] at hx
        injection hx with hx
        exact hx.symm
      have HX := hide2 hx
      have OV := hide2 ov
      generalize linkAt PArc.to_ PArc.from_ (ars.take k) (i : Int) = z at *
      have HC := hide2 hc
      clear ov hx LX BW
      go_wp2_with (at_builtin; refine wpList_appLies tyInts rfl _ _ rfl [y] #[.int .i64 y] rfl rfl (by first | rfl | simp) rfl (by omega) (by simp [Value.oneCell']) OV.out (Reads.one (vs := fun _ => .int .i64 y) rfl rfl (fun j hj => (by obtain rfl : j = 0 := (by omega); rfl))) rfl BE.out BE.out.size (by omega) (by omega) (fun _ _ _ _ h => h) ?_; intro g' cap w5 own5 hg5 hb5 lies5; obtain ⟨p1, p2, p3⟩ := LD.out.put HX.out HC.out hg5 own5 lies5; have P3 := hide2 p3; have B5 := hide2 hb5; clear own5 hg5 hb5 lies5 p3 hc)
      go_roundw
      case rel => exact ⟨k + 1, by omega, by go_num, hide2 (by rw [NX.out]; exact P3.out), hide2 (B5.out.setCell (Nat.le_refl _) _)⟩
      case measure => simp [intOf]; omega
    · obtain rfl : k = m := by omega
      have LF := hide2 (show LinkW wr w.heap.size w0.heap.size n (linkL PArc.to_ PArc.from_ ars n) by
        have := LW.out.base D0.out.size
        rwa [List.take_of_length_le (by rw [G.out.len]; exact Nat.le_refl _)] at this)
      go_wp2
      go_ret
      exact ⟨_, rfl, LF.out, D0.out.trans (BR.out.mono D0.out.size)⟩

set_option maxRecDepth 100000 in
set_option maxHeartbeats 2000000 in
theorem linksOn_calls {w : World} {A D : Option Addr} {n c m d : Nat} {ms : List (List Int)} {ars : List PArc} (_ : Lists w A n c ms) (g : Arcs w D m d ars) (hn : n ≤ 5864062014634) (hm : m ≤ 5864062014634) (hin : ∀ (k : Nat) (a : PArc), ars[k]? = some a → 0 ≤ a.from_ ∧ a.from_ < (n : Int)) :
    Calls Try.prog 66 #[.agg #[.slice A n c, .slice D m d], .bool false] w (AnsLink (linkL PArc.from_ PArc.to_ ars n) n w) := by
  have HB := hide2 (boxBelow w (.cells #[.slice A n c, .slice D m d] 46))
  have HIN := hide2 hin
  clear hin
  go_enter Try.func66, Try.ntmps66
  go_upto_region 1 with fail
  generalize hw0 : w.alloc (.cells #[.slice A n c, .slice D m d] 46) = w0
  have D0 := hide2 (show Below w.heap.size w w0 by rw [← hw0]; exact HB.out)
  have X0 := hide2 (show Box w0 w.heap.size 46 #[.slice A n c, .slice D m d] by rw [← hw0]; exact Box.new _ _ _)
  have G := hide2 (Sl.keep ArcR.kept g D0.out)
  have hms := g.small
  clear hw0 g
  obtain ⟨c0, c1⟩ := X0.out.two
  go_upto_region 3 with (at_make; refine wpList_mk Try.underlying43 infoListInt rfl rfl _ _ rfl n rfl rfl rfl rfl (by omega) (by omega) (Below.refl w0.heap.size w0) (Nat.le_refl _) ?_; intro w2 own2 hg2 hb2; have L2 := hide2 (LinkW.made own2); have B2 := hide2 hb2; have gg := hide2 L2.out.lt; have c1' := (X0.out.keep B2.out).two.2; clear own2 hg2 hb2)
  clear c0 c1
  go_loopw [17] (fun v wr => ∃ k : Nat, k ≤ m ∧ v = .int .i64 k ∧ Hid (LinkW wr w0.heap.size w0.heap.size n (linkL PArc.from_ PArc.to_ (ars.take k) n)) ∧ Hid (Below w0.heap.size w0 wr)) (fun v _ => m - (intOf v).toNat)
  case atStart => exact ⟨0, Nat.zero_le _, rfl, hide2 (by rw [List.take_zero, linkL_nil]; exact L2.out), B2⟩
  case round =>
    obtain ⟨k, hk, rfl, LW, BR⟩ := hrel
    by_cases hlt : k < m
    · have hki : (k : Int) < (m : Int) := by omega
      obtain ⟨bl, off, a, rfl, hbl, ha, q0, q1, q2, _⟩ := Arcs.get (Sl.keep ArcR.kept G.out BR.out) hlt
      have bb := boxBelow wr (.cells #[.int .i64 a.from_, .int .i64 a.tran, .int .i64 a.to_] 118)
      have WA := hide2 (Box.new wr #[.int .i64 a.from_, .int .i64 a.tran, .int .i64 a.to_] 118)
      have BW := hide2 (BR.out.trans (bb.mono BR.out.size))
      have LX := hide2 (LW.out.keep bb)
      go_upto_region 5 with fail
      clear bb q0 q1 q2 BR LW
      generalize wr.alloc (.cells #[.int .i64 a.from_, .int .i64 a.tran, .int .i64 a.to_] 118) = u0 at *
      generalize wr.heap.size = bx at *
      obtain ⟨t0, t1, t2⟩ := WA.out.three
      obtain ⟨hi0, hi1⟩ := HIN.out k a ha.out
      obtain ⟨i, hi⟩ : ∃ i : Nat, a.from_ = (i : Int) := ⟨a.from_.toNat, by omega⟩
      have hin : i < n := by omega
      have hii : (i : Int) < (n : Int) := by omega
      have NX := hide2 (show linkL PArc.from_ PArc.to_ (ars.take (k + 1)) n = (linkL PArc.from_ PArc.to_ (ars.take k) n).set i (linkAt PArc.from_ PArc.to_ (ars.take k) (i : Int) ++ [a.to_]) by rw [take_snoc ha.out]; exact linkL_snoc hi)
      have hlen : (linkAt PArc.from_ PArc.to_ (ars.take k) (i : Int)).length ≤ k := Nat.le_trans (linkAt_len _ _ _ _) (by rw [List.length_take]; omega)
      obtain ⟨y, hy⟩ : ∃ y, a.to_ = y := ⟨_, rfl⟩
      rw [hi] at t0
      rw [hy] at t2
      rw [hy] at NX
      clear hi0 hi1 hi hy
      go_wp2
      go_quiet (fail)
      clear t0 t1 t2
      have LD := hide2 (LX.out.keep (Drew.drewN u0 nq).below)
      have BE := hide2 (BW.out.trans ((Drew.drewN u0 nq).below.mono BW.out.size))
      generalize u0.drewN nq = u1 at *
      obtain ⟨v, x, hx, hc, ov⟩ := LD.out.get hin
      obtain rfl : x = linkAt PArc.from_ PArc.to_ (ars.take k) (i : Int) := by
        have h := linkL_get (key := PArc.from_) (val := PArc.to_) (ars := ars.take k) hin
        rw [h] at hx
        injection hx with hx
        exact hx.symm
      have HX := hide2 hx
      have OV := hide2 ov
      generalize linkAt PArc.from_ PArc.to_ (ars.take k) (i : Int) = z at *
      have HC := hide2 hc
      clear ov hx LX BW
      go_wp2_with (at_builtin; refine wpList_appLies tyInts rfl _ _ rfl [y] #[.int .i64 y] rfl rfl (by first | rfl | simp) rfl (by omega) (by simp [Value.oneCell']) OV.out (Reads.one (vs := fun _ => .int .i64 y) rfl rfl (fun j hj => (by obtain rfl : j = 0 := (by omega); rfl))) rfl BE.out BE.out.size (by omega) (by omega) (fun _ _ _ _ h => h) ?_; intro g' cap w5 own5 hg5 hb5 lies5; obtain ⟨p1, p2, p3⟩ := LD.out.put HX.out HC.out hg5 own5 lies5; have P3 := hide2 p3; have B5 := hide2 hb5; clear own5 hg5 hb5 lies5 p3 hc)
      go_roundw
      case rel => exact ⟨k + 1, by omega, by go_num, hide2 (by rw [NX.out]; exact P3.out), hide2 (B5.out.setCell (Nat.le_refl _) _)⟩
      case measure => simp [intOf]; omega
    · obtain rfl : k = m := by omega
      have LF := hide2 (show LinkW wr w.heap.size w0.heap.size n (linkL PArc.from_ PArc.to_ ars n) by
        have := LW.out.base D0.out.size
        rwa [List.take_of_length_le (by rw [G.out.len]; exact Nat.le_refl _)] at this)
      go_wp2
      go_ret
      exact ⟨_, rfl, LF.out, D0.out.trans (BR.out.mono D0.out.size)⟩
end Go.Proofs.Ytpagenlealddhaa
namespace Go.Proofs.Ytpagenlealddhaa
open Go.RowKit

def nxt (ars : List PArc) (k : Int) : List Int := linkAt PArc.to_ PArc.from_ ars k
def Inn (n : Nat) (x : Int) : Prop := 0 ≤ x ∧ x < (n : Int)
theorem nxt_in {ars : List PArc} {n : Nat} (h : ∀ a ∈ ars, Inn n a.from_) {k z : Int} (hz : z ∈ nxt ars k) : Inn n z := by
  obtain ⟨a, ha, rfl⟩ := List.mem_map.1 hz
  exact h a (List.mem_filter.1 ha).1

structure SpI (ars : List PArc) (n : Nat) (src : List Int) (bs : List Bool) (todo : List Int) : Prop where
  len : bs.length = n
  had : ∀ k : Nat, bs[k]? = some true → ∃ s ∈ src, Reach (nxt ars) s (k : Int)
  due : ∀ x ∈ todo, Inn n x ∧ ∃ s ∈ src, Reach (nxt ars) s x
  from_ : ∀ s ∈ src, s ∈ todo ∨ bs[s.toNat]? = some true
  next : ∀ k : Nat, bs[k]? = some true → ∀ z ∈ nxt ars (k : Int), z ∈ todo ∨ bs[z.toNat]? = some true
section
variable {ars : List PArc} {n : Nat} {src todo : List Int} {bs : List Bool} {x : Int}
theorem SpI.start (h : ∀ s ∈ src, Inn n s) : SpI ars n src (List.replicate n false) src where
  len := by simp
  had := fun k hk => by
    obtain ⟨hl, e⟩ := List.getElem?_eq_some_iff.1 hk
    rw [List.getElem_replicate] at e
    cases e
  due := fun x hx => ⟨h x hx, x, hx, .refl _⟩
  from_ := fun s hs => .inl hs
  next := fun k hk => by
    obtain ⟨hl, e⟩ := List.getElem?_eq_some_iff.1 hk
    rw [List.getElem_replicate] at e
    cases e
theorem SpI.skip (h : SpI ars n src bs (todo ++ [x])) (hx : bs[x.toNat]? = some true) : SpI ars n src bs todo where
  len := h.len
  had := h.had
  due := fun y hy => h.due y (List.mem_append_left _ hy)
  from_ := fun s hs => by
    rcases h.from_ s hs with a | a
    · rcases List.mem_append.1 a with b | b
      · exact .inl b
      · rw [List.mem_singleton.1 b]; exact .inr hx
    · exact .inr a
  next := fun k hk z hz => by
    rcases h.next k hk z hz with a | a
    · rcases List.mem_append.1 a with b | b
      · exact .inl b
      · rw [List.mem_singleton.1 b]; exact .inr hx
    · exact .inr a
theorem SpI.take (h : SpI ars n src bs (todo ++ [x])) (ha : ∀ a ∈ ars, Inn n a.from_) : SpI ars n src (bs.set x.toNat true) (todo ++ nxt ars x) := by
  obtain ⟨hxn, s0, hs0, hr0⟩ := h.due x (List.mem_append_right _ (List.mem_singleton.2 rfl))
  have hxl : x.toNat < bs.length := by have := h.len; have := hxn.1; have := hxn.2; omega
  have hset : (bs.set x.toNat true)[x.toNat]? = some true := List.getElem?_set_self hxl
  have hmore : ∀ j : Nat, bs[j]? = some true → (bs.set x.toNat true)[j]? = some true := fun j hj => by
    by_cases e : x.toNat = j
    · subst e; exact hset
    · rw [List.getElem?_set_ne e]; exact hj
  have hback : ∀ j : Nat, (bs.set x.toNat true)[j]? = some true → (j : Int) = x ∨ bs[j]? = some true := fun j hj => by
    by_cases e : x.toNat = j
    · left; have := hxn.1; omega
    · rw [List.getElem?_set_ne e] at hj; exact .inr hj
  have hmove : ∀ z : Int, z ∈ todo ++ [x] ∨ bs[z.toNat]? = some true → z ∈ todo ++ nxt ars x ∨ (bs.set x.toNat true)[z.toNat]? = some true := fun z hz => by
    rcases hz with a | a
    · rcases List.mem_append.1 a with b | b
      · exact .inl (List.mem_append_left _ b)
      · rw [List.mem_singleton.1 b]; exact .inr hset
    · exact .inr (hmore _ a)
  refine ⟨by rw [List.length_set]; exact h.len, fun k hk => ?_, fun y hy => ?_, fun s hs => hmove s (h.from_ s hs), fun k hk z hz => ?_⟩
  · rcases hback k hk with e | e
    · rw [e]; exact ⟨s0, hs0, hr0⟩
    · exact h.had k e
  · rcases List.mem_append.1 hy with b | b
    · exact h.due y (List.mem_append_left _ b)
    · exact ⟨nxt_in ha b, s0, hs0, hr0.last b⟩
  · rcases hback k hk with e | e
    · rw [e] at hz; exact .inl (List.mem_append_right _ hz)
    · exact hmove z (h.next k e z hz)
theorem SpI.done (h : SpI ars n src bs []) (hs : ∀ s ∈ src, Inn n s) (ha : ∀ a ∈ ars, Inn n a.from_) (k : Nat) (_ : k < n) : bs[k]? = some true ↔ ∃ s ∈ src, Reach (nxt ars) s (k : Int) := by
  refine ⟨h.had k, fun ⟨s, h1, h2⟩ => ?_⟩
  have hc : ∀ y : Int, (Inn n y ∧ bs[y.toNat]? = some true) → ∀ z ∈ nxt ars y, (Inn n z ∧ bs[z.toNat]? = some true) := fun y hy z hz => by
    refine ⟨nxt_in ha hz, ?_⟩
    rcases h.next y.toNat hy.2 z (by rw [Int.toNat_of_nonneg hy.1.1]; exact hz) with a | a
    · simp at a
    · exact a
  have := (h2.closedP hc ⟨hs s h1, by
    rcases h.from_ s h1 with a | a
    · simp at a
    · exact a⟩).2
  simpa using this
end

/-! ### how much is to do -/
def restL : List Bool → List (List Int) → Nat
  | b :: bs, l :: ls => (if b = true then 0 else l.length) + restL bs ls
  | _, _ => 0
theorem restL_set : ∀ (bs : List Bool) (ls : List (List Int)) (k : Nat) (l : List Int), bs[k]? = some false → ls[k]? = some l → restL (bs.set k true) ls + l.length = restL bs ls
  | b :: bs, m :: ls, 0, l, hb, hl => by
    simp only [List.getElem?_cons_zero, Option.some.injEq] at hb hl
    subst hb hl
    simp [restL]; omega
  | b :: bs, m :: ls, k + 1, l, hb, hl => by
    simp only [List.getElem?_cons_succ] at hb hl
    have := restL_set bs ls k l hb hl
    simp only [List.set_cons_succ, restL]
    omega
  | [], _, _, _, hb, _ => by simp at hb
  | _ :: _, [], _, _, _, hl => by simp at hl
def totL : List (List Int) → Nat
  | [] => 0
  | l :: ls => l.length + totL ls
theorem restL_tot : ∀ (bs : List Bool) (ls : List (List Int)), restL bs ls ≤ totL ls
  | [], ls => by simp [restL]
  | b :: bs, [] => by simp [restL]
  | b :: bs, l :: ls => by
    have := restL_tot bs ls
    simp only [restL, totL]
    split <;> omega
theorem totL_set : ∀ (ls : List (List Int)) (k : Nat) (l : List Int) (y : Int), ls[k]? = some l → totL (ls.set k (l ++ [y])) = totL ls + 1
  | m :: ls, 0, l, y, hl => by
    simp only [List.getElem?_cons_zero, Option.some.injEq] at hl
    subst hl
    simp [totL]; omega
  | m :: ls, k + 1, l, y, hl => by
    simp only [List.getElem?_cons_succ] at hl
    have := totL_set ls k l y hl
    simp only [List.set_cons_succ, totL]
    omega
  | [], _, _, _, hl => by simp at hl
theorem totL_nil : ∀ n, totL (List.replicate n ([] : List Int)) = 0
  | 0 => rfl
  | n + 1 => by rw [List.replicate_succ]; simp [totL, totL_nil n]
theorem totL_link {key val : PArc → Int} {n : Nat} (ars : List PArc) (h : ∀ a ∈ ars, Inn n (key a)) : ∀ k, k ≤ ars.length → totL (linkL key val (ars.take k) n) = k
  | 0, _ => by rw [List.take_zero, linkL_nil, totL_nil]
  | k + 1, hk => by
    have hg : ars[k]? = some (ars[k]'(by omega)) := List.getElem?_eq_getElem _
    have hin := h _ (List.mem_of_getElem? hg)
    obtain ⟨i, hi⟩ : ∃ i : Nat, key (ars[k]'(by omega)) = (i : Int) := ⟨_, (Int.toNat_of_nonneg hin.1).symm⟩
    have hii : i < n := by have := hin.2; omega
    rw [take_snoc hg, linkL_snoc hi, totL_set _ _ _ _ (linkL_get hii), totL_link ars h k (by omega)]
/-- What is to do still, as the world shows it. -/
def phiW (w : World) (g : Nat) : Nat → List (List Int) → Nat
  | _, [] => 0
  | j, l :: ls => (match w.cell? ⟨g, j, none⟩ with
    | some (.bool true) => 0
    | _ => l.length) + phiW w g (j + 1) ls
theorem phiW_rest (w : World) (g : Nat) : ∀ (j : Nat) (bs : List Bool) (ls : List (List Int)), bs.length = ls.length → (∀ (i : Nat) (b : Bool), bs[i]? = some b → w.cell? ⟨g, j + i, none⟩ = some (.bool b)) → phiW w g j ls = restL bs ls
  | _, [], [], _, _ => rfl
  | _, [], _ :: _, hl, _ => by simp at hl
  | _, _ :: _, [], hl, _ => by simp at hl
  | j, b :: bs, l :: ls, hl, h => by
    have h0 := h 0 b rfl
    rw [Nat.add_zero] at h0
    have ih := phiW_rest w g (j + 1) bs ls (by simpa using hl) (fun i c hc => by rw [Nat.add_assoc, Nat.add_comm 1 i]; exact h (i + 1) c hc)
    unfold phiW restL
    rw [h0, ih]
    cases b <;> rfl
open Classical in
noncomputable def spreadL (ars : List PArc) (n : Nat) (src : List Int) : List Bool := (List.range n).map fun (k : Nat) => decide (∃ s ∈ src, Reach (nxt ars) s (k : Int))
theorem SpI.list {ars : List PArc} {n : Nat} {src : List Int} {bs : List Bool} (h : SpI ars n src bs []) (hs : ∀ s ∈ src, Inn n s) (ha : ∀ a ∈ ars, Inn n a.from_) : bs = spreadL ars n src := by
  apply List.ext_getElem (by rw [h.len]; simp [spreadL])
  intro k h1 h2
  have hk : k < n := by have := h.len; omega
  have hd := h.done hs ha k hk
  rw [List.getElem?_eq_getElem h1, Option.some.injEq] at hd
  rw [Bool.eq_iff_iff, hd]
  simp [spreadL]
end Go.Proofs.Ytpagenlealddhaa
