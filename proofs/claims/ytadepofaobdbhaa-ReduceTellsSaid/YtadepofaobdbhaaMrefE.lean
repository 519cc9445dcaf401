/- The contract of net of the reference's net by rows: it turns back. Conditions: each row has two numbers a label. -/
import Derived.Test.YtadepofaobdbhaaMrefD
namespace Go.Proofs.Ytadepofaobdbhaa
open Go.RowKit

def DistI (u v : Value) : Prop := u.ownBlock = none ∨ u.ownBlock ≠ v.ownBlock
theorem DistI.other {u v : Value} (h : DistI u v) : DistI v u := by
  unfold DistI at *
  cases hv : v.ownBlock with
  | none => exact .inl rfl
  | some g =>
    rcases h with h | h
    · rw [h]; exact .inr (by simp)
    · rw [hv] at h; exact .inr (Ne.symm h)
theorem own_otherI {wa w8 : World} {i j B B' : Nat} {vi vo v8 : Value} {xs ys : List Int} (_ : OwnInts wa B vi i xs) (OO : OwnInts wa B' vo j ys) (DV : DistI vi vo) (hg : wa.grownBy w8 vi.ownBlock) (hat : v8.ownBlock = vi.ownBlock ∨ v8.ownBlock = some wa.heap.size) :
    OwnInts w8 B' vo j ys ∧ DistI v8 vo := by
  refine ⟨OwnSl.kept OO hg DV.other (fun _ _ h => h), ?_⟩
  rcases hat with h | h
  · unfold DistI; rw [h]; exact DV
  · refine .inr (fun e => ?_)
    rw [h] at e
    have := (OwnSl.lt OO _ e.symm).2
    omega
theorem rowOneI {w : World} {b : Nat} {p : Int} (hx : Box w b 3 #[.int .i64 p]) : Ints w (some ⟨b, 0, none⟩) 1 1 [p] := by
  refine ⟨rfl, Nat.le_refl _, by simp [maxLen], by omega, fun h => (by cases h), fun _ => ⟨b, 0, rfl, hx.lt, fun j x hx' => ?_⟩⟩
  obtain rfl : j = 0 := by
    have := (List.getElem?_eq_some_iff.1 hx').1
    simpa using this
  cases hx'
  exact ⟨fun _ => .int .i64 p, fun i hi => by obtain rfl : i = 0 := by omega
                                              exact hx.cell 0, rfl⟩
/-- The transition that is being made: its box, its two rows. -/
structure TrM (bt : Nat) (wp wr : World) (l : Int) (P : Option Addr) (n e : Nat) (xs : List Int) (Q : Option Addr) (e' : Nat) (ys : List Int) : Prop where
  box : Box wr bt 76 #[.int .i64 l, .slice P n e, .slice Q n e']
  pre : OwnInts wr bt (.slice P n e) n xs
  post : OwnInts wr bt (.slice Q n e') n ys
  dist : DistI (.slice P n e) (.slice Q n e')
  bel : Below bt wp wr
  hb : bt = wp.heap.size
theorem TrM.keep {bt : Nat} {wp wr w' : World} {l : Int} {P Q : Option Addr} {n e e' : Nat} {xs ys : List Int} (h : TrM bt wp wr l P n e xs Q e' ys) (hb : Below wr.heap.size wr w') : TrM bt wp w' l P n e xs Q e' ys :=
  ⟨h.box.keep hb, h.pre.keep IntR.kept hb, h.post.keep IntR.kept hb, h.dist, h.bel.trans (hb.mono (by rw [h.hb]; exact h.bel.size)), h.hb⟩
theorem TrM.put {bt : Nat} {wp wr w1 : World} {l : Int} {P Q P' Q' : Option Addr} {n e e' n' k k' : Nat} {xs ys xs' ys' : List Int} (h : TrM bt wp wr l P n e xs Q e' ys) (hX : Box w1 bt 76 #[.int .i64 l, .slice P n e, .slice Q n e']) (hp : OwnInts w1 bt (.slice P' n' k) n' xs') (hq : OwnInts w1 bt (.slice Q' n' k') n' ys') (hd : DistI (.slice P' n' k) (.slice Q' n' k')) (hb : Below bt wp w1) :
    TrM bt wp ((w1.setCell ⟨bt, 1, none⟩ (.slice P' n' k)).setCell ⟨bt, 2, none⟩ (.slice Q' n' k')) l P' n' k xs' Q' k' ys' := by
  have g1 : w1.grownBy ((w1.setCell ⟨bt, 1, none⟩ (.slice P' n' k)).setCell ⟨bt, 2, none⟩ (.slice Q' n' k')) (some bt) := grown_setB (grown_setB (grown_reflB w1 _))
  refine ⟨?_, hp.kept g1 (row_ne_box hp hX (by decide)) (fun _ _ h => h), hq.kept g1 (row_ne_box hq hX (by decide)) (fun _ _ h => h), hd, (hb.setCell (p := ⟨bt, 1, none⟩) (Nat.le_refl _) _).setCell (p := ⟨bt, 2, none⟩) (Nat.le_refl _) _, h.hb⟩
  have := (hX.set 1 (.slice P' n' k)).set 2 (.slice Q' n' k')
  simpa using this
def preM (rows : List (List Int)) (k : Nat) : List Int := rows.map fun r => r.getD (2 * k) 0
def postM (rows : List (List Int)) (k : Nat) : List Int := rows.map fun r => r.getD (2 * k + 1) 0
def tranM (m : PM) (k : Nat) : PTran := ⟨m.labels.getD k 0, preM m.rows k, postM m.rows k⟩
/-- The net that is being made: its box, its transitions. -/
structure NtM (N : Nat) (cs1 : Array Value) (w wr : World) (P : Int) (T : Option Addr) (n e : Nat) (ts : List PTran) : Prop where
  arg : Box wr N 69 cs1
  res : Box wr (N + 1) 24 #[.int .i64 0, .slice none 0 0]
  own : Box wr (N + 2) 24 #[.int .i64 P, .slice T n e]
  rows : OwnSl (OwnTranR N) 3 wr N 76 (.slice T n e) n ts
  bel : Below N w wr
  hN : N = w.heap.size
theorem NtM.keep {N : Nat} {cs1 : Array Value} {w wr w' : World} {P : Int} {T : Option Addr} {n e : Nat} {ts : List PTran} (h : NtM N cs1 w wr P T n e ts) (hb : Below wr.heap.size wr w') : NtM N cs1 w w' P T n e ts :=
  ⟨h.arg.keep hb, h.res.keep hb, h.own.keep hb, h.rows.keep (OwnTranR.kept N) hb, h.bel.trans (hb.mono (by rw [h.hN]; exact h.bel.size)), h.hN⟩
theorem NtM.put {N : Nat} {cs1 : Array Value} {w wr w1 : World} {P : Int} {T T' : Option Addr} {n e n' e' : Nat} {ts ts' : List PTran} (h : NtM N cs1 w wr P T n e ts) (hr : OwnSl (OwnTranR N) 3 w1 N 76 (.slice T' n' e') n' ts') (hg : wr.grownBy w1 (Value.slice T n e).ownBlock) (hb : Below N w w1) :
    NtM N cs1 w (w1.setCell ⟨N + 2, 1, none⟩ (.slice T' n' e')) P T' n' e' ts' := by
  have hA := box_row h.arg h.rows (by decide) hg
  have hR := box_row h.res h.rows (by decide) hg
  have hO := box_row h.own h.rows (by decide) hg
  have g1 : w1.grownBy (w1.setCell ⟨N + 2, 1, none⟩ (.slice T' n' e')) (some (N + 2)) := grown_setB (grown_reflB w1 _)
  refine ⟨hA.other _ (by show N ≠ N + 2; omega), hR.other _ (by show N + 1 ≠ N + 2; omega), ?_, own_any hO (by decide) (by decide) g1 hr, hb.setCell (by show N ≤ N + 2; omega) _, h.hN⟩
  have := hO.set 1 (.slice T' n' e')
  simpa using this

set_option maxRecDepth 100000 in
set_option maxHeartbeats 16000000 in
theorem netM_calls {B : Nat} {w : World} {L : Option Addr} {nl cl : Nat} {R : Option Addr} {nr cr : Nat} {m : PM} (h : MnR B w L nl cl R nr cr m) (hrow : ∀ r ∈ m.rows, r.length = 2 * nl) :
    Calls Try.prog 46 #[.agg #[.slice L nl cl, .slice R nr cr, .int .i64 m.i, .int .i64 m.o]] w (AnsNetO (netM m) w) := by
  obtain ⟨hL, hR, hnl, hnr⟩ := h
  have HR := hide2 (toOLists hR (by omega))
  have HLN := hide2 (OwnSl.len hR)
  have HRW := hide2 hrow
  have HL := hide2 (OwnInts.toInts hL (by omega))
  obtain ⟨qi, hqi⟩ : ∃ q, m.i = q := ⟨_, rfl⟩
  obtain ⟨qo, hqo⟩ : ∃ q, m.o = q := ⟨_, rfl⟩
  rw [hqi, hqo]
  clear hL hR hrow hqi hqo
  have hw2 : ∀ k : Nat, k < nl → IntKind.i64.wrap (2 * (k : Int)) = 2 * (k : Int) ∧ IntKind.i64.wrap (2 * (k : Int) + 1) = 2 * (k : Int) + 1 := fun k hk => by
    constructor
    · simp [IntKind.wrap, go_sem]; omega
    · simp [IntKind.wrap, go_sem]; omega
  have HW2 := hide2 hw2
  clear hw2
  go_enter Try.func46, Try.ntmps46
  go_upto_region 2 with fail
  generalize hw0 : ((w.alloc (.cells #[.slice L nl cl, .slice R nr cr, .int .i64 qi, .int .i64 qo] 69)).alloc (.cells #[.int .i64 0, .slice none 0 0] 24)).alloc (.cells #[.int .i64 nr, .slice none 0 0] 24) = w0
  have M0 := hide2 (show NtM w.heap.size #[.slice L nl cl, .slice R nr cr, .int .i64 qi, .int .i64 qo] w w0 nr none 0 0 ((List.range 0).map (tranM m)) from by
    rw [← hw0]
    exact ⟨((Box.new _ _ _).old _).old _, (Box.newAt (by simp) _ _).old _, Box.newAt (by simp) _ _, OwnSl.nil, (((Below.refl _ _).alloc (Nat.le_refl _) _).alloc (by simp) _).alloc (by simp; omega) _, rfl⟩)
  obtain ⟨a0, a1, a2, a3⟩ := box4 M0.out.arg
  clear hw0
  go_wp2
  go_loopg [16] nl (fun gk i wr => ∃ (k : Nat) (T : Option Addr) (e : Nat), k + gk = nl ∧ i = .int .i64 k ∧ Hid (NtM w.heap.size #[.slice L nl cl, .slice R nr cr, .int .i64 qi, .int .i64 qo] w wr nr T k e ((List.range k).map (tranM m))))
  case atStart => exact ⟨0, none, 0, by omega, rfl, M0.out⟩
  case round =>
    obtain ⟨k, T, e, hk, rfl, M⟩ := hrel
    by_cases hlt : k < nl
    · obtain ⟨bl, off, l, rfl, hbl, hl, q0⟩ := Ints.get HL.out hlt
      have q0' := (M.out.bel.cell (p := ⟨bl, off + k, none⟩) hbl).trans q0
      have MM := M
      obtain ⟨hw2, hw3⟩ := HW2.out k hlt
      have GL := hide2 (show m.labels.getD k 0 = l from getD_get hl.out)
      clear q0 hbl M a0 a1 a2 a3
      obtain ⟨a0, a1, a2, a3⟩ := box4 MM.out.arg
      go_upto_region 6 with fail
      generalize hw1 : wr.alloc (.cells #[.int .i64 l, .slice none 0 0, .slice none 0 0] 76) = w1
      have B1 : Below wr.heap.size wr w1 := by rw [← hw1]; exact boxBelow _ _
      have M1 := hide2 (MM.out.keep B1)
      have T1 := hide2 (show TrM wr.heap.size wr w1 l none 0 0 (preM (m.rows.take 0) k) none 0 (postM (m.rows.take 0) k) from ⟨by rw [← hw1]; exact Box.new _ _ _, OwnSl.nil, OwnSl.nil, .inl rfl, B1, rfl⟩)
      obtain ⟨bt, hbt⟩ : ∃ q, wr.heap.size = q := ⟨_, rfl⟩
      have HBT := hide2 hbt
      rw [hbt] at T1
      rw [hbt]
      clear hw1 B1 hbt a0 a1 a2 a3
      obtain ⟨a0, a1, a2, a3⟩ := box4 M1.out.arg
      go_wp2
      obtain ⟨wo, hwo⟩ : ∃ wo : World, wo = wr := ⟨_, rfl⟩
      subst hwo
      obtain ⟨gO, hgO⟩ : ∃ g : Nat, g = gk := ⟨_, rfl⟩
      subst hgO
      go_loopg [26] nr (fun gj i wr => ∃ (q : Nat) (P : Option Addr) (ep : Nat) (Q : Option Addr) (eq : Nat), q + gj = nr ∧ i = .int .i64 q ∧ Hid (TrM bt wo wr l P q ep (preM (m.rows.take q) k) Q eq (postM (m.rows.take q) k)))
      case atStart => exact ⟨0, none, 0, none, 0, by omega, rfl, T1.out⟩
      case round =>
        obtain ⟨q, P, ep, Q, eq, hq, rfl, TM⟩ := hrel
        by_cases hqn : q < nr
        · obtain ⟨br, ofr, x, D, mm, d, rfl, hbr, hx, q0, ox, ix, mx⟩ := OLists.get HR.out hqn
          have BW := hide2 (show Below w.heap.size w wr from MM.out.bel.trans (TM.out.bel.mono (by rw [TM.out.hb]; exact MM.out.bel.size)))
          have q0r := (BW.out.cell (p := ⟨br, ofr + q, none⟩) hbr).trans q0
          have hm : mm = 2 * nl := by rw [← ix.len]; exact HRW.out x (List.mem_of_getElem? hx.out)
          obtain ⟨b1, o1, y1, hD1, hb1, hy1, d1⟩ := ix.get (show 2 * k < mm by omega)
          obtain ⟨b2, o2, y2, hD2, hb2, hy2, d2⟩ := ix.get (show 2 * k + 1 < mm by omega)
          subst hD1
          injection hD2 with hD2
          injection hD2 with ee1 ee2
          subst ee1 ee2
          have LBT := hide2 (show b1 < bt by have := MM.out.bel.size; have := TM.out.hb; omega)
          have d1o := (MM.out.bel.cell (p := ⟨b1, o1 + 2 * k, none⟩) hb1).trans d1
          have d2o := (MM.out.bel.cell (p := ⟨b1, o1 + (2 * k + 1), none⟩) hb1).trans d2
          have d1' := (BW.out.cell (p := ⟨b1, o1 + 2 * k, none⟩) hb1).trans d1
          have d2' := (BW.out.cell (p := ⟨b1, o1 + (2 * k + 1), none⟩) hb1).trans d2
          have NP := hide2 (show preM (m.rows.take (q + 1)) k = preM (m.rows.take q) k ++ [y1] by unfold preM; rw [map_take_snoc hx.out, getD_get hy1.out])
          have NQ := hide2 (show postM (m.rows.take (q + 1)) k = postM (m.rows.take q) k ++ [y2] by unfold postM; rw [map_take_snoc hx.out, getD_get hy2.out])
          obtain ⟨t0, t1, t2⟩ := TM.out.box.three
          have ht2k : (2 * (k : Int)).toNat = 2 * k := by omega
          have ht2k1 : (2 * (k : Int) + 1).toNat = 2 * k + 1 := by omega
          have hi1 : 2 * (k : Int) < (mm : Int) := by omega
          have hi3 : (0 : Int) ≤ 2 * (k : Int) := by omega
          have hi4 : (0 : Int) ≤ 2 * (k : Int) + 1 := by omega
          have hi2 : 2 * (k : Int) + 1 < (mm : Int) := by omega
          have BTL := hide2 TM.out.box.lt
          have LB := hide2 (show b1 < wr.heap.size from Nat.lt_of_lt_of_le hb1 BW.out.size)
          have hqs : q ≤ 1000 := by omega
          clear q0 ix hm hb1 hb2 d1 d2
          go_upto_region 9 with fail
          have KEEPR := hide2 (show ∀ w', Below bt wo w' → w'.cell? ⟨b1, o1 + 2 * k, none⟩ = some (.int .i64 y1) ∧ w'.cell? ⟨b1, o1 + (2 * k + 1), none⟩ = some (.int .i64 y2) from fun w' hb => ⟨(hb.cell (p := ⟨b1, o1 + 2 * k, none⟩) LBT.out).trans d1o, (hb.cell (p := ⟨b1, o1 + (2 * k + 1), none⟩) LBT.out).trans d2o⟩)
          refine wp_region_scr 20 (.takes [0, 1, 2, 3, 4, 5, 6, 9, 10, 11, 12, 13, 14, 15, 16] (.two 7 (.two 8 (.take 19 (.one 17 (.one 18 (.fins [20, 21, 22] .done)))) 17 (.one 8 (.take 19 (.one 18 (.fins [20, 21, 22] .done))))) 17 (.one 7 (.one 8 (.take 19 (.one 18 (.fins [20, 21, 22] .done))))))) (fun w' => w'.cell? ⟨bt, 1, none⟩ = some (.slice P q ep) ∧ w'.cell? ⟨bt, 2, none⟩ = some (.slice Q q eq) ∧ w'.cell? ⟨b1, o1 + 2 * k, none⟩ = some (.int .i64 y1) ∧ w'.cell? ⟨b1, o1 + (2 * k + 1), none⟩ = some (.int .i64 y2)) (by kernel_rfl) (by kernel_rfl) (by kernel_rfl) (fun _ _ _ _ _ h => h) ⟨t1, t2, d1', d2'⟩ (fun hHeld => ?_)
          simp only [Scr.takes, Scr.fins]
          have OP := hide2 (show OwnInts wr.drew bt (.slice P q ep) q (preM (m.rows.take q) k) from TM.out.pre.keep IntR.kept (Below.refl _ _).drew)
          have OQ := hide2 (show OwnInts wr.drew bt (.slice Q q eq) q (postM (m.rows.take q) k) from TM.out.post.keep IntR.kept (Below.refl _ _).drew)
          have BX := hide2 (show Box wr.drew bt 76 #[.int .i64 l, .slice P q ep, .slice Q q eq] from TM.out.box)
          have EB := hide2 (show Below bt wo wr.drew from TM.out.bel.drew)
          have DV := hide2 TM.out.dist
          have BX0 := hide2 (show bt < wr.drew.heap.size from TM.out.box.lt)
          have SZB := hide2 TM.out.hb
          generalize wr.drew = u0 at *
          iterate 15
            refine tkTake (v := ?_) rfl (by rfl) hHeld (fun w' hSw => ?_) ?_
            rotate_left
            · (go_simp; try with_reducible rfl)
            try simp only [Act.put, List.setIfInBounds_toArray, List.set_cons_zero, List.set_cons_succ]
          refine scrEnd (.one 18 (.fins [20, 21, 22] .done)) (fun a0 a' w' => ∃ (H7 H17 g8 cap8 : Nat), a' = (((a0.put (some 37) (.slice (some ⟨H7, 0, none⟩) 1 1)).put (some 38) (.slice (some ⟨g8, 0, none⟩) (q + 1) cap8)).put (some 47) (.slice (some ⟨H17, 0, none⟩) 1 1)).put (some 49) (.pointer (some ⟨bt, 1, none⟩)) ∧ Hid (OwnInts w' bt (.slice (some ⟨g8, 0, none⟩) (q + 1) cap8) (q + 1) (preM (m.rows.take q) k ++ [y1])) ∧ Hid (OwnInts w' bt (.slice Q q eq) q (postM (m.rows.take q) k)) ∧ Hid (DistI (.slice (some ⟨g8, 0, none⟩) (q + 1) cap8) (.slice Q q eq)) ∧ Hid (Box w' H17 3 #[.int .i64 y2]) ∧ Hid (Box w' bt 76 #[.int .i64 l, .slice P q ep, .slice Q q eq]) ∧ Hid (Below bt wo w')) ?_ (fun EN => ?_)
          rotate_left
          · refine tkTwo rfl rfl (fun K hK => ?_) (fun K hK => ?_)
            · go_simp
              have hb := boxBelow u0 (.cells #[.int .i64 y1] 3)
              have S7 := hide2 (Box.new u0 #[.int .i64 y1] 3)
              have N7 := hide2 (show (Value.slice P q ep).ownBlock ≠ some u0.heap.size from fun e => by have := (OP.out.lt _ e).2; omega)
              replace OP := hide2 (OP.out.keep IntR.kept hb)
              replace OQ := hide2 (OQ.out.keep IntR.kept hb)
              replace BX := hide2 (BX.out.keep hb)
              replace EB := hide2 (EB.out.trans (hb.mono (show bt ≤ u0.heap.size by have := BX0.out; have := EB.out.size; have := SZB.out; omega)))
              refine hK.out _ _ ⟨BX.out.cell 1, BX.out.cell 2, (KEEPR.out _ EB.out).1, (KEEPR.out _ EB.out).2⟩ (fun hHeld => ?_)
              clear hK
              try simp only [Act.put, List.setIfInBounds_toArray, List.set_cons_zero, List.set_cons_succ]
              clear hb
              generalize hEu1 : u0.alloc (.cells #[.int .i64 y1] 3) = u1 at *
              refine tkTwo rfl rfl (fun K hK => ?_) (fun K hK => ?_)
              · refine step_appOwn rfl (.tmp 31) (.tmp 37) rfl rfl rfl OP.out (rowOneI S7.out) (show bt ≤ u1.heap.size by have := BX.out.lt; omega) (by omega) EB.out (Nat.le_refl _) ?_
                intro v8 u2 own8 hg8 hb8 hat8
                obtain ⟨oq, dv⟩ := own_otherI OP.out OQ.out DV.out hg8 hat8
                have bx := box_row BX.out OP.out (by decide) hg8
                obtain ⟨g8, cap8, hv8, _⟩ := own8.form (by omega)
                subst hv8
                have OP8 := hide2 own8
                replace OQ := hide2 oq
                have DV8 := hide2 dv
                replace BX := hide2 bx
                replace EB := hide2 hb8
                clear own8 hg8 hb8 hat8 oq dv bx OP DV
                refine hK.out _ _ ⟨BX.out.cell 1, BX.out.cell 2, (KEEPR.out _ EB.out).1, (KEEPR.out _ EB.out).2⟩ (fun hHeld => ?_)
                clear hK
                try simp only [Act.put, List.setIfInBounds_toArray, List.set_cons_zero, List.set_cons_succ]
                refine tkTake (v := ?_) rfl (by rfl) hHeld (fun w' hSw => ?_) ?_
                rotate_left
                · (go_simp; try with_reducible rfl)
                try simp only [Act.put, List.setIfInBounds_toArray, List.set_cons_zero, List.set_cons_succ]
                refine tkOne rfl (fun K hK => ?_)
                go_simp
                have hb := boxBelow u2 (.cells #[.int .i64 y2] 3)
                have S17 := hide2 (Box.new u2 #[.int .i64 y2] 3)
                replace OP8 := hide2 (OP8.out.keep IntR.kept hb)
                replace OQ := hide2 (OQ.out.keep IntR.kept hb)
                replace BX := hide2 (BX.out.keep hb)
                replace EB := hide2 (EB.out.trans (hb.mono (show bt ≤ u2.heap.size by have := BX0.out; have := EB.out.size; have := SZB.out; omega)))
                refine hK.out _ _ ⟨BX.out.cell 1, BX.out.cell 2, (KEEPR.out _ EB.out).1, (KEEPR.out _ EB.out).2⟩ (fun hHeld => ?_)
                clear hK
                try simp only [Act.put, List.setIfInBounds_toArray, List.set_cons_zero, List.set_cons_succ]
                clear hb
                generalize hEu3 : u2.alloc (.cells #[.int .i64 y2] 3) = u3 at *
                exact EN.out _ _ ⟨_, _, g8, cap8, rfl, OP8, OQ, DV8, S17, BX, EB⟩ hHeld
              · go_simp
                have hb := boxBelow u1 (.cells #[.int .i64 y2] 3)
                have S17 := hide2 (Box.new u1 #[.int .i64 y2] 3)
                have N17 := hide2 (show (Value.slice P q ep).ownBlock ≠ some u1.heap.size from fun e => by have := (OP.out.lt _ e).2; omega)
                replace OP := hide2 (OP.out.keep IntR.kept hb)
                replace OQ := hide2 (OQ.out.keep IntR.kept hb)
                replace BX := hide2 (BX.out.keep hb)
                replace EB := hide2 (EB.out.trans (hb.mono (show bt ≤ u1.heap.size by have := BX0.out; have := EB.out.size; have := SZB.out; omega)))
                replace S7 := hide2 (S7.out.keep hb)
                refine hK.out _ _ ⟨BX.out.cell 1, BX.out.cell 2, (KEEPR.out _ EB.out).1, (KEEPR.out _ EB.out).2⟩ (fun hHeld => ?_)
                clear hK
                try simp only [Act.put, List.setIfInBounds_toArray, List.set_cons_zero, List.set_cons_succ]
                clear hb
                generalize hEu2 : u1.alloc (.cells #[.int .i64 y2] 3) = u2 at *
                refine tkOne rfl (fun K hK => ?_)
                refine step_appOwn rfl (.tmp 31) (.tmp 37) rfl rfl rfl OP.out (rowOneI S7.out) (show bt ≤ u2.heap.size by have := BX.out.lt; omega) (by omega) EB.out (Nat.le_refl _) ?_
                intro v8 u3 own8 hg8 hb8 hat8
                obtain ⟨oq, dv⟩ := own_otherI OP.out OQ.out DV.out hg8 hat8
                have bx := box_row BX.out OP.out (by decide) hg8
                replace S17 := hide2 (S17.out.grown hg8 N17.out)
                obtain ⟨g8, cap8, hv8, _⟩ := own8.form (by omega)
                subst hv8
                have OP8 := hide2 own8
                replace OQ := hide2 oq
                have DV8 := hide2 dv
                replace BX := hide2 bx
                replace EB := hide2 hb8
                clear own8 hg8 hb8 hat8 oq dv bx OP DV
                refine hK.out _ _ ⟨BX.out.cell 1, BX.out.cell 2, (KEEPR.out _ EB.out).1, (KEEPR.out _ EB.out).2⟩ (fun hHeld => ?_)
                clear hK
                try simp only [Act.put, List.setIfInBounds_toArray, List.set_cons_zero, List.set_cons_succ]
                refine tkTake (v := ?_) rfl (by rfl) hHeld (fun w' hSw => ?_) ?_
                rotate_left
                · (go_simp; try with_reducible rfl)
                try simp only [Act.put, List.setIfInBounds_toArray, List.set_cons_zero, List.set_cons_succ]
                exact EN.out _ _ ⟨_, _, g8, cap8, rfl, OP8, OQ, DV8, S17, BX, EB⟩ hHeld
            · go_simp
              have hb := boxBelow u0 (.cells #[.int .i64 y2] 3)
              have S17 := hide2 (Box.new u0 #[.int .i64 y2] 3)
              have N17 := hide2 (show (Value.slice P q ep).ownBlock ≠ some u0.heap.size from fun e => by have := (OP.out.lt _ e).2; omega)
              replace OP := hide2 (OP.out.keep IntR.kept hb)
              replace OQ := hide2 (OQ.out.keep IntR.kept hb)
              replace BX := hide2 (BX.out.keep hb)
              replace EB := hide2 (EB.out.trans (hb.mono (show bt ≤ u0.heap.size by have := BX0.out; have := EB.out.size; have := SZB.out; omega)))
              refine hK.out _ _ ⟨BX.out.cell 1, BX.out.cell 2, (KEEPR.out _ EB.out).1, (KEEPR.out _ EB.out).2⟩ (fun hHeld => ?_)
              clear hK
              try simp only [Act.put, List.setIfInBounds_toArray, List.set_cons_zero, List.set_cons_succ]
              clear hb
              generalize hEu1 : u0.alloc (.cells #[.int .i64 y2] 3) = u1 at *
              refine tkOne rfl (fun K hK => ?_)
              go_simp
              have hb := boxBelow u1 (.cells #[.int .i64 y1] 3)
              have S7 := hide2 (Box.new u1 #[.int .i64 y1] 3)
              have N7 := hide2 (show (Value.slice P q ep).ownBlock ≠ some u1.heap.size from fun e => by have := (OP.out.lt _ e).2; omega)
              replace OP := hide2 (OP.out.keep IntR.kept hb)
              replace OQ := hide2 (OQ.out.keep IntR.kept hb)
              replace BX := hide2 (BX.out.keep hb)
              replace EB := hide2 (EB.out.trans (hb.mono (show bt ≤ u1.heap.size by have := BX0.out; have := EB.out.size; have := SZB.out; omega)))
              replace S17 := hide2 (S17.out.keep hb)
              refine hK.out _ _ ⟨BX.out.cell 1, BX.out.cell 2, (KEEPR.out _ EB.out).1, (KEEPR.out _ EB.out).2⟩ (fun hHeld => ?_)
              clear hK
              try simp only [Act.put, List.setIfInBounds_toArray, List.set_cons_zero, List.set_cons_succ]
              clear hb
              generalize hEu2 : u1.alloc (.cells #[.int .i64 y1] 3) = u2 at *
              refine tkOne rfl (fun K hK => ?_)
              refine step_appOwn rfl (.tmp 31) (.tmp 37) rfl rfl rfl OP.out (rowOneI S7.out) (show bt ≤ u2.heap.size by have := BX.out.lt; omega) (by omega) EB.out (Nat.le_refl _) ?_
              intro v8 u3 own8 hg8 hb8 hat8
              obtain ⟨oq, dv⟩ := own_otherI OP.out OQ.out DV.out hg8 hat8
              have bx := box_row BX.out OP.out (by decide) hg8
              replace S17 := hide2 (S17.out.grown hg8 N17.out)
              obtain ⟨g8, cap8, hv8, _⟩ := own8.form (by omega)
              subst hv8
              have OP8 := hide2 own8
              replace OQ := hide2 oq
              have DV8 := hide2 dv
              replace BX := hide2 bx
              replace EB := hide2 hb8
              clear own8 hg8 hb8 hat8 oq dv bx OP DV
              refine hK.out _ _ ⟨BX.out.cell 1, BX.out.cell 2, (KEEPR.out _ EB.out).1, (KEEPR.out _ EB.out).2⟩ (fun hHeld => ?_)
              clear hK
              try simp only [Act.put, List.setIfInBounds_toArray, List.set_cons_zero, List.set_cons_succ]
              refine tkTake (v := ?_) rfl (by rfl) hHeld (fun w' hSw => ?_) ?_
              rotate_left
              · (go_simp; try with_reducible rfl)
              try simp only [Act.put, List.setIfInBounds_toArray, List.set_cons_zero, List.set_cons_succ]
              exact EN.out _ _ ⟨_, _, g8, cap8, rfl, OP8, OQ, DV8, S17, BX, EB⟩ hHeld
          rintro a' u4 ⟨H7, H17, g8, cap8, rfl, OP8, OQ8, DV8, S17, BX4, EB4⟩ hHeld
          try simp only [Act.put, List.setIfInBounds_toArray, List.set_cons_zero, List.set_cons_succ]
          refine tkOne rfl (fun K hK => ?_)
          refine step_appOwn rfl (.tmp 40) (.tmp 47) rfl rfl rfl OQ8.out (rowOneI S17.out) (show bt ≤ u4.heap.size by have := BX4.out.lt; omega) (by omega) EB4.out (Nat.le_refl _) ?_
          intro v9 u5 own9 hg9 hb9 hat9
          obtain ⟨op, dv⟩ := own_otherI OQ8.out OP8.out DV8.out.other hg9 hat9
          have bx := box_row BX4.out OQ8.out (by decide) hg9
          obtain ⟨g9, cap9, hv9, _⟩ := own9.form (by omega)
          subst hv9
          rw [← NP.out] at op
          rw [← NQ.out] at own9
          have TN := hide2 (TM.out.put bx op own9 dv.other hb9)
          have BX := hide2 bx
          have EB := hide2 hb9
          clear own9 hg9 hb9 hat9 op dv bx
          have t1' : u5.cell? ⟨bt, 1, none⟩ = some (.slice P q ep) := BX.out.cell 1
          have t2' : u5.cell? ⟨bt, 2, none⟩ = some (.slice Q q eq) := BX.out.cell 2
          have tf1 := BX.out.frozen 1
          have tf2 := BX.out.frozen 2
          refine hK.out _ _ ⟨BX.out.cell 1, BX.out.cell 2, (KEEPR.out _ EB.out).1, (KEEPR.out _ EB.out).2⟩ (fun hHeld => ?_)
          clear hK
          try simp only [Act.put, List.setIfInBounds_toArray, List.set_cons_zero, List.set_cons_succ]
          refine tkEnd rfl (fun K hK => ?_)
          go_simp
          refine hK.out _ _ ?_
          clear hK
          try simp only [Act.put, List.setIfInBounds_toArray, List.set_cons_zero, List.set_cons_succ]
          refine tkEnd rfl (fun K hK => ?_)
          go_simp
          refine hK.out _ _ ?_
          clear hK
          try simp only [Act.put, List.setIfInBounds_toArray, List.set_cons_zero, List.set_cons_succ]
          refine tkEnd rfl (fun K hK => ?_)
          go_simp
          refine hK.out _ _ ?_
          clear hK
          try simp only [Act.put, List.setIfInBounds_toArray, List.set_cons_zero, List.set_cons_succ]
          refine tkDone ?_
          go_wp2
          go_roundg (gk - 1)
          case measure => omega
          case rel => exact ⟨q + 1, _, _, _, _, by omega, by simp, TN.out⟩
        · obtain rfl : q = nr := by omega
          have MR := hide2 (MM.out.keep (show Below wo.heap.size wo wr by rw [← TM.out.hb]; exact TM.out.bel))
          obtain ⟨t0, t1, t2⟩ := TM.out.box.three
          have n1 : wr.cell? ⟨w.heap.size + 1 + 1, 1, none⟩ = some (.slice T k e) := MR.out.own.cell 1
          have EP := hide2 (show m.rows.take q = m.rows by rw [List.take_of_length_le (by rw [HLN.out]; omega)])
          have RD := hide2 (show Reads (OwnTranR w.heap.size) 3 wr [.int .i64 l, .slice P q ep, .slice Q q eq] [tranM m k] from Reads.tran (by
            have h1 := TM.out.pre
            have h2 := TM.out.post
            rw [EP.out] at h1 h2
            have hB : w.heap.size ≤ bt := by rw [TM.out.hb]; exact MM.out.bel.size
            exact ⟨by show Value.int .i64 l = .int .i64 (m.labels.getD k 0); rw [GL.out], q, q, h1.base hB, h2.base hB, by omega, by omega⟩))
          have KP := hide2 (keepTran MR.out.rows)
          have RW := hide2 MR.out.rows
          have HB := hide2 MR.out.bel
          have SR := hide2 (show (List.range (k + 1)).map (tranM m) = (List.range k).map (tranM m) ++ [tranM m k] by rw [List.range_succ, List.map_append]; rfl)
          have hks : k ≤ 1000 := by omega
          clear TM
          go_wp2_with (at_builtin; refine wpList_appNew (v := .slice T k e) tyTrans rfl _ _ rfl [tranM m k] #[.int .i64 l, .slice P q ep, .slice Q q eq] rfl rfl (by first | rfl | simp) rfl (by simp [Value.oneCell']) RW.out RD.out rfl HB.out HB.out.size (by omega) (by omega) KP.out ?_; intro v1 w1 own1 hg1 hb1; obtain ⟨g, cap, hv1, _⟩ := own1.form (by omega); subst hv1; have XO := box_row MR.out.own RW.out (by decide) hg1; have j1 : w1.cell? ⟨w.heap.size + 1 + 1, 1, none⟩ = some (.slice T k e) := XO.cell 1; have jf : w1.frozen? ⟨w.heap.size + 1 + 1, 1, none⟩ = false := XO.frozen 1; rw [← SR.out] at own1; have NX := hide2 (MR.out.put own1 hg1 hb1); clear own1 hg1 hb1 XO)
          go_roundg (gO - 1)
          case measure => omega
          case rel => exact ⟨k + 1, some ⟨g, 0, none⟩, cap, by omega, by simp, NX.out⟩
    · obtain rfl : k = nl := by omega
      have MM := M
      obtain ⟨n0, n1⟩ : wr.cell? ⟨w.heap.size + 1 + 1, 0, none⟩ = some (.int .i64 nr) ∧ wr.cell? ⟨w.heap.size + 1 + 1, 1, none⟩ = some (.slice T k e) := ⟨M.out.own.cell 0, M.out.own.cell 1⟩
      have r0 := M.out.res.frozen 0
      have r1 := M.out.res.frozen 1
      obtain ⟨z0, z1⟩ := M.out.res.two
      have SM := hide2 (show (List.range k).map (tranM m) = (netM m).trans by
        show _ = (List.range m.labels.length).map _
        rw [HL.out.len]
        rfl)
      have PL := hide2 (show (netM m).places = (nr : Int) by show ((m.rows.length : Nat) : Int) = _; rw [HLN.out])
      clear M
      go_wp2
      have g1 : wr.grownBy ((wr.setCell ⟨w.heap.size + 1, 0, none⟩ (.int .i64 nr)).setCell ⟨w.heap.size + 1, 1, none⟩ (.slice T k e)) (some (w.heap.size + 1)) := grown_setB (grown_setB (grown_reflB wr _))
      have XR := MM.out.res.set2 (.int .i64 nr) (.slice T k e)
      obtain ⟨y0, y1⟩ := XR.two
      have RWS := own_any MM.out.res (by decide) (by decide) g1 MM.out.rows
      refine bodyPost_ret (v := .agg #[.int .i64 nr, .slice T k e]) (by simp [results, Try.results46, go_sem, y0, y1]) rfl ?_
      rw [SM.out] at RWS
      exact ⟨T, k, e, by rw [PL.out], RWS, (MM.out.bel.setCell (p := ⟨w.heap.size + 1, 0, none⟩) (by simp) _).setCell (p := ⟨w.heap.size + 1, 1, none⟩) (by simp) _⟩
end Go.Proofs.Ytadepofaobdbhaa
