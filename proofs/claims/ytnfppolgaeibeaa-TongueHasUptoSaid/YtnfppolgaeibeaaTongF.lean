/- The contract of speak. Conditions: the net reads as a list. | The contracts of tongue.Has and tongue.Least. Conditions: the net and the word read as lists. -/
import Derived.Test.YtnfppolgaeibeaaTongC
import Derived.Test.YtnfppolgaeibeaaReachA
import Derived.Test.YtnfppolgaeibeaaSoundA
namespace Go.Proofs.Ytnfppolgaeibeaa
open Go.RowKit

theorem keepTrans {w : World} {A : Option Addr} {n c : Nat} {ts : List PTran} (h : Trans w A n c ts) : Trans w.drew A n c ts := h.keep ⟨rfl, rfl, rfl, Nat.le_refl _, fun _ _ => rfl⟩
/-- The space of a net that goes from i to o, or what is wrong. -/
noncomputable def tongS (N : PNet) (i o : Int) : PSp × Int := if shapeL N i o = 0 then graphL N (oneL (min N.places 16).toNat i) 300 else (PSp.nil, shapeL N i o)
theorem tongS_wrong {N : PNet} {i o : Int} (h : shapeL N i o ≠ 0) : tongS N i o = (PSp.nil, shapeL N i o) := by rw [tongS, if_neg h]
theorem tongS_graph {N : PNet} {i o : Int} (h : shapeL N i o = 0) : tongS N i o = graphL N (oneL (min N.places 16).toNat i) 300 := by rw [tongS, if_pos h]
def endL (N : PNet) (o : Int) : List Int := oneL (min N.places 16).toNat o
def labL (N : PNet) : List Int := N.trans.map fun t => t.label
def endsL (N : PNet) (o : Int) (ms : List (List Int)) : List Bool := ms.map fun m => m == endL N o
def AnsSpeak (N : PNet) (o : Int) (r : PSp × Int) (w : World) (e : Ending) (w' : World) : Prop :=
  Below w.heap.size w w' ∧ ((r.2 ≠ 0 ∧ e = .returned (.tuple #[.pointer none, .int .i64 r.2])) ∨
    (r.2 = 0 ∧ ∃ bp A c D m d Al nl cl Ae ce, e = .returned (.tuple #[.pointer (some ⟨bp, 0, none⟩), .int .i64 0]) ∧ SpkW w' bp A r.1.marks.length c D m d Al nl cl Ae ce r.1.arcs (labL N) (endsL N o r.1.marks)))
/-- The speaker as it is made. -/
structure MkS (N NE : Nat) (w0 w : World) (A : Option Addr) (n c : Nat) (D : Option Addr) (m d : Nat) (vl : Value) (ll : List Int) (ve : Value) (el : List Bool) : Prop where
  box : Box w N 174 #[.slice A n c, .slice D m d, vl, ve]
  labels : OwnInts w N vl ll.length ll
  ends : OwnSl BoolR 1 w NE 4 ve el.length el
  below : Below N w0 w
section
variable {N NE : Nat} {w0 w w' : World} {A : Option Addr} {n c : Nat} {D : Option Addr} {m d : Nat} {vl : Value} {ll : List Int} {ve : Value} {el : List Bool}
theorem MkS.lt (h : MkS N NE w0 w A n c D m d vl ll ve el) : N < w.heap.size := h.box.lt
theorem MkS.keep (h : MkS N NE w0 w A n c D m d vl ll ve el) (hb : Below w.heap.size w w') : MkS N NE w0 w' A n c D m d vl ll ve el :=
  ⟨h.box.keep hb, OwnSl.keep IntR.kept h.labels hb, h.ends.keep BoolR.kept hb, h.below.trans (hb.mono (Nat.le_of_lt h.lt))⟩
theorem MkS.grownL (h : MkS N NE w0 w A n c D m d vl ll ve el) (hg : w.grownBy w' vl.ownBlock) : Box w' N 174 #[.slice A n c, .slice D m d, vl, ve] ∧ OwnSl BoolR 1 w' NE 4 ve el.length el := by
  obtain ⟨_, o1, _⟩ := id h.labels
  obtain ⟨_, o2, _⟩ := id h.ends
  exact ⟨h.box.grown hg (own_neBox o1 h.box (by decide)), h.ends.turn hg (own_ne o2 o1 (by decide)) (fun _ _ hx => hx)⟩
theorem MkS.grownE (h : MkS N NE w0 w A n c D m d vl ll ve el) (hg : w.grownBy w' ve.ownBlock) : Box w' N 174 #[.slice A n c, .slice D m d, vl, ve] ∧ OwnInts w' N vl ll.length ll := by
  obtain ⟨_, o1, _⟩ := id h.labels
  obtain ⟨_, o2, _⟩ := id h.ends
  exact ⟨h.box.grown hg (own_neBox o2 h.box (by decide)), OwnSl.turn h.labels hg (own_ne o1 o2 (by decide)) (fun _ _ hx => hx)⟩
/-- A label more. -/
theorem MkS.label (h : MkS N NE w0 w A n c D m d vl ll ve el) {x : Int} {g k cap : Nat} (hk : k = ll.length + 1) (own : OwnInts w' N (.slice (some ⟨g, 0, none⟩) k cap) k (ll ++ [x])) (hg : w.grownBy w' vl.ownBlock) (hb : Below N w0 w') :
    MkS N NE w0 (w'.setCell ⟨N, 2, none⟩ (.slice (some ⟨g, 0, none⟩) k cap)) A n c D m d (.slice (some ⟨g, 0, none⟩) k cap) (ll ++ [x]) ve el := by
  obtain ⟨b1, e1⟩ := h.grownL hg
  obtain ⟨_, o1, _⟩ := id own
  obtain ⟨_, o2, _⟩ := id e1
  have gs := grown_setCell w' N 2 (.slice (some ⟨g, 0, none⟩) k cap)
  refine ⟨by simpa using b1.set 2 (.slice (some ⟨g, 0, none⟩) k cap), ?_, e1.turn gs (.inr (own_neBox o2 b1 (by decide))) (fun _ _ hx => hx), hb.setCell (Nat.le_refl _) _⟩
  have e : (ll ++ [x]).length = k := by simp [hk]
  rw [e]
  exact OwnSl.turn own gs (.inr (own_neBox o1 b1 (by decide))) (fun _ _ hx => hx)
/-- One more that is the end, or not. -/
theorem MkS.end_ (h : MkS N NE w0 w A n c D m d vl ll ve el) {x : Bool} {g k cap : Nat} (hk : k = el.length + 1) (own : OwnSl BoolR 1 w' NE 4 (.slice (some ⟨g, 0, none⟩) k cap) k (el ++ [x])) (hg : w.grownBy w' ve.ownBlock) (hb : Below N w0 w') :
    MkS N NE w0 (w'.setCell ⟨N, 3, none⟩ (.slice (some ⟨g, 0, none⟩) k cap)) A n c D m d vl ll (.slice (some ⟨g, 0, none⟩) k cap) (el ++ [x]) := by
  obtain ⟨b1, e1⟩ := h.grownE hg
  obtain ⟨_, o1, _⟩ := id own
  obtain ⟨_, o2, _⟩ := id e1
  have gs := grown_setCell w' N 3 (.slice (some ⟨g, 0, none⟩) k cap)
  refine ⟨by simpa using b1.set 3 (.slice (some ⟨g, 0, none⟩) k cap), OwnSl.turn e1 gs (.inr (own_neBox o2 b1 (by decide))) (fun _ _ hx => hx), ?_, hb.setCell (Nat.le_refl _) _⟩
  have e : (el ++ [x]).length = k := by simp [hk]
  rw [e]
  exact own.turn gs (.inr (own_neBox o1 b1 (by decide))) (fun _ _ hx => hx)
theorem MkS.start (w0 : World) (A : Option Addr) (n c : Nat) (D : Option Addr) (m d : Nat) : MkS w0.heap.size w0.heap.size w0 (w0.alloc (.cells #[.slice A n c, .slice D m d, .slice none 0 0, .slice none 0 0] 174)) A n c D m d (.slice none 0 0) [] (.slice none 0 0) [] :=
  ⟨Box.new _ _ _, OwnSl.nil, OwnSl.nil, (Below.refl _ _).alloc (Nat.le_refl _) _⟩
/-- While there is no end yet, its row may lie anywhere. -/
theorem MkS.fresh (h : MkS N NE w0 w A n c D m d vl ll (.slice none 0 0) []) (NE' : Nat) : MkS N NE' w0 w A n c D m d vl ll (.slice none 0 0) [] := ⟨h.box, h.labels, OwnSl.nil, h.below⟩
/-- A list that lies below NE and not at N. -/
def EndAt (N NE : Nat) (w : World) (C : Option Addr) (n c : Nat) (xs : List Int) : Prop := NE ≤ w.heap.size ∧ Ints w C n c xs ∧ ∀ b off, C = some ⟨b, off, none⟩ → 0 < n → b ≠ N ∧ b < NE
theorem EndAt.next {C : Option Addr} {n c : Nat} {xs : List Int} (h : EndAt N NE w C n c xs) (hb : Below NE w w') : EndAt N NE w' C n c xs :=
  ⟨Nat.le_trans h.1 hb.size, h.2.1.same hb.size (fun b off e h0 _ => hb.block b (h.2.2 b off e h0).2), h.2.2⟩
theorem EndAt.set {C : Option Addr} {n c : Nat} {xs : List Int} (h : EndAt N NE w C n c xs) (i : Nat) (v : Value) : EndAt N NE (w.setCell ⟨N, i, none⟩ v) C n c xs :=
  ⟨by simpa [World.setCell] using h.1, h.2.1.same (by simp [World.setCell]) (fun b off e h0 _ => heap_setCell_other _ _ _ _ (h.2.2 b off e h0).1), h.2.2⟩
end
theorem labL_take {N : PNet} {k : Nat} {t : PTran} (h : N.trans[k]? = some t) : (labL N).take (k + 1) = (labL N).take k ++ [t.label] := by
  unfold labL
  rw [List.take_add_one, List.getElem?_map, h]; rfl
theorem endsL_take {N : PNet} {o : Int} {ms : List (List Int)} {k : Nat} {x : List Int} (h : ms[k]? = some x) : (endsL N o ms).take (k + 1) = (endsL N o ms).take k ++ [x == endL N o] := by
  unfold endsL
  rw [List.take_add_one, List.getElem?_map, h]; rfl

set_option maxRecDepth 100000 in
set_option maxHeartbeats 8000000 in
theorem speak_calls {w : World} {P : Int} {A : Option Addr} {n c : Nat} {ts : List PTran} (i o : Int) (h : Trans w A n c ts) (hn : n ≤ 2513169434916) :
    Calls Try.prog 70 #[.agg #[.int .i64 P, .slice A n c], .int .i64 i, .int .i64 o] w (AnsSpeak ⟨P, ts⟩ o (tongS ⟨P, ts⟩ i o) w) := by
  generalize hw : w.alloc (.cells #[.int .i64 P, .slice A n c] 27) = w0
  have HB := hide2 (show Below w.heap.size w w0 by rw [← hw]; exact (Below.refl _ _).alloc (Nat.le_refl _) _)
  have X0 := hide2 (show Box w0 w.heap.size 27 #[.int .i64 P, .slice A n c] by rw [← hw]; exact Box.new _ _ _)
  have H := hide2 (h.keep HB.out)
  have CW := hide2 (shapeWrong_calls (P := P) i o H.out hn)
  have TW := hide2 (tongS_wrong (N := ⟨P, ts⟩) (i := i) (o := o))
  have TG := hide2 (tongS_graph (N := ⟨P, ts⟩) (i := i) (o := o))
  have S2 := hide2 (fun hs => shapeL_two (N := ⟨P, ts⟩) (i := i) (o := o) hs)
  have TL := hide2 (show ts.length = n from h.len)
  clear h
  obtain ⟨R, hR⟩ : ∃ R, tongS ⟨P, ts⟩ i o = R := ⟨_, rfl⟩
  rw [hR] at TW TG
  rw [hR]
  clear hR
  obtain ⟨sw, hsw⟩ : ∃ sw, shapeL ⟨P, ts⟩ i o = sw := ⟨_, rfl⟩
  rw [hsw] at TW TG CW S2
  clear hsw
  go_enter Try.func70, Try.ntmps70
  go_upto_region 1 with fail
  clear hw
  obtain ⟨a0, a1⟩ := X0.out.two
  by_cases hs0 : sw = 0
  · subst hs0
    obtain ⟨p2, hok⟩ := S2.out rfl
    go_upto_region 4 with (go_at_call 17; go_loud ((with_reducible refine CW.out.mono ?_); rintro e w1 ⟨rfl, hb1⟩; have B1 := hide2 hb1; clear hb1))
    have Y0 := hide2 (X0.out.keep B1.out).drew
    have BZ := hide2 (HB.out.trans (B1.out.mono HB.out.size)).drew
    have H1 := hide2 (keepTrans (H.out.keep B1.out))
    obtain ⟨pn, hpn⟩ : ∃ pn, (min P 16).toNat = pn := ⟨_, rfl⟩
    have HPN := hide2 hpn
    obtain ⟨g, hg⟩ : ∃ g, graphL ⟨P, ts⟩ (oneL pn i) 300 = g := ⟨_, rfl⟩
    have hp16 : P ≤ 16 := ((netOk_iff _).1 hok).2.1
    have hn24 : n ≤ 24 := by
      have h3 : ts.length ≤ 24 := ((netOk_iff _).1 hok).2.2.1
      have := TL.out
      omega
    have hpn2 : 2 ≤ pn := by omega
    have TR := hide2 (show R = g by have := TG.out (by trivial); simp only [hpn, hg] at this; exact this)
    have EL := hide2 (show endL ⟨P, ts⟩ o = oneL pn o by unfold endL; rw [hpn])
    have NIL := hide2 (fun (he : g.2 ≠ 0) => show g.1 = PSp.nil by rw [← hg]; exact graphL_err (by rw [hg]; exact he))
    have SPK := hide2 (fun (he : g.2 = 0) => show SpOk ⟨P, ts⟩ (300 : Int).toNat g.1 by rw [← hg]; exact (graphL_most (by rw [hg]; exact he)).2)
    have ARC := hide2 (fun (he : g.2 = 0) => show g.1.arcs.length ≤ 7200 by rw [← hg]; exact graphL_arcs (by rw [hg]; exact he))
    have CG := hide2 (fun (w' : World) (C : Option Addr) (kc : Nat) (hb : Below w1.drew.heap.size w1.drew w') (hi : Ints w' C pn kc (oneL pn i)) => show Calls _ _ _ _ (AnsSpace g w') by rw [← hg]; exact graph_calls (P := P) 300 (H1.out.keep hb) hi)
    have BU0 := hide2 (Below.refl w1.drew.heap.size w1.drew)
    have ML := hide2 (show ∀ x ∈ g.1.marks, 2 ≤ x.length from fun x hx => by
      by_cases he : g.2 = 0
      · have := ((fitsB_iff _ _).1 ((SPK.out he).fits x hx)).2.1
        simp only at this
        omega
      · rw [NIL.out he] at hx; cases hx)
    clear hg hpn TW TG S2 X0 HB H B1 a0 a1
    obtain ⟨s, k⟩ := g
    simp only at NIL SPK ML ARC
    obtain rfl : R = (s, k) := TR.out
    clear TR
    obtain ⟨a0, a1⟩ := Y0.out.two
    refine wp_region_scr 10 (.takes [0, 1, 2] (.two 3 (.two 4 (.takes [5, 6, 7] (.one 8 (.one 9 (.fin 10 .done)))) 8 (.one 4 (.takes [5, 6, 7] (.one 9 (.fin 10 .done))))) 8 (.one 3 (.one 4 (.takes [5, 6, 7] (.one 9 (.fin 10 .done))))))) (fun w' => w'.cell? ⟨w.heap.size, 0, none⟩ = some (.int .i64 P) ∧ w'.cell? ⟨w.heap.size, 1, none⟩ = some (.slice A n c)) (by kernel_rfl) (by kernel_rfl) (by kernel_rfl) (fun _ _ _ _ _ h => h) ⟨a0, a1⟩ (fun hHeld => ?_)
    simp only [Scr.takes]
    generalize w1.drew = u0 at *
    iterate 3
      refine tkTake (v := ?_) rfl (by rfl) hHeld (fun w' hSw => ?_) ?_
      rotate_left
      · (go_simp; try with_reducible rfl)
      try simp only [Act.put, List.setIfInBounds_toArray, List.set_cons_zero, List.set_cons_succ]
    refine scrEnd (.fin 10 .done) (fun a0 a' w' => ∃ (C : Option Addr) (kc : Nat) (U : Option Addr) (cu : Nat) (V : Option Addr) (cv b11 : Nat), a' = ((((((a0.put (some 28) (.slice C pn kc)).put (some 29) (.tuple #[.agg #[.slice U s.marks.length cu, .slice V s.arcs.length cv], .int .i64 k])).put (some 24) (.tuple #[.agg #[.slice U s.marks.length cu, .slice V s.arcs.length cv], .int .i64 k])).put (some 30) (.agg #[.slice U s.marks.length cu, .slice V s.arcs.length cv])).put (some 31) (.int .i64 k)).put (some 9) (.pointer (some ⟨b11, 0, none⟩))) ∧ Hid (Box w' b11 107 #[.slice U s.marks.length cu, .slice V s.arcs.length cv]) ∧ Hid (Lists w' U s.marks.length cu s.marks) ∧ Hid (Arcs w' V s.arcs.length cv s.arcs) ∧ Hid (Below u0.heap.size u0 w')) ?_ (fun EN => ?_)
    rotate_left
    · refine tkTwo rfl rfl (fun Kf hKf => ?_) (fun Kf hKf => ?_)
      · go_simp; go_at_call 15
        (with_reducible refine (start_calls u0 P i A n c).mono ?_)
        rw [HPN.out]
        rintro e u1 ⟨C, kc, rfl, hi, hb, _⟩
        have Iu1 := hide2 hi
        have Bu1 := hide2 (BU0.out.trans (hb.mono BU0.out.size))
        clear hi hb
        refine hKf.out _ _ ⟨(Y0.out.keep Bu1.out).two.1, (Y0.out.keep Bu1.out).two.2⟩ (fun hHeld => ?_)
        clear hKf
        try simp only [Act.put, List.setIfInBounds_toArray, List.set_cons_zero, List.set_cons_succ]
        refine tkTwo rfl rfl (fun Kf hKf => ?_) (fun Kf hKf => ?_)
        · go_simp; go_at_call 60
          (with_reducible refine (CG.out u1 _ _ Bu1.out Iu1.out).mono ?_)
          rintro e u2 ⟨U, cu, V, cv, rfl, hL, hA, hb⟩
          have Lu2 := hide2 hL
          have Au2 := hide2 hA
          have Bu2 := hide2 (Bu1.out.trans (hb.mono Bu1.out.size))
          clear hL hA hb
          refine hKf.out _ _ ⟨(Y0.out.keep Bu2.out).two.1, (Y0.out.keep Bu2.out).two.2⟩ (fun hHeld => ?_)
          clear hKf
          iterate 3
            refine tkTake (v := ?_) rfl (by rfl) hHeld (fun w' hSw => ?_) ?_
            rotate_left
            · (go_simp; try with_reducible rfl)
            try simp only [Act.put, List.setIfInBounds_toArray, List.set_cons_zero, List.set_cons_succ]
          refine tkOne rfl (fun Kf hKf => ?_)
          go_simp
          have Bu3 := hide2 (show Below u0.heap.size u0 (u2.alloc (.cells #[.slice none 0 0, .slice none 0 0] 107)) from Bu2.out.alloc Bu2.out.size _)
          have Xu3 := hide2 (show Box (u2.alloc (.cells #[.slice none 0 0, .slice none 0 0] 107)) u2.heap.size 107 #[.slice none 0 0, .slice none 0 0] from Box.new _ _ _)
          have Nu3 := hide2 (show u0.heap.size ≤ u2.heap.size from Bu2.out.size)
          have Lu3 := hide2 (Sl.keep ListR.kept Lu2.out ((Below.refl u2.heap.size u2).alloc (Nat.le_refl _) (.cells #[.slice none 0 0, .slice none 0 0] 107)))
          have Au3 := hide2 (Sl.keep ArcR.kept Au2.out ((Below.refl u2.heap.size u2).alloc (Nat.le_refl _) (.cells #[.slice none 0 0, .slice none 0 0] 107)))
          refine hKf.out _ _ ⟨(Y0.out.keep Bu3.out).two.1, (Y0.out.keep Bu3.out).two.2⟩ (fun hHeld => ?_)
          clear hKf
          try simp only [Act.put, List.setIfInBounds_toArray, List.set_cons_zero, List.set_cons_succ]
          generalize u2.alloc (.cells #[.slice none 0 0, .slice none 0 0] 107) = u3 at *
          refine tkOne rfl (fun Kf hKf => ?_)
          obtain ⟨s0, s1⟩ := Xu3.out.two
          have sf0 := Xu3.out.frozen 0
          have sf1 := Xu3.out.frozen 1
          go_simp
          have BE := hide2 (below_set2 Bu3.out (Nat.le_refl _) Nu3.out (.slice U s.marks.length cu) (.slice V s.arcs.length cv))
          refine hKf.out _ _ ⟨(Y0.out.keep BE.out).two.1, (Y0.out.keep BE.out).two.2⟩ (fun hHeld => ?_)
          clear hKf
          try simp only [Act.put, List.setIfInBounds_toArray, List.set_cons_zero, List.set_cons_succ]
          exact EN.out _ _ ⟨C, kc, U, cu, V, cv, u2.heap.size, rfl, hide2 (Xu3.out.set2 _ _), hide2 (Lists.besideZ Lu3.out ML.out Xu3.out _ _), hide2 (Arcs.besideZ Au3.out Xu3.out _ _), BE⟩ hHeld
        · go_simp
          have Bu2 := hide2 (show Below u0.heap.size u0 (u1.alloc (.cells #[.slice none 0 0, .slice none 0 0] 107)) from Bu1.out.alloc Bu1.out.size _)
          have Xu2 := hide2 (show Box (u1.alloc (.cells #[.slice none 0 0, .slice none 0 0] 107)) u1.heap.size 107 #[.slice none 0 0, .slice none 0 0] from Box.new _ _ _)
          have Nu2 := hide2 (show u0.heap.size ≤ u1.heap.size from Bu1.out.size)
          have Iu2 := hide2 (Sl.keep IntR.kept Iu1.out ((Below.refl u1.heap.size u1).alloc (Nat.le_refl _) (.cells #[.slice none 0 0, .slice none 0 0] 107)))
          refine hKf.out _ _ ⟨(Y0.out.keep Bu2.out).two.1, (Y0.out.keep Bu2.out).two.2⟩ (fun hHeld => ?_)
          clear hKf
          try simp only [Act.put, List.setIfInBounds_toArray, List.set_cons_zero, List.set_cons_succ]
          generalize u1.alloc (.cells #[.slice none 0 0, .slice none 0 0] 107) = u2 at *
          refine tkOne rfl (fun Kf hKf => ?_)
          go_simp; go_at_call 60
          (with_reducible refine (CG.out u2 _ _ Bu2.out Iu2.out).mono ?_)
          rintro e u3 ⟨U, cu, V, cv, rfl, hL, hA, hb⟩
          have Lu3 := hide2 hL
          have Au3 := hide2 hA
          have Xu3 := hide2 (Xu2.out.keep hb)
          have Bu3 := hide2 (Bu2.out.trans (hb.mono Bu2.out.size))
          clear hL hA hb
          refine hKf.out _ _ ⟨(Y0.out.keep Bu3.out).two.1, (Y0.out.keep Bu3.out).two.2⟩ (fun hHeld => ?_)
          clear hKf
          iterate 3
            refine tkTake (v := ?_) rfl (by rfl) hHeld (fun w' hSw => ?_) ?_
            rotate_left
            · (go_simp; try with_reducible rfl)
            try simp only [Act.put, List.setIfInBounds_toArray, List.set_cons_zero, List.set_cons_succ]
          refine tkOne rfl (fun Kf hKf => ?_)
          obtain ⟨s0, s1⟩ := Xu3.out.two
          have sf0 := Xu3.out.frozen 0
          have sf1 := Xu3.out.frozen 1
          go_simp
          have BE := hide2 (below_set2 Bu3.out (Nat.le_refl _) Nu2.out (.slice U s.marks.length cu) (.slice V s.arcs.length cv))
          refine hKf.out _ _ ⟨(Y0.out.keep BE.out).two.1, (Y0.out.keep BE.out).two.2⟩ (fun hHeld => ?_)
          clear hKf
          try simp only [Act.put, List.setIfInBounds_toArray, List.set_cons_zero, List.set_cons_succ]
          exact EN.out _ _ ⟨C, kc, U, cu, V, cv, u1.heap.size, rfl, hide2 (Xu3.out.set2 _ _), hide2 (Lists.besideZ Lu3.out ML.out Xu3.out _ _), hide2 (Arcs.besideZ Au3.out Xu3.out _ _), BE⟩ hHeld
      · go_simp
        have Bu1 := hide2 (show Below u0.heap.size u0 (u0.alloc (.cells #[.slice none 0 0, .slice none 0 0] 107)) from BU0.out.alloc BU0.out.size _)
        have Xu1 := hide2 (show Box (u0.alloc (.cells #[.slice none 0 0, .slice none 0 0] 107)) u0.heap.size 107 #[.slice none 0 0, .slice none 0 0] from Box.new _ _ _)
        have Nu1 := hide2 (show u0.heap.size ≤ u0.heap.size from BU0.out.size)
        refine hKf.out _ _ ⟨(Y0.out.keep Bu1.out).two.1, (Y0.out.keep Bu1.out).two.2⟩ (fun hHeld => ?_)
        clear hKf
        try simp only [Act.put, List.setIfInBounds_toArray, List.set_cons_zero, List.set_cons_succ]
        generalize u0.alloc (.cells #[.slice none 0 0, .slice none 0 0] 107) = u1 at *
        refine tkOne rfl (fun Kf hKf => ?_)
        go_simp; go_at_call 15
        (with_reducible refine (start_calls u1 P i A n c).mono ?_)
        rw [HPN.out]
        rintro e u2 ⟨C, kc, rfl, hi, hb, _⟩
        have Iu2 := hide2 hi
        have Xu2 := hide2 (Xu1.out.keep hb)
        have Bu2 := hide2 (Bu1.out.trans (hb.mono Bu1.out.size))
        clear hi hb
        refine hKf.out _ _ ⟨(Y0.out.keep Bu2.out).two.1, (Y0.out.keep Bu2.out).two.2⟩ (fun hHeld => ?_)
        clear hKf
        try simp only [Act.put, List.setIfInBounds_toArray, List.set_cons_zero, List.set_cons_succ]
        refine tkOne rfl (fun Kf hKf => ?_)
        go_simp; go_at_call 60
        (with_reducible refine (CG.out u2 _ _ Bu2.out Iu2.out).mono ?_)
        rintro e u3 ⟨U, cu, V, cv, rfl, hL, hA, hb⟩
        have Lu3 := hide2 hL
        have Au3 := hide2 hA
        have Xu3 := hide2 (Xu2.out.keep hb)
        have Bu3 := hide2 (Bu2.out.trans (hb.mono Bu2.out.size))
        clear hL hA hb
        refine hKf.out _ _ ⟨(Y0.out.keep Bu3.out).two.1, (Y0.out.keep Bu3.out).two.2⟩ (fun hHeld => ?_)
        clear hKf
        iterate 3
          refine tkTake (v := ?_) rfl (by rfl) hHeld (fun w' hSw => ?_) ?_
          rotate_left
          · (go_simp; try with_reducible rfl)
          try simp only [Act.put, List.setIfInBounds_toArray, List.set_cons_zero, List.set_cons_succ]
        refine tkOne rfl (fun Kf hKf => ?_)
        obtain ⟨s0, s1⟩ := Xu3.out.two
        have sf0 := Xu3.out.frozen 0
        have sf1 := Xu3.out.frozen 1
        go_simp
        have BE := hide2 (below_set2 Bu3.out (Nat.le_refl _) Nu1.out (.slice U s.marks.length cu) (.slice V s.arcs.length cv))
        refine hKf.out _ _ ⟨(Y0.out.keep BE.out).two.1, (Y0.out.keep BE.out).two.2⟩ (fun hHeld => ?_)
        clear hKf
        try simp only [Act.put, List.setIfInBounds_toArray, List.set_cons_zero, List.set_cons_succ]
        exact EN.out _ _ ⟨C, kc, U, cu, V, cv, u0.heap.size, rfl, hide2 (Xu3.out.set2 _ _), hide2 (Lists.besideZ Lu3.out ML.out Xu3.out _ _), hide2 (Arcs.besideZ Au3.out Xu3.out _ _), BE⟩ hHeld
    rintro a' w4 ⟨C, kc, U, cu, V, cv, b11, rfl, SX, SL, SA, SB⟩ hHeld
    try simp only [Act.put, List.setIfInBounds_toArray, List.set_cons_zero, List.set_cons_succ]
    refine tkEnd rfl (fun Kf hKf => ?_)
    go_simp
    refine hKf.out _ _ ?_
    clear hKf
    try simp only [Act.put, List.setIfInBounds_toArray, List.set_cons_zero, List.set_cons_succ]
    refine tkDone ?_
    clear hHeld a0 a1
    have Z0 := hide2 (Y0.out.keep SB.out)
    have H4 := hide2 (H1.out.keep SB.out)
    have B4 := hide2 (BZ.out.trans (SB.out.mono BZ.out.size))
    clear Y0 H1 BZ SB CG BU0 CW
    by_cases hk0 : k = 0
    · subst hk0
      have SO := hide2 (SPK.out rfl)
      have hA := ARC.out rfl
      have hMl : s.marks.length ≤ 300 := SO.out.few
      have hML0 : 0 < s.marks.length := SO.out.some_
      clear NIL SPK ARC ML
      obtain ⟨ML, hml⟩ : ∃ ML, s.marks.length = ML := ⟨_, rfl⟩
      obtain ⟨AL, hal⟩ : ∃ AL, s.arcs.length = AL := ⟨_, rfl⟩
      have HML := hide2 hml
      have HAL := hide2 hal
      rw [hml] at SL SX hMl hML0
      rw [hal] at SA SX hA
      clear hml hal
      obtain ⟨x0, x1⟩ := SX.out.two
      rw [HML.out, HAL.out]
      go_upto_region 8 with fail
      have MK0 := hide2 (MkS.start w4 U ML cu V AL cv)
      have BK0 := hide2 (show Below w4.heap.size w4 (w4.alloc (.cells #[.slice U ML cu, .slice V AL cv, .slice none 0 0, .slice none 0 0] 174)) from (Below.refl _ _).alloc (Nat.le_refl _) _)
      clear x0 x1
      generalize w4.alloc (.cells #[.slice U ML cu, .slice V AL cv, .slice none 0 0, .slice none 0 0] 174) = w5 at *
      obtain ⟨NN, hNN⟩ : ∃ NN, w4.heap.size = NN := ⟨_, rfl⟩
      have HNN := hide2 hNN
      rw [hNN] at MK0 BK0
      rw [hNN]
      have ZB : ∀ wr, Below NN w4 wr → Box wr w.heap.size 27 #[.int .i64 P, .slice A n c] := fun wr hb => Z0.out.keep (by rw [hNN]; exact hb)
      have ZC := hide2 ZB
      have LT0 := hide2 (show ∀ wr, Below NN w4 wr → Trans wr A n c ts from fun wr hb => H4.out.keep (by rw [hNN]; exact hb))
      have LM0 := hide2 (show ∀ wr, Below NN w4 wr → Lists wr U ML cu s.marks from fun wr hb => Sl.keep ListR.kept SL.out (by rw [hNN]; exact hb))
      have LA0 := hide2 (show ∀ wr, Below NN w4 wr → Arcs wr V AL cv s.arcs from fun wr hb => Sl.keep ArcR.kept SA.out (by rw [hNN]; exact hb))
      have LX0 := hide2 (show ∀ wr, Below NN w4 wr → Box wr b11 107 #[.slice U ML cu, .slice V AL cv] from fun wr hb => SX.out.keep (by rw [hNN]; exact hb))
      clear ZB hNN
      obtain ⟨z0, z1⟩ := (ZC.out _ BK0.out).two
      have LL := hide2 (show (labL ⟨P, ts⟩).length = n by simp [labL, TL.out])
      go_wp2
      clear z0 z1
      go_loopw [41] (fun v wr => ∃ (k : Nat) (vl : Value), k ≤ n ∧ v = .int .i64 k ∧ Hid (MkS NN NN w4 wr U ML cu V AL cv vl ((labL ⟨P, ts⟩).take k) (.slice none 0 0) [])) (fun v _ => n - (intOf v).toNat)
      case atStart => exact ⟨0, _, Nat.zero_le _, rfl, MK0⟩
      case round =>
        clear MK0 BK0
        obtain ⟨k, vl, hk, rfl, MK⟩ := hrel
        have hlen := hide2 (show ((labL ⟨P, ts⟩).take k).length = k by rw [List.length_take, LL.out]; omega)
        by_cases hlt : k < n
        · have hki : (k : Int) < (n : Int) := by omega
          obtain ⟨bt, offt, t, A1, n1, c1, A2, n2, c2, rfl, hbt, ht, q0, q1, q2, i1, i2, _, _⟩ := (LT0.out _ MK.out.below).get hlt
          have NX := hide2 (labL_take (N := ⟨P, ts⟩) ht.out)
          obtain ⟨lbl, hlb⟩ : ∃ l, t.label = l := ⟨_, rfl⟩
          rw [hlb] at NX q0
          have bb := boxBelow wr (.cells #[.int .i64 lbl, .slice A1 n1 c1, .slice A2 n2 c2] 78)
          have WT := hide2 (Box.new wr #[.int .i64 lbl, .slice A1 n1 c1, .slice A2 n2 c2] 78)
          have MU := hide2 (MK.out.keep bb)
          clear hlb ht i1 i2 MK
          go_upto_region 11 with fail
          clear bb q0 q1 q2
          generalize wr.alloc (.cells #[.int .i64 lbl, .slice A1 n1 c1, .slice A2 n2 c2] 78) = u0 at *
          generalize wr.heap.size = bx at *
          obtain ⟨t0, _, _⟩ := WT.out.three
          obtain ⟨Av, cv', rfl, _⟩ := MU.out.labels.sl (by rw [hlen.out]; omega)
          rw [hlen.out] at MU
          have s2 := MU.out.box.four.2.2.1
          refine wp_region_scr 9 (.takes [0, 1, 2, 3, 4, 5, 6] (.one 7 (.one 8 (.fins [9, 10, 11] .done)))) (fun w' => w'.cell? ⟨NN, 2, none⟩ = some (.slice Av k cv') ∧ w'.cell? ⟨bx, 0, none⟩ = some (.int .i64 lbl)) (by kernel_rfl) (by kernel_rfl) (by kernel_rfl) (fun _ _ _ _ _ h => h) ⟨s2, t0⟩ (fun hHeld => ?_)
          simp only [Scr.takes, Scr.fins]
          have MD := hide2 (MU.out.keep (Below.refl _ _).drew)
          have WD := hide2 (WT.out.drew)
          clear MU WT s2 t0
          generalize u0.drew = u1 at *
          iterate 7
            refine tkTake (v := ?_) rfl (by rfl) hHeld (fun w' hSw => ?_) ?_
            rotate_left
            · (go_simp; try with_reducible rfl)
            try simp only [Act.put, List.setIfInBounds_toArray, List.set_cons_zero, List.set_cons_succ]
          refine tkOne rfl (fun Kf hKf => ?_)
          go_simp
          have OWNL := MD.out.labels
          rw [hlen.out] at OWNL
          have b1 := boxBelow u1 (.cells #[.int .i64 lbl] 3)
          refine hKf.out _ _ ⟨(MD.out.keep b1).box.four.2.2.1, (WD.out.keep b1).three.1⟩ (fun hHeld => ?_)
          clear hKf b1
          try simp only [Act.put, List.setIfInBounds_toArray, List.set_cons_zero, List.set_cons_succ]
          refine tkOne rfl (fun Kf hKf => ?_)
          refine step_appNew tyInts rfl (.tmp 49) (.tmp 52) rfl [lbl] #[.int .i64 lbl] rfl rfl (by first | rfl | simp) rfl rfl (by omega) (by simp [Value.oneCell']) OWNL (Reads.one (vs := fun _ => .int .i64 lbl) rfl rfl (fun j hj => (by obtain rfl : j = 0 := (by omega); rfl))) rfl MD.out.below (Nat.le_of_lt MD.out.lt) (by omega) (by omega) (fun _ _ _ _ h => h) ?_
          intro gz cap wz ownz hgz hbz hBg hgl
          have GB := hide2 (MD.out.grownL hgz).1
          have ML2 := hide2 (MD.out.label (x := lbl) (g := gz) (k := k + 1) (cap := cap) (by rw [hlen.out]) ownz hgz hbz)
          obtain ⟨_, o1, _⟩ := id MD.out.labels
          have TB := hide2 (WD.out.grown hgz (own_neBox o1 WD.out (by decide)))
          clear o1 ownz hgz hbz OWNL hHeld
          refine hKf.out _ _ ⟨GB.out.four.2.2.1, TB.out.three.1⟩ (fun hHeld => ?_)
          clear hKf
          try simp only [Act.put, List.setIfInBounds_toArray, List.set_cons_zero, List.set_cons_succ]
          have x2 := GB.out.four.2.2.1
          have xf := GB.out.frozen 2
          iterate 3
            refine tkEnd rfl (fun Kf hKf => ?_)
            go_simp
            refine hKf.out _ _ ?_
            clear hKf
            try simp only [Act.put, List.setIfInBounds_toArray, List.set_cons_zero, List.set_cons_succ]
          refine tkDone ?_
          clear x2 xf hHeld GB TB MD WD
          go_wp2
          go_roundw
          case rel => exact ⟨k + 1, _, by omega, by go_num, hide2 (by rw [NX.out]; exact ML2.out)⟩
          case measure => simp [intOf]; omega
        · obtain rfl : k = n := by omega
          have MM := hide2 (show MkS NN NN w4 wr U ML cu V AL cv vl (labL ⟨P, ts⟩) (.slice none 0 0) ((endsL ⟨P, ts⟩ o s.marks).take 0) by have := MK.out; rwa [List.take_of_length_le (by rw [LL.out]; exact Nat.le_refl _)] at this)
          obtain ⟨z0, z1⟩ := (ZC.out _ MM.out.below).two
          obtain ⟨y0, y1⟩ := (LX0.out _ MM.out.below).two
          clear MK hlen hlt
          have hEL := hide2 (show (endsL ⟨P, ts⟩ o s.marks).length = ML by simp [endsL, HML.out])
          go_upto_region 14 with (go_at_call 15; go_loud ((with_reducible refine (start_calls wr P o A k c).mono ?_); rw [HPN.out]; rintro e w6 ⟨C, kc, rfl, hi, hb, hfr⟩; have IE := hide2 hi; have BE := hide2 hb; have FR := hide2 hfr; clear hi hb hfr))
          have M6 := hide2 ((show MkS NN NN w4 w6 U ML cu V AL cv vl (labL ⟨P, ts⟩) (.slice none 0 0) [] from MM.out.keep BE.out).fresh w6.heap.size)
          have hNl := MM.out.lt
          have I6 := hide2 (show EndAt NN w6.heap.size w6 C pn kc (oneL pn o) from ⟨Nat.le_refl _, IE.out, fun b off e h0 => by
            obtain ⟨b', off', e', hlt', _⟩ := IE.out.cells h0
            rw [e] at e'
            injection e' with e'
            injection e' with e' _
            have := FR.out _ e
            simp only at this
            exact ⟨by omega, by omega⟩⟩)
          have HNE := hide2 (show NN ≤ w6.heap.size from Nat.le_trans (Nat.le_of_lt hNl) BE.out.size)
          generalize w6.heap.size = NE at *
          clear z0 z1 y0 y1 MM
          obtain ⟨y0, y1⟩ := (LX0.out _ M6.out.below).two
          go_wp2
          clear y0 y1
          go_loopw [63] (fun v wr => ∃ (q : Nat) (ve : Value), q ≤ ML ∧ v = .int .i64 q ∧ Hid (MkS NN NE w4 wr U ML cu V AL cv vl (labL ⟨P, ts⟩) ve ((endsL ⟨P, ts⟩ o s.marks).take q)) ∧ Hid (EndAt NN NE wr C pn kc (oneL pn o))) (fun v _ => ML - (intOf v).toNat)
          case atStart => exact ⟨0, _, Nat.zero_le _, rfl, M6, I6⟩
          case round =>
            clear M6 I6 IE BE FR hNl
            obtain ⟨q, ve, hq, rfl, MK, IE⟩ := hrel
            have hlen := hide2 (show ((endsL ⟨P, ts⟩ o s.marks).take q).length = q by rw [List.length_take, hEL.out]; omega)
            by_cases hlt : q < ML
            · have hki : (q : Int) < (ML : Int) := by omega
              obtain ⟨bm, offm, x, Ax, nx, cx, rfl, hbm, hx, qm, ix, hnx⟩ := Lists.get (LM0.out _ MK.out.below) hlt
              have NX := hide2 (endsL_take (N := ⟨P, ts⟩) (o := o) hx.out)
              rw [EL.out] at NX
              obtain ⟨r, hr⟩ : ∃ r, (x == oneL pn o) = r := ⟨_, rfl⟩
              rw [hr] at NX
              go_upto_region 17 with fail
              obtain ⟨Av, cv', rfl, _⟩ := MK.out.ends.sl (by rw [hlen.out]; omega)
              rw [hlen.out] at MK
              have s3 := MK.out.box.four.2.2.2
              refine wp_region_scr 10 (.takes [0, 1, 2, 3, 4, 5, 6] (.one 7 (.one 8 (.one 9 (.fins [10, 11, 12] .done))))) (fun w' => w'.cell? ⟨NN, 3, none⟩ = some (.slice Av q cv')) (by kernel_rfl) (by kernel_rfl) (by kernel_rfl) (fun _ _ _ _ _ h => h) s3 (fun hHeld => ?_)
              simp only [Scr.takes, Scr.fins]
              have dr := (Below.refl wr.heap.size wr).drew
              have MD := hide2 (MK.out.keep dr)
              have CQ := hide2 (show Calls Try.prog 14 #[.slice Ax nx cx, .slice C pn kc] wr.drew (fun e w' => e = .returned (.bool r) ∧ Drew wr.drew w') by rw [← hr]; exact equalInts_calls (Ints.keep ix dr) (Ints.keep IE.out.2.1 dr))
              have ID := hide2 (IE.out.next (dr.mono IE.out.1))
              clear MK s3 qm ix hr dr IE hx
              generalize wr.drew = u1 at *
              iterate 7
                refine tkTake (v := ?_) rfl (by rfl) hHeld (fun w' hSw => ?_) ?_
                rotate_left
                · (go_simp; try with_reducible rfl)
                try simp only [Act.put, List.setIfInBounds_toArray, List.set_cons_zero, List.set_cons_succ]
              refine tkOne rfl (fun Kf hKf => ?_)
              go_simp; go_at_call 14
              (with_reducible refine CQ.out.mono ?_)
              rintro e u2 ⟨rfl, dr⟩
              have D2 := hide2 dr.below
              have M2 := hide2 (MD.out.keep D2.out)
              have I2 := hide2 (ID.out.next (D2.out.mono ID.out.1))
              clear dr MD ID
              refine hKf.out _ _ M2.out.box.four.2.2.2 (fun hHeld => ?_)
              clear hKf
              try simp only [Act.put, List.setIfInBounds_toArray, List.set_cons_zero, List.set_cons_succ]
              refine tkOne rfl (fun Kf hKf => ?_)
              go_simp
              have OWNL := M2.out.ends
              rw [hlen.out] at OWNL
              have b1 := boxBelow u2 (.cells #[.bool r] 4)
              refine hKf.out _ _ (M2.out.keep b1).box.four.2.2.2 (fun hHeld => ?_)
              clear hKf b1
              try simp only [Act.put, List.setIfInBounds_toArray, List.set_cons_zero, List.set_cons_succ]
              refine tkOne rfl (fun Kf hKf => ?_)
              refine step_appNew tyBools rfl (.tmp 71) (.tmp 75) rfl [r] #[.bool r] rfl rfl (by first | rfl | simp) rfl rfl (by omega) (by simp [Value.oneCell']) OWNL (Reads.one (vs := fun _ => .bool r) rfl rfl (fun j hj => (by obtain rfl : j = 0 := (by omega); rfl))) rfl (Below.refl NE u2) I2.out.1 (by omega) (by omega) (fun _ _ _ _ h => h) ?_
              intro gz cap wz ownz hgz hbz hBg hgl
              have GB := hide2 (M2.out.grownE hgz).1
              have ML2 := hide2 (M2.out.end_ (x := r) (g := gz) (k := q + 1) (cap := cap) (by rw [hlen.out]) ownz hgz (M2.out.below.trans (hbz.mono HNE.out)))
              have IZ := hide2 ((I2.out.next hbz).set 3 (.slice (some ⟨gz, 0, none⟩) (q + 1) cap))
              clear ownz hgz hbz OWNL hHeld
              refine hKf.out _ _ GB.out.four.2.2.2 (fun hHeld => ?_)
              clear hKf
              try simp only [Act.put, List.setIfInBounds_toArray, List.set_cons_zero, List.set_cons_succ]
              have x2 := GB.out.four.2.2.2
              have xf := GB.out.frozen 3
              iterate 3
                refine tkEnd rfl (fun Kf hKf => ?_)
                go_simp
                refine hKf.out _ _ ?_
                clear hKf
                try simp only [Act.put, List.setIfInBounds_toArray, List.set_cons_zero, List.set_cons_succ]
              refine tkDone ?_
              clear x2 xf hHeld GB M2
              go_wp2
              go_roundw
              case rel => exact ⟨q + 1, _, by omega, by go_num, hide2 (by rw [NX.out]; exact ML2.out), IZ⟩
              case measure => simp [intOf]; omega
            · obtain rfl : q = ML := by omega
              have FIN := hide2 (show MkS NN NE w4 wr U q cu V AL cv vl (labL ⟨P, ts⟩) ve (endsL ⟨P, ts⟩ o s.marks) by have := MK.out; rwa [List.take_of_length_le (by rw [hEL.out]; exact Nat.le_refl _)] at this)
              go_wp2
              go_ret2
              have F := FIN.out
              obtain ⟨Al, cl, rfl, il⟩ := F.labels.sl (by rw [LL.out]; omega)
              obtain ⟨Ae, ce, rfl, ie⟩ := F.ends.sl (by rw [hEL.out]; omega)
              rw [hEL.out] at F ie
              have hT : ∀ a ∈ s.arcs, Inn q a.from_ ∧ Inn q a.to_ ∧ Inn (labL ⟨P, ts⟩).length a.tran := fun a ha => by
                obtain ⟨e1, e2, e3⟩ := SO.out.ends a ha
                rw [HML.out] at e1 e3
                refine ⟨e1, e3, e2.1, ?_⟩
                have := e2.2
                simpa [labL] using this
              refine ⟨B4.out.trans (F.below.mono (by rw [← HNN.out]; exact B4.out.size)), .inr ⟨rfl, NN, U, cu, V, AL, cv, Al, (labL ⟨P, ts⟩).length, cl, Ae, ce, by first | rfl | simp, ?_⟩⟩
              rw [HML.out]
              exact ⟨F.box, LA0.out _ F.below, il, ie, fun a ha => (hT a ha).1, fun a ha => (hT a ha).2.1, fun a ha => (hT a ha).2.2, hML0, hMl, hA⟩
    · clear SPK ARC ML
      have hkk := hide2 hk0
      go_wp2
      go_ret2
      exact ⟨B4.out, .inl ⟨hkk.out, rfl⟩⟩
  · have RW := hide2 (TW.out hs0)
    go_wp2_with (go_at_call 17; go_loud ((with_reducible refine CW.out.mono ?_); rintro e w1 ⟨rfl, hb1⟩; have B1 := hide2 hb1; clear hb1))
    go_ret2
    rw [RW.out]
    exact ⟨HB.out.trans (B1.out.mono HB.out.size), .inl ⟨hs0, rfl⟩⟩
end Go.Proofs.Ytnfppolgaeibeaa
namespace Go.Proofs.Ytnfppolgaeibeaa
open Go.RowKit

noncomputable def hasB (N : PNet) (i o : Int) (wd : List Int) : Bool × Int :=
  if (tongS N i o).2 = 0 then (meetT (toldL (tongS N i o).1.arcs (atI (labL N)) wd (tongS N i o).1.marks.length wd.length) (endsL N o (tongS N i o).1.marks) (tongS N i o).1.marks.length, 0) else (false, (tongS N i o).2)
noncomputable def leastB (N : PNet) (i o : Int) : Int × Int :=
  if (tongS N i o).2 = 0 then (if distI (tongS N i o).1.arcs (atI (labL N)) (fun m => on (endsL N o (tongS N i o).1.marks) m) 0 < 0 then (0, 3) else (distI (tongS N i o).1.arcs (atI (labL N)) (fun m => on (endsL N o (tongS N i o).1.marks) m) 0, 0)) else (0, (tongS N i o).2)
theorem hasB_err {N : PNet} {i o : Int} {wd : List Int} {r : PSp × Int} (h : tongS N i o = r) (he : r.2 ≠ 0) : hasB N i o wd = (false, r.2) := by rw [hasB, h, if_neg he]
theorem hasB_ok {N : PNet} {i o : Int} {wd : List Int} {s : PSp} (h : tongS N i o = (s, 0)) : hasB N i o wd = (meetT (toldL s.arcs (atI (labL N)) wd s.marks.length wd.length) (endsL N o s.marks) s.marks.length, 0) := by rw [hasB, h, if_pos rfl]
theorem leastB_err {N : PNet} {i o : Int} {r : PSp × Int} (h : tongS N i o = r) (he : r.2 ≠ 0) : leastB N i o = (0, r.2) := by rw [leastB, h, if_neg he]
theorem leastB_ok {N : PNet} {i o : Int} {s : PSp} (h : tongS N i o = (s, 0)) : leastB N i o = (if distI s.arcs (atI (labL N)) (fun m => on (endsL N o s.marks) m) 0 < 0 then (0, 3) else (distI s.arcs (atI (labL N)) (fun m => on (endsL N o s.marks) m) 0, 0)) := by rw [leastB, h, if_pos rfl]
theorem told_none {ars : List PArc} {lb : Int → Int} {wd : List Int} {es : List Bool} {n k : Nat} (h : ∀ m, ¬ Told ars lb wd k m) (hk : k ≤ wd.length) : meetT (toldL ars lb wd n wd.length) es n = false := by
  cases hm : meetT (toldL ars lb wd n wd.length) es n with
  | false => rfl
  | true =>
    exfalso
    unfold meetT at hm
    rw [List.any_eq_true] at hm
    obtain ⟨j, hj, hm⟩ := hm
    have hjn : j < n := List.mem_range.1 hj
    have h1 : (toldL ars lb wd n wd.length).getD j false = true := by
      cases h2 : (toldL ars lb wd n wd.length).getD j false with
      | true => rfl
      | false => rw [h2] at hm; simp at hm
    have h3 : on (toldL ars lb wd n wd.length) (j : Int) := by unfold on; simpa using h1
    obtain ⟨m', hm'⟩ := ((told_on ⟨by omega, by omega⟩).1 h3).less k hk
    exact h m' hm'
theorem farL_dist {ars : List PArc} {lb : Int → Int} {es : List Bool} {n : Nat} (hf : ∀ a ∈ ars, Inn n a.from_) (ht : ∀ a ∈ ars, Inn n a.to_) : ∀ k : Nat, k < n → IsDist ars lb (fun m => on es m) (k : Int) (atI (farL ars lb es n) (k : Int)) := fun k hk => by
  rw [farL_at hk]
  exact (far_short hf ht hk).1
def AnsHas (p : Bool × Int) (w : World) (e : Ending) (w' : World) : Prop := e = .returned (.tuple #[.bool p.1, .int .i64 p.2]) ∧ Below w.heap.size w w'
def AnsLeast (p : Int × Int) (w : World) (e : Ending) (w' : World) : Prop := e = .returned (.tuple #[.int .i64 p.1, .int .i64 p.2]) ∧ Below w.heap.size w w'

set_option maxRecDepth 100000 in
set_option maxHeartbeats 8000000 in
theorem has_calls {w : World} {P : Int} {A Q : Option Addr} {n c l q : Nat} {ts : List PTran} {wd : List Int} (i o : Int) (h : Trans w A n c ts) (hn : n ≤ 2513169434916) (g : Ints w Q l q wd) :
    Calls Try.prog 24 #[.agg #[.int .i64 P, .slice A n c], .int .i64 i, .int .i64 o, .slice Q l q] w (AnsHas (hasB ⟨P, ts⟩ i o wd) w) := by
  generalize hw : w.alloc (.cells #[.int .i64 P, .slice A n c] 27) = w0
  have HB := hide2 (show Below w.heap.size w w0 by rw [← hw]; exact (Below.refl _ _).alloc (Nat.le_refl _) _)
  have X0 := hide2 (show Box w0 w.heap.size 27 #[.int .i64 P, .slice A n c] by rw [← hw]; exact Box.new _ _ _)
  have CW := hide2 (speak_calls (P := P) i o (h.keep HB.out) hn)
  have G := hide2 (g.keep HB.out)
  have GL := hide2 (show wd.length = l from g.len)
  have hls := g.small
  clear h g
  obtain ⟨R, hR⟩ : ∃ R, tongS ⟨P, ts⟩ i o = R := ⟨_, rfl⟩
  have ER := hide2 (fun (he : R.2 ≠ 0) => hasB_err (wd := wd) hR he)
  have OK := hide2 (fun (s : PSp) (he : R = (s, 0)) => hasB_ok (wd := wd) (hR.trans he))
  rw [hR] at CW
  clear hR
  obtain ⟨a0, a1⟩ := X0.out.two
  go_enter Try.func24, Try.ntmps24
  go_upto_region 1 with fail
  clear hw
  obtain ⟨s, k⟩ := R
  by_cases hk : k = 0
  · subst hk
    have OK1 := hide2 (OK.out s rfl)
    go_upto_region 4 with (go_at_call 70; go_loud ((with_reducible refine CW.out.mono ?_); rintro e w1 ⟨hb1, ⟨hne, _⟩ | ⟨_, bp, As, cs, D, m, d, Al, nl, cl, Ae, ce, rfl, hS⟩⟩; (exact absurd rfl hne); have B1 := hide2 hb1; have SP := hide2 hS; clear hb1 hS))
    clear a0 a1 X0 CW ER OK
    have BZ := hide2 (HB.out.trans (B1.out.mono HB.out.size))
    have G1 := hide2 (Ints.keep G.out B1.out)
    clear G B1
    obtain ⟨n0, hn0⟩ : ∃ n0, s.marks.length = n0 := ⟨_, rfl⟩
    have OK2 := hide2 (show hasB ⟨P, ts⟩ i o wd = (meetT (toldL s.arcs (atI (labL ⟨P, ts⟩)) wd n0 wd.length) (endsL ⟨P, ts⟩ o s.marks) n0, 0) by rw [OK1.out, hn0])
    simp only [hn0] at SP
    clear hn0 OK1
    have CF := hide2 (first_calls wd SP.out)
    obtain ⟨wo, hwo⟩ : ∃ wo : World, wo = w1 := ⟨_, rfl⟩
    go_wp2_with (go_at_call 71; (with_reducible refine CF.out.mono ?_); rintro e w2 ⟨g, rfl, ob, hb2⟩; have OB := hide2 ob; have B2 := hide2 hb2; clear ob hb2)
    have hsz := SP.out.pos
    have SP2 := hide2 (SP.out.keep B2.out)
    have G2 := hide2 (Ints.keep G1.out B2.out)
    have BY := hide2 (BZ.out.trans (B2.out.mono BZ.out.size))
    have OS := hide2 (show BoolS w2 g n0 (toldL s.arcs (atI (labL ⟨P, ts⟩)) wd n0 0) ∧ g < w2.heap.size from ⟨OB.out.s, OB.out.lt.2⟩)
    clear SP G1 BZ OB B2 CF hwo
    go_loopw [12, 31] (fun sv v wr => ∃ (k g : Nat), k ≤ l ∧ v = .int .i64 k ∧ sv = .slice (some ⟨g, 0, none⟩) n0 n0 ∧ Hid (BoolS wr g n0 (toldL s.arcs (atI (labL ⟨P, ts⟩)) wd n0 k) ∧ g < wr.heap.size) ∧ Hid (SpkW wr bp As n0 cs D m d Al nl cl Ae ce s.arcs (labL ⟨P, ts⟩) (endsL ⟨P, ts⟩ o s.marks)) ∧ Hid (Ints wr Q l q wd) ∧ Hid (Below w.heap.size w wr)) (fun _ v _ => l - (intOf v).toNat)
    case atStart => exact ⟨0, g, Nat.zero_le _, rfl, rfl, OS, SP2, G2, BY⟩
    case round =>
      clear OS SP2 G2 BY
      obtain ⟨k, g, hk, rfl, rfl, OS, SP, G, BX⟩ := hrel
      by_cases hlt : k < l
      · have hki : (k : Int) < (l : Int) := by omega
        obtain ⟨bw, offw, x, rfl, hbw, hx, qx⟩ := G.out.get hlt
        have CH := hide2 (hear_calls SP.out OS.out.1 OS.out.2 x)
        have TN := hide2 (told_next (n := n0) (lb := atI (labL ⟨P, ts⟩)) hx.out SP.out.from_ SP.out.to_)
        rw [TN.out.1] at CH
        obtain ⟨b, hb⟩ : ∃ b, (hearTo s.arcs (atI (labL ⟨P, ts⟩)) (toldL s.arcs (atI (labL ⟨P, ts⟩)) wd n0 k) x s.arcs.length).2 = b := ⟨_, rfl⟩
        have HBB := hide2 hb
        rw [hb] at CH
        have NONE := hide2 (fun (e : b = false) => TN.out.2 (hb.trans e))
        clear hb hx TN
        cases b
        · have NO := hide2 (told_none (es := endsL ⟨P, ts⟩ o s.marks) (n := n0) (NONE.out rfl) (by rw [GL.out]; exact hlt))
          go_wp2_with (go_at_call 72; (with_reducible refine CH.out.mono ?_); rintro e w3 ⟨g3, rfl, ob, hb3⟩; have B3 := hide2 hb3; clear ob hb3)
          go_ret2
          rw [OK2.out, NO.out]
          exact ⟨by first | rfl | simp, BX.out.trans (B3.out.mono BX.out.size)⟩
        · go_wp2_with (go_at_call 72; (with_reducible refine CH.out.mono ?_); rintro e w3 ⟨g3, rfl, ob, hb3⟩; have OB := hide2 ob; have B3 := hide2 hb3; clear ob hb3)
          go_roundw
          case rel => exact ⟨k + 1, g3, by omega, by go_num, rfl, hide2 ⟨OB.out.s, OB.out.lt.2⟩, hide2 (SP.out.keep B3.out), hide2 (Ints.keep G.out B3.out), hide2 (BX.out.trans (B3.out.mono BX.out.size))⟩
          case measure => simp [intOf]; omega
      · obtain rfl : k = l := by omega
        have CE := hide2 (ends_calls SP.out OS.out.1)
        rw [← GL.out] at CE
        obtain ⟨b, hb⟩ : ∃ b, meetT (toldL s.arcs (atI (labL ⟨P, ts⟩)) wd n0 wd.length) (endsL ⟨P, ts⟩ o s.marks) n0 = b := ⟨_, rfl⟩
        rw [hb] at CE OK2
        clear hb
        go_wp2_with (go_at_call 73; (with_reducible refine CE.out.mono ?_); rintro e w3 ⟨rfl, rfl⟩)
        go_ret2
        rw [OK2.out]
        exact ⟨by first | rfl | simp, BX.out⟩
  · have ER1 := hide2 (ER.out hk)
    go_wp2_with (go_at_call 70; go_loud ((with_reducible refine CW.out.mono ?_); rintro e w1 ⟨hb1, ⟨_, rfl⟩ | ⟨he, _⟩⟩; rotate_left; (exact absurd he hk); have B1 := hide2 hb1; clear hb1))
    go_ret2
    rw [ER1.out]
    exact ⟨by first | rfl | simp, HB.out.trans (B1.out.mono HB.out.size)⟩

set_option maxRecDepth 100000 in
set_option maxHeartbeats 8000000 in
theorem least_calls {w : World} {P : Int} {A : Option Addr} {n c : Nat} {ts : List PTran} (i o : Int) (h : Trans w A n c ts) (hn : n ≤ 2513169434916) :
    Calls Try.prog 26 #[.agg #[.int .i64 P, .slice A n c], .int .i64 i, .int .i64 o] w (AnsLeast (leastB ⟨P, ts⟩ i o) w) := by
  generalize hw : w.alloc (.cells #[.int .i64 P, .slice A n c] 27) = w0
  have HB := hide2 (show Below w.heap.size w w0 by rw [← hw]; exact (Below.refl _ _).alloc (Nat.le_refl _) _)
  have X0 := hide2 (show Box w0 w.heap.size 27 #[.int .i64 P, .slice A n c] by rw [← hw]; exact Box.new _ _ _)
  have CW := hide2 (speak_calls (P := P) i o (h.keep HB.out) hn)
  clear h
  obtain ⟨R, hR⟩ : ∃ R, tongS ⟨P, ts⟩ i o = R := ⟨_, rfl⟩
  have ER := hide2 (fun (he : R.2 ≠ 0) => leastB_err hR he)
  have OK := hide2 (fun (s : PSp) (he : R = (s, 0)) => leastB_ok (hR.trans he))
  rw [hR] at CW
  clear hR
  obtain ⟨a0, a1⟩ := X0.out.two
  go_enter Try.func26, Try.ntmps26
  go_upto_region 1 with fail
  clear hw
  obtain ⟨s, k⟩ := R
  by_cases hk : k = 0
  · subst hk
    have OK1 := hide2 (OK.out s rfl)
    go_upto_region 4 with (go_at_call 70; go_loud ((with_reducible refine CW.out.mono ?_); rintro e w1 ⟨hb1, ⟨hne, _⟩ | ⟨_, bp, As, cs, D, m, d, Al, nl, cl, Ae, ce, rfl, hS⟩⟩; (exact absurd rfl hne); have B1 := hide2 hb1; have SP := hide2 hS; clear hb1 hS))
    clear a0 a1 X0 CW ER OK
    have BZ := hide2 (HB.out.trans (B1.out.mono HB.out.size))
    clear B1
    obtain ⟨n0, hn0⟩ : ∃ n0, s.marks.length = n0 := ⟨_, rfl⟩
    simp only [hn0] at SP
    clear hn0
    have h300 := SP.out.small
    have HD := hide2 (hope_dist (ars := s.arcs) (lb := atI (labL ⟨P, ts⟩)) (E := fun m => on (endsL ⟨P, ts⟩ o s.marks) m) (w := []) (far := farL s.arcs (atI (labL ⟨P, ts⟩)) (endsL ⟨P, ts⟩ o s.marks) n0) SP.out.pos (farL_dist SP.out.from_ SP.out.to_))
    obtain ⟨x, hx⟩ : ∃ x, distI s.arcs (atI (labL ⟨P, ts⟩)) (fun m => on (endsL ⟨P, ts⟩ o s.marks) m) 0 = x := ⟨_, rfl⟩
    rw [hx] at HD OK1
    clear hx
    have CF := hide2 (far_calls SP.out)
    go_upto_region 5 with (first
      | (go_at_call 77; (with_reducible refine CF.out.mono ?_); rintro e w2 ⟨gf, cf, rfl, hi, hb2⟩; have IF := hide2 hi; have B2 := hide2 hb2; clear hi hb2)
      | (go_at_call 71; (with_reducible refine (first_calls [] (SP.out.keep B2.out)).mono ?_); rintro e w3 ⟨g, rfl, ob, hb3⟩; have OB := hide2 ob; have B3 := hide2 hb3; clear ob hb3)
      | (go_at_call 76; (with_reducible refine (hope_calls h300 (Ints.keep IF.out B3.out) OB.out.s).mono ?_); rw [HD.out]; rintro e w4 ⟨rfl, rfl⟩))
    have BW := hide2 ((BZ.out.trans (B2.out.mono BZ.out.size)).trans (B3.out.mono (BZ.out.trans (B2.out.mono BZ.out.size)).size))
    by_cases hx0 : x < 0
    · rw [if_pos hx0] at OK1
      go_wp2
      go_ret2
      rw [OK1.out]
      exact ⟨by first | rfl | simp, BW.out⟩
    · rw [if_neg hx0] at OK1
      go_wp2
      go_ret2
      rw [OK1.out]
      exact ⟨by first | rfl | simp, BW.out⟩
  · have ER1 := hide2 (ER.out hk)
    go_wp2_with (go_at_call 70; go_loud ((with_reducible refine CW.out.mono ?_); rintro e w1 ⟨hb1, ⟨_, rfl⟩ | ⟨he, _⟩⟩; rotate_left; (exact absurd he hk); have B1 := hide2 hb1; clear hb1))
    go_ret2
    rw [ER1.out]
    exact ⟨by first | rfl | simp, HB.out.trans (B1.out.mono HB.out.size)⟩
end Go.Proofs.Ytnfppolgaeibeaa
