/- Texts melted into one: SameBlock of a block that reads as the same tree; wmeets. Conditions: the blocks read as trees. | Append of any list to one that the call owns. Conditions: the two read as lists. | The reference's wparts. Conditions: the groups read as lists; what is handed on for each group is told; what is found with less fuel is told. -/
import Derived.Test.YtcopnfdknclhnaaGreatMineTellsK41
import Derived.Test.YtcopnfdknclhnaaGreatMineTellsK02
import Derived.Maps.AppendAt
namespace Go.Proofs.YtcopnfdknclhnaaGreat
open Go.RowKit Go.Maps

def SameIH (d : Nat) : Prop := ∀ (w : World) (kd lb : Int) (A B : Option Addr) (n c m e : Nat) (ks : List PBlk), Blks d w A n c ks → Blks d w B m e ks → Calls Tryz.prog 6 #[.agg #[.int .i64 kd, .int .i64 lb, .slice A n c], .agg #[.int .i64 kd, .int .i64 lb, .slice B m e]] w fun e w' => e = .returned (.bool true) ∧ Below w.heap.size w w'
set_option maxRecDepth 100000 in
set_option maxHeartbeats 2000000 in
theorem eqBlks_same {d : Nat} (IH : ∀ d', d = d' + 1 → SameIH d') {w : World} {A B : Option Addr} {n c m e : Nat} {ks : List PBlk} (h : Blks d w A n c ks) (g : Blks d w B m e ks) :
    Calls Tryz.prog 13 #[.slice A n c, .slice B m e, .func (.func 6) #[] #[]] w fun e w' => e = .returned (.bool true) ∧ Below w.heap.size w w' := by
  obtain rfl : n = m := by rw [← h.len, ← g.len]
  have henter : ∀ args w, (callFunc 6 args).run Tryz.prog w = .ok (.enter 6 args) w := fun args w => by kernel_rfl
  have hn := h.small
  have IHH := hide2 IH
  have H := hide2 h
  have G := hide2 g
  clear IH h g
  go_enter Tryz.func13, Tryz.ntmps13
  go_wp2
  go_loopg [17] n (fun gk u wr => ∃ k : Nat, u = .int .i64 k ∧ Hid (k + gk = n) ∧ Hid (Below w.heap.size w wr))
  case atStart => exact ⟨0, rfl, hide2 (by omega), hide2 (Below.refl _ _)⟩
  case round =>
    obtain ⟨k, rfl, hgk, DB⟩ := hrel
    by_cases hlt : k < n
    · have hki : (k : Int) < (n : Int) := by omega
      obtain ⟨b, off, kd, lb, ks1, A1, m1, e1, d', hd, rfl, hb, hx, q0, q1, q2, s1⟩ := Blks.get (H.out.keep DB.out) hlt
      obtain ⟨b', off', kd', lb', ks2, A2, m2, e2, d2, hd2, rfl, hb', hx', r0, r1, r2, s2⟩ := Blks.get (G.out.keep DB.out) hlt
      obtain rfl : d' = d2 := by omega
      have ee : PBlk.mk kd lb ks1 = PBlk.mk kd' lb' ks2 := by have := hx.out; rw [hx'.out] at this; injection this with this; exact this.symm
      injection ee with ea eb ec
      subst ea eb ec
      have HJ := hide2 (show gk - 1 < gk ∧ (k + 1) + (gk - 1) = n by have := hgk.out; omega)
      have hk1 : (k : Int) + 1 ≤ 281474976710656 := by omega
      have B1 := hide2 (boxBelow wr (.cells #[.int .i64 kd, .int .i64 lb, .slice A1 m1 e1] 25))
      have T1 := hide2 (Box.new wr #[.int .i64 kd, .int .i64 lb, .slice A1 m1 e1] 25)
      have r0' := (B1.out.cell (p := ⟨b', off' + k * 3, none⟩) hb').trans r0
      have r1' := (B1.out.cell (p := ⟨b', off' + k * 3 + 1, none⟩) hb').trans r1
      have r2' := (B1.out.cell (p := ⟨b', off' + k * 3 + 2, none⟩) hb').trans r2
      have CI := hide2 (fun (w9 : World) (hq : Below wr.heap.size wr w9) => IHH.out d' hd w9 kd lb A1 A2 m1 e1 m2 e2 ks1 (Blks.keep s1.out hq) (Blks.keep s2.out hq))
      clear hd hd2 hx hx' hb hb' s1 s2 r0 r1 r2
      go_upto_region 6 with fail
      clear q0 q1 q2
      generalize hw2 : wr.alloc (.cells #[.int .i64 kd, .int .i64 lb, .slice A1 m1 e1] 25) = w2 at *
      clear hw2
      have B2 := hide2 (boxBelow w2 (.cells #[.int .i64 kd, .int .i64 lb, .slice A2 m2 e2] 25))
      have T2 := hide2 (Box.new w2 #[.int .i64 kd, .int .i64 lb, .slice A2 m2 e2] 25)
      have T3 := hide2 (T1.out.keep B2.out)
      have B3 := hide2 (B1.out.trans (B2.out.mono B1.out.size))
      go_upto_region 7 with fail
      clear r0' r1' r2'
      generalize hw3 : w2.alloc (.cells #[.int .i64 kd, .int .i64 lb, .slice A2 m2 e2] 25) = w3 at *
      clear hw3
      obtain ⟨x0, x1, x2⟩ := T3.out.three
      obtain ⟨y0, y1, y2⟩ := T2.out.three
      go_wp2_with fail
      refine (CI.out w3 B3.out).mono ?_
      rintro e w4 ⟨rfl, hb4⟩
      have D4 := hide2 (DB.out.trans ((B3.out.trans (hb4.mono B3.out.size)).mono DB.out.size))
      clear hb4 CI
      go_wp2
      go_roundg (gk - 1)
      case measure => exact HJ.out.1
      case rel => exact ⟨k + 1, by go_num, hide2 HJ.out.2, D4⟩
    · have hki : ¬ (k : Int) < (n : Int) := by omega
      clear hlt
      go_wp2
      go_ret
      exact ⟨rfl, DB.out⟩
set_option maxRecDepth 100000 in
theorem sameBlock_step {d : Nat} (IH : ∀ d', d = d' + 1 → SameIH d') : SameIH d := fun w kd lb A B n c m e ks h g => by
  have B0 := hide2 ((boxBelow w (.cells #[.int .i64 kd, .int .i64 lb, .slice A n c] 25)).alloc (by simp) (.cells #[.int .i64 kd, .int .i64 lb, .slice B m e] 25))
  have T1 := hide2 ((Box.new w #[.int .i64 kd, .int .i64 lb, .slice A n c] 25).old (.cells #[.int .i64 kd, .int .i64 lb, .slice B m e] 25))
  have T2 := hide2 (Box.newAt (w := w.alloc (.cells #[.int .i64 kd, .int .i64 lb, .slice A n c] 25)) (n := w.heap.size + 1) (by simp) #[.int .i64 kd, .int .i64 lb, .slice B m e] 25)
  have CE := hide2 (eqBlks_same IH (h.keep B0.out) (g.keep B0.out))
  clear h g IH
  go_enter Tryz.func6, Tryz.ntmps6
  go_upto_region 1 with fail
  generalize (w.alloc (.cells #[.int .i64 kd, .int .i64 lb, .slice A n c] 25)).alloc (.cells #[.int .i64 kd, .int .i64 lb, .slice B m e] 25) = w1 at *
  obtain ⟨x0, x1, x2⟩ := T1.out.three
  obtain ⟨y0, y1, y2⟩ := T2.out.three
  go_wp2_with fail
  refine CE.out.mono ?_
  rintro e w2 ⟨rfl, hb2⟩
  have D2 := hide2 (B0.out.trans (hb2.mono B0.out.size))
  clear hb2 CE
  go_wp2
  go_ret
  exact ⟨rfl, D2.out⟩
theorem sameBlock_all : ∀ d, SameIH d
  | 0 => sameBlock_step (fun d' h => by omega)
  | d + 1 => sameBlock_step (fun d2 h => by
      obtain rfl : d = d2 := (by omega)
      exact sameBlock_all d)
theorem sameBlock_same {w : World} {v v' : Value} {T : PBlk} (h : BlkV w v T) (g : BlkV w v' T) : Calls Tryz.prog 6 #[v, v'] w fun e w' => e = .returned (.bool true) ∧ Below w.heap.size w w' := by
  obtain ⟨A, n, c, rfl, s⟩ := h
  obtain ⟨B, m, e, rfl, s'⟩ := g
  exact sameBlock_all 62 w _ _ A B n c m e T.kids s s'
set_option maxRecDepth 100000 in
theorem wmeets_calls {w : World} {A B : Option Addr} {n c m d : Nat} {g l : List Int} (ig : Ints w A n c g) (il : Ints w B m d l) :
    Calls Tryz.prog 45 #[.slice A n c, .slice B m d] w fun e w' => e = .returned (.bool (meetB g l)) ∧ w = w' := by
  have hn := ig.small
  have G := hide2 ig
  have L := hide2 il
  clear ig il
  go_enter Tryz.func45, Tryz.ntmps45
  go_wp2
  go_loop [9] (fun v => ∃ k : Nat, k ≤ n ∧ v = .int .i64 k ∧ Hid (∀ j, j < k → ∀ y, g[j]? = some y → inS l y = false)) (fun v => n - (intOf v).toNat)
  case atStart => exact ⟨0, Nat.zero_le _, rfl, fun j hj => absurd hj (by omega)⟩
  case round =>
    obtain ⟨k, hk, rfl, lo⟩ := hrel
    by_cases hlt : k < n
    · have hki : (k : Int) < (n : Int) := by omega
      obtain ⟨b, off, y, rfl, hb, hy, qy⟩ := Ints.get G.out hlt
      have CC := hide2 (containsInt_calls y L.out)
      obtain ⟨v, hv⟩ : ∃ v, inS l y = v := ⟨_, rfl⟩
      have HV := hide2 hv
      rw [show (l.any fun z => y == z) = v from hv] at CC
      clear hv
      cases v
      · go_wp2_with (refine CC.out.mono ?_; rintro e w' ⟨rfl, rfl⟩)
        go_round
        case rel =>
          refine ⟨k + 1, by omega, by go_num, fun j hj z hz => ?_⟩
          by_cases hjk : j = k
          · subst hjk
            have := hy.out
            rw [hz] at this
            injection this with this
            rw [this]
            exact HV.out
          · exact lo.out j (by omega) z hz
        case measure => simp [intOf]; omega
      · go_wp2_with (refine CC.out.mono ?_; rintro e w' ⟨rfl, rfl⟩)
        go_ret
        exact ⟨ret_bool (by unfold meetB; rw [List.any_eq_true.2 ⟨y, List.mem_of_getElem? hy.out, HV.out⟩]), rfl⟩
    · go_wp2
      go_ret
      exact ⟨ret_bool (by
        unfold meetB
        rw [List.any_eq_false.2 (fun y hy => ?_)]
        obtain ⟨j, hj, rfl⟩ := List.getElem_of_mem hy
        rw [lo.out j (by have := G.out.len; omega) _ (List.getElem?_eq_getElem hj)]
        exact fun h => nomatch h), rfl⟩
end Go.Proofs.YtcopnfdknclhnaaGreat
namespace Go.Proofs.YtcopnfdknclhnaaGreat
open Go.RowKit

/-- Append of any list (nil too) to one that the call owns. -/
theorem run_appAny {α : Type} {R : World → (Nat → Value) → α → Prop} {t e size bytes : Nat} (T : SlTy t e size bytes) (G : Good R size) {w : World} {B : Nat} {v : Value} {n m c : Nat} {A : Option Addr} {xs ys : List α} (ty : TypeId) (own : OwnSl R size w B e v n xs) (src : Sl R size w A m c ys) (hB : B ≤ w.heap.size) (h63 : n + m ≤ 281474976710656) (hn : (n + m) * bytes ≤ 140737488355328)
    (hkeep : ∀ w', w.grownBy w' v.ownBlock → ∀ vs y, R w vs y → R w' vs y) :
    ∃ v' w', (Builtin.append_ #[t, t] ty #[v, .slice A m c]).run Tryz.prog w = .ok v' w' ∧ OwnSl R size w' B e v' (n + m) (xs ++ ys) ∧ w.grownBy w' v.ownBlock ∧ (v'.ownBlock = v.ownBlock ∨ v'.ownBlock = some w.heap.size) := by
  obtain ⟨i, z, h1, h2, h3, h4, h5⟩ := T.info
  obtain ⟨cells, o1, o2, o3⟩ := own
  cases hA : A with
  | none =>
    subst hA
    have hc := src.nul rfl
    have hm : m = 0 := by have := src.le; omega
    subst hc hm
    have hy := List.eq_nil_of_length_eq_zero src.len
    subst hy
    refine ⟨v, w, run_append_owned_none (P := Tryz.prog) (w := w) B t ty e i size T.und h1 v n _ o1, ⟨cells, by simpa using o1, by simpa using o2, by simpa using o3⟩, World.grownBy.refl _ _, .inl rfl⟩
  | some ad =>
    subst hA
    obtain ⟨ds, d1, d2, d3, d4, d5⟩ := Sl.flat G src
    obtain ⟨v', w', hr, r1, r2, _, r5⟩ := run_append_own_at (P := Tryz.prog) w B t ty e i z size bytes T.und h1 h2 h3 h4 h5 T.pos v n cells o1 ad m c ds d1 (d3 ad rfl) d4 (by simp only [maxLen]; omega) hn hB
    have ap := o2.append d5
    exact ⟨v', w', hr, ⟨_, r1, ⟨ap.1, fun i x hx => by obtain ⟨vs, a, b⟩ := ap.2 i x hx; exact ⟨vs, a, hkeep _ r2 _ _ b⟩⟩, by rw [List.length_append, o3, src.len]⟩, r2, r5⟩
theorem step_appAny {α : Type} {R : World → (Nat → Value) → α → Prop} {t e size bytes : Nat} (T : SlTy t e size bytes) (G : Good R size) {ops : Array Oper} {o : Oper} {a : Act} {K : Act → World → Prop} {Q : Exit → Act → World → Prop} {E : Prop} (hgd : o.guard = none) (s x : Operand)
    (ho : o.op = .call { callee := .builtin .append, args := #[s, x], argTypes := #[t, t] })
    {w0 w : World} {B B0 : Nat} {v : Value} {n m c : Nat} {A : Option Addr} {xs ys : List α} (hs : a.eval s = v) (hx : a.eval x = .slice A m c) (own : OwnSl R size w B e v n xs) (src : Sl R size w A m c ys) (hB : B ≤ w.heap.size) (h63 : n + m ≤ 281474976710656) (hn : (n + m) * bytes ≤ 140737488355328)
    (hkeep : ∀ w', w.grownBy w' v.ownBlock → ∀ vs y, R w vs y → R w' vs y) (hb : Below B0 w0 w) (hB0 : B0 ≤ B)
    (hK : ∀ v' w', OwnSl R size w' B e v' (n + m) (xs ++ ys) → w.grownBy w' v.ownBlock → Below B0 w0 w' → (v'.ownBlock = v.ownBlock ∨ v'.ownBlock = some w.heap.size) → K (a.put o.dst v') w') :
    if Region.wanted o (yielded ops a.tmps) = true then Oper.wp Tryz.prog o a w K Q else E := by
  rw [if_pos (by simp [Region.wanted, hgd])]
  obtain ⟨v', w', hr, r1, r2, r5⟩ := run_appAny T G o.type own src hB h63 hn hkeep
  have h := hK v' w' r1 r2 (hb.grown r2 (Nat.le_trans hB0 hB) (fun k hk => Nat.le_trans hB0 (own.lt k hk).1)) r5
  unfold Oper.wp execOp
  simp only [ho, resolve, invoke, builtin, Sem.run_bind, Sem.run_pure, Result.andThen_ok, List.map_toArray, List.map_cons, List.map_nil, hs, hx, hr]
  exact h
end Go.Proofs.YtcopnfdknclhnaaGreat
namespace Go.Proofs.YtcopnfdknclhnaaGreat
open Go.RowKit Go.Maps

theorem BlkQ.good (P : Nat → Prop) (d : Nat) : Good (BlkQ P d) 3 where
  kept := BlkQ.kept P d
  one := fun w vs x h j hj => by
    match d, h with
    | d + 1, h =>
      obtain ⟨h0, h1, A, n, c, h2, _⟩ := h
      match j, hj with
      | 0, _ => rw [h0]; rfl
      | 1, _ => rw [h1]; rfl
      | 2, _ => rw [h2]; rfl
  pos := by omega
theorem row_one {P : Nat → Prop} {w : World} {d : Nat} {k1 l1 : Int} {S1 : Option Addr} {m1 d1 : Nat} {T1 : PBlk} (h1 : BlkA P d w (.agg #[.int .i64 k1, .int .i64 l1, .slice S1 m1 d1]) T1) :
    Sl (BlkQ P (d + 1)) 3 (w.alloc (.cells #[.int .i64 k1, .int .i64 l1, .slice S1 m1 d1] 25)) (some ⟨w.heap.size, 0, none⟩) 1 1 [T1] := by
  have bb := boxBelow w (.cells #[.int .i64 k1, .int .i64 l1, .slice S1 m1 d1] 25)
  have hb := Box.new w #[.int .i64 k1, .int .i64 l1, .slice S1 m1 d1] 25
  obtain ⟨A, n, c, e, s, p⟩ := h1.keep bb
  simp only [Value.agg.injEq, Array.mk.injEq, List.cons.injEq, Value.int.injEq, Value.slice.injEq, true_and, and_true] at e
  obtain ⟨a1, a2, a3, a4, a5⟩ := e
  subst a3 a4 a5
  refine ⟨rfl, Nat.le_refl _, by simp [maxLen], by omega, fun h => (by cases h), fun _ => ⟨w.heap.size, 0, rfl, hb.lt, fun i x hx => ?_⟩⟩
  match i, hx with
  | 0, hx =>
    injection hx with hx
    subst hx
    refine ⟨vs3 (.int .i64 k1) (.int .i64 l1) (.slice S1 m1 d1), fun j hj => ?_, by rw [a1]; rfl, by rw [a2]; rfl, S1, m1, d1, rfl, s, p⟩
    rw [show 0 + (0 * 3 + j) = j by omega, hb.cell j]
    match j, hj with
    | 0, _ => rfl
    | 1, _ => rfl
    | 2, _ => rfl
  | i + 1, hx => simp at hx
theorem step_appBlk {ops : Array Oper} {o : Oper} {a : Act} {K : Act → World → Prop} {Q : Exit → Act → World → Prop} {E : Prop} (hgd : o.guard = none) (s x : Operand)
    (ho : o.op = .call { callee := .builtin .append, args := #[s, x], argTypes := #[23, 23] })
    {w0 w : World} {B B0 d n H : Nat} {v : Value} {ks : List PBlk} {T : PBlk} (hs : a.eval s = v) (hx : a.eval x = .slice (some ⟨H, 0, none⟩) 1 1)
    (own : OwnBlk w B d v n ks) (src : Sl (BlkQ (fun k => B ≤ k ∧ v.ownBlock ≠ some k) d) 3 w (some ⟨H, 0, none⟩) 1 1 [T]) (hB : B ≤ w.heap.size) (hn : n ≤ 100) (hb : Below B0 w0 w) (hB0 : B0 ≤ B)
    (hK : ∀ v' w', OwnBlk w' B d v' (n + 1) (ks ++ [T]) → w.grownBy w' v.ownBlock → Below B0 w0 w' → K (a.put o.dst v') w') :
    if Region.wanted o (yielded ops a.tmps) = true then Oper.wp Tryz.prog o a w K Q else E := by
  have hlt : ∀ k, k < w.heap.size → (B ≤ k ∧ v.ownBlock ≠ some k) → (k < w.heap.size ∧ B ≤ k ∧ v.ownBlock ≠ some k) := fun k hk hp => ⟨hk, hp⟩
  refine step_appAny tyBlks (BlkQ.good (fun k => k < w.heap.size ∧ B ≤ k ∧ v.ownBlock ≠ some k) d) hgd s x ho hs hx (own.imp (fun _ _ r => r.wide hlt d)) (src.imp (fun _ _ r => r.wide hlt d)) hB (by omega) (by omega) (fun w' hg vs y hy => hy.grown hg (fun k hk hp => hp.2.2 hk) d) hb hB0 (fun v' w' o1 o2 o3 o4 => hK v' w' (o1.imp (fun _ _ r => r.wide (fun k _ hp => ⟨hp.2.1, ?_⟩) d)) o2 o3)
  rcases o4 with e | e
  · rw [e]; exact hp.2.2
  · rw [e]; intro e2; injection e2 with e2; omega
/-- What the reference's WFind answers with fuel f. -/
def WFindIH (f : Nat) : Prop := ∀ (w : World) (A : Option Addr) (n c : Nat) (log : List (List Int)), Lists w A n c log → Fuel f log → Calls Tryz.prog 11 #[.slice A n c] w (AnsBlk (f + 2) (findB f log) w)
/-- Function F hands on sub g for each group g. -/
structure IsPart (F : FuncId) (cv : Array Value) (w : World) (gs : List (List Int)) (sub : List Int → List (List Int)) : Prop where
  enters : ∀ args w, (callFunc F args).run Tryz.prog w = .ok (.enter F args) w
  calls : ∀ (wr : World) (B : Option Addr) (m d : Nat) (g : List Int), g ∈ gs → Below w.heap.size w wr → Ints wr B m d g →
    Calls Tryz.prog F (#[.slice B m d] ++ cv) wr fun e w' => ∃ A n c, e = .returned (.slice A n c) ∧ Lists w' A n c (sub g) ∧ Below wr.heap.size wr w'
set_option maxRecDepth 100000 in
set_option maxHeartbeats 4000000 in
theorem wparts_calls {f : Nat} (IH : WFindIH f) {w : World} {B : Option Addr} {m d : Nat} {gs : List (List Int)} {F : FuncId} {cv : Array Value} {sub : List Int → List (List Int)} (hg : Lists w B m d gs) (kd : Int) (hF : IsPart F cv w gs sub) (hfu : ∀ g ∈ gs, Fuel f (sub g)) (hm : m ≤ 26) :
    Calls Tryz.prog 34 #[.int .i64 kd, .slice B m d, .func (.func F) #[] cv] w (AnsBlk (f + 3) (.mk kd 0 (gs.map fun g => findB f (sub g))) w) := by
  have G := hide2 hg
  have henter := hF.enters
  have HF := hide2 hF
  have FU := hide2 hfu
  have NN := hide2 hm
  have IHH := hide2 IH
  have B0 := hide2 ((boxBelow w (.cells #[.int .i64 0, .int .i64 0, .slice none 0 0] 25)).alloc (by simp) (.cells #[.int .i64 kd, .int .i64 0, .slice none 0 0] 25))
  have X0 := hide2 ((Box.new w #[.int .i64 0, .int .i64 0, .slice none 0 0] 25).old (.cells #[.int .i64 kd, .int .i64 0, .slice none 0 0] 25))
  have X1 := hide2 (Box.newAt (w := w.alloc (.cells #[.int .i64 0, .int .i64 0, .slice none 0 0] 25)) (n := w.heap.size + 1) (by simp) #[.int .i64 kd, .int .i64 0, .slice none 0 0] 25)
  clear hg hF hfu hm IH
  go_enter Tryz.func34, Tryz.ntmps34
  go_upto_region 2 with fail
  generalize (w.alloc (.cells #[.int .i64 0, .int .i64 0, .slice none 0 0] 25)).alloc (.cells #[.int .i64 kd, .int .i64 0, .slice none 0 0] 25) = w1 at *
  go_wp2
  go_loopg [14] m (fun gk u wr => ∃ (k : Nat) (v : Value), u = .int .i64 k ∧ Hid (k + gk = m) ∧ Hid (OwnBlk wr w1.heap.size (f + 3) v k ((gs.take k).map fun g => findB f (sub g))) ∧ Hid (Below w.heap.size w wr ∧ w1.heap.size ≤ wr.heap.size) ∧ Hid (Box wr w.heap.size 25 #[.int .i64 0, .int .i64 0, .slice none 0 0]) ∧ Hid (Box wr (w.heap.size + 1) 25 #[.int .i64 kd, .int .i64 0, v]))
  case atStart => exact ⟨0, _, rfl, hide2 (by omega), hide2 OwnSl.nil, hide2 ⟨B0.out, Nat.le_refl _⟩, X0, X1⟩
  case round =>
    have W1 := hide2 X1.out.lt
    clear X0 X1
    obtain ⟨k, v, rfl, hgk, OB, DB, X0, X1⟩ := hrel
    obtain ⟨AV, cV, rfl, _⟩ := OB.out.sl2 (by have := hgk.out; have := NN.out; omega)
    by_cases hlt : k < m
    · have hki : (k : Int) < (m : Int) := by omega
      obtain ⟨b, off, g, Bg, mg, dg, rfl, hb, hgx, q0, ig, hmg⟩ := Lists.get (Sl.keep ListR.kept G.out DB.out.1) hlt
      have HJ := hide2 (show gk - 1 < gk ∧ (k + 1) + (gk - 1) = m ∧ k ≤ 26 by have := hgk.out; have := NN.out; omega)
      have hwk : IntKind.i64.wrap ((k : Int) + 1) = ((k + 1 : Nat) : Int) := by
        have := HJ.out
        simp [IntKind.wrap, IntKind.bits, IntKind.signed]; omega
      have BD := hide2 ((Below.refl wr.heap.size wr).drew)
      have D0 := hide2 (DB.out.1.trans (BD.out.mono DB.out.1.size))
      have CF := hide2 (HF.out.calls wr.drew Bg mg dg g (List.mem_of_getElem? hgx.out) D0.out (ig.keep BD.out))
      have FG := hide2 (FU.out g (List.mem_of_getElem? hgx.out))
      have OBd := hide2 (OB.out.keep BD.out)
      have X0d := hide2 (X0.out.keep BD.out)
      have X1d := hide2 (X1.out.keep BD.out)
      have x2 := X1.out.cell 2
      clear ig hb
      go_upto_region 5 with fail
      refine wp_region_scr 9 (.takes [0, 1, 2, 3] (.one 4 (.one 5 (.one 6 (.one 7 (.take 8 (.fin 9 .done))))))) (fun w' => w'.cell? ⟨w.heap.size + 1, 2, none⟩ = some (.slice AV k cV)) (by kernel_rfl) (by kernel_rfl) (by kernel_rfl) (fun _ _ _ _ _ h => h) x2 (fun hHeld => ?_)
      simp only [Scr.takes]
      clear x2 q0
      generalize wr.drew = y1 at *
      iterate 4
        refine tkTake (v := ?_) rfl (by rfl) hHeld (fun w' hSw => ?_) ?_
        rotate_left
        · (go_simp; try with_reducible rfl)
        try simp only [Act.put, List.setIfInBounds_toArray, List.set_cons_zero, List.set_cons_succ]
      refine tkOne rfl (fun Kf hKf => ?_)
      go_simp
      refine CF.out.mono ?_
      rintro e y2 ⟨A2, k2, c2, rfl, il2, hb2⟩
      have X12 := hide2 (X1d.out.keep hb2)
      refine hKf.out _ _ (X12.out.cell 2) (fun hHeld => ?_)
      clear hKf
      try simp only [Act.put, List.setIfInBounds_toArray, List.set_cons_zero, List.set_cons_succ]
      have CW := hide2 (IHH.out y2 A2 k2 c2 (sub g) il2 FG.out)
      have B2 := hide2 hb2
      clear il2 hb2 CF
      refine tkOne rfl (fun Kf hKf => ?_)
      go_simp
      refine CW.out.mono ?_
      rintro e y3 ⟨v3, rfl, ⟨A3', n3', c3', rfl, s3, p3⟩, hb3⟩
      have BA3 := hide2 (show BlkA (fun q => y2.heap.size ≤ q) (f + 2) y3 (.agg #[.int .i64 (findB f (sub g)).kind, .int .i64 (findB f (sub g)).label, .slice A3' n3' c3']) (findB f (sub g)) from ⟨A3', n3', c3', rfl, s3, p3⟩)
      obtain ⟨kd3, hkd⟩ : ∃ x, x = (findB f (sub g)).kind := ⟨_, rfl⟩
      obtain ⟨lb3, hlb⟩ : ∃ x, x = (findB f (sub g)).label := ⟨_, rfl⟩
      rw [← hkd, ← hlb] at BA3
      rw [← hkd, ← hlb]
      have B3 := hide2 (B2.out.trans (hb3.mono B2.out.size))
      have X13 := hide2 (X1d.out.keep B3.out)
      have BB4 := hide2 (boxBelow y3 (.cells #[.int .i64 kd3, .int .i64 lb3, .slice A3' n3' c3'] 25))
      have B4 := hide2 (B3.out.trans (BB4.out.mono B3.out.size))
      have RO := hide2 (row_one BA3.out)
      clear s3 p3 hb3 hkd hlb CW
      refine hKf.out _ _ (X13.out.cell 2) (fun hHeld => ?_)
      clear hKf
      try simp only [Act.put, List.setIfInBounds_toArray, List.set_cons_zero, List.set_cons_succ]
      refine tkOne rfl (fun Kf hKf => ?_)
      go_simp
      have X14 := hide2 (X1d.out.keep B4.out)
      refine hKf.out _ _ (X14.out.cell 2) (fun hHeld => ?_)
      clear hKf
      try simp only [Act.put, List.setIfInBounds_toArray, List.set_cons_zero, List.set_cons_succ]
      refine tkOne rfl (fun Kf hKf => ?_)
      have hsz : w1.heap.size ≤ (y3.alloc (.cells #[.int .i64 kd3, .int .i64 lb3, .slice A3' n3' c3'] 25)).heap.size := Nat.le_trans DB.out.2 (Nat.le_trans BD.out.size B4.out.size)
      have OB4 := hide2 (OBd.out.keep B4.out)
      have hltO := OBd.out.lt
      have SRC := hide2 (RO.out.imp (fun _ _ r => r.wide (Q := fun q => w1.heap.size ≤ q ∧ (Value.slice AV k cV).ownBlock ≠ some q) (fun q _ hq => ⟨Nat.le_trans DB.out.2 (Nat.le_trans BD.out.size (Nat.le_trans B2.out.size hq)), fun e => by have := (hltO q e).2; have := B2.out.size; omega⟩) (f + 3)))
      refine step_appBlk rfl (.tmp 19) (.tmp 24) rfl rfl rfl OB4.out SRC.out hsz (by have := HJ.out; omega) (Below.refl w1.heap.size _) (Nat.le_refl _) ?_
      intro VV y5 o5 g5 b5
      obtain ⟨A5, c5, rfl, _⟩ := o5.sl2 (by have := HJ.out; omega)
      have W1o := W1.out
      have X15 := hide2 (X14.out.keepB b5 W1o)
      have X05 := hide2 ((X0d.out.keep B4.out).keepB b5 (by omega))
      have O5 := hide2 o5
      have D4 := hide2 (show Below w.heap.size w (y3.alloc (.cells #[.int .i64 kd3, .int .i64 lb3, .slice A3' n3' c3'] 25)) from D0.out.trans (B4.out.mono (Nat.le_trans DB.out.1.size BD.out.size)))
      have D5 := hide2 (show Below w.heap.size w y5 from D4.out.trans (b5.mono (by omega)))
      have S5 := hide2 (show w1.heap.size ≤ y5.heap.size from Nat.le_trans hsz b5.size)
      have z0 := X15.out.cell 0
      have z1 := X15.out.cell 1
      have z2 := X15.out.cell 2
      have fz := fun j => X15.out.frozen j
      clear o5 g5 b5 hsz hltO OB4 SRC RO
      refine hKf.out _ _ z2 (fun hHeld => ?_)
      clear hKf
      try simp only [Act.put, List.setIfInBounds_toArray, List.set_cons_zero, List.set_cons_succ]
      refine tkTake (v := ?_) rfl (by rfl) hHeld (fun w' hSw => ?_) ?_
      rotate_left
      · (go_simp; try with_reducible rfl)
      try simp only [Act.put, List.setIfInBounds_toArray, List.set_cons_zero, List.set_cons_succ]
      refine tkEnd rfl (fun Kf hKf => ?_)
      go_simp
      refine hKf.out _ _ ?_
      clear hKf
      try simp only [Act.put, List.setIfInBounds_toArray, List.set_cons_zero, List.set_cons_succ]
      refine tkDone ?_
      clear hHeld z0 z1 z2 fz
      have GG := grown_set1 y5 (w.heap.size + 1) 2 (.slice A5 (k + 1) c5)
      have O6 := hide2 (show OwnBlk (y5.setCell ⟨w.heap.size + 1, 2, none⟩ (.slice A5 (k + 1) c5)) w1.heap.size (f + 3) (.slice A5 (k + 1) c5) (k + 1) ((gs.take (k + 1)).map fun g => findB f (sub g)) from by
        rw [List.take_add_one, hgx.out]
        simp only [Option.toList_some, List.map_append, List.map_cons, List.map_nil]
        refine OwnSl.kept O5.out GG ?_ (fun vs x hx => hx.grown GG (fun q hq hp => by injection hq with hq; omega) (f + 3))
        cases hv : (Value.slice A5 (k + 1) c5).ownBlock with
        | none => exact .inl rfl
        | some q => exact .inr (fun e => by injection e with e; have := (O5.out.lt q hv).1; omega))
      have D6 := hide2 (show Below w.heap.size w (y5.setCell ⟨w.heap.size + 1, 2, none⟩ (.slice A5 (k + 1) c5)) ∧ w1.heap.size ≤ (y5.setCell ⟨w.heap.size + 1, 2, none⟩ (.slice A5 (k + 1) c5)).heap.size from ⟨D5.out.grown GG D5.out.size (fun q hq => by injection hq with hq; omega), Nat.le_trans S5.out GG.size⟩)
      have X16 := hide2 (show Box (y5.setCell ⟨w.heap.size + 1, 2, none⟩ (.slice A5 (k + 1) c5)) (w.heap.size + 1) 25 #[.int .i64 kd, .int .i64 0, .slice A5 (k + 1) c5] from by have := X15.out.set 2 (.slice A5 (k + 1) c5); simpa using this)
      have X06 := hide2 (X05.out.grown GG (fun e => by injection e with e; omega))
      clear GG W1o O5 D5 S5 X15 X05
      go_wp2
      go_roundg (gk - 1)
      case measure => exact HJ.out.1
      case rel => exact ⟨k + 1, (.slice A5 (k + 1) c5), rfl, hide2 HJ.out.2.1, O6, D6, X06, X16⟩
    · have hki : ¬ (k : Int) < (m : Int) := by omega
      have OF := hide2 (show OwnBlk wr w1.heap.size (f + 3) (.slice AV k cV) k (gs.map fun g => findB f (sub g)) from by
        have := OB.out
        rwa [List.take_of_length_le (by rw [G.out.len]; omega)] at this)
      have BA := hide2 (show BlkA (fun q => w1.heap.size ≤ q) (f + 3) wr (.agg #[.int .i64 kd, .int .i64 0, .slice AV k cV]) (.mk kd 0 (gs.map fun g => findB f (sub g))) from by
        obtain ⟨A5, c5, e5, s5, p5⟩ := OF.out.sl2 (by have := hgk.out; have := NN.out; omega)
        injection e5 with e51 _ e52
        subst e51 e52
        exact ⟨_, _, _, rfl, s5, p5⟩)
      have W1o := W1.out
      have WW := (X0.out.set3 (.int .i64 kd) (.int .i64 0) (.slice AV k cV))
      have GG := grown_set3 wr w.heap.size (.int .i64 kd) (.int .i64 0) (.slice AV k cV)
      have BW := hide2 ((BA.out.grown GG (fun q hq hp => by injection hq with hq; omega)).wide (Q := fun q => w.heap.size ≤ q) (fun q _ hq => by omega))
      have DW := hide2 (DB.out.1.grown GG DB.out.1.size (fun q hq => by injection hq with hq; omega))
      have HWW := hide2 WW
      obtain ⟨y0, y1, y2⟩ := X1.out.three
      obtain ⟨u0, u1, u2⟩ := X0.out.three
      have fz := fun j => X0.out.frozen j
      clear WW GG W1o hlt
      go_wp2
      generalize (((wr.setCell ⟨w.heap.size, 0, none⟩ (.int .i64 kd)).setCell ⟨w.heap.size, 1, none⟩ (.int .i64 0)).setCell ⟨w.heap.size, 2, none⟩ (.slice AV k cV)) = ww at *
      obtain ⟨z0, z1, z2⟩ := HWW.out.three
      exact bodyPost_ret (v := .agg #[.int .i64 kd, .int .i64 0, .slice AV k cV]) (by simp [results, Tryz.results34, go_sem, z0, z1, z2]) rfl ⟨_, rfl, BW.out, DW.out⟩
end Go.Proofs.YtcopnfdknclhnaaGreat
