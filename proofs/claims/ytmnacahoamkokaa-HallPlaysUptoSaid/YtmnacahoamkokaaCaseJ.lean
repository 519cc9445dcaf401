/- The contract of PDo where something is done. Conditions: the net and the case read as lists. -/
import Derived.Test.YtmnacahoamkokaaCaseI
import Derived.Test.YtmnacahoamkokaaMarkF
import Derived.Test.YtmnacahoamkokaaNetG
import Derived.Deep.RegionLawGrows
import Derived.Deep.DeepCutAuto
import Derived.Deep.CutBlock
namespace Go.Proofs.Ytmnacahoamkokaa
open Go.RowKit

set_option maxRecDepth 100000 in
theorem mixOwn_calls {w : World} {A B : Option Addr} {n c m d : Nat} {xs ys : List Int} (h : Ints w A n c xs) (g : Ints w B m d ys) (t : Int) (ht : t = 1 ∨ t = -1) (sx : SmallL xs) (sy : SmallL ys) (hM8 : max n m * 8 ≤ 140737488355328) :
    Calls Try.prog 147 #[.slice A n c, .slice B m d, .int .i64 t] w fun e w' => ∃ v, e = .returned v ∧ OwnInts w' w.heap.size v (max n m) (mixL xs ys t) ∧ Below w.heap.size w w' := by
  have hn := h.small
  have hm := g.small
  obtain ⟨M, hM⟩ : ∃ M : Nat, max n m = M := ⟨_, rfl⟩
  have hMb : M ≤ 281474976710656 := by omega
  have hM8' : M * 8 ≤ 140737488355328 := by omega
  have hmx : max (n : Int) (m : Int) = (M : Int) := by omega
  have hlen : max xs.length ys.length = M := by rw [h.len, g.len, hM]
  rw [hM]
  have HL := hide2 hlen
  clear hM hM8 hlen
  go_enter Try.func147, Try.ntmps147
  go_wp2
  clear hmx
  go_loopw [7, 14] (fun v i wr => ∃ k : Nat, k ≤ M ∧ i = .int .i64 k ∧ wr.ownsRow w.heap.size 3 1 v k (((mixL xs ys t).take k).map (Value.int .i64)) ∧ Below w.heap.size w wr) (fun _ i _ => M - (intOf i).toNat)
  case atStart => exact ⟨0, Nat.zero_le _, rfl, World.ownsRow_nil _ _ _ _, Below.refl _ _⟩
  case round =>
    obtain ⟨k, hk, rfl, own, hb⟩ := hrel
    by_cases hlt : k < M
    · have h1 := sx k
      have h2 := sy k
      have hstep := hide2 (mixL_take_succ (xs := xs) (ys := ys) (t := t) (k := k) (by rw [HL.out]; exact hlt))
      have h' := h.keep hb
      have g' := g.keep hb
      have hsz := hb.size
      obtain ⟨a, ha⟩ : ∃ a, atL xs k = a := ⟨_, rfl⟩
      obtain ⟨b, hbb⟩ : ∃ b, atL ys k = b := ⟨_, rfl⟩
      rw [ha] at h1
      rw [hbb] at h2
      have HA := hide2 ha
      have HB := hide2 hbb
      obtain ⟨h3, h4⟩ := h1
      obtain ⟨h5, h6⟩ := h2
      clear ha hbb h g sx sy
      have Ht := hide2 ht
      rcases ht with rfl | rfl
      all_goals
        go_wp2_with (first
          | ((with_reducible refine (refAt_calls h' k).mono ?_); rintro e w' ⟨rfl, rfl⟩; rw [HA.out])
          | ((with_reducible refine (refAt_calls g' k).mono ?_); rintro e w' ⟨rfl, rfl⟩; rw [HB.out])
          | (at_builtin; refine wpList_app tyInts rfl _ _ rfl _ rfl rfl (by simp) rfl (by simp [Value.oneCell']) own hb hsz (by omega) (by omega) ?_; intro v1 w1 own1 hg1 hb1))
        go_roundw
        case rel =>
          refine ⟨k + 1, by omega, by go_num, ?_, hb1⟩
          rw [hstep.out, HA.out, HB.out]
          simpa using own1
        case measure => simp [intOf]; omega
    · obtain rfl : k = M := by omega
      have hfull := hide2 (show (mixL xs ys t).take k = mixL xs ys t from List.take_of_length_le (by rw [mixL_length, HL.out]; exact Nat.le_refl _))
      have hbH := hide2 hb
      have ownH := hide2 own
      go_wp2
      go_ret
      have own2 := ownH.out
      rw [hfull.out] at own2
      exact ⟨_, rfl, OwnInts.of_row own2, hbH.out⟩

/-- Append of a slice (not empty) to a slice that has no room, in a region that draws its order: the new one is new. -/
theorem step_appEmpty {ops : Array Oper} {o : Oper} {a : Act} {K : Act → World → Prop} {Q : Exit → Act → World → Prop} {E : Prop} (hgd : o.guard = none) (s x : Operand)
    (ho : o.op = .call { callee := .builtin .append, args := #[s, x], argTypes := #[33, 33] })
    {w : World} {m c : Nat} {ad eo : Addr} {ys : List Int} (hs : a.eval s = .slice (some eo) 0 0) (hx : a.eval x = .slice (some ad) m c)
    (src : Ints w (some ad) m c ys) (hm : 0 < m) (h63 : m ≤ 17592186044416)
    (hK : ∀ v' w', OwnInts w' w.heap.size v' m ys → Below w.heap.size w w' → K (a.put o.dst v') w') :
    if Region.wanted o (yielded ops a.tmps) = true then Oper.wp Try.prog o a w K Q else E := by
  obtain ⟨i, z, h1, h2, h3, h4, h5⟩ := tyInts.info
  obtain ⟨ds, d1, d2, d3, d4, d5⟩ := Sl.flat IntR.good src
  refine step_append_grows hgd s x 33 ho 3 i z 1 8 tyInts.und h1 h2 h3 h4 h5 tyInts.pos (some eo) 0 0 [] hs (fun h => by cases h) rfl (fun b _ j u h => by simp at h) ad m c ds hx (by simpa using d1) (d3 ad rfl) d4 (by omega) (by simp only [maxLen]; omega) (by omega) (fun v' w' h6 h7 => ?_)
  rw [Nat.zero_add, List.nil_append] at h6
  exact hK v' w' ⟨ds, h6, d5, src.len⟩ ((Below.refl _ _).grown h7 (Nat.le_refl _) (fun k hk => by cases hk))

theorem SmallL.nil : SmallL [] := SmallL.of_right (by rfl)
theorem rightB_nil : rightB [] = true := rfl
/-- Integers in a block that is not the turned one. -/
theorem Ints.besideNe {w w' : World} {g : Nat} {C : Option Addr} {n c : Nat} {xs : List Int} (h : Ints w C n c xs) (hne : ∀ b off, C = some ⟨b, off, none⟩ → 0 < n → b ≠ g) (hw : Beside g w w') : Ints w' C n c xs :=
  ⟨h.len, h.le, h.cap, h.small, h.nul, fun hn => by
    obtain ⟨b', off, e, hlt, hc⟩ := h.cells hn
    refine ⟨b', off, e, by rw [hw.1]; exact hlt, fun i x hx => ?_⟩
    obtain ⟨vs, h1, h2⟩ := hc i x hx
    exact ⟨vs, fun j hj => by rw [hw.cell (by simpa using hne _ _ e hn)]; exact h1 j hj, h2⟩⟩
theorem OwnInts.lo {w : World} {B g cap n : Nat} {xs : List Int} (h : OwnInts w B (.slice (some ⟨g, 0, none⟩) n cap) n xs) : B ≤ g := (h.row.lt g rfl).1
theorem Box.neOwn {w : World} {b ty : Nat} {cs : Array Value} {B g cap n : Nat} {xs : List Int} (hb : Box w b ty cs) (h : OwnInts w B (.slice (some ⟨g, 0, none⟩) n cap) n xs) (hty : ty ≠ 3) : b ≠ g := by
  intro e
  subst e
  rcases h.row.2 with ⟨hv, _⟩ | ⟨g, cap, cur, hv, _, hh, _⟩
  · cases hv
  · injection hv with h1 _ _
    injection h1 with h1
    injection h1 with h1 _ _
    subst h1
    rw [hb] at hh
    injection hh with hh
    injection hh with _ ht
    exact hty ht

/-- What stands when the new case has been laid. -/
def Fin23 (w : World) (P : Int) (n c : Nat) (p : PCase) (kd : Int) (i bl off : Nat) (T : PTran) (L2 l : Nat) (s12 : Value) (wx : World) : Prop :=
  ∃ (wz : World) (bo : Nat) (C : Option Addr) (ck g cap : Nat), wz = wx ∧ s12 = .pointer (some ⟨bo, 0, none⟩) ∧ Hid (Box wz bo 75 #[.slice C L2 ck, .slice (some ⟨g, 0, none⟩) l cap]) ∧ Hid (Ints wz C L2 ck (mixL (mixL p.mark (takeT kd T) (-1)) (giveT kd T) 1)) ∧
    Hid (∀ b off, C = some ⟨b, off, none⟩ → 0 < L2 → b ≠ g) ∧ Hid (OwnInts wz w.heap.size (.slice (some ⟨g, 0, none⟩) l cap) l p.busy) ∧
    Hid (Box wz w.heap.size 27 #[.int .i64 P, .slice (some ⟨bl, off, none⟩) n c]) ∧ Hid (Box wz (w.heap.size + 1 + 1) 255 #[.int .i64 kd, .int .i64 i]) ∧ Hid (Box wz (w.heap.size + 1 + 1 + 1) 75 #[.slice none 0 0, .slice none 0 0]) ∧ Hid (Below w.heap.size w wz) ∧ w.heap.size ≤ bo ∧ Hid (Fresh w C)
theorem Beside.own {w w' : World} {b ty : Nat} {cs : Array Value} {B : Nat} {v : Value} {n : Nat} {xs : List Int} (h : OwnInts w B v n xs) (hb : Box w b ty cs) (hty : ty ≠ 3) (hw : Beside b w w') (hos : w'.os = w.os) (htape : w'.tape = w.tape) (hout : w'.output = w.output) : OwnInts w' B v n xs := by
  refine h.kept (row := some b) ⟨hos, htape, hout, Nat.le_of_eq hw.1.symm, fun k _ hk => hw.2 k (fun e => hk (by rw [e]))⟩ (.inr (fun e => ?_)) (fun _ _ h => h)
  rcases h.row.2 with ⟨rfl, _⟩ | ⟨g, cap, cur, rfl, _, hh, _⟩
  · simp [Value.ownBlock] at e
  · simp only [Value.ownBlock, Option.some.injEq] at e
    subst e
    rw [hb] at hh
    injection hh with hh
    injection hh with _ ht
    exact hty ht
theorem fin23 {w u : World} {P : Int} {n c : Nat} {p : PCase} {kd : Int} {i bl off : Nat} {T : PTran} {L2 l : Nat} {bo g cap ck : Nat} {C : Option Addr}
    (D : Below w.heap.size w u) (Q0 : Box u w.heap.size 27 #[.int .i64 P, .slice (some ⟨bl, off, none⟩) n c]) (Q2 : Box u (w.heap.size + 1 + 1) 255 #[.int .i64 kd, .int .i64 i]) (Q3 : Box u (w.heap.size + 1 + 1 + 1) 75 #[.slice none 0 0, .slice none 0 0])
    (hbo : w.heap.size + 1 + 1 + 1 < bo) (AL : Box u bo 75 #[.slice none 0 0, .slice none 0 0]) (M2 : Ints u C L2 ck (mixL (mixL p.mark (takeT kd T) (-1)) (giveT kd T) 1))
    (NE : ∀ b off, C = some ⟨b, off, none⟩ → 0 < L2 → b ≠ g) (AP : OwnInts u w.heap.size (.slice (some ⟨g, 0, none⟩) l cap) l p.busy) (CF : Fresh w C) :
    Fin23 w P n c p kd i bl off T L2 l (.pointer (some ⟨bo, 0, none⟩)) ((u.setCell ⟨bo, 0, none⟩ (.slice C L2 ck)).setCell ⟨bo, 1, none⟩ (.slice (some ⟨g, 0, none⟩) l cap)) := by
  have hB := Beside.set2 u bo 0 1 (.slice C L2 ck) (.slice (some ⟨g, 0, none⟩) l cap)
  exact ⟨_, bo, C, ck, g, cap, rfl, rfl, AL.set2 _ _, M2.beside AL noInt2 hB, NE, Beside.own AP AL (by decide) hB rfl rfl rfl, hB.box Q0 (by omega), hB.box Q2 (by omega), hB.box Q3 (by omega), (D.setCell (by show w.heap.size ≤ bo; omega) _).setCell (by show w.heap.size ≤ bo; omega) _, by omega, CF⟩

set_option maxRecDepth 100000 in
set_option maxHeartbeats 8000000 in
theorem refDo_good {w : World} {P : Int} {A B D : Option Addr} {n c m d l k : Nat} {ts : List PTran} {p : PCase} (kd : Int) (i : Nat) (T : PTran) (hT : ts[i]? = some T) (hok : caseOk ⟨P, ts⟩ p = true) (hk1 : 1 ≤ kd) (hk4 : kd ≤ 4) (hlk : kd = 1 ↔ T.label = 0) (h : Trans w A n c ts) (g : Ints w B m d p.mark) (b : Ints w D l k p.busy) (hl : l ≤ 17592186044416) :
    Calls Try.prog 165 #[.agg #[.int .i64 P, .slice A n c], .agg #[.slice B m d, .slice D l k], .agg #[.int .i64 kd, .int .i64 i]] w (AnsCE (doL ⟨P, ts⟩ p kd i) w) := by
  obtain ⟨B0', X0, X1, X2, X3⟩ := boxes4 w #[.int .i64 P, .slice A n c] #[.slice B m d, .slice D l k] #[.int .i64 kd, .int .i64 i] #[.slice none 0 0, .slice none 0 0] 27 75 255 75
  have B0 := hide2 B0'
  have HX0 := hide2 X0
  have HX1 := hide2 X1
  have HX2 := hide2 X2
  have HX3 := hide2 X3
  clear B0' X0 X1 X2 X3
  have hn := h.small
  have hm := g.small
  have H := hide2 h
  have G := hide2 g
  have BB := hide2 b
  have hin : i < n := by rw [← h.len]; exact (List.getElem?_eq_some_iff.1 hT).1
  have hini : (i : Int) < (n : Int) := by omega
  have hi0 : (0 : Int) ≤ (i : Int) := by omega
  have HT := hide2 hT
  have HO := hide2 hok
  have hcase := (caseOk_iff _ _).1 hok
  have hnt := netOk_tran hcase.1 hT
  have hm16 : m ≤ 16 := by have h1 := ((netOk_iff _).1 hcase.1).2.1; have h2 := hcase.2.1; rw [g.len] at h2; simp only [] at h1 h2; omega
  have hmP : (m : Int) = P := by have h2 := hcase.2.1; rw [g.len] at h2; exact h2
  have hln : l = n := by have h1 := hcase.2.2.2.1; rw [b.len] at h1; simp only [] at h1; rw [h.len] at h1; exact h1
  have hil : i < l := by omega
  have HMP := hide2 hmP
  have HLN := hide2 hln
  have hili : (i : Int) < (l : Int) := by omega
  have HRM := hide2 hcase.2.2.1
  have HRB := hide2 hcase.2.2.2.2
  have RPre := hide2 (any_badW_right hnt.2.2.2.2.1)
  have RPost := hide2 (any_badW_right hnt.2.2.2.2.2)
  have LPre := hide2 hnt.2.2.1
  have LPost := hide2 hnt.2.2.2.1
  have FIN := hide2 (show doL ⟨P, ts⟩ p kd (i : Int) = stepL p kd T i by rw [doL_in hok ⟨hk1, hk4⟩ hT, if_pos hlk])
  obtain ⟨z, hz⟩ : ∃ z, p.busy[i]? = some z := ⟨p.busy[i]'(by rw [b.len]; omega), List.getElem?_eq_getElem _⟩
  have hzr := (rightB_iff _).1 HRB.out z (List.mem_iff_getElem?.2 ⟨i, hz⟩)
  have zb0 := hzr.1
  have zb1 := hzr.2
  have HZ := hide2 hz
  have NET := hide2 hcase.1
  have BLn := hide2 hcase.2.2.2.1
  have hmore : -1 ≤ moreT kd ∧ moreT kd ≤ 1 := by unfold moreT; split <;> (try split) <;> omega
  obtain ⟨mo, hmo⟩ : ∃ mo, moreT kd = mo := ⟨_, rfl⟩
  rw [hmo] at hmore
  obtain ⟨mo0, mo1⟩ := hmore
  have MO := hide2 hmo
  have LK := hide2 hlk
  obtain ⟨qb, hqb⟩ : ∃ qb : Bool, (T.label == 0) = qb := ⟨_, rfl⟩
  have hqk : (kd == 1) = qb := by rw [← hqb, Bool.eq_iff_iff]; simpa using hlk
  have QB := hide2 hqb
  have QK := hide2 hqk
  clear hT hok hcase hnt h g b hzr hz hmo hlk hqb hqk hmP hln
  go_enter Try.func165, Try.ntmps165
  go_wp2_with fail
  refine (refCaseRight_calls (P := P) (p := p) (H.out.keep B0.out) (G.out.keep B0.out) (BB.out.keep B0.out)).mono ?_
  rw [HO.out]
  rintro e w1 ⟨rfl, hb⟩
  have B1 := hide2 (B0.out.trans (hb.mono B0.out.size))
  have Y0 := hide2 (HX0.out.keep hb)
  have Y1 := hide2 (HX1.out.keep hb)
  have Y2 := hide2 (HX2.out.keep hb)
  have Y3 := hide2 (HX3.out.keep hb)
  clear hb HX0 HX1 HX2 HX3
  obtain ⟨a0, a1⟩ := Y0.out.two
  obtain ⟨b0, b1⟩ := Y1.out.two
  obtain ⟨d0, d1⟩ := Y2.out.two
  obtain ⟨bl, off, T', A1, n1, c1, A2, n2, c2, rfl, hbl, hT', q0', q1', q2', i1, i2, m1, m2⟩ := Trans.get H.out hin
  obtain rfl : T' = T := by have := hT'.out; rw [HT.out] at this; injection this with this; exact this.symm
  have q0 := (B1.out.cell (p := ⟨bl, off + i * 3, none⟩) hbl).trans q0'
  have q1 := (B1.out.cell (p := ⟨bl, off + i * 3 + 1, none⟩) hbl).trans q1'
  have q2 := (B1.out.cell (p := ⟨bl, off + i * 3 + 2, none⟩) hbl).trans q2'
  have e1 : n1 ≤ 16 := by have h3 : (n1 : Int) = P := (by have := LPre.out; rw [i1.len] at this; exact this); have := HMP.out; omega
  have e2 : n2 ≤ 16 := by have h3 : (n2 : Int) = P := (by have := LPost.out; rw [i2.len] at this; exact this); have := HMP.out; omega
  have I1 := hide2 i1
  have I2 := hide2 i2
  clear i1 i2 q0' q1' q2'
  have V0 := hide2 (Y0.out.old (.cells #[.int .i64 T'.label, .slice A1 n1 c1, .slice A2 n2 c2] 103))
  have V1 := hide2 (Y1.out.old (.cells #[.int .i64 T'.label, .slice A1 n1 c1, .slice A2 n2 c2] 103))
  have V2 := hide2 (Y2.out.old (.cells #[.int .i64 T'.label, .slice A1 n1 c1, .slice A2 n2 c2] 103))
  have V3 := hide2 (Y3.out.old (.cells #[.int .i64 T'.label, .slice A1 n1 c1, .slice A2 n2 c2] 103))
  have V4 := hide2 (Box.new w1 #[.int .i64 T'.label, .slice A1 n1 c1, .slice A2 n2 c2] 103)
  have D3 := hide2 (B1.out.alloc B1.out.size (.cells #[.int .i64 T'.label, .slice A1 n1 c1, .slice A2 n2 c2] 103))
  obtain ⟨f0, f1⟩ := V2.out.two
  have hqb := QB.out
  have hqk := QK.out
  go_upto_block 0 with fail
  generalize w1.alloc (.cells #[.int .i64 T'.label, .slice A1 n1 c1, .slice A2 n2 c2] 103) = w3 at *
  generalize w1.heap.size = bx at *
  clear Y0 Y1 Y2 Y3 a0 a1 b0 b1 d0 d1 q0 q1 q2 f0 f1 B1
  obtain ⟨a0, a1⟩ := V0.out.two
  obtain ⟨b0, b1⟩ := V1.out.two
  obtain ⟨d0, d1⟩ := V2.out.two
  obtain ⟨t0, t1, t2⟩ := V4.out.three
  go_cut [9, 10, 11] (fun s9 s10 s11 wx => ∃ TA tn tc GA gn gc, s9 = .slice TA tn tc ∧ s10 = .slice GA gn gc ∧ s11 = .int .i64 mo ∧ Hid (Ints w TA tn tc (takeT kd T')) ∧ Hid (Ints w GA gn gc (giveT kd T')) ∧ tn ≤ 16 ∧ gn ≤ 16 ∧ ∃ qq, wx = w3.drewN qq)
  case first =>
    have hkd : kd = 1 ∨ kd = 2 ∨ kd = 3 ∨ kd = 4 := by omega
    rcases hkd with rfl | rfl | rfl | rfl
    · obtain rfl : qb = true := by rw [← hqk]; rfl
      obtain rfl : mo = 0 := by rw [← MO.out]; rfl
      have IT := hide2 (show Ints w A1 n1 c1 (takeT 1 T') by rw [show takeT 1 T' = T'.pre by simp [takeT]]; exact I1.out)
      have IG := hide2 (show Ints w A2 n2 c2 (giveT 1 T') by rw [show giveT 1 T' = T'.post by simp [giveT]]; exact I2.out)
      clear hqb hqk
      go_wp2
      go_quiet (fail)
      go_wp2
      go_meet
      exact ⟨A1, n1, c1, A2, n2, c2, rfl, rfl, rfl, IT, IG, e1, e2, _, rfl⟩
    · obtain rfl : qb = false := by rw [← hqk]; rfl
      obtain rfl : mo = 1 := by rw [← MO.out]; rfl
      have IT := hide2 (show Ints w A1 n1 c1 (takeT 2 T') by rw [show takeT 2 T' = T'.pre by simp [takeT]]; exact I1.out)
      have IG := hide2 (show Ints w none 0 0 (giveT 2 T') by rw [show giveT 2 T' = [] by simp [giveT]]; exact Sl.nil0)
      clear hqb hqk
      go_wp2
      go_meet
      exact ⟨A1, n1, c1, none, 0, 0, rfl, rfl, rfl, IT, IG, e1, by omega, 0, rfl⟩
    · obtain rfl : qb = false := by rw [← hqk]; rfl
      obtain rfl : mo = -1 := by rw [← MO.out]; rfl
      have IT := hide2 (show Ints w none 0 0 (takeT 3 T') by rw [show takeT 3 T' = [] by simp [takeT]]; exact Sl.nil0)
      have IG := hide2 (show Ints w A2 n2 c2 (giveT 3 T') by rw [show giveT 3 T' = T'.post by simp [giveT]]; exact I2.out)
      clear hqb hqk
      go_wp2
      go_meet
      exact ⟨none, 0, 0, A2, n2, c2, rfl, rfl, rfl, IT, IG, by omega, e2, 0, rfl⟩
    · obtain rfl : qb = false := by rw [← hqk]; rfl
      obtain rfl : mo = -1 := by rw [← MO.out]; rfl
      have IT := hide2 (show Ints w none 0 0 (takeT 4 T') by rw [show takeT 4 T' = [] by simp [takeT]]; exact Sl.nil0)
      have IG := hide2 (show Ints w A1 n1 c1 (giveT 4 T') by rw [show giveT 4 T' = T'.pre by simp [giveT]]; exact I1.out)
      clear hqb hqk
      go_wp2
      go_meet
      exact ⟨none, 0, 0, A1, n1, c1, rfl, rfl, rfl, IT, IG, by omega, e1, 0, rfl⟩
  case rest =>
    obtain ⟨TA, tn, tc, GA, gn, gc, rfl, rfl, rfl, IT, IG, htn, hgn, qq, rfl⟩ := hcut
    have U0 := hide2 (V0.out.drewN qq)
    have U1 := hide2 (V1.out.drewN qq)
    have U2 := hide2 (V2.out.drewN qq)
    have U3 := hide2 (V3.out.drewN qq)
    have D4 := hide2 (D3.out.trans ((Drew.drewN w3 qq).below.mono D3.out.size))
    generalize w3.drewN qq = w4 at *
    clear V0 V1 V2 V3 V4 a0 a1 b0 b1 d0 d1 t0 t1 t2 D3 hqb hqk
    obtain ⟨a0, a1⟩ := U0.out.two
    obtain ⟨b0, b1⟩ := U1.out.two
    obtain ⟨d0, d1⟩ := U2.out.two
    obtain ⟨cv, hcv⟩ : ∃ cv, coversB p.mark (takeT kd T') = cv := ⟨_, rfl⟩
    have CV := hide2 hcv
    clear hcv
    go_wp2_with fail
    refine (refCovers_calls (G.out.keep D4.out) (IT.out.keep D4.out)).mono ?_
    rw [CV.out]
    rintro e w5 ⟨rfl, hd⟩
    have W0 := hide2 (U0.out.keep hd.below)
    have W1 := hide2 (U1.out.keep hd.below)
    have W2 := hide2 (U2.out.keep hd.below)
    have W3 := hide2 (U3.out.keep hd.below)
    have D5 := hide2 (D4.out.trans (hd.below.mono D4.out.size))
    clear hd U0 U1 U2 U3 a0 a1 b0 b1 d0 d1
    obtain ⟨a0, a1⟩ := W0.out.two
    obtain ⟨b0, b1⟩ := W1.out.two
    obtain ⟨d0, d1⟩ := W2.out.two
    have BL5 := BB.out.keep D5.out
    obtain ⟨bb, bo', z', rfl, hbb, hz', hcz⟩ := BL5.get hil
    obtain rfl : z' = z := by have := hz'.out; rw [HZ.out] at this; injection this with this; exact this.symm
    clear BL5 hz'
    have ATZ := hide2 (atL_some HZ.out)
    cases cv
    · have FE := hide2 (show doL ⟨P, ts⟩ p kd (i : Int) = (PCase.nil, 3) by rw [FIN.out, stepL, if_neg (fun h => by rw [CV.out] at h; exact absurd h.1 (by simp))])
      obtain ⟨z0, z1⟩ := W3.out.two
      have zf := W3.out.frozen 0
      have zg := W3.out.frozen 1
      go_wp2
      obtain ⟨r0, r1⟩ := (W3.out.set2 (.slice none 0 0) (.slice none 0 0)).two
      exact bodyPost_ret (v := .tuple #[.agg #[.slice none 0 0, .slice none 0 0], .int .i64 (3)]) (by simp [results, Try.results165, go_sem, r0, r1]) rfl (by rw [FE.out]; exact AnsCE.no ((D5.out.setCell (by show w.heap.size ≤ w.heap.size + 1 + 1 + 1; omega) _).setCell (by show w.heap.size ≤ w.heap.size + 1 + 1 + 1; omega) _))
    · by_cases hneg : z' + mo < 0
      · have FE := hide2 (show doL ⟨P, ts⟩ p kd (i : Int) = (PCase.nil, 3) by rw [FIN.out, stepL, if_neg (fun h => by rw [ATZ.out, MO.out] at h; omega)])
        obtain ⟨z0, z1⟩ := W3.out.two
        have zf := W3.out.frozen 0
        have zg := W3.out.frozen 1
        go_wp2
        obtain ⟨r0, r1⟩ := (W3.out.set2 (.slice none 0 0) (.slice none 0 0)).two
        exact bodyPost_ret (v := .tuple #[.agg #[.slice none 0 0, .slice none 0 0], .int .i64 (3)]) (by simp [results, Try.results165, go_sem, r0, r1]) rfl (by rw [FE.out]; exact AnsCE.no ((D5.out.setCell (by show w.heap.size ≤ w.heap.size + 1 + 1 + 1; omega) _).setCell (by show w.heap.size ≤ w.heap.size + 1 + 1 + 1; omega) _))
      · have F1 := hide2 (show doL ⟨P, ts⟩ p kd (i : Int) = if rightB (mixL (mixL p.mark (takeT kd T') (-1)) (giveT kd T') 1) = true ∧ rightB (p.busy.set i (z' + mo)) = true then (⟨mixL (mixL p.mark (takeT kd T') (-1)) (giveT kd T') 1, p.busy.set i (z' + mo)⟩, 0) else (PCase.nil, 4) by
          rw [FIN.out, stepL, if_pos ⟨CV.out, by rw [ATZ.out, MO.out]; omega⟩, ATZ.out, MO.out])
        obtain ⟨L1, hL1⟩ : ∃ L1, max m tn = L1 := ⟨_, rfl⟩
        obtain ⟨L2, hL2⟩ : ∃ L2, max L1 gn = L2 := ⟨_, rfl⟩
        have L1b : L1 ≤ 16 := by omega
        have L2b : L2 ≤ 16 := by omega
        have HL1 := hide2 hL1
        have HL2 := hide2 hL2
        clear hL1 hL2
        have ST := hide2 (show SmallL (takeT kd T') by
          unfold takeT; split
          · exact SmallL.of_right RPre.out
          · exact SmallL.nil)
        have SG := hide2 (show SmallL (giveT kd T') by
          unfold giveT; split
          · exact SmallL.of_right RPost.out
          · split
            · exact SmallL.of_right RPre.out
            · exact SmallL.nil)
        have SM := hide2 (show SmallL (mixL p.mark (takeT kd T') (-1)) by
          unfold takeT; split
          · exact SmallL.mix HRM.out RPre.out
          · exact SmallL.mix HRM.out rightB_nil)
        go_upto_region 23 with fail
        go_cut [12] (fun s12 wx => Fin23 w P n c p kd i bl off T' L2 l s12 wx)
        case first =>
          refine wp_region_scr 12 (.takes [0, 1, 2, 4, 7, 8] ((.three 3 (.three 5 (.two 6 (.two 9 (.take 10 (.one 11 (.fin 12 .done))) 11 (.one 9 (.take 10 (.fin 12 .done)))) 11 (.one 6 (.one 9 (.take 10 (.fin 12 .done))))) 6 (.two 5 (.two 9 (.take 10 (.one 11 (.fin 12 .done))) 11 (.one 9 (.take 10 (.fin 12 .done)))) 11 (.one 5 (.one 9 (.take 10 (.fin 12 .done))))) 11 (.two 5 (.one 6 (.one 9 (.take 10 (.fin 12 .done)))) 6 (.one 5 (.one 9 (.take 10 (.fin 12 .done)))))) 6 (.two 3 (.two 5 (.two 9 (.take 10 (.one 11 (.fin 12 .done))) 11 (.one 9 (.take 10 (.fin 12 .done)))) 11 (.one 5 (.one 9 (.take 10 (.fin 12 .done))))) 11 (.one 3 (.one 5 (.one 9 (.take 10 (.fin 12 .done)))))) 11 (.two 3 (.two 5 (.one 6 (.one 9 (.take 10 (.fin 12 .done)))) 6 (.one 5 (.one 9 (.take 10 (.fin 12 .done))))) 6 (.one 3 (.one 5 (.one 9 (.take 10 (.fin 12 .done))))))))) (fun w' => w'.cell? ⟨w.heap.size + 1, 0, none⟩ = some (.slice B m d) ∧ w'.cell? ⟨w.heap.size + 1, 1, none⟩ = some (.slice (some ⟨bb, bo', none⟩) l k)) (by kernel_rfl) (by kernel_rfl) (by kernel_rfl) (fun _ _ _ _ _ h => h) ⟨b0, b1⟩ (fun hHeld => ?_)
          simp only [Scr.takes]
          have Q0 := hide2 W0.out.drew
          have Q1 := hide2 W1.out.drew
          have Q2 := hide2 W2.out.drew
          have Q3 := hide2 W3.out.drew
          have D := hide2 (D5.out.trans (((Below.refl _ _).drew : Below w5.heap.size w5 w5.drew).mono D5.out.size))
          generalize w5.drew = ux0 at *
          clear W0 W1 W2 W3 D5 hcz a0 a1 b0 b1 d0 d1
          iterate 6
            refine tkTake (v := ?_) rfl (by rfl) hHeld (fun w' hSw => ?_) ?_
            rotate_left
            · (go_simp; try with_reducible rfl)
            simp only [Act.put, List.setIfInBounds_toArray, List.set_cons_zero, List.set_cons_succ]
          refine tkThree rfl rfl rfl (fun K hK => ?_) (fun K hK => ?_) (fun K hK => ?_)
          · go_simp; go_at_call 147
            (with_reducible refine (mixOwn_calls (G.out.keep D.out) (IT.out.keep D.out) (-1) (.inr rfl) (SmallL.of_right HRM.out) ST.out (by omega)).mono ?_)
            rintro e ux1 ⟨v1, rfl, own1, hb⟩
            rw [HL1.out] at own1
            obtain ⟨C1, k1, rfl, i1⟩ := own1.sl (by omega)
            have M1 := hide2 (show Ints ux1 C1 L1 k1 (mixL p.mark (takeT kd T') (-1)) from i1)
            clear own1 i1
            replace Q0 := hide2 (Q0.out.keep hb)
            replace Q1 := hide2 (Q1.out.keep hb)
            replace Q2 := hide2 (Q2.out.keep hb)
            replace Q3 := hide2 (Q3.out.keep hb)
            replace D := hide2 (D.out.trans (hb.mono D.out.size))
            clear hb
            obtain ⟨b0, b1⟩ := Q1.out.two
            refine hK.out _ _ ⟨b0, b1⟩ (fun hHeld => ?_)
            clear hK
            try simp only [Act.put, List.setIfInBounds_toArray, List.set_cons_zero, List.set_cons_succ]
            refine tkThree rfl rfl rfl (fun K hK => ?_) (fun K hK => ?_) (fun K hK => ?_)
            · go_simp; go_at_call 147
              (with_reducible refine (mixOwn_calls M1.out (IG.out.keep D.out) 1 (.inl rfl) SM.out SG.out (by omega)).mono ?_)
              rintro e ux2 ⟨v2, rfl, own2, hb⟩
              rw [HL2.out] at own2
              obtain ⟨C2, k2, rfl, i2⟩ := own2.sl (by omega)
              have CF := hide2 ((OwnSl.fresh own2 rfl).mono D.out.size)
              have M2 := hide2 (show Ints ux2 C2 L2 k2 (mixL (mixL p.mark (takeT kd T') (-1)) (giveT kd T') 1) from i2)
              clear own2 i2
              replace Q0 := hide2 (Q0.out.keep hb)
              replace Q1 := hide2 (Q1.out.keep hb)
              replace Q2 := hide2 (Q2.out.keep hb)
              replace Q3 := hide2 (Q3.out.keep hb)
              replace M1 := hide2 ((Ints.keep M1.out hb))
              replace D := hide2 (D.out.trans (hb.mono D.out.size))
              clear hb
              obtain ⟨b0, b1⟩ := Q1.out.two
              refine hK.out _ _ ⟨b0, b1⟩ (fun hHeld => ?_)
              clear hK
              try simp only [Act.put, List.setIfInBounds_toArray, List.set_cons_zero, List.set_cons_succ]
              refine tkTwo rfl rfl (fun K hK => ?_) (fun K hK => ?_)
              · go_simp
                have hb := boxBelow ux2 (.cells #[] 3)
                generalize hE : ux2.alloc (.cells #[] 3) = ux3
                rw [hE] at hb
                clear hE
                replace Q0 := hide2 (Q0.out.keep hb)
                replace Q1 := hide2 (Q1.out.keep hb)
                replace Q2 := hide2 (Q2.out.keep hb)
                replace Q3 := hide2 (Q3.out.keep hb)
                replace M1 := hide2 ((Ints.keep M1.out hb))
                replace M2 := hide2 ((Ints.keep M2.out hb))
                replace D := hide2 (D.out.trans (hb.mono D.out.size))
                clear hb
                obtain ⟨b0, b1⟩ := Q1.out.two
                refine hK.out _ _ ⟨b0, b1⟩ (fun hHeld => ?_)
                clear hK
                try simp only [Act.put, List.setIfInBounds_toArray, List.set_cons_zero, List.set_cons_succ]
                refine tkTwo rfl rfl (fun K hK => ?_) (fun K hK => ?_)
                · refine step_appEmpty rfl _ _ rfl rfl rfl (BB.out.keep D.out) (by omega) hl ?_
                  rintro v9 ux4 own9 hb
                  obtain ⟨g, cap, rfl, hg, hgl⟩ := OwnInts.form own9 (by omega)
                  have NE := hide2 (show ∀ b off, C2 = some ⟨b, off, none⟩ → 0 < L2 → b ≠ g from fun b off hC h0 => by
                    obtain ⟨b', off', e, hlt, _⟩ := M2.out.cells h0
                    rw [hC] at e; injection e with e; injection e with e1; omega)
                  have AP := hide2 (OwnSl.base own9 ((D.out).size))
                  clear own9
                  replace Q0 := hide2 (Q0.out.keep hb)
                  replace Q1 := hide2 (Q1.out.keep hb)
                  replace Q2 := hide2 (Q2.out.keep hb)
                  replace Q3 := hide2 (Q3.out.keep hb)
                  replace M1 := hide2 ((Ints.keep M1.out hb))
                  replace M2 := hide2 ((Ints.keep M2.out hb))
                  replace D := hide2 (D.out.trans (hb.mono D.out.size))
                  clear hb
                  obtain ⟨b0, b1⟩ := Q1.out.two
                  refine hK.out _ _ ⟨b0, b1⟩ (fun hHeld => ?_)
                  clear hK
                  try simp only [Act.put, List.setIfInBounds_toArray, List.set_cons_zero, List.set_cons_succ]
                  refine tkTake (v := ?_) rfl (by rfl) hHeld (fun w' hSw => ?_) ?_
                  rotate_left
                  · (go_simp; try with_reducible rfl)
                  simp only [Act.put, List.setIfInBounds_toArray, List.set_cons_zero, List.set_cons_succ]
                  refine tkOne rfl (fun K hK => ?_)
                  go_simp
                  have hb := boxBelow ux4 (.cells #[.slice none 0 0, .slice none 0 0] 75)
                  have AL0 := Box.new ux4 #[.slice none 0 0, .slice none 0 0] 75
                  obtain ⟨bo, hbo⟩ : ∃ bo, ux4.heap.size = bo := ⟨_, rfl⟩
                  rw [hbo] at AL0
                  have HBO : w.heap.size + 1 + 1 + 1 < bo := by have := Q3.out.lt; omega
                  try rw [hbo]
                  generalize hE : ux4.alloc (.cells #[.slice none 0 0, .slice none 0 0] 75) = ux5
                  rw [hE] at hb AL0
                  have AL := hide2 AL0
                  clear hE AL0 hbo
                  replace Q0 := hide2 (Q0.out.keep hb)
                  replace Q1 := hide2 (Q1.out.keep hb)
                  replace Q2 := hide2 (Q2.out.keep hb)
                  replace Q3 := hide2 (Q3.out.keep hb)
                  replace M1 := hide2 ((Ints.keep M1.out hb))
                  replace M2 := hide2 ((Ints.keep M2.out hb))
                  replace AP := hide2 (AP.out.keep IntR.kept hb)
                  replace D := hide2 (D.out.trans (hb.mono D.out.size))
                  clear hb
                  obtain ⟨b0, b1⟩ := Q1.out.two
                  refine hK.out _ _ ⟨b0, b1⟩ (fun hHeld => ?_)
                  clear hK
                  try simp only [Act.put, List.setIfInBounds_toArray, List.set_cons_zero, List.set_cons_succ]
                  obtain ⟨z0, z1⟩ := AL.out.two
                  have zf := AL.out.frozen 0
                  have zg := AL.out.frozen 1
                  refine tkEnd rfl (fun K hK => ?_)
                  go_simp
                  refine hK.out _ _ ?_
                  clear hK
                  refine tkDone ?_
                  go_wp2_with fail
                  go_meet
                  exact fin23 D.out Q0.out Q2.out Q3.out HBO AL.out M2.out NE.out AP.out CF.out
                · go_simp
                  have hb := boxBelow ux3 (.cells #[.slice none 0 0, .slice none 0 0] 75)
                  have AL0 := Box.new ux3 #[.slice none 0 0, .slice none 0 0] 75
                  obtain ⟨bo, hbo⟩ : ∃ bo, ux3.heap.size = bo := ⟨_, rfl⟩
                  rw [hbo] at AL0
                  have HBO : w.heap.size + 1 + 1 + 1 < bo := by have := Q3.out.lt; omega
                  try rw [hbo]
                  generalize hE : ux3.alloc (.cells #[.slice none 0 0, .slice none 0 0] 75) = ux6
                  rw [hE] at hb AL0
                  have AL := hide2 AL0
                  clear hE AL0 hbo
                  replace Q0 := hide2 (Q0.out.keep hb)
                  replace Q1 := hide2 (Q1.out.keep hb)
                  replace Q2 := hide2 (Q2.out.keep hb)
                  replace Q3 := hide2 (Q3.out.keep hb)
                  replace M1 := hide2 ((Ints.keep M1.out hb))
                  replace M2 := hide2 ((Ints.keep M2.out hb))
                  replace D := hide2 (D.out.trans (hb.mono D.out.size))
                  clear hb
                  obtain ⟨b0, b1⟩ := Q1.out.two
                  refine hK.out _ _ ⟨b0, b1⟩ (fun hHeld => ?_)
                  clear hK
                  try simp only [Act.put, List.setIfInBounds_toArray, List.set_cons_zero, List.set_cons_succ]
                  refine tkOne rfl (fun K hK => ?_)
                  refine step_appEmpty rfl _ _ rfl rfl rfl (BB.out.keep D.out) (by omega) hl ?_
                  rintro v9 ux7 own9 hb
                  obtain ⟨g, cap, rfl, hg, hgl⟩ := OwnInts.form own9 (by omega)
                  have NE := hide2 (show ∀ b off, C2 = some ⟨b, off, none⟩ → 0 < L2 → b ≠ g from fun b off hC h0 => by
                    obtain ⟨b', off', e, hlt, _⟩ := M2.out.cells h0
                    rw [hC] at e; injection e with e; injection e with e1; omega)
                  have AP := hide2 (OwnSl.base own9 ((D.out).size))
                  clear own9
                  replace Q0 := hide2 (Q0.out.keep hb)
                  replace Q1 := hide2 (Q1.out.keep hb)
                  replace Q2 := hide2 (Q2.out.keep hb)
                  replace Q3 := hide2 (Q3.out.keep hb)
                  replace M1 := hide2 ((Ints.keep M1.out hb))
                  replace M2 := hide2 ((Ints.keep M2.out hb))
                  replace AL := hide2 (AL.out.keep hb)
                  replace D := hide2 (D.out.trans (hb.mono D.out.size))
                  clear hb
                  obtain ⟨b0, b1⟩ := Q1.out.two
                  refine hK.out _ _ ⟨b0, b1⟩ (fun hHeld => ?_)
                  clear hK
                  try simp only [Act.put, List.setIfInBounds_toArray, List.set_cons_zero, List.set_cons_succ]
                  refine tkTake (v := ?_) rfl (by rfl) hHeld (fun w' hSw => ?_) ?_
                  rotate_left
                  · (go_simp; try with_reducible rfl)
                  simp only [Act.put, List.setIfInBounds_toArray, List.set_cons_zero, List.set_cons_succ]
                  obtain ⟨z0, z1⟩ := AL.out.two
                  have zf := AL.out.frozen 0
                  have zg := AL.out.frozen 1
                  refine tkEnd rfl (fun K hK => ?_)
                  go_simp
                  refine hK.out _ _ ?_
                  clear hK
                  refine tkDone ?_
                  go_wp2_with fail
                  go_meet
                  exact fin23 D.out Q0.out Q2.out Q3.out HBO AL.out M2.out NE.out AP.out CF.out
              · go_simp
                have hb := boxBelow ux2 (.cells #[.slice none 0 0, .slice none 0 0] 75)
                have AL0 := Box.new ux2 #[.slice none 0 0, .slice none 0 0] 75
                obtain ⟨bo, hbo⟩ : ∃ bo, ux2.heap.size = bo := ⟨_, rfl⟩
                rw [hbo] at AL0
                have HBO : w.heap.size + 1 + 1 + 1 < bo := by have := Q3.out.lt; omega
                try rw [hbo]
                generalize hE : ux2.alloc (.cells #[.slice none 0 0, .slice none 0 0] 75) = ux8
                rw [hE] at hb AL0
                have AL := hide2 AL0
                clear hE AL0 hbo
                replace Q0 := hide2 (Q0.out.keep hb)
                replace Q1 := hide2 (Q1.out.keep hb)
                replace Q2 := hide2 (Q2.out.keep hb)
                replace Q3 := hide2 (Q3.out.keep hb)
                replace M1 := hide2 ((Ints.keep M1.out hb))
                replace M2 := hide2 ((Ints.keep M2.out hb))
                replace D := hide2 (D.out.trans (hb.mono D.out.size))
                clear hb
                obtain ⟨b0, b1⟩ := Q1.out.two
                refine hK.out _ _ ⟨b0, b1⟩ (fun hHeld => ?_)
                clear hK
                try simp only [Act.put, List.setIfInBounds_toArray, List.set_cons_zero, List.set_cons_succ]
                refine tkOne rfl (fun K hK => ?_)
                go_simp
                have hb := boxBelow ux8 (.cells #[] 3)
                generalize hE : ux8.alloc (.cells #[] 3) = ux9
                rw [hE] at hb
                clear hE
                replace Q0 := hide2 (Q0.out.keep hb)
                replace Q1 := hide2 (Q1.out.keep hb)
                replace Q2 := hide2 (Q2.out.keep hb)
                replace Q3 := hide2 (Q3.out.keep hb)
                replace M1 := hide2 ((Ints.keep M1.out hb))
                replace M2 := hide2 ((Ints.keep M2.out hb))
                replace AL := hide2 (AL.out.keep hb)
                replace D := hide2 (D.out.trans (hb.mono D.out.size))
                clear hb
                obtain ⟨b0, b1⟩ := Q1.out.two
                refine hK.out _ _ ⟨b0, b1⟩ (fun hHeld => ?_)
                clear hK
                try simp only [Act.put, List.setIfInBounds_toArray, List.set_cons_zero, List.set_cons_succ]
                refine tkOne rfl (fun K hK => ?_)
                refine step_appEmpty rfl _ _ rfl rfl rfl (BB.out.keep D.out) (by omega) hl ?_
                rintro v9 ux10 own9 hb
                obtain ⟨g, cap, rfl, hg, hgl⟩ := OwnInts.form own9 (by omega)
                have NE := hide2 (show ∀ b off, C2 = some ⟨b, off, none⟩ → 0 < L2 → b ≠ g from fun b off hC h0 => by
                  obtain ⟨b', off', e, hlt, _⟩ := M2.out.cells h0
                  rw [hC] at e; injection e with e; injection e with e1; omega)
                have AP := hide2 (OwnSl.base own9 ((D.out).size))
                clear own9
                replace Q0 := hide2 (Q0.out.keep hb)
                replace Q1 := hide2 (Q1.out.keep hb)
                replace Q2 := hide2 (Q2.out.keep hb)
                replace Q3 := hide2 (Q3.out.keep hb)
                replace M1 := hide2 ((Ints.keep M1.out hb))
                replace M2 := hide2 ((Ints.keep M2.out hb))
                replace AL := hide2 (AL.out.keep hb)
                replace D := hide2 (D.out.trans (hb.mono D.out.size))
                clear hb
                obtain ⟨b0, b1⟩ := Q1.out.two
                refine hK.out _ _ ⟨b0, b1⟩ (fun hHeld => ?_)
                clear hK
                try simp only [Act.put, List.setIfInBounds_toArray, List.set_cons_zero, List.set_cons_succ]
                refine tkTake (v := ?_) rfl (by rfl) hHeld (fun w' hSw => ?_) ?_
                rotate_left
                · (go_simp; try with_reducible rfl)
                simp only [Act.put, List.setIfInBounds_toArray, List.set_cons_zero, List.set_cons_succ]
                obtain ⟨z0, z1⟩ := AL.out.two
                have zf := AL.out.frozen 0
                have zg := AL.out.frozen 1
                refine tkEnd rfl (fun K hK => ?_)
                go_simp
                refine hK.out _ _ ?_
                clear hK
                refine tkDone ?_
                go_wp2_with fail
                go_meet
                exact fin23 D.out Q0.out Q2.out Q3.out HBO AL.out M2.out NE.out AP.out CF.out
            · go_simp
              have hb := boxBelow ux1 (.cells #[] 3)
              generalize hE : ux1.alloc (.cells #[] 3) = ux11
              rw [hE] at hb
              clear hE
              replace Q0 := hide2 (Q0.out.keep hb)
              replace Q1 := hide2 (Q1.out.keep hb)
              replace Q2 := hide2 (Q2.out.keep hb)
              replace Q3 := hide2 (Q3.out.keep hb)
              replace M1 := hide2 ((Ints.keep M1.out hb))
              replace D := hide2 (D.out.trans (hb.mono D.out.size))
              clear hb
              obtain ⟨b0, b1⟩ := Q1.out.two
              refine hK.out _ _ ⟨b0, b1⟩ (fun hHeld => ?_)
              clear hK
              try simp only [Act.put, List.setIfInBounds_toArray, List.set_cons_zero, List.set_cons_succ]
              refine tkTwo rfl rfl (fun K hK => ?_) (fun K hK => ?_)
              · go_simp; go_at_call 147
                (with_reducible refine (mixOwn_calls M1.out (IG.out.keep D.out) 1 (.inl rfl) SM.out SG.out (by omega)).mono ?_)
                rintro e ux12 ⟨v2, rfl, own2, hb⟩
                rw [HL2.out] at own2
                obtain ⟨C2, k2, rfl, i2⟩ := own2.sl (by omega)
                have CF := hide2 ((OwnSl.fresh own2 rfl).mono D.out.size)
                have M2 := hide2 (show Ints ux12 C2 L2 k2 (mixL (mixL p.mark (takeT kd T') (-1)) (giveT kd T') 1) from i2)
                clear own2 i2
                replace Q0 := hide2 (Q0.out.keep hb)
                replace Q1 := hide2 (Q1.out.keep hb)
                replace Q2 := hide2 (Q2.out.keep hb)
                replace Q3 := hide2 (Q3.out.keep hb)
                replace M1 := hide2 ((Ints.keep M1.out hb))
                replace D := hide2 (D.out.trans (hb.mono D.out.size))
                clear hb
                obtain ⟨b0, b1⟩ := Q1.out.two
                refine hK.out _ _ ⟨b0, b1⟩ (fun hHeld => ?_)
                clear hK
                try simp only [Act.put, List.setIfInBounds_toArray, List.set_cons_zero, List.set_cons_succ]
                refine tkTwo rfl rfl (fun K hK => ?_) (fun K hK => ?_)
                · refine step_appEmpty rfl _ _ rfl rfl rfl (BB.out.keep D.out) (by omega) hl ?_
                  rintro v9 ux13 own9 hb
                  obtain ⟨g, cap, rfl, hg, hgl⟩ := OwnInts.form own9 (by omega)
                  have NE := hide2 (show ∀ b off, C2 = some ⟨b, off, none⟩ → 0 < L2 → b ≠ g from fun b off hC h0 => by
                    obtain ⟨b', off', e, hlt, _⟩ := M2.out.cells h0
                    rw [hC] at e; injection e with e; injection e with e1; omega)
                  have AP := hide2 (OwnSl.base own9 ((D.out).size))
                  clear own9
                  replace Q0 := hide2 (Q0.out.keep hb)
                  replace Q1 := hide2 (Q1.out.keep hb)
                  replace Q2 := hide2 (Q2.out.keep hb)
                  replace Q3 := hide2 (Q3.out.keep hb)
                  replace M1 := hide2 ((Ints.keep M1.out hb))
                  replace M2 := hide2 ((Ints.keep M2.out hb))
                  replace D := hide2 (D.out.trans (hb.mono D.out.size))
                  clear hb
                  obtain ⟨b0, b1⟩ := Q1.out.two
                  refine hK.out _ _ ⟨b0, b1⟩ (fun hHeld => ?_)
                  clear hK
                  try simp only [Act.put, List.setIfInBounds_toArray, List.set_cons_zero, List.set_cons_succ]
                  refine tkTake (v := ?_) rfl (by rfl) hHeld (fun w' hSw => ?_) ?_
                  rotate_left
                  · (go_simp; try with_reducible rfl)
                  simp only [Act.put, List.setIfInBounds_toArray, List.set_cons_zero, List.set_cons_succ]
                  refine tkOne rfl (fun K hK => ?_)
                  go_simp
                  have hb := boxBelow ux13 (.cells #[.slice none 0 0, .slice none 0 0] 75)
                  have AL0 := Box.new ux13 #[.slice none 0 0, .slice none 0 0] 75
                  obtain ⟨bo, hbo⟩ : ∃ bo, ux13.heap.size = bo := ⟨_, rfl⟩
                  rw [hbo] at AL0
                  have HBO : w.heap.size + 1 + 1 + 1 < bo := by have := Q3.out.lt; omega
                  try rw [hbo]
                  generalize hE : ux13.alloc (.cells #[.slice none 0 0, .slice none 0 0] 75) = ux14
                  rw [hE] at hb AL0
                  have AL := hide2 AL0
                  clear hE AL0 hbo
                  replace Q0 := hide2 (Q0.out.keep hb)
                  replace Q1 := hide2 (Q1.out.keep hb)
                  replace Q2 := hide2 (Q2.out.keep hb)
                  replace Q3 := hide2 (Q3.out.keep hb)
                  replace M1 := hide2 ((Ints.keep M1.out hb))
                  replace M2 := hide2 ((Ints.keep M2.out hb))
                  replace AP := hide2 (AP.out.keep IntR.kept hb)
                  replace D := hide2 (D.out.trans (hb.mono D.out.size))
                  clear hb
                  obtain ⟨b0, b1⟩ := Q1.out.two
                  refine hK.out _ _ ⟨b0, b1⟩ (fun hHeld => ?_)
                  clear hK
                  try simp only [Act.put, List.setIfInBounds_toArray, List.set_cons_zero, List.set_cons_succ]
                  obtain ⟨z0, z1⟩ := AL.out.two
                  have zf := AL.out.frozen 0
                  have zg := AL.out.frozen 1
                  refine tkEnd rfl (fun K hK => ?_)
                  go_simp
                  refine hK.out _ _ ?_
                  clear hK
                  refine tkDone ?_
                  go_wp2_with fail
                  go_meet
                  exact fin23 D.out Q0.out Q2.out Q3.out HBO AL.out M2.out NE.out AP.out CF.out
                · go_simp
                  have hb := boxBelow ux12 (.cells #[.slice none 0 0, .slice none 0 0] 75)
                  have AL0 := Box.new ux12 #[.slice none 0 0, .slice none 0 0] 75
                  obtain ⟨bo, hbo⟩ : ∃ bo, ux12.heap.size = bo := ⟨_, rfl⟩
                  rw [hbo] at AL0
                  have HBO : w.heap.size + 1 + 1 + 1 < bo := by have := Q3.out.lt; omega
                  try rw [hbo]
                  generalize hE : ux12.alloc (.cells #[.slice none 0 0, .slice none 0 0] 75) = ux15
                  rw [hE] at hb AL0
                  have AL := hide2 AL0
                  clear hE AL0 hbo
                  replace Q0 := hide2 (Q0.out.keep hb)
                  replace Q1 := hide2 (Q1.out.keep hb)
                  replace Q2 := hide2 (Q2.out.keep hb)
                  replace Q3 := hide2 (Q3.out.keep hb)
                  replace M1 := hide2 ((Ints.keep M1.out hb))
                  replace M2 := hide2 ((Ints.keep M2.out hb))
                  replace D := hide2 (D.out.trans (hb.mono D.out.size))
                  clear hb
                  obtain ⟨b0, b1⟩ := Q1.out.two
                  refine hK.out _ _ ⟨b0, b1⟩ (fun hHeld => ?_)
                  clear hK
                  try simp only [Act.put, List.setIfInBounds_toArray, List.set_cons_zero, List.set_cons_succ]
                  refine tkOne rfl (fun K hK => ?_)
                  refine step_appEmpty rfl _ _ rfl rfl rfl (BB.out.keep D.out) (by omega) hl ?_
                  rintro v9 ux16 own9 hb
                  obtain ⟨g, cap, rfl, hg, hgl⟩ := OwnInts.form own9 (by omega)
                  have NE := hide2 (show ∀ b off, C2 = some ⟨b, off, none⟩ → 0 < L2 → b ≠ g from fun b off hC h0 => by
                    obtain ⟨b', off', e, hlt, _⟩ := M2.out.cells h0
                    rw [hC] at e; injection e with e; injection e with e1; omega)
                  have AP := hide2 (OwnSl.base own9 ((D.out).size))
                  clear own9
                  replace Q0 := hide2 (Q0.out.keep hb)
                  replace Q1 := hide2 (Q1.out.keep hb)
                  replace Q2 := hide2 (Q2.out.keep hb)
                  replace Q3 := hide2 (Q3.out.keep hb)
                  replace M1 := hide2 ((Ints.keep M1.out hb))
                  replace M2 := hide2 ((Ints.keep M2.out hb))
                  replace AL := hide2 (AL.out.keep hb)
                  replace D := hide2 (D.out.trans (hb.mono D.out.size))
                  clear hb
                  obtain ⟨b0, b1⟩ := Q1.out.two
                  refine hK.out _ _ ⟨b0, b1⟩ (fun hHeld => ?_)
                  clear hK
                  try simp only [Act.put, List.setIfInBounds_toArray, List.set_cons_zero, List.set_cons_succ]
                  refine tkTake (v := ?_) rfl (by rfl) hHeld (fun w' hSw => ?_) ?_
                  rotate_left
                  · (go_simp; try with_reducible rfl)
                  simp only [Act.put, List.setIfInBounds_toArray, List.set_cons_zero, List.set_cons_succ]
                  obtain ⟨z0, z1⟩ := AL.out.two
                  have zf := AL.out.frozen 0
                  have zg := AL.out.frozen 1
                  refine tkEnd rfl (fun K hK => ?_)
                  go_simp
                  refine hK.out _ _ ?_
                  clear hK
                  refine tkDone ?_
                  go_wp2_with fail
                  go_meet
                  exact fin23 D.out Q0.out Q2.out Q3.out HBO AL.out M2.out NE.out AP.out CF.out
              · go_simp
                have hb := boxBelow ux11 (.cells #[.slice none 0 0, .slice none 0 0] 75)
                have AL0 := Box.new ux11 #[.slice none 0 0, .slice none 0 0] 75
                obtain ⟨bo, hbo⟩ : ∃ bo, ux11.heap.size = bo := ⟨_, rfl⟩
                rw [hbo] at AL0
                have HBO : w.heap.size + 1 + 1 + 1 < bo := by have := Q3.out.lt; omega
                try rw [hbo]
                generalize hE : ux11.alloc (.cells #[.slice none 0 0, .slice none 0 0] 75) = ux17
                rw [hE] at hb AL0
                have AL := hide2 AL0
                clear hE AL0 hbo
                replace Q0 := hide2 (Q0.out.keep hb)
                replace Q1 := hide2 (Q1.out.keep hb)
                replace Q2 := hide2 (Q2.out.keep hb)
                replace Q3 := hide2 (Q3.out.keep hb)
                replace M1 := hide2 ((Ints.keep M1.out hb))
                replace D := hide2 (D.out.trans (hb.mono D.out.size))
                clear hb
                obtain ⟨b0, b1⟩ := Q1.out.two
                refine hK.out _ _ ⟨b0, b1⟩ (fun hHeld => ?_)
                clear hK
                try simp only [Act.put, List.setIfInBounds_toArray, List.set_cons_zero, List.set_cons_succ]
                refine tkOne rfl (fun K hK => ?_)
                go_simp; go_at_call 147
                (with_reducible refine (mixOwn_calls M1.out (IG.out.keep D.out) 1 (.inl rfl) SM.out SG.out (by omega)).mono ?_)
                rintro e ux18 ⟨v2, rfl, own2, hb⟩
                rw [HL2.out] at own2
                obtain ⟨C2, k2, rfl, i2⟩ := own2.sl (by omega)
                have CF := hide2 ((OwnSl.fresh own2 rfl).mono D.out.size)
                have M2 := hide2 (show Ints ux18 C2 L2 k2 (mixL (mixL p.mark (takeT kd T') (-1)) (giveT kd T') 1) from i2)
                clear own2 i2
                replace Q0 := hide2 (Q0.out.keep hb)
                replace Q1 := hide2 (Q1.out.keep hb)
                replace Q2 := hide2 (Q2.out.keep hb)
                replace Q3 := hide2 (Q3.out.keep hb)
                replace M1 := hide2 ((Ints.keep M1.out hb))
                replace AL := hide2 (AL.out.keep hb)
                replace D := hide2 (D.out.trans (hb.mono D.out.size))
                clear hb
                obtain ⟨b0, b1⟩ := Q1.out.two
                refine hK.out _ _ ⟨b0, b1⟩ (fun hHeld => ?_)
                clear hK
                try simp only [Act.put, List.setIfInBounds_toArray, List.set_cons_zero, List.set_cons_succ]
                refine tkOne rfl (fun K hK => ?_)
                refine step_appEmpty rfl _ _ rfl rfl rfl (BB.out.keep D.out) (by omega) hl ?_
                rintro v9 ux19 own9 hb
                obtain ⟨g, cap, rfl, hg, hgl⟩ := OwnInts.form own9 (by omega)
                have NE := hide2 (show ∀ b off, C2 = some ⟨b, off, none⟩ → 0 < L2 → b ≠ g from fun b off hC h0 => by
                  obtain ⟨b', off', e, hlt, _⟩ := M2.out.cells h0
                  rw [hC] at e; injection e with e; injection e with e1; omega)
                have AP := hide2 (OwnSl.base own9 ((D.out).size))
                clear own9
                replace Q0 := hide2 (Q0.out.keep hb)
                replace Q1 := hide2 (Q1.out.keep hb)
                replace Q2 := hide2 (Q2.out.keep hb)
                replace Q3 := hide2 (Q3.out.keep hb)
                replace M1 := hide2 ((Ints.keep M1.out hb))
                replace AL := hide2 (AL.out.keep hb)
                replace M2 := hide2 ((Ints.keep M2.out hb))
                replace D := hide2 (D.out.trans (hb.mono D.out.size))
                clear hb
                obtain ⟨b0, b1⟩ := Q1.out.two
                refine hK.out _ _ ⟨b0, b1⟩ (fun hHeld => ?_)
                clear hK
                try simp only [Act.put, List.setIfInBounds_toArray, List.set_cons_zero, List.set_cons_succ]
                refine tkTake (v := ?_) rfl (by rfl) hHeld (fun w' hSw => ?_) ?_
                rotate_left
                · (go_simp; try with_reducible rfl)
                simp only [Act.put, List.setIfInBounds_toArray, List.set_cons_zero, List.set_cons_succ]
                obtain ⟨z0, z1⟩ := AL.out.two
                have zf := AL.out.frozen 0
                have zg := AL.out.frozen 1
                refine tkEnd rfl (fun K hK => ?_)
                go_simp
                refine hK.out _ _ ?_
                clear hK
                refine tkDone ?_
                go_wp2_with fail
                go_meet
                exact fin23 D.out Q0.out Q2.out Q3.out HBO AL.out M2.out NE.out AP.out CF.out
            · go_simp
              have hb := boxBelow ux1 (.cells #[.slice none 0 0, .slice none 0 0] 75)
              have AL0 := Box.new ux1 #[.slice none 0 0, .slice none 0 0] 75
              obtain ⟨bo, hbo⟩ : ∃ bo, ux1.heap.size = bo := ⟨_, rfl⟩
              rw [hbo] at AL0
              have HBO : w.heap.size + 1 + 1 + 1 < bo := by have := Q3.out.lt; omega
              try rw [hbo]
              generalize hE : ux1.alloc (.cells #[.slice none 0 0, .slice none 0 0] 75) = ux20
              rw [hE] at hb AL0
              have AL := hide2 AL0
              clear hE AL0 hbo
              replace Q0 := hide2 (Q0.out.keep hb)
              replace Q1 := hide2 (Q1.out.keep hb)
              replace Q2 := hide2 (Q2.out.keep hb)
              replace Q3 := hide2 (Q3.out.keep hb)
              replace M1 := hide2 ((Ints.keep M1.out hb))
              replace D := hide2 (D.out.trans (hb.mono D.out.size))
              clear hb
              obtain ⟨b0, b1⟩ := Q1.out.two
              refine hK.out _ _ ⟨b0, b1⟩ (fun hHeld => ?_)
              clear hK
              try simp only [Act.put, List.setIfInBounds_toArray, List.set_cons_zero, List.set_cons_succ]
              refine tkTwo rfl rfl (fun K hK => ?_) (fun K hK => ?_)
              · go_simp; go_at_call 147
                (with_reducible refine (mixOwn_calls M1.out (IG.out.keep D.out) 1 (.inl rfl) SM.out SG.out (by omega)).mono ?_)
                rintro e ux21 ⟨v2, rfl, own2, hb⟩
                rw [HL2.out] at own2
                obtain ⟨C2, k2, rfl, i2⟩ := own2.sl (by omega)
                have CF := hide2 ((OwnSl.fresh own2 rfl).mono D.out.size)
                have M2 := hide2 (show Ints ux21 C2 L2 k2 (mixL (mixL p.mark (takeT kd T') (-1)) (giveT kd T') 1) from i2)
                clear own2 i2
                replace Q0 := hide2 (Q0.out.keep hb)
                replace Q1 := hide2 (Q1.out.keep hb)
                replace Q2 := hide2 (Q2.out.keep hb)
                replace Q3 := hide2 (Q3.out.keep hb)
                replace M1 := hide2 ((Ints.keep M1.out hb))
                replace AL := hide2 (AL.out.keep hb)
                replace D := hide2 (D.out.trans (hb.mono D.out.size))
                clear hb
                obtain ⟨b0, b1⟩ := Q1.out.two
                refine hK.out _ _ ⟨b0, b1⟩ (fun hHeld => ?_)
                clear hK
                try simp only [Act.put, List.setIfInBounds_toArray, List.set_cons_zero, List.set_cons_succ]
                refine tkOne rfl (fun K hK => ?_)
                go_simp
                have hb := boxBelow ux21 (.cells #[] 3)
                generalize hE : ux21.alloc (.cells #[] 3) = ux22
                rw [hE] at hb
                clear hE
                replace Q0 := hide2 (Q0.out.keep hb)
                replace Q1 := hide2 (Q1.out.keep hb)
                replace Q2 := hide2 (Q2.out.keep hb)
                replace Q3 := hide2 (Q3.out.keep hb)
                replace M1 := hide2 ((Ints.keep M1.out hb))
                replace AL := hide2 (AL.out.keep hb)
                replace M2 := hide2 ((Ints.keep M2.out hb))
                replace D := hide2 (D.out.trans (hb.mono D.out.size))
                clear hb
                obtain ⟨b0, b1⟩ := Q1.out.two
                refine hK.out _ _ ⟨b0, b1⟩ (fun hHeld => ?_)
                clear hK
                try simp only [Act.put, List.setIfInBounds_toArray, List.set_cons_zero, List.set_cons_succ]
                refine tkOne rfl (fun K hK => ?_)
                refine step_appEmpty rfl _ _ rfl rfl rfl (BB.out.keep D.out) (by omega) hl ?_
                rintro v9 ux23 own9 hb
                obtain ⟨g, cap, rfl, hg, hgl⟩ := OwnInts.form own9 (by omega)
                have NE := hide2 (show ∀ b off, C2 = some ⟨b, off, none⟩ → 0 < L2 → b ≠ g from fun b off hC h0 => by
                  obtain ⟨b', off', e, hlt, _⟩ := M2.out.cells h0
                  rw [hC] at e; injection e with e; injection e with e1; omega)
                have AP := hide2 (OwnSl.base own9 ((D.out).size))
                clear own9
                replace Q0 := hide2 (Q0.out.keep hb)
                replace Q1 := hide2 (Q1.out.keep hb)
                replace Q2 := hide2 (Q2.out.keep hb)
                replace Q3 := hide2 (Q3.out.keep hb)
                replace M1 := hide2 ((Ints.keep M1.out hb))
                replace AL := hide2 (AL.out.keep hb)
                replace M2 := hide2 ((Ints.keep M2.out hb))
                replace D := hide2 (D.out.trans (hb.mono D.out.size))
                clear hb
                obtain ⟨b0, b1⟩ := Q1.out.two
                refine hK.out _ _ ⟨b0, b1⟩ (fun hHeld => ?_)
                clear hK
                try simp only [Act.put, List.setIfInBounds_toArray, List.set_cons_zero, List.set_cons_succ]
                refine tkTake (v := ?_) rfl (by rfl) hHeld (fun w' hSw => ?_) ?_
                rotate_left
                · (go_simp; try with_reducible rfl)
                simp only [Act.put, List.setIfInBounds_toArray, List.set_cons_zero, List.set_cons_succ]
                obtain ⟨z0, z1⟩ := AL.out.two
                have zf := AL.out.frozen 0
                have zg := AL.out.frozen 1
                refine tkEnd rfl (fun K hK => ?_)
                go_simp
                refine hK.out _ _ ?_
                clear hK
                refine tkDone ?_
                go_wp2_with fail
                go_meet
                exact fin23 D.out Q0.out Q2.out Q3.out HBO AL.out M2.out NE.out AP.out CF.out
              · go_simp
                have hb := boxBelow ux20 (.cells #[] 3)
                generalize hE : ux20.alloc (.cells #[] 3) = ux24
                rw [hE] at hb
                clear hE
                replace Q0 := hide2 (Q0.out.keep hb)
                replace Q1 := hide2 (Q1.out.keep hb)
                replace Q2 := hide2 (Q2.out.keep hb)
                replace Q3 := hide2 (Q3.out.keep hb)
                replace M1 := hide2 ((Ints.keep M1.out hb))
                replace AL := hide2 (AL.out.keep hb)
                replace D := hide2 (D.out.trans (hb.mono D.out.size))
                clear hb
                obtain ⟨b0, b1⟩ := Q1.out.two
                refine hK.out _ _ ⟨b0, b1⟩ (fun hHeld => ?_)
                clear hK
                try simp only [Act.put, List.setIfInBounds_toArray, List.set_cons_zero, List.set_cons_succ]
                refine tkOne rfl (fun K hK => ?_)
                go_simp; go_at_call 147
                (with_reducible refine (mixOwn_calls M1.out (IG.out.keep D.out) 1 (.inl rfl) SM.out SG.out (by omega)).mono ?_)
                rintro e ux25 ⟨v2, rfl, own2, hb⟩
                rw [HL2.out] at own2
                obtain ⟨C2, k2, rfl, i2⟩ := own2.sl (by omega)
                have CF := hide2 ((OwnSl.fresh own2 rfl).mono D.out.size)
                have M2 := hide2 (show Ints ux25 C2 L2 k2 (mixL (mixL p.mark (takeT kd T') (-1)) (giveT kd T') 1) from i2)
                clear own2 i2
                replace Q0 := hide2 (Q0.out.keep hb)
                replace Q1 := hide2 (Q1.out.keep hb)
                replace Q2 := hide2 (Q2.out.keep hb)
                replace Q3 := hide2 (Q3.out.keep hb)
                replace M1 := hide2 ((Ints.keep M1.out hb))
                replace AL := hide2 (AL.out.keep hb)
                replace D := hide2 (D.out.trans (hb.mono D.out.size))
                clear hb
                obtain ⟨b0, b1⟩ := Q1.out.two
                refine hK.out _ _ ⟨b0, b1⟩ (fun hHeld => ?_)
                clear hK
                try simp only [Act.put, List.setIfInBounds_toArray, List.set_cons_zero, List.set_cons_succ]
                refine tkOne rfl (fun K hK => ?_)
                refine step_appEmpty rfl _ _ rfl rfl rfl (BB.out.keep D.out) (by omega) hl ?_
                rintro v9 ux26 own9 hb
                obtain ⟨g, cap, rfl, hg, hgl⟩ := OwnInts.form own9 (by omega)
                have NE := hide2 (show ∀ b off, C2 = some ⟨b, off, none⟩ → 0 < L2 → b ≠ g from fun b off hC h0 => by
                  obtain ⟨b', off', e, hlt, _⟩ := M2.out.cells h0
                  rw [hC] at e; injection e with e; injection e with e1; omega)
                have AP := hide2 (OwnSl.base own9 ((D.out).size))
                clear own9
                replace Q0 := hide2 (Q0.out.keep hb)
                replace Q1 := hide2 (Q1.out.keep hb)
                replace Q2 := hide2 (Q2.out.keep hb)
                replace Q3 := hide2 (Q3.out.keep hb)
                replace M1 := hide2 ((Ints.keep M1.out hb))
                replace AL := hide2 (AL.out.keep hb)
                replace M2 := hide2 ((Ints.keep M2.out hb))
                replace D := hide2 (D.out.trans (hb.mono D.out.size))
                clear hb
                obtain ⟨b0, b1⟩ := Q1.out.two
                refine hK.out _ _ ⟨b0, b1⟩ (fun hHeld => ?_)
                clear hK
                try simp only [Act.put, List.setIfInBounds_toArray, List.set_cons_zero, List.set_cons_succ]
                refine tkTake (v := ?_) rfl (by rfl) hHeld (fun w' hSw => ?_) ?_
                rotate_left
                · (go_simp; try with_reducible rfl)
                simp only [Act.put, List.setIfInBounds_toArray, List.set_cons_zero, List.set_cons_succ]
                obtain ⟨z0, z1⟩ := AL.out.two
                have zf := AL.out.frozen 0
                have zg := AL.out.frozen 1
                refine tkEnd rfl (fun K hK => ?_)
                go_simp
                refine hK.out _ _ ?_
                clear hK
                refine tkDone ?_
                go_wp2_with fail
                go_meet
                exact fin23 D.out Q0.out Q2.out Q3.out HBO AL.out M2.out NE.out AP.out CF.out
          · go_simp
            have hb := boxBelow ux0 (.cells #[] 3)
            generalize hE : ux0.alloc (.cells #[] 3) = ux27
            rw [hE] at hb
            clear hE
            replace Q0 := hide2 (Q0.out.keep hb)
            replace Q1 := hide2 (Q1.out.keep hb)
            replace Q2 := hide2 (Q2.out.keep hb)
            replace Q3 := hide2 (Q3.out.keep hb)
            replace D := hide2 (D.out.trans (hb.mono D.out.size))
            clear hb
            obtain ⟨b0, b1⟩ := Q1.out.two
            refine hK.out _ _ ⟨b0, b1⟩ (fun hHeld => ?_)
            clear hK
            try simp only [Act.put, List.setIfInBounds_toArray, List.set_cons_zero, List.set_cons_succ]
            refine tkTwo rfl rfl (fun K hK => ?_) (fun K hK => ?_)
            · go_simp; go_at_call 147
              (with_reducible refine (mixOwn_calls (G.out.keep D.out) (IT.out.keep D.out) (-1) (.inr rfl) (SmallL.of_right HRM.out) ST.out (by omega)).mono ?_)
              rintro e ux28 ⟨v1, rfl, own1, hb⟩
              rw [HL1.out] at own1
              obtain ⟨C1, k1, rfl, i1⟩ := own1.sl (by omega)
              have M1 := hide2 (show Ints ux28 C1 L1 k1 (mixL p.mark (takeT kd T') (-1)) from i1)
              clear own1 i1
              replace Q0 := hide2 (Q0.out.keep hb)
              replace Q1 := hide2 (Q1.out.keep hb)
              replace Q2 := hide2 (Q2.out.keep hb)
              replace Q3 := hide2 (Q3.out.keep hb)
              replace D := hide2 (D.out.trans (hb.mono D.out.size))
              clear hb
              obtain ⟨b0, b1⟩ := Q1.out.two
              refine hK.out _ _ ⟨b0, b1⟩ (fun hHeld => ?_)
              clear hK
              try simp only [Act.put, List.setIfInBounds_toArray, List.set_cons_zero, List.set_cons_succ]
              refine tkTwo rfl rfl (fun K hK => ?_) (fun K hK => ?_)
              · go_simp; go_at_call 147
                (with_reducible refine (mixOwn_calls M1.out (IG.out.keep D.out) 1 (.inl rfl) SM.out SG.out (by omega)).mono ?_)
                rintro e ux29 ⟨v2, rfl, own2, hb⟩
                rw [HL2.out] at own2
                obtain ⟨C2, k2, rfl, i2⟩ := own2.sl (by omega)
                have CF := hide2 ((OwnSl.fresh own2 rfl).mono D.out.size)
                have M2 := hide2 (show Ints ux29 C2 L2 k2 (mixL (mixL p.mark (takeT kd T') (-1)) (giveT kd T') 1) from i2)
                clear own2 i2
                replace Q0 := hide2 (Q0.out.keep hb)
                replace Q1 := hide2 (Q1.out.keep hb)
                replace Q2 := hide2 (Q2.out.keep hb)
                replace Q3 := hide2 (Q3.out.keep hb)
                replace M1 := hide2 ((Ints.keep M1.out hb))
                replace D := hide2 (D.out.trans (hb.mono D.out.size))
                clear hb
                obtain ⟨b0, b1⟩ := Q1.out.two
                refine hK.out _ _ ⟨b0, b1⟩ (fun hHeld => ?_)
                clear hK
                try simp only [Act.put, List.setIfInBounds_toArray, List.set_cons_zero, List.set_cons_succ]
                refine tkTwo rfl rfl (fun K hK => ?_) (fun K hK => ?_)
                · refine step_appEmpty rfl _ _ rfl rfl rfl (BB.out.keep D.out) (by omega) hl ?_
                  rintro v9 ux30 own9 hb
                  obtain ⟨g, cap, rfl, hg, hgl⟩ := OwnInts.form own9 (by omega)
                  have NE := hide2 (show ∀ b off, C2 = some ⟨b, off, none⟩ → 0 < L2 → b ≠ g from fun b off hC h0 => by
                    obtain ⟨b', off', e, hlt, _⟩ := M2.out.cells h0
                    rw [hC] at e; injection e with e; injection e with e1; omega)
                  have AP := hide2 (OwnSl.base own9 ((D.out).size))
                  clear own9
                  replace Q0 := hide2 (Q0.out.keep hb)
                  replace Q1 := hide2 (Q1.out.keep hb)
                  replace Q2 := hide2 (Q2.out.keep hb)
                  replace Q3 := hide2 (Q3.out.keep hb)
                  replace M1 := hide2 ((Ints.keep M1.out hb))
                  replace M2 := hide2 ((Ints.keep M2.out hb))
                  replace D := hide2 (D.out.trans (hb.mono D.out.size))
                  clear hb
                  obtain ⟨b0, b1⟩ := Q1.out.two
                  refine hK.out _ _ ⟨b0, b1⟩ (fun hHeld => ?_)
                  clear hK
                  try simp only [Act.put, List.setIfInBounds_toArray, List.set_cons_zero, List.set_cons_succ]
                  refine tkTake (v := ?_) rfl (by rfl) hHeld (fun w' hSw => ?_) ?_
                  rotate_left
                  · (go_simp; try with_reducible rfl)
                  simp only [Act.put, List.setIfInBounds_toArray, List.set_cons_zero, List.set_cons_succ]
                  refine tkOne rfl (fun K hK => ?_)
                  go_simp
                  have hb := boxBelow ux30 (.cells #[.slice none 0 0, .slice none 0 0] 75)
                  have AL0 := Box.new ux30 #[.slice none 0 0, .slice none 0 0] 75
                  obtain ⟨bo, hbo⟩ : ∃ bo, ux30.heap.size = bo := ⟨_, rfl⟩
                  rw [hbo] at AL0
                  have HBO : w.heap.size + 1 + 1 + 1 < bo := by have := Q3.out.lt; omega
                  try rw [hbo]
                  generalize hE : ux30.alloc (.cells #[.slice none 0 0, .slice none 0 0] 75) = ux31
                  rw [hE] at hb AL0
                  have AL := hide2 AL0
                  clear hE AL0 hbo
                  replace Q0 := hide2 (Q0.out.keep hb)
                  replace Q1 := hide2 (Q1.out.keep hb)
                  replace Q2 := hide2 (Q2.out.keep hb)
                  replace Q3 := hide2 (Q3.out.keep hb)
                  replace M1 := hide2 ((Ints.keep M1.out hb))
                  replace M2 := hide2 ((Ints.keep M2.out hb))
                  replace AP := hide2 (AP.out.keep IntR.kept hb)
                  replace D := hide2 (D.out.trans (hb.mono D.out.size))
                  clear hb
                  obtain ⟨b0, b1⟩ := Q1.out.two
                  refine hK.out _ _ ⟨b0, b1⟩ (fun hHeld => ?_)
                  clear hK
                  try simp only [Act.put, List.setIfInBounds_toArray, List.set_cons_zero, List.set_cons_succ]
                  obtain ⟨z0, z1⟩ := AL.out.two
                  have zf := AL.out.frozen 0
                  have zg := AL.out.frozen 1
                  refine tkEnd rfl (fun K hK => ?_)
                  go_simp
                  refine hK.out _ _ ?_
                  clear hK
                  refine tkDone ?_
                  go_wp2_with fail
                  go_meet
                  exact fin23 D.out Q0.out Q2.out Q3.out HBO AL.out M2.out NE.out AP.out CF.out
                · go_simp
                  have hb := boxBelow ux29 (.cells #[.slice none 0 0, .slice none 0 0] 75)
                  have AL0 := Box.new ux29 #[.slice none 0 0, .slice none 0 0] 75
                  obtain ⟨bo, hbo⟩ : ∃ bo, ux29.heap.size = bo := ⟨_, rfl⟩
                  rw [hbo] at AL0
                  have HBO : w.heap.size + 1 + 1 + 1 < bo := by have := Q3.out.lt; omega
                  try rw [hbo]
                  generalize hE : ux29.alloc (.cells #[.slice none 0 0, .slice none 0 0] 75) = ux32
                  rw [hE] at hb AL0
                  have AL := hide2 AL0
                  clear hE AL0 hbo
                  replace Q0 := hide2 (Q0.out.keep hb)
                  replace Q1 := hide2 (Q1.out.keep hb)
                  replace Q2 := hide2 (Q2.out.keep hb)
                  replace Q3 := hide2 (Q3.out.keep hb)
                  replace M1 := hide2 ((Ints.keep M1.out hb))
                  replace M2 := hide2 ((Ints.keep M2.out hb))
                  replace D := hide2 (D.out.trans (hb.mono D.out.size))
                  clear hb
                  obtain ⟨b0, b1⟩ := Q1.out.two
                  refine hK.out _ _ ⟨b0, b1⟩ (fun hHeld => ?_)
                  clear hK
                  try simp only [Act.put, List.setIfInBounds_toArray, List.set_cons_zero, List.set_cons_succ]
                  refine tkOne rfl (fun K hK => ?_)
                  refine step_appEmpty rfl _ _ rfl rfl rfl (BB.out.keep D.out) (by omega) hl ?_
                  rintro v9 ux33 own9 hb
                  obtain ⟨g, cap, rfl, hg, hgl⟩ := OwnInts.form own9 (by omega)
                  have NE := hide2 (show ∀ b off, C2 = some ⟨b, off, none⟩ → 0 < L2 → b ≠ g from fun b off hC h0 => by
                    obtain ⟨b', off', e, hlt, _⟩ := M2.out.cells h0
                    rw [hC] at e; injection e with e; injection e with e1; omega)
                  have AP := hide2 (OwnSl.base own9 ((D.out).size))
                  clear own9
                  replace Q0 := hide2 (Q0.out.keep hb)
                  replace Q1 := hide2 (Q1.out.keep hb)
                  replace Q2 := hide2 (Q2.out.keep hb)
                  replace Q3 := hide2 (Q3.out.keep hb)
                  replace M1 := hide2 ((Ints.keep M1.out hb))
                  replace M2 := hide2 ((Ints.keep M2.out hb))
                  replace AL := hide2 (AL.out.keep hb)
                  replace D := hide2 (D.out.trans (hb.mono D.out.size))
                  clear hb
                  obtain ⟨b0, b1⟩ := Q1.out.two
                  refine hK.out _ _ ⟨b0, b1⟩ (fun hHeld => ?_)
                  clear hK
                  try simp only [Act.put, List.setIfInBounds_toArray, List.set_cons_zero, List.set_cons_succ]
                  refine tkTake (v := ?_) rfl (by rfl) hHeld (fun w' hSw => ?_) ?_
                  rotate_left
                  · (go_simp; try with_reducible rfl)
                  simp only [Act.put, List.setIfInBounds_toArray, List.set_cons_zero, List.set_cons_succ]
                  obtain ⟨z0, z1⟩ := AL.out.two
                  have zf := AL.out.frozen 0
                  have zg := AL.out.frozen 1
                  refine tkEnd rfl (fun K hK => ?_)
                  go_simp
                  refine hK.out _ _ ?_
                  clear hK
                  refine tkDone ?_
                  go_wp2_with fail
                  go_meet
                  exact fin23 D.out Q0.out Q2.out Q3.out HBO AL.out M2.out NE.out AP.out CF.out
              · go_simp
                have hb := boxBelow ux28 (.cells #[.slice none 0 0, .slice none 0 0] 75)
                have AL0 := Box.new ux28 #[.slice none 0 0, .slice none 0 0] 75
                obtain ⟨bo, hbo⟩ : ∃ bo, ux28.heap.size = bo := ⟨_, rfl⟩
                rw [hbo] at AL0
                have HBO : w.heap.size + 1 + 1 + 1 < bo := by have := Q3.out.lt; omega
                try rw [hbo]
                generalize hE : ux28.alloc (.cells #[.slice none 0 0, .slice none 0 0] 75) = ux34
                rw [hE] at hb AL0
                have AL := hide2 AL0
                clear hE AL0 hbo
                replace Q0 := hide2 (Q0.out.keep hb)
                replace Q1 := hide2 (Q1.out.keep hb)
                replace Q2 := hide2 (Q2.out.keep hb)
                replace Q3 := hide2 (Q3.out.keep hb)
                replace M1 := hide2 ((Ints.keep M1.out hb))
                replace D := hide2 (D.out.trans (hb.mono D.out.size))
                clear hb
                obtain ⟨b0, b1⟩ := Q1.out.two
                refine hK.out _ _ ⟨b0, b1⟩ (fun hHeld => ?_)
                clear hK
                try simp only [Act.put, List.setIfInBounds_toArray, List.set_cons_zero, List.set_cons_succ]
                refine tkOne rfl (fun K hK => ?_)
                go_simp; go_at_call 147
                (with_reducible refine (mixOwn_calls M1.out (IG.out.keep D.out) 1 (.inl rfl) SM.out SG.out (by omega)).mono ?_)
                rintro e ux35 ⟨v2, rfl, own2, hb⟩
                rw [HL2.out] at own2
                obtain ⟨C2, k2, rfl, i2⟩ := own2.sl (by omega)
                have CF := hide2 ((OwnSl.fresh own2 rfl).mono D.out.size)
                have M2 := hide2 (show Ints ux35 C2 L2 k2 (mixL (mixL p.mark (takeT kd T') (-1)) (giveT kd T') 1) from i2)
                clear own2 i2
                replace Q0 := hide2 (Q0.out.keep hb)
                replace Q1 := hide2 (Q1.out.keep hb)
                replace Q2 := hide2 (Q2.out.keep hb)
                replace Q3 := hide2 (Q3.out.keep hb)
                replace M1 := hide2 ((Ints.keep M1.out hb))
                replace AL := hide2 (AL.out.keep hb)
                replace D := hide2 (D.out.trans (hb.mono D.out.size))
                clear hb
                obtain ⟨b0, b1⟩ := Q1.out.two
                refine hK.out _ _ ⟨b0, b1⟩ (fun hHeld => ?_)
                clear hK
                try simp only [Act.put, List.setIfInBounds_toArray, List.set_cons_zero, List.set_cons_succ]
                refine tkOne rfl (fun K hK => ?_)
                refine step_appEmpty rfl _ _ rfl rfl rfl (BB.out.keep D.out) (by omega) hl ?_
                rintro v9 ux36 own9 hb
                obtain ⟨g, cap, rfl, hg, hgl⟩ := OwnInts.form own9 (by omega)
                have NE := hide2 (show ∀ b off, C2 = some ⟨b, off, none⟩ → 0 < L2 → b ≠ g from fun b off hC h0 => by
                  obtain ⟨b', off', e, hlt, _⟩ := M2.out.cells h0
                  rw [hC] at e; injection e with e; injection e with e1; omega)
                have AP := hide2 (OwnSl.base own9 ((D.out).size))
                clear own9
                replace Q0 := hide2 (Q0.out.keep hb)
                replace Q1 := hide2 (Q1.out.keep hb)
                replace Q2 := hide2 (Q2.out.keep hb)
                replace Q3 := hide2 (Q3.out.keep hb)
                replace M1 := hide2 ((Ints.keep M1.out hb))
                replace AL := hide2 (AL.out.keep hb)
                replace M2 := hide2 ((Ints.keep M2.out hb))
                replace D := hide2 (D.out.trans (hb.mono D.out.size))
                clear hb
                obtain ⟨b0, b1⟩ := Q1.out.two
                refine hK.out _ _ ⟨b0, b1⟩ (fun hHeld => ?_)
                clear hK
                try simp only [Act.put, List.setIfInBounds_toArray, List.set_cons_zero, List.set_cons_succ]
                refine tkTake (v := ?_) rfl (by rfl) hHeld (fun w' hSw => ?_) ?_
                rotate_left
                · (go_simp; try with_reducible rfl)
                simp only [Act.put, List.setIfInBounds_toArray, List.set_cons_zero, List.set_cons_succ]
                obtain ⟨z0, z1⟩ := AL.out.two
                have zf := AL.out.frozen 0
                have zg := AL.out.frozen 1
                refine tkEnd rfl (fun K hK => ?_)
                go_simp
                refine hK.out _ _ ?_
                clear hK
                refine tkDone ?_
                go_wp2_with fail
                go_meet
                exact fin23 D.out Q0.out Q2.out Q3.out HBO AL.out M2.out NE.out AP.out CF.out
            · go_simp
              have hb := boxBelow ux27 (.cells #[.slice none 0 0, .slice none 0 0] 75)
              have AL0 := Box.new ux27 #[.slice none 0 0, .slice none 0 0] 75
              obtain ⟨bo, hbo⟩ : ∃ bo, ux27.heap.size = bo := ⟨_, rfl⟩
              rw [hbo] at AL0
              have HBO : w.heap.size + 1 + 1 + 1 < bo := by have := Q3.out.lt; omega
              try rw [hbo]
              generalize hE : ux27.alloc (.cells #[.slice none 0 0, .slice none 0 0] 75) = ux37
              rw [hE] at hb AL0
              have AL := hide2 AL0
              clear hE AL0 hbo
              replace Q0 := hide2 (Q0.out.keep hb)
              replace Q1 := hide2 (Q1.out.keep hb)
              replace Q2 := hide2 (Q2.out.keep hb)
              replace Q3 := hide2 (Q3.out.keep hb)
              replace D := hide2 (D.out.trans (hb.mono D.out.size))
              clear hb
              obtain ⟨b0, b1⟩ := Q1.out.two
              refine hK.out _ _ ⟨b0, b1⟩ (fun hHeld => ?_)
              clear hK
              try simp only [Act.put, List.setIfInBounds_toArray, List.set_cons_zero, List.set_cons_succ]
              refine tkOne rfl (fun K hK => ?_)
              go_simp; go_at_call 147
              (with_reducible refine (mixOwn_calls (G.out.keep D.out) (IT.out.keep D.out) (-1) (.inr rfl) (SmallL.of_right HRM.out) ST.out (by omega)).mono ?_)
              rintro e ux38 ⟨v1, rfl, own1, hb⟩
              rw [HL1.out] at own1
              obtain ⟨C1, k1, rfl, i1⟩ := own1.sl (by omega)
              have M1 := hide2 (show Ints ux38 C1 L1 k1 (mixL p.mark (takeT kd T') (-1)) from i1)
              clear own1 i1
              replace Q0 := hide2 (Q0.out.keep hb)
              replace Q1 := hide2 (Q1.out.keep hb)
              replace Q2 := hide2 (Q2.out.keep hb)
              replace Q3 := hide2 (Q3.out.keep hb)
              replace AL := hide2 (AL.out.keep hb)
              replace D := hide2 (D.out.trans (hb.mono D.out.size))
              clear hb
              obtain ⟨b0, b1⟩ := Q1.out.two
              refine hK.out _ _ ⟨b0, b1⟩ (fun hHeld => ?_)
              clear hK
              try simp only [Act.put, List.setIfInBounds_toArray, List.set_cons_zero, List.set_cons_succ]
              refine tkOne rfl (fun K hK => ?_)
              go_simp; go_at_call 147
              (with_reducible refine (mixOwn_calls M1.out (IG.out.keep D.out) 1 (.inl rfl) SM.out SG.out (by omega)).mono ?_)
              rintro e ux39 ⟨v2, rfl, own2, hb⟩
              rw [HL2.out] at own2
              obtain ⟨C2, k2, rfl, i2⟩ := own2.sl (by omega)
              have CF := hide2 ((OwnSl.fresh own2 rfl).mono D.out.size)
              have M2 := hide2 (show Ints ux39 C2 L2 k2 (mixL (mixL p.mark (takeT kd T') (-1)) (giveT kd T') 1) from i2)
              clear own2 i2
              replace Q0 := hide2 (Q0.out.keep hb)
              replace Q1 := hide2 (Q1.out.keep hb)
              replace Q2 := hide2 (Q2.out.keep hb)
              replace Q3 := hide2 (Q3.out.keep hb)
              replace AL := hide2 (AL.out.keep hb)
              replace M1 := hide2 ((Ints.keep M1.out hb))
              replace D := hide2 (D.out.trans (hb.mono D.out.size))
              clear hb
              obtain ⟨b0, b1⟩ := Q1.out.two
              refine hK.out _ _ ⟨b0, b1⟩ (fun hHeld => ?_)
              clear hK
              try simp only [Act.put, List.setIfInBounds_toArray, List.set_cons_zero, List.set_cons_succ]
              refine tkOne rfl (fun K hK => ?_)
              refine step_appEmpty rfl _ _ rfl rfl rfl (BB.out.keep D.out) (by omega) hl ?_
              rintro v9 ux40 own9 hb
              obtain ⟨g, cap, rfl, hg, hgl⟩ := OwnInts.form own9 (by omega)
              have NE := hide2 (show ∀ b off, C2 = some ⟨b, off, none⟩ → 0 < L2 → b ≠ g from fun b off hC h0 => by
                obtain ⟨b', off', e, hlt, _⟩ := M2.out.cells h0
                rw [hC] at e; injection e with e; injection e with e1; omega)
              have AP := hide2 (OwnSl.base own9 ((D.out).size))
              clear own9
              replace Q0 := hide2 (Q0.out.keep hb)
              replace Q1 := hide2 (Q1.out.keep hb)
              replace Q2 := hide2 (Q2.out.keep hb)
              replace Q3 := hide2 (Q3.out.keep hb)
              replace AL := hide2 (AL.out.keep hb)
              replace M1 := hide2 ((Ints.keep M1.out hb))
              replace M2 := hide2 ((Ints.keep M2.out hb))
              replace D := hide2 (D.out.trans (hb.mono D.out.size))
              clear hb
              obtain ⟨b0, b1⟩ := Q1.out.two
              refine hK.out _ _ ⟨b0, b1⟩ (fun hHeld => ?_)
              clear hK
              try simp only [Act.put, List.setIfInBounds_toArray, List.set_cons_zero, List.set_cons_succ]
              refine tkTake (v := ?_) rfl (by rfl) hHeld (fun w' hSw => ?_) ?_
              rotate_left
              · (go_simp; try with_reducible rfl)
              simp only [Act.put, List.setIfInBounds_toArray, List.set_cons_zero, List.set_cons_succ]
              obtain ⟨z0, z1⟩ := AL.out.two
              have zf := AL.out.frozen 0
              have zg := AL.out.frozen 1
              refine tkEnd rfl (fun K hK => ?_)
              go_simp
              refine hK.out _ _ ?_
              clear hK
              refine tkDone ?_
              go_wp2_with fail
              go_meet
              exact fin23 D.out Q0.out Q2.out Q3.out HBO AL.out M2.out NE.out AP.out CF.out
          · go_simp
            have hb := boxBelow ux0 (.cells #[.slice none 0 0, .slice none 0 0] 75)
            have AL0 := Box.new ux0 #[.slice none 0 0, .slice none 0 0] 75
            obtain ⟨bo, hbo⟩ : ∃ bo, ux0.heap.size = bo := ⟨_, rfl⟩
            rw [hbo] at AL0
            have HBO : w.heap.size + 1 + 1 + 1 < bo := by have := Q3.out.lt; omega
            try rw [hbo]
            generalize hE : ux0.alloc (.cells #[.slice none 0 0, .slice none 0 0] 75) = ux41
            rw [hE] at hb AL0
            have AL := hide2 AL0
            clear hE AL0 hbo
            replace Q0 := hide2 (Q0.out.keep hb)
            replace Q1 := hide2 (Q1.out.keep hb)
            replace Q2 := hide2 (Q2.out.keep hb)
            replace Q3 := hide2 (Q3.out.keep hb)
            replace D := hide2 (D.out.trans (hb.mono D.out.size))
            clear hb
            obtain ⟨b0, b1⟩ := Q1.out.two
            refine hK.out _ _ ⟨b0, b1⟩ (fun hHeld => ?_)
            clear hK
            try simp only [Act.put, List.setIfInBounds_toArray, List.set_cons_zero, List.set_cons_succ]
            refine tkTwo rfl rfl (fun K hK => ?_) (fun K hK => ?_)
            · go_simp; go_at_call 147
              (with_reducible refine (mixOwn_calls (G.out.keep D.out) (IT.out.keep D.out) (-1) (.inr rfl) (SmallL.of_right HRM.out) ST.out (by omega)).mono ?_)
              rintro e ux42 ⟨v1, rfl, own1, hb⟩
              rw [HL1.out] at own1
              obtain ⟨C1, k1, rfl, i1⟩ := own1.sl (by omega)
              have M1 := hide2 (show Ints ux42 C1 L1 k1 (mixL p.mark (takeT kd T') (-1)) from i1)
              clear own1 i1
              replace Q0 := hide2 (Q0.out.keep hb)
              replace Q1 := hide2 (Q1.out.keep hb)
              replace Q2 := hide2 (Q2.out.keep hb)
              replace Q3 := hide2 (Q3.out.keep hb)
              replace AL := hide2 (AL.out.keep hb)
              replace D := hide2 (D.out.trans (hb.mono D.out.size))
              clear hb
              obtain ⟨b0, b1⟩ := Q1.out.two
              refine hK.out _ _ ⟨b0, b1⟩ (fun hHeld => ?_)
              clear hK
              try simp only [Act.put, List.setIfInBounds_toArray, List.set_cons_zero, List.set_cons_succ]
              refine tkTwo rfl rfl (fun K hK => ?_) (fun K hK => ?_)
              · go_simp; go_at_call 147
                (with_reducible refine (mixOwn_calls M1.out (IG.out.keep D.out) 1 (.inl rfl) SM.out SG.out (by omega)).mono ?_)
                rintro e ux43 ⟨v2, rfl, own2, hb⟩
                rw [HL2.out] at own2
                obtain ⟨C2, k2, rfl, i2⟩ := own2.sl (by omega)
                have CF := hide2 ((OwnSl.fresh own2 rfl).mono D.out.size)
                have M2 := hide2 (show Ints ux43 C2 L2 k2 (mixL (mixL p.mark (takeT kd T') (-1)) (giveT kd T') 1) from i2)
                clear own2 i2
                replace Q0 := hide2 (Q0.out.keep hb)
                replace Q1 := hide2 (Q1.out.keep hb)
                replace Q2 := hide2 (Q2.out.keep hb)
                replace Q3 := hide2 (Q3.out.keep hb)
                replace AL := hide2 (AL.out.keep hb)
                replace M1 := hide2 ((Ints.keep M1.out hb))
                replace D := hide2 (D.out.trans (hb.mono D.out.size))
                clear hb
                obtain ⟨b0, b1⟩ := Q1.out.two
                refine hK.out _ _ ⟨b0, b1⟩ (fun hHeld => ?_)
                clear hK
                try simp only [Act.put, List.setIfInBounds_toArray, List.set_cons_zero, List.set_cons_succ]
                refine tkOne rfl (fun K hK => ?_)
                go_simp
                have hb := boxBelow ux43 (.cells #[] 3)
                generalize hE : ux43.alloc (.cells #[] 3) = ux44
                rw [hE] at hb
                clear hE
                replace Q0 := hide2 (Q0.out.keep hb)
                replace Q1 := hide2 (Q1.out.keep hb)
                replace Q2 := hide2 (Q2.out.keep hb)
                replace Q3 := hide2 (Q3.out.keep hb)
                replace AL := hide2 (AL.out.keep hb)
                replace M1 := hide2 ((Ints.keep M1.out hb))
                replace M2 := hide2 ((Ints.keep M2.out hb))
                replace D := hide2 (D.out.trans (hb.mono D.out.size))
                clear hb
                obtain ⟨b0, b1⟩ := Q1.out.two
                refine hK.out _ _ ⟨b0, b1⟩ (fun hHeld => ?_)
                clear hK
                try simp only [Act.put, List.setIfInBounds_toArray, List.set_cons_zero, List.set_cons_succ]
                refine tkOne rfl (fun K hK => ?_)
                refine step_appEmpty rfl _ _ rfl rfl rfl (BB.out.keep D.out) (by omega) hl ?_
                rintro v9 ux45 own9 hb
                obtain ⟨g, cap, rfl, hg, hgl⟩ := OwnInts.form own9 (by omega)
                have NE := hide2 (show ∀ b off, C2 = some ⟨b, off, none⟩ → 0 < L2 → b ≠ g from fun b off hC h0 => by
                  obtain ⟨b', off', e, hlt, _⟩ := M2.out.cells h0
                  rw [hC] at e; injection e with e; injection e with e1; omega)
                have AP := hide2 (OwnSl.base own9 ((D.out).size))
                clear own9
                replace Q0 := hide2 (Q0.out.keep hb)
                replace Q1 := hide2 (Q1.out.keep hb)
                replace Q2 := hide2 (Q2.out.keep hb)
                replace Q3 := hide2 (Q3.out.keep hb)
                replace AL := hide2 (AL.out.keep hb)
                replace M1 := hide2 ((Ints.keep M1.out hb))
                replace M2 := hide2 ((Ints.keep M2.out hb))
                replace D := hide2 (D.out.trans (hb.mono D.out.size))
                clear hb
                obtain ⟨b0, b1⟩ := Q1.out.two
                refine hK.out _ _ ⟨b0, b1⟩ (fun hHeld => ?_)
                clear hK
                try simp only [Act.put, List.setIfInBounds_toArray, List.set_cons_zero, List.set_cons_succ]
                refine tkTake (v := ?_) rfl (by rfl) hHeld (fun w' hSw => ?_) ?_
                rotate_left
                · (go_simp; try with_reducible rfl)
                simp only [Act.put, List.setIfInBounds_toArray, List.set_cons_zero, List.set_cons_succ]
                obtain ⟨z0, z1⟩ := AL.out.two
                have zf := AL.out.frozen 0
                have zg := AL.out.frozen 1
                refine tkEnd rfl (fun K hK => ?_)
                go_simp
                refine hK.out _ _ ?_
                clear hK
                refine tkDone ?_
                go_wp2_with fail
                go_meet
                exact fin23 D.out Q0.out Q2.out Q3.out HBO AL.out M2.out NE.out AP.out CF.out
              · go_simp
                have hb := boxBelow ux42 (.cells #[] 3)
                generalize hE : ux42.alloc (.cells #[] 3) = ux46
                rw [hE] at hb
                clear hE
                replace Q0 := hide2 (Q0.out.keep hb)
                replace Q1 := hide2 (Q1.out.keep hb)
                replace Q2 := hide2 (Q2.out.keep hb)
                replace Q3 := hide2 (Q3.out.keep hb)
                replace AL := hide2 (AL.out.keep hb)
                replace M1 := hide2 ((Ints.keep M1.out hb))
                replace D := hide2 (D.out.trans (hb.mono D.out.size))
                clear hb
                obtain ⟨b0, b1⟩ := Q1.out.two
                refine hK.out _ _ ⟨b0, b1⟩ (fun hHeld => ?_)
                clear hK
                try simp only [Act.put, List.setIfInBounds_toArray, List.set_cons_zero, List.set_cons_succ]
                refine tkOne rfl (fun K hK => ?_)
                go_simp; go_at_call 147
                (with_reducible refine (mixOwn_calls M1.out (IG.out.keep D.out) 1 (.inl rfl) SM.out SG.out (by omega)).mono ?_)
                rintro e ux47 ⟨v2, rfl, own2, hb⟩
                rw [HL2.out] at own2
                obtain ⟨C2, k2, rfl, i2⟩ := own2.sl (by omega)
                have CF := hide2 ((OwnSl.fresh own2 rfl).mono D.out.size)
                have M2 := hide2 (show Ints ux47 C2 L2 k2 (mixL (mixL p.mark (takeT kd T') (-1)) (giveT kd T') 1) from i2)
                clear own2 i2
                replace Q0 := hide2 (Q0.out.keep hb)
                replace Q1 := hide2 (Q1.out.keep hb)
                replace Q2 := hide2 (Q2.out.keep hb)
                replace Q3 := hide2 (Q3.out.keep hb)
                replace AL := hide2 (AL.out.keep hb)
                replace M1 := hide2 ((Ints.keep M1.out hb))
                replace D := hide2 (D.out.trans (hb.mono D.out.size))
                clear hb
                obtain ⟨b0, b1⟩ := Q1.out.two
                refine hK.out _ _ ⟨b0, b1⟩ (fun hHeld => ?_)
                clear hK
                try simp only [Act.put, List.setIfInBounds_toArray, List.set_cons_zero, List.set_cons_succ]
                refine tkOne rfl (fun K hK => ?_)
                refine step_appEmpty rfl _ _ rfl rfl rfl (BB.out.keep D.out) (by omega) hl ?_
                rintro v9 ux48 own9 hb
                obtain ⟨g, cap, rfl, hg, hgl⟩ := OwnInts.form own9 (by omega)
                have NE := hide2 (show ∀ b off, C2 = some ⟨b, off, none⟩ → 0 < L2 → b ≠ g from fun b off hC h0 => by
                  obtain ⟨b', off', e, hlt, _⟩ := M2.out.cells h0
                  rw [hC] at e; injection e with e; injection e with e1; omega)
                have AP := hide2 (OwnSl.base own9 ((D.out).size))
                clear own9
                replace Q0 := hide2 (Q0.out.keep hb)
                replace Q1 := hide2 (Q1.out.keep hb)
                replace Q2 := hide2 (Q2.out.keep hb)
                replace Q3 := hide2 (Q3.out.keep hb)
                replace AL := hide2 (AL.out.keep hb)
                replace M1 := hide2 ((Ints.keep M1.out hb))
                replace M2 := hide2 ((Ints.keep M2.out hb))
                replace D := hide2 (D.out.trans (hb.mono D.out.size))
                clear hb
                obtain ⟨b0, b1⟩ := Q1.out.two
                refine hK.out _ _ ⟨b0, b1⟩ (fun hHeld => ?_)
                clear hK
                try simp only [Act.put, List.setIfInBounds_toArray, List.set_cons_zero, List.set_cons_succ]
                refine tkTake (v := ?_) rfl (by rfl) hHeld (fun w' hSw => ?_) ?_
                rotate_left
                · (go_simp; try with_reducible rfl)
                simp only [Act.put, List.setIfInBounds_toArray, List.set_cons_zero, List.set_cons_succ]
                obtain ⟨z0, z1⟩ := AL.out.two
                have zf := AL.out.frozen 0
                have zg := AL.out.frozen 1
                refine tkEnd rfl (fun K hK => ?_)
                go_simp
                refine hK.out _ _ ?_
                clear hK
                refine tkDone ?_
                go_wp2_with fail
                go_meet
                exact fin23 D.out Q0.out Q2.out Q3.out HBO AL.out M2.out NE.out AP.out CF.out
            · go_simp
              have hb := boxBelow ux41 (.cells #[] 3)
              generalize hE : ux41.alloc (.cells #[] 3) = ux49
              rw [hE] at hb
              clear hE
              replace Q0 := hide2 (Q0.out.keep hb)
              replace Q1 := hide2 (Q1.out.keep hb)
              replace Q2 := hide2 (Q2.out.keep hb)
              replace Q3 := hide2 (Q3.out.keep hb)
              replace AL := hide2 (AL.out.keep hb)
              replace D := hide2 (D.out.trans (hb.mono D.out.size))
              clear hb
              obtain ⟨b0, b1⟩ := Q1.out.two
              refine hK.out _ _ ⟨b0, b1⟩ (fun hHeld => ?_)
              clear hK
              try simp only [Act.put, List.setIfInBounds_toArray, List.set_cons_zero, List.set_cons_succ]
              refine tkOne rfl (fun K hK => ?_)
              go_simp; go_at_call 147
              (with_reducible refine (mixOwn_calls (G.out.keep D.out) (IT.out.keep D.out) (-1) (.inr rfl) (SmallL.of_right HRM.out) ST.out (by omega)).mono ?_)
              rintro e ux50 ⟨v1, rfl, own1, hb⟩
              rw [HL1.out] at own1
              obtain ⟨C1, k1, rfl, i1⟩ := own1.sl (by omega)
              have M1 := hide2 (show Ints ux50 C1 L1 k1 (mixL p.mark (takeT kd T') (-1)) from i1)
              clear own1 i1
              replace Q0 := hide2 (Q0.out.keep hb)
              replace Q1 := hide2 (Q1.out.keep hb)
              replace Q2 := hide2 (Q2.out.keep hb)
              replace Q3 := hide2 (Q3.out.keep hb)
              replace AL := hide2 (AL.out.keep hb)
              replace D := hide2 (D.out.trans (hb.mono D.out.size))
              clear hb
              obtain ⟨b0, b1⟩ := Q1.out.two
              refine hK.out _ _ ⟨b0, b1⟩ (fun hHeld => ?_)
              clear hK
              try simp only [Act.put, List.setIfInBounds_toArray, List.set_cons_zero, List.set_cons_succ]
              refine tkOne rfl (fun K hK => ?_)
              go_simp; go_at_call 147
              (with_reducible refine (mixOwn_calls M1.out (IG.out.keep D.out) 1 (.inl rfl) SM.out SG.out (by omega)).mono ?_)
              rintro e ux51 ⟨v2, rfl, own2, hb⟩
              rw [HL2.out] at own2
              obtain ⟨C2, k2, rfl, i2⟩ := own2.sl (by omega)
              have CF := hide2 ((OwnSl.fresh own2 rfl).mono D.out.size)
              have M2 := hide2 (show Ints ux51 C2 L2 k2 (mixL (mixL p.mark (takeT kd T') (-1)) (giveT kd T') 1) from i2)
              clear own2 i2
              replace Q0 := hide2 (Q0.out.keep hb)
              replace Q1 := hide2 (Q1.out.keep hb)
              replace Q2 := hide2 (Q2.out.keep hb)
              replace Q3 := hide2 (Q3.out.keep hb)
              replace AL := hide2 (AL.out.keep hb)
              replace M1 := hide2 ((Ints.keep M1.out hb))
              replace D := hide2 (D.out.trans (hb.mono D.out.size))
              clear hb
              obtain ⟨b0, b1⟩ := Q1.out.two
              refine hK.out _ _ ⟨b0, b1⟩ (fun hHeld => ?_)
              clear hK
              try simp only [Act.put, List.setIfInBounds_toArray, List.set_cons_zero, List.set_cons_succ]
              refine tkOne rfl (fun K hK => ?_)
              refine step_appEmpty rfl _ _ rfl rfl rfl (BB.out.keep D.out) (by omega) hl ?_
              rintro v9 ux52 own9 hb
              obtain ⟨g, cap, rfl, hg, hgl⟩ := OwnInts.form own9 (by omega)
              have NE := hide2 (show ∀ b off, C2 = some ⟨b, off, none⟩ → 0 < L2 → b ≠ g from fun b off hC h0 => by
                obtain ⟨b', off', e, hlt, _⟩ := M2.out.cells h0
                rw [hC] at e; injection e with e; injection e with e1; omega)
              have AP := hide2 (OwnSl.base own9 ((D.out).size))
              clear own9
              replace Q0 := hide2 (Q0.out.keep hb)
              replace Q1 := hide2 (Q1.out.keep hb)
              replace Q2 := hide2 (Q2.out.keep hb)
              replace Q3 := hide2 (Q3.out.keep hb)
              replace AL := hide2 (AL.out.keep hb)
              replace M1 := hide2 ((Ints.keep M1.out hb))
              replace M2 := hide2 ((Ints.keep M2.out hb))
              replace D := hide2 (D.out.trans (hb.mono D.out.size))
              clear hb
              obtain ⟨b0, b1⟩ := Q1.out.two
              refine hK.out _ _ ⟨b0, b1⟩ (fun hHeld => ?_)
              clear hK
              try simp only [Act.put, List.setIfInBounds_toArray, List.set_cons_zero, List.set_cons_succ]
              refine tkTake (v := ?_) rfl (by rfl) hHeld (fun w' hSw => ?_) ?_
              rotate_left
              · (go_simp; try with_reducible rfl)
              simp only [Act.put, List.setIfInBounds_toArray, List.set_cons_zero, List.set_cons_succ]
              obtain ⟨z0, z1⟩ := AL.out.two
              have zf := AL.out.frozen 0
              have zg := AL.out.frozen 1
              refine tkEnd rfl (fun K hK => ?_)
              go_simp
              refine hK.out _ _ ?_
              clear hK
              refine tkDone ?_
              go_wp2_with fail
              go_meet
              exact fin23 D.out Q0.out Q2.out Q3.out HBO AL.out M2.out NE.out AP.out CF.out
        case rest =>
          obtain ⟨wx, bo, C, ck, g, cap, rfl, rfl, X4, M2, NE, AP, Q0, Q2, Q3, D6, hbo, CF⟩ := hcut
          clear W0 W1 W2 W3 D5 hcz a0 a1 b0 b1 d0 d1
          obtain ⟨a0, a1⟩ := Q0.out.two
          obtain ⟨d0, d1⟩ := Q2.out.two
          obtain ⟨x0, x1⟩ := X4.out.two
          have cg := OwnInts.at AP.out HZ.out
          have cf := OwnInts.frozen AP.out i
          have hlc : l ≤ cap := (OwnInts.ints AP.out (by omega)).le
          have GF := hide2 (show Fresh w (some (⟨g, 0, none⟩ : Addr)) from Fresh.at (OwnInts.lo AP.out))
          have hB7 := Beside.set wx g i (.int .i64 (z' + mo))
          have Y0 := hide2 (hB7.box Q0.out (Box.neOwn Q0.out AP.out (by decide)))
          have Y2 := hide2 (hB7.box Q2.out (Box.neOwn Q2.out AP.out (by decide)))
          have Y3 := hide2 (hB7.box Q3.out (Box.neOwn Q3.out AP.out (by decide)))
          have Y4 := hide2 (hB7.box X4.out (Box.neOwn X4.out AP.out (by decide)))
          have YM := hide2 (Ints.besideNe M2.out NE.out hB7)
          have YB := hide2 (OwnInts.ints (OwnInts.put AP.out i (z' + mo)) (by omega))
          have D7 := hide2 (D6.out.setCell (show w.heap.size ≤ (⟨g, i, none⟩ : Addr).block from OwnInts.lo AP.out) (.int .i64 (z' + mo)))
          clear hB7
          go_upto_region 25 with fail
          generalize wx.setCell ⟨g, i, none⟩ (.int .i64 (z' + mo)) = w7 at *
          clear a0 a1 d0 d1 x0 x1 cg cf X4 M2 NE AP Q0 Q2 Q3 D6
          obtain ⟨a0, a1⟩ := Y0.out.two
          obtain ⟨x0, x1⟩ := Y4.out.two
          obtain ⟨pc, hpc⟩ : ∃ pc : PCase, pc = ⟨mixL (mixL p.mark (takeT kd T') (-1)) (giveT kd T') 1, p.busy.set i (z' + mo)⟩ := ⟨_, rfl⟩
          have PC := hide2 hpc
          have ZM := hide2 (show Ints w7 C L2 ck pc.mark by rw [hpc]; exact YM.out)
          have ZB := hide2 (show Ints w7 (some ⟨g, 0, none⟩) l cap pc.busy by rw [hpc]; exact YB.out)
          have F2 := hide2 (show doL ⟨P, ts⟩ p kd (i : Int) = if rightB pc.mark = true ∧ rightB pc.busy = true then (pc, 0) else (PCase.nil, 4) by rw [F1.out, hpc])
          clear YM YB F1 hpc
          by_cases hgood : rightB pc.mark = true ∧ rightB pc.busy = true
          · have FE := hide2 (show doL ⟨P, ts⟩ p kd (i : Int) = (pc, 0) by rw [F2.out, if_pos hgood])
            have CO := hide2 (show caseOk ⟨P, ts⟩ pc = true by have := doL_ok (N := ⟨P, ts⟩) (c := p) (k := kd) (t := (i : Int)) (by rw [FE.out]); rw [FE.out] at this; exact this)
            clear hgood
            go_wp2_with fail
            refine (refCaseRight_calls (P := P) (p := pc) (H.out.keep D7.out) ZM.out ZB.out).mono ?_
            rw [CO.out]
            rintro e w8 ⟨rfl, hb⟩
            have R3 := hide2 (Y3.out.keep hb)
            have R4 := hide2 (Y4.out.keep hb)
            have D8 := hide2 (D7.out.trans (hb.mono D7.out.size))
            have RM := hide2 (Ints.keep ZM.out hb)
            have RB := hide2 (Ints.keep ZB.out hb)
            clear hb a0 a1 x0 x1
            obtain ⟨x0, x1⟩ := R4.out.two
            obtain ⟨z0, z1⟩ := R3.out.two
            have zf := R3.out.frozen 0
            have zg := R3.out.frozen 1
            go_wp2
            obtain ⟨r0, r1⟩ := (R3.out.set2 (.slice C L2 ck) (.slice (some ⟨g, 0, none⟩) l cap)).two
            exact bodyPost_ret (v := .tuple #[.agg #[.slice C L2 ck, .slice (some ⟨g, 0, none⟩) l cap], .int .i64 0]) (by simp [results, Try.results165, go_sem, r0, r1]) rfl
              ⟨_, _, _, _, _, _, by rw [FE.out], by rw [FE.out]; exact RM.out.beside R3.out noInt2 (Beside.set2 _ _ _ _ _ _), by rw [FE.out]; exact RB.out.beside R3.out noInt2 (Beside.set2 _ _ _ _ _ _), (D8.out.setCell (by show w.heap.size ≤ w.heap.size + 1 + 1 + 1; omega) _).setCell (by show w.heap.size ≤ w.heap.size + 1 + 1 + 1; omega) _, CF.out, GF.out⟩
          · have FE := hide2 (show doL ⟨P, ts⟩ p kd (i : Int) = (PCase.nil, 4) by rw [F2.out, if_neg hgood])
            have CO := hide2 (show caseOk ⟨P, ts⟩ pc = false by
              cases hc : caseOk ⟨P, ts⟩ pc
              · rfl
              · have := (caseOk_iff _ _).1 hc; exact absurd ⟨this.2.2.1, this.2.2.2.2⟩ hgood)
            clear hgood
            go_wp2_with fail
            refine (refCaseRight_calls (P := P) (p := pc) (H.out.keep D7.out) ZM.out ZB.out).mono ?_
            rw [CO.out]
            rintro e w8 ⟨rfl, hb⟩
            have R3 := hide2 (Y3.out.keep hb)
            have D8 := hide2 (D7.out.trans (hb.mono D7.out.size))
            clear hb a0 a1 x0 x1
            obtain ⟨z0, z1⟩ := R3.out.two
            have zf := R3.out.frozen 0
            have zg := R3.out.frozen 1
            go_wp2
            obtain ⟨r0, r1⟩ := (R3.out.set2 (.slice none 0 0) (.slice none 0 0)).two
            exact bodyPost_ret (v := .tuple #[.agg #[.slice none 0 0, .slice none 0 0], .int .i64 (4)]) (by simp [results, Try.results165, go_sem, r0, r1]) rfl (by rw [FE.out]; exact AnsCE.no ((D8.out.setCell (by show w.heap.size ≤ w.heap.size + 1 + 1 + 1; omega) _).setCell (by show w.heap.size ≤ w.heap.size + 1 + 1 + 1; omega) _))
end Go.Proofs.Ytmnacahoamkokaa
