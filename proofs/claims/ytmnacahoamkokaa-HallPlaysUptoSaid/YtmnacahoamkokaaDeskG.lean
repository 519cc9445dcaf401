/- The contract of QDo. Conditions: the net, the roles and the desk read as lists; each item is of a transition. -/
import Derived.Test.YtmnacahoamkokaaDeskF
import Derived.Test.YtmnacahoamkokaaJourD
namespace Go.Proofs.Ytmnacahoamkokaa
open Go.RowKit

/-- The same desk, and why not. -/
def AnsNo (B : Option Addr) (m d : Nat) (D : Option Addr) (l f : Nat) (I : Option Addr) (n c : Nat) (x : Int) (w : World) (e : Ending) (w' : World) : Prop :=
  e = .returned (.tuple #[.agg #[.slice B m d, .slice D l f, .slice I n c], .agg #[.int .i64 x, .int .i64 0]]) ∧ Below w.heap.size w w'
set_option maxRecDepth 100000 in
theorem no_calls {w : World} {b : Nat} {B D I : Option Addr} {m d l f n c : Nat} (x : Int) (h : Box w b 78 #[.slice B m d, .slice D l f, .slice I n c]) :
    Calls Try.prog 163 #[.int .i64 x, .pointer (some ⟨b, 0, none⟩)] w (AnsNo B m d D l f I n c x w) := by
  generalize hw : (w.alloc (.cells #[.slice none 0 0, .slice none 0 0, .slice none 0 0] 78)).alloc (.cells #[.int .i64 0, .int .i64 0] 85) = w0
  have HB := hide2 (show Below w.heap.size w w0 by rw [← hw]; exact ((Below.refl _ _).alloc (Nat.le_refl _) _).alloc (by simp) _)
  have X0 := hide2 (show Box w0 w.heap.size 78 #[.slice none 0 0, .slice none 0 0, .slice none 0 0] by rw [← hw]; exact (Box.new _ _ _).old _)
  have X1 := hide2 (show Box w0 (w.heap.size + 1) 85 #[.int .i64 0, .int .i64 0] by rw [← hw]; exact Box.newAt (by simp) _ _)
  have XH := hide2 (h.keep HB.out)
  clear h
  go_enter Try.func163, Try.ntmps163
  go_upto_region 1 with fail
  clear hw
  obtain ⟨h0, h1, h2⟩ := XH.out.three
  obtain ⟨z0, z1, z2⟩ := X0.out.three
  obtain ⟨v0, v1⟩ := X1.out.two
  have f0 := X0.out.frozen 0
  have f1 := X0.out.frozen 1
  have f2 := X0.out.frozen 2
  have g0 := X1.out.frozen 0
  have g1 := X1.out.frozen 1
  have U0 := hide2 (((X0.out.set3 (.slice B m d) (.slice D l f) (.slice I n c)).other (a := ⟨w.heap.size + 1, 0, none⟩) (.int .i64 x) (by show w.heap.size ≠ w.heap.size + 1; omega)).other (a := ⟨w.heap.size + 1, 1, none⟩) (.int .i64 0) (by show w.heap.size ≠ w.heap.size + 1; omega))
  have U1 := hide2 ((((X1.out.other (a := ⟨w.heap.size, 0, none⟩) (.slice B m d) (by show w.heap.size + 1 ≠ w.heap.size; omega)).other (a := ⟨w.heap.size, 1, none⟩) (.slice D l f) (by show w.heap.size + 1 ≠ w.heap.size; omega)).other (a := ⟨w.heap.size, 2, none⟩) (.slice I n c) (by show w.heap.size + 1 ≠ w.heap.size; omega)).set2 (.int .i64 x) (.int .i64 0))
  have UB := hide2 (((below_set3 HB.out (Nat.le_refl _) (.slice B m d) (.slice D l f) (.slice I n c)).setCell (p := ⟨w.heap.size + 1, 0, none⟩) (by show w.heap.size ≤ w.heap.size + 1; omega) (.int .i64 x)).setCell (p := ⟨w.heap.size + 1, 1, none⟩) (by show w.heap.size ≤ w.heap.size + 1; omega) (.int .i64 0))
  go_wp2
  obtain ⟨r0, r1, r2⟩ := U0.out.three
  obtain ⟨r3, r4⟩ := U1.out.two
  exact bodyPost_ret (v := .tuple #[.agg #[.slice B m d, .slice D l f, .slice I n c], .agg #[.int .i64 x, .int .i64 0]]) (by simp [results, Try.results163, go_sem, r0, r1, r2, r3, r4]) rfl ⟨rfl, UB.out⟩

theorem OwnItems.putUser {w : World} {B g n cap i : Nat} {L : List PItem} {x : PItem} {u : Int} (h : OwnItems w B (.slice (some ⟨g, 0, none⟩) n cap) n L) (hi : i < n) (hx : L[i]? = some x) : OwnItems (w.setCell ⟨g, i * 3, none⟩ (.int .i64 u)) B (.slice (some ⟨g, 0, none⟩) n cap) n (L.set i ⟨u, x.tran, x.open_⟩) := by
  obtain ⟨cells, h1, h2, h3⟩ := h
  have hl := h1.1
  refine ⟨_, (h1.stored (i * 3) (.int .i64 u)).1, ⟨by simp [h2.1], fun q y hy => ?_⟩, by rw [List.length_set]; exact h3⟩
  by_cases e : q = i
  · subst e
    rw [List.getElem?_set_self (by omega)] at hy
    injection hy with hy
    subst hy
    obtain ⟨vs, a1, a2, a3, a4⟩ := h2.2 q x hx
    refine ⟨fun j => match j with | 0 => .int .i64 u | 1 => vs 1 | _ => vs 2, fun j hj => ?_, rfl, a3, a4⟩
    match j, hj with
    | 0, _ => exact List.getElem?_set_self (by omega)
    | 1, _ => rw [List.getElem?_set_ne (by omega)]; exact a1 1 (by omega)
    | 2, _ => rw [List.getElem?_set_ne (by omega)]; exact a1 2 (by omega)
  · rw [List.getElem?_set_ne (fun e2 => e e2.symm)] at hy
    obtain ⟨vs, a1, a2⟩ := h2.2 q y hy
    exact ⟨vs, fun j hj => by rw [List.getElem?_set_ne (by omega)]; exact a1 j hj, a2⟩
theorem OwnItems.putOpen {w : World} {B g n cap i : Nat} {L : List PItem} {x : PItem} {u : Bool} (h : OwnItems w B (.slice (some ⟨g, 0, none⟩) n cap) n L) (hi : i < n) (hx : L[i]? = some x) : OwnItems (w.setCell ⟨g, i * 3 + 2, none⟩ (.bool u)) B (.slice (some ⟨g, 0, none⟩) n cap) n (L.set i ⟨x.user, x.tran, u⟩) := by
  obtain ⟨cells, h1, h2, h3⟩ := h
  have hl := h1.1
  refine ⟨_, (h1.stored (i * 3 + 2) (.bool u)).1, ⟨by simp [h2.1], fun q y hy => ?_⟩, by rw [List.length_set]; exact h3⟩
  by_cases e : q = i
  · subst e
    rw [List.getElem?_set_self (by omega)] at hy
    injection hy with hy
    subst hy
    obtain ⟨vs, a1, a2, a3, a4⟩ := h2.2 q x hx
    refine ⟨fun j => match j with | 0 => vs 0 | 1 => vs 1 | _ => .bool u, fun j hj => ?_, a2, a3, rfl⟩
    match j, hj with
    | 0, _ => rw [List.getElem?_set_ne (by omega)]; exact a1 0 (by omega)
    | 1, _ => rw [List.getElem?_set_ne (by omega)]; exact a1 1 (by omega)
    | 2, _ => exact List.getElem?_set_self (by omega)
  · rw [List.getElem?_set_ne (fun e2 => e e2.symm)] at hy
    obtain ⟨vs, a1, a2⟩ := h2.2 q y hy
    exact ⟨vs, fun j hj => by rw [List.getElem?_set_ne (by omega)]; exact a1 j hj, a2⟩
theorem farBox {w : World} {B e : Nat} {A : Option Addr} {n c b ty : Nat} {xs : List PItem} {cs : Array Value} (own : OwnItems w B (.slice A n c) n xs) (x : Box w b ty cs) (hne : 201 ≠ ty) (_ : e = e) : ∀ b' off, A = some ⟨b', off, none⟩ → 0 < n → b' ≠ b := by
  intro b' off e' _ hb
  have := OwnSl.notBox own x hne
  rw [e'] at this
  exact this (by rw [hb]; rfl)
theorem OwnSl.arrAny {α : Type} {R : World → (Nat → Value) → α → Prop} {sz : Nat} {w : World} {B e n c : Nat} {A : Option Addr} {xs : List α} (h : OwnSl R sz w B e (.slice A n c) n xs) (hn : n ≤ 281474976710656) : Sl R sz w A n c xs := by
  obtain ⟨A2, k, hv, s⟩ := h.sl hn
  injection hv with h1 h2 h3
  subst h1 h3
  exact s
theorem freshOwn {w w0 : World} {e : Nat} {A : Option Addr} {n c : Nat} {xs : List PItem} (own : OwnItems w w0.heap.size (.slice A n c) n xs) (_ : e = e) : Fresh w0 A := fun a ha => (OwnSl.lt own a.block (by rw [ha]; rfl)).1

set_option maxRecDepth 100000 in
set_option maxHeartbeats 32000000 in
theorem qdo_calls {w : World} {P : Int} {A R B D I : Option Addr} {n c r q m d l e ni ci : Nat} {ts : List PTran} {roles : List (List Int)} {k : PDesk} (o : POp) (h : Trans w A n c ts) (g : Lists w R r q roles) (x : DeskW w B m d D l e I ni ci k) (hl : l ≤ 17592186044416) (hni : ni ≤ 5864062014634) (hin : ∀ it ∈ k.items, inT ⟨P, ts⟩ it.tran) :
    Calls Try.prog 106 #[.agg #[.int .i64 P, .slice A n c], .slice R r q, .agg #[.slice B m d, .slice D l e, .slice I ni ci], .agg #[.int .i64 o.kind, .int .i64 o.user, .int .i64 o.tran, .int .i64 o.item, .int .i64 o.to_]] w (AnsStep B m D l I ni (stepD ⟨P, ts⟩ roles k o) w) := by
  obtain ⟨kk, hkk⟩ : ∃ it, o.kind = it := ⟨_, rfl⟩
  obtain ⟨tr, htr⟩ : ∃ it, o.tran = it := ⟨_, rfl⟩
  obtain ⟨it, hit⟩ : ∃ it, o.item = it := ⟨_, rfl⟩
  obtain ⟨ou, hou⟩ : ∃ it, o.user = it := ⟨_, rfl⟩
  obtain ⟨ot, hot⟩ : ∃ it, o.to_ = it := ⟨_, rfl⟩
  have HKK := hide2 hkk
  have HTR := hide2 htr
  have HIT := hide2 hit
  have HOU := hide2 hou
  have HOT := hide2 hot
  rw [hkk, htr, hit, hou, hot]
  generalize hw : ((((w.alloc (.cells #[.int .i64 P, .slice A n c] 27)).alloc (.cells #[.slice B m d, .slice D l e, .slice I ni ci] 78)).alloc (.cells #[.int .i64 kk, .int .i64 ou, .int .i64 tr, .int .i64 it, .int .i64 ot] 187)).alloc (.cells #[.slice none 0 0, .slice none 0 0, .slice none 0 0] 78)).alloc (.cells #[.int .i64 0, .int .i64 0] 85) = w0
  have HB := hide2 (show Below w.heap.size w w0 by rw [← hw]; exact (((((Below.refl _ _).alloc (Nat.le_refl _) _).alloc (by simp) _).alloc (by simp; omega) _).alloc (by simp; omega) _).alloc (by simp; omega) _)
  have X0 := hide2 (show Box w0 w.heap.size 27 #[.int .i64 P, .slice A n c] by rw [← hw]; exact ((((Box.new _ _ _).old _).old _).old _).old _)
  have X1 := hide2 (show Box w0 (w.heap.size + 1) 78 #[.slice B m d, .slice D l e, .slice I ni ci] by rw [← hw]; exact (((Box.newAt (by simp) _ _).old _).old _).old _)
  have X2 := hide2 (show Box w0 (w.heap.size + 1 + 1) 187 #[.int .i64 kk, .int .i64 ou, .int .i64 tr, .int .i64 it, .int .i64 ot] by rw [← hw]; exact ((Box.newAt (by simp) _ _).old _).old _)
  have X3 := hide2 (show Box w0 (w.heap.size + 1 + 1 + 1) 78 #[.slice none 0 0, .slice none 0 0, .slice none 0 0] by rw [← hw]; exact (Box.newAt (by simp) _ _).old _)
  have X4 := hide2 (show Box w0 (w.heap.size + 1 + 1 + 1 + 1) 85 #[.int .i64 0, .int .i64 0] by rw [← hw]; exact Box.newAt (by simp) _ _)
  have XO := hide2 x
  have HO := hide2 h
  have GO := hide2 g
  have HIN := hide2 hin
  have hn := h.small
  have HL := hide2 h.len
  clear h g x hkk htr hit hou hot hin
  go_enter Try.func106, Try.ntmps106
  go_upto_region 2 with fail
  clear hw
  obtain ⟨y0, y1, y2, y3, y4⟩ := X2.out.five
  have NB := newBelow w0 (.cells #[.int .i64 0, .int .i64 tr] 255)
  have XB := hide2 (Box.new w0 #[.int .i64 0, .int .i64 tr] 255)
  have Y0 := hide2 (X0.out.keep NB)
  have Y1 := hide2 (X1.out.keep NB)
  have Y2 := hide2 (X2.out.keep NB)
  have Y3 := hide2 (X3.out.keep NB)
  have Y4 := hide2 (X4.out.keep NB)
  have BB := hide2 (HB.out.trans (NB.mono HB.out.size))
  have SZ := hide2 (show w.heap.size + 1 + 1 + 1 + 1 < w0.heap.size from X4.out.lt)
  go_upto_region 3 with fail
  clear X0 X1 X2 X3 X4 HB NB y0 y1 y2 y3 y4
  generalize w0.alloc (.cells #[.int .i64 0, .int .i64 tr] 255) = w1 at *
  generalize w0.heap.size = bo at *
  obtain ⟨c0, c1, c2⟩ := (Y1.out.old (.cells #[] 201)).three
  have NB2 := newBelow w1 (.cells #[] 201)
  have OE := hide2 (OwnSl.empty (R := ItemR) (sz := 3) (w := w1) (B := w.heap.size) (e := 201) BB.out.size)
  have SI := hide2 (Sl.keep ItemR.kept XO.out.items (BB.out.trans (NB2.mono BB.out.size)))
  have B2 := hide2 (BB.out.trans (NB2.mono BB.out.size))
  go_upto_region 4 with (at_builtin; refine wpList_appAny tyItems ItemR.good rfl _ _ rfl rfl rfl OE.out SI.out B2.out B2.out.size (by omega) (by omega) (fun _ _ _ _ h => h) ?_; intro v12 w3 own3 hg3 hb3; have O3 := hide2 own3; have B3 := hide2 hb3; have G3 := hide2 hg3; clear own3 hg3 hb3)
  have hro : ∀ b, b < w1.heap.size → (Value.slice (some ⟨w1.heap.size, 0, none⟩) 0 0).ownBlock ≠ some b := fun b hb e => by simp only [Value.ownBlock, Option.some.injEq] at e; omega
  have V0 := hide2 ((Y0.out.old _).grown G3.out (hro _ Y0.out.lt))
  have V1 := hide2 ((Y1.out.old _).grown G3.out (hro _ Y1.out.lt))
  have V2 := hide2 ((Y2.out.old _).grown G3.out (hro _ Y2.out.lt))
  have V3 := hide2 ((Y3.out.old _).grown G3.out (hro _ Y3.out.lt))
  have V4 := hide2 ((Y4.out.old _).grown G3.out (hro _ Y4.out.lt))
  have VB := hide2 ((XB.out.old _).grown G3.out (hro _ XB.out.lt))
  have OI := hide2 (show OwnItems w3 w.heap.size v12 ni k.items by simpa using O3.out)
  have BX := hide2 B3.out
  clear hro Y0 Y1 Y2 Y3 Y4 XB O3 B3 G3 OE SI B2 NB2 BB c0 c1 c2
  obtain ⟨AI, cI, hv12, sI⟩ := OI.out.sl (by omega)
  subst hv12
  have S12 := hide2 sI
  clear sI
  obtain ⟨y0, y1, y2, y3, y4⟩ := V2.out.five
  obtain ⟨a0, a1⟩ := V0.out.two
  obtain ⟨q0, q1⟩ := VB.out.two
  have qf0 := VB.out.frozen 0
  have qf1 := VB.out.frozen 1
  have hn5 : bo ≠ w.heap.size ∧ bo ≠ w.heap.size + 1 ∧ bo ≠ w.heap.size + 1 + 1 ∧ bo ≠ w.heap.size + 1 + 1 + 1 ∧ bo ≠ w.heap.size + 1 + 1 + 1 + 1 := by have := SZ.out; omega
  obtain ⟨n50, n51, n52, n53, n54⟩ := hn5
  have HN := hide2 (And.intro n50 (And.intro n51 (And.intro n52 (And.intro n53 n54))))
  clear n50 n51 n52 n53 n54
  by_cases h5 : kk = 5
  · subst h5
    have NB5 := hide2 (OI.out.notBox VB.out (by decide))
    go_upto_region 32 with fail
    clear y0 y1 y2 y3 y4 a0 a1 q0 q1 qf0 qf1
    have C0 := hide2 ((V0.out.other (a := ⟨bo, 0, none⟩) (.int .i64 1) HN.out.1.symm))
    have C1 := hide2 ((V1.out.other (a := ⟨bo, 0, none⟩) (.int .i64 1) HN.out.2.1.symm))
    have C2 := hide2 ((V2.out.other (a := ⟨bo, 0, none⟩) (.int .i64 1) HN.out.2.2.1.symm))
    have C3 := hide2 ((V3.out.other (a := ⟨bo, 0, none⟩) (.int .i64 1) HN.out.2.2.2.1.symm))
    have C4 := hide2 ((V4.out.other (a := ⟨bo, 0, none⟩) (.int .i64 1) HN.out.2.2.2.2.symm))
    have CB := hide2 (VB.out.set 0 (.int .i64 1))
    simp only [List.setIfInBounds_toArray, List.set_cons_zero] at CB
    have OJ := hide2 ((OwnSl.setOther OI.out (p := ⟨bo, 0, none⟩) (u := .int .i64 1) NB5.out (fun _ _ h => h)))
    have BY := hide2 (BX.out.setCell (p := ⟨bo, 0, none⟩) (by show w.heap.size ≤ bo; have := SZ.out; omega) (.int .i64 1))
    have FI := hide2 (farBox (e := 0) OJ.out C4.out (by decide) rfl)
    have FRI := hide2 (freshOwn (e := 0) OJ.out rfl)
    have SJ := hide2 (OwnSl.arrAny OJ.out (by omega))
    clear V0 V1 V2 V3 V4 VB OI S12 BX C2 NB5 OJ
    generalize w3.setCell ⟨bo, 0, none⟩ (.int .i64 1) = wy at *
    have CD := hide2 (refDo_calls (P := P) 1 tr (HO.out.keep BY.out) (XO.out.mark.keep BY.out) (XO.out.busy.keep BY.out) hl)
    obtain ⟨p, hp⟩ : ∃ p, doL ⟨P, ts⟩ k.case_ 1 tr = p := ⟨_, rfl⟩
    rw [hp] at CD
    have HP := hide2 hp
    clear hp
    obtain ⟨a0, a1⟩ := C0.out.two
    obtain ⟨c0, c1, c2⟩ := C1.out.three
    obtain ⟨q0, q1⟩ := CB.out.two
    go_upto_region 33 with (go_at_call 165; (with_reducible refine CD.out.mono ?_); rintro e6 w6 ⟨A3, n3, k3, A4, n4, k4, rfl, i3, i4, hb6, fr3, fr4⟩; have I3 := hide2 i3; have I4 := hide2 i4; have B6 := hide2 hb6; have FR3 := hide2 fr3; have FR4 := hide2 fr4; clear i3 i4 hb6 fr3 fr4 a0 a1 c0 c1 c2 q0 q1)
    have XC := hide2 (Box.new w6 #[.slice A3 n3 k3, .slice A4 n4 k4] 75)
    have NB := newBelow w6 (.cells #[.slice A3 n3 k3, .slice A4 n4 k4] 75)
    have bb := B6.out.trans (NB.mono B6.out.size)
    have E1 := hide2 (C1.out.keep bb)
    have E3 := hide2 (C3.out.keep bb)
    have E4 := hide2 (C4.out.keep bb)
    have J3 := hide2 (I3.out.keep NB)
    have J4 := hide2 (I4.out.keep NB)
    have SK := hide2 (Sl.keep ItemR.kept SJ.out bb)
    have BE := hide2 (BY.out.trans (bb.mono BY.out.size))
    have hs4 := C4.out.lt
    have f3 : ∀ b' off, A3 = some ⟨b', off, none⟩ → 0 < n3 → b' ≠ w.heap.size + 1 + 1 + 1 + 1 := fun b' off e' _ => by have hq : wy.heap.size ≤ b' := FR3.out _ e'; omega
    have f4 : ∀ b' off, A4 = some ⟨b', off, none⟩ → 0 < n4 → b' ≠ w.heap.size + 1 + 1 + 1 + 1 := fun b' off e' _ => by have hq : wy.heap.size ≤ b' := FR4.out _ e'; omega
    have F3 := hide2 f3
    have F4 := hide2 f4
    have OF3 := hide2 (FR3.out.mono BY.out.size)
    have OF4 := hide2 (FR4.out.mono BY.out.size)
    clear f3 f4 FR3 FR4 I3 I4 B6 NB bb C0 C1 C3 C4 CB SJ BY CD hs4
    generalize w6.alloc (.cells #[.slice A3 n3 k3, .slice A4 n4 k4] 75) = w7 at *
    generalize w6.heap.size = bq at *
    by_cases he : p.2 = 0
    · have FN := hide2 (show stepD ⟨P, ts⟩ roles k o = (⟨p.1, k.items⟩, 0, 0) by rw [stepD_5 HKK.out, skipD_yes (p := p) (by rw [HTR.out]; exact HP.out) he])
      have hee : (p.2 != 0) = false := by simpa using he
      clear he
      obtain ⟨q0, q1⟩ := XC.out.two
      obtain ⟨z0, z1, z2⟩ := E3.out.three
      obtain ⟨v0, v1⟩ := E4.out.two
      have fz0 := E3.out.frozen 0
      have fz1 := E3.out.frozen 1
      have fz2 := E3.out.frozen 2
      have g0 := E4.out.frozen 0
      have g1 := E4.out.frozen 1
      have U3 := hide2 (((E3.out.set3 (.slice A3 n3 k3) (.slice A4 n4 k4) (.slice AI ni cI)).other (a := ⟨w.heap.size + 1 + 1 + 1 + 1, 0, none⟩) (.int .i64 0) (by show w.heap.size + 1 + 1 + 1 ≠ w.heap.size + 1 + 1 + 1 + 1; omega)).other (a := ⟨w.heap.size + 1 + 1 + 1 + 1, 1, none⟩) (.int .i64 0) (by show w.heap.size + 1 + 1 + 1 ≠ w.heap.size + 1 + 1 + 1 + 1; omega))
      have U4 := hide2 ((((E4.out.other (a := ⟨w.heap.size + 1 + 1 + 1, 0, none⟩) (.slice A3 n3 k3) (by show w.heap.size + 1 + 1 + 1 + 1 ≠ w.heap.size + 1 + 1 + 1; omega)).other (a := ⟨w.heap.size + 1 + 1 + 1, 1, none⟩) (.slice A4 n4 k4) (by show w.heap.size + 1 + 1 + 1 + 1 ≠ w.heap.size + 1 + 1 + 1; omega)).other (a := ⟨w.heap.size + 1 + 1 + 1, 2, none⟩) (.slice AI ni cI) (by show w.heap.size + 1 + 1 + 1 + 1 ≠ w.heap.size + 1 + 1 + 1; omega)).set2 (.int .i64 0) (.int .i64 0))
      have UB := hide2 (((below_set3 BE.out (show w.heap.size ≤ w.heap.size + 1 + 1 + 1 by omega) (.slice A3 n3 k3) (.slice A4 n4 k4) (.slice AI ni cI)).setCell (p := ⟨w.heap.size + 1 + 1 + 1 + 1, 0, none⟩) (by show w.heap.size ≤ w.heap.size + 1 + 1 + 1 + 1; omega) (.int .i64 0)).setCell (p := ⟨w.heap.size + 1 + 1 + 1 + 1, 1, none⟩) (by show w.heap.size ≤ w.heap.size + 1 + 1 + 1 + 1; omega) (.int .i64 0))
      have UD := hide2 (((DeskW.beside (show DeskW w7 A3 n3 k3 A4 n4 k4 AI ni cI ⟨p.1, k.items⟩ from ⟨J3.out, J4.out, SK.out⟩) E3.out noInt3 (Beside.set3 _ _ (.slice A3 n3 k3) (.slice A4 n4 k4) (.slice AI ni cI))).set (p := ⟨w.heap.size + 1 + 1 + 1 + 1, 0, none⟩) (v := .int .i64 0) F3.out F4.out FI.out).set (p := ⟨w.heap.size + 1 + 1 + 1 + 1, 1, none⟩) (v := .int .i64 0) F3.out F4.out FI.out)
      go_wp2
      obtain ⟨r0, r1, r2⟩ := U3.out.three
      obtain ⟨r3, r4⟩ := U4.out.two
      exact bodyPost_ret (v := .tuple #[.agg #[.slice A3 n3 k3, .slice A4 n4 k4, .slice AI ni cI], .agg #[.int .i64 0, .int .i64 0]]) (by simp [results, Try.results106, go_sem, r0, r1, r2, r3, r4]) rfl (by rw [FN.out]; exact ⟨_, _, _, _, _, _, _, _, _, rfl, UD.out, UB.out, .inr OF3.out, .inr OF4.out, .inr FRI.out⟩)
    · have FN := hide2 (show stepD ⟨P, ts⟩ roles k o = (k, 0, p.2) by rw [stepD_5 HKK.out, skipD_err (p := p) (by rw [HTR.out]; exact HP.out) he])
      have hee : (p.2 != 0) = true := by simpa using he
      clear he
      go_wp2_with (go_at_call 163; (with_reducible refine (no_calls p.2 E1.out).mono ?_); rintro e5 w5 ⟨rfl, hb5⟩; have B5 := hide2 hb5; clear hb5; obtain ⟨z0, z1, z2⟩ := (E3.out.keep B5.out).three; obtain ⟨v0, v1⟩ := (E4.out.keep B5.out).two; have fz0 := (E3.out.keep B5.out).frozen 0; have fz1 := (E3.out.keep B5.out).frozen 1; have fz2 := (E3.out.keep B5.out).frozen 2; have g0 := (E4.out.keep B5.out).frozen 0; have g1 := (E4.out.keep B5.out).frozen 1; have U3 := hide2 ((((E3.out.keep B5.out).set3 (.slice B m d) (.slice D l e) (.slice I ni ci)).other (a := ⟨w.heap.size + 1 + 1 + 1 + 1, 0, none⟩) (.int .i64 p.2) (by show w.heap.size + 1 + 1 + 1 ≠ w.heap.size + 1 + 1 + 1 + 1; omega)).other (a := ⟨w.heap.size + 1 + 1 + 1 + 1, 1, none⟩) (.int .i64 0) (by show w.heap.size + 1 + 1 + 1 ≠ w.heap.size + 1 + 1 + 1 + 1; omega)); have U4 := hide2 (((((E4.out.keep B5.out).other (a := ⟨w.heap.size + 1 + 1 + 1, 0, none⟩) (.slice B m d) (by show w.heap.size + 1 + 1 + 1 + 1 ≠ w.heap.size + 1 + 1 + 1; omega)).other (a := ⟨w.heap.size + 1 + 1 + 1, 1, none⟩) (.slice D l e) (by show w.heap.size + 1 + 1 + 1 + 1 ≠ w.heap.size + 1 + 1 + 1; omega)).other (a := ⟨w.heap.size + 1 + 1 + 1, 2, none⟩) (.slice I ni ci) (by show w.heap.size + 1 + 1 + 1 + 1 ≠ w.heap.size + 1 + 1 + 1; omega)).set2 (.int .i64 p.2) (.int .i64 0)); have UB := hide2 (((below_set3 (BE.out.trans (B5.out.mono BE.out.size)) (show w.heap.size ≤ w.heap.size + 1 + 1 + 1 by omega) (.slice B m d) (.slice D l e) (.slice I ni ci)).setCell (p := ⟨w.heap.size + 1 + 1 + 1 + 1, 0, none⟩) (by show w.heap.size ≤ w.heap.size + 1 + 1 + 1 + 1; omega) (.int .i64 p.2)).setCell (p := ⟨w.heap.size + 1 + 1 + 1 + 1, 1, none⟩) (by show w.heap.size ≤ w.heap.size + 1 + 1 + 1 + 1; omega) (.int .i64 0)))
      obtain ⟨r0, r1, r2⟩ := U3.out.three
      obtain ⟨r3, r4⟩ := U4.out.two
      exact bodyPost_ret (v := .tuple #[.agg #[.slice B m d, .slice D l e, .slice I ni ci], .agg #[.int .i64 p.2, .int .i64 0]]) (by simp [results, Try.results106, go_sem, r0, r1, r2, r3, r4]) rfl (by rw [FN.out]; exact ⟨_, _, _, _, _, _, _, _, _, rfl, XO.out.keep UB.out, UB.out, .inl ⟨rfl, rfl⟩, .inl ⟨rfl, rfl⟩, .inl ⟨rfl, rfl⟩⟩)
  · by_cases h1 : kk = 1
    · subst h1
      clear h5
      by_cases hr : 0 ≤ tr ∧ tr < (n : Int)
      · obtain ⟨j, rfl⟩ : ∃ j : Nat, tr = (j : Int) := ⟨tr.toNat, by omega⟩
        have hjn : j < n := by omega
        have hji : (j : Int) < (n : Int) := by omega
        have INT := hide2 (show inT ⟨P, ts⟩ o.tran by rw [HTR.out]; exact ⟨by omega, by show (j : Int) < (ts.length : Int); rw [HL.out]; exact hji⟩)
        have H3 := hide2 (HO.out.keep BX.out)
        clear hr
        obtain ⟨b, off, t, A1, n1, c1', A2, n2, c2', rfl, hb, ht, l0, l1, l2, _⟩ := Trans.get H3.out hjn
        have LB := hide2 (show labelL ⟨P, ts⟩ o.tran = t.label by rw [HTR.out]; exact labelL_at ht.out)
        clear l1 l2
        obtain ⟨lb, hlb⟩ : ∃ lb, t.label = lb := ⟨_, rfl⟩
        rw [hlb] at l0 LB
        obtain ⟨mv, hmv⟩ : ∃ v, mayL roles ou lb = v := ⟨_, rfl⟩
        have CM := hide2 (fun (w' : World) (hb : Below w3.heap.size w3 w') => qmay_calls ou lb (Sl.keep ListR.kept GO.out (BX.out.trans (hb.mono BX.out.size))))
        simp only [hmv] at CM
        have HMV := hide2 (show mayL roles o.user (labelL ⟨P, ts⟩ o.tran) = mv by rw [LB.out, HOU.out]; exact hmv)
        clear hmv hlb
        have DR := hide2 ((Below.refl w3.heap.size w3).drew)
        go_upto_region 12 with fail
        clear a0 a1 q0 q1 qf0 qf1 y0 y1 y2 y3 y4
        have hS : Hid (w3.cell? ⟨w.heap.size + 1 + 1, 1, none⟩ = some (.int .i64 ou) ∧ w3.cell? ⟨w.heap.size + 1 + 1, 2, none⟩ = some (.int .i64 (j : Int)) ∧ w3.cell? ⟨w.heap.size, 1, none⟩ = some (.slice (some ⟨b, off, none⟩) n c) ∧ w3.cell? ⟨b, off + j * 3, none⟩ = some (.int .i64 lb)) := by
          obtain ⟨_, y1, y2, _, _⟩ := V2.out.five
          exact ⟨y1, y2, V0.out.two.2, l0⟩
        obtain ⟨y1, y2, a1, l9⟩ := hS.out
        clear l0 hS
        go_region_held3 (fun w' => w'.cell? ⟨w.heap.size + 1 + 1, 1, none⟩ = some (.int .i64 ou) ∧ w'.cell? ⟨w.heap.size + 1 + 1, 2, none⟩ = some (.int .i64 (j : Int)) ∧ w'.cell? ⟨w.heap.size, 1, none⟩ = some (.slice (some ⟨b, off, none⟩) n c) ∧ w'.cell? ⟨b, off + j * 3, none⟩ = some (.int .i64 lb))
          (first | go_keep)
          (first | (go_at_call 164; (with_reducible refine (CM.out _ DR.out).mono ?_); rintro e1 w9 ⟨rfl, rfl⟩))
        all_goals
          clear y1 y2 a1 l9 CM
          have W0 := hide2 (V0.out.keep DR.out)
          have W1 := hide2 (V1.out.keep DR.out)
          have W2 := hide2 (V2.out.keep DR.out)
          have W3 := hide2 (V3.out.keep DR.out)
          have W4 := hide2 (V4.out.keep DR.out)
          have WB := hide2 (VB.out.keep DR.out)
          have OK := hide2 (OwnSl.keep ItemR.kept OI.out DR.out)
          have BK := hide2 (BX.out.trans (DR.out.mono BX.out.size))
          clear V0 V1 V2 V3 V4 VB OI S12 BX DR H3 hb
          generalize w3.drew = wd at *
          cases mv
          · have FN := hide2 (show stepD ⟨P, ts⟩ roles k o = (k, 0, 6) by rw [stepD_1 HKK.out, beginD_may INT.out HMV.out])
            go_wp2_with (go_at_call 163; (with_reducible refine (no_calls 6 W1.out).mono ?_); rintro e5 w5 ⟨rfl, hb5⟩; have B5 := hide2 hb5; clear hb5; obtain ⟨z0, z1, z2⟩ := (W3.out.keep B5.out).three; obtain ⟨v0, v1⟩ := (W4.out.keep B5.out).two; have fz0 := (W3.out.keep B5.out).frozen 0; have fz1 := (W3.out.keep B5.out).frozen 1; have fz2 := (W3.out.keep B5.out).frozen 2; have g0 := (W4.out.keep B5.out).frozen 0; have g1 := (W4.out.keep B5.out).frozen 1; have U3 := hide2 ((((W3.out.keep B5.out).set3 (.slice B m d) (.slice D l e) (.slice I ni ci)).other (a := ⟨w.heap.size + 1 + 1 + 1 + 1, 0, none⟩) (.int .i64 6) (by show w.heap.size + 1 + 1 + 1 ≠ w.heap.size + 1 + 1 + 1 + 1; omega)).other (a := ⟨w.heap.size + 1 + 1 + 1 + 1, 1, none⟩) (.int .i64 0) (by show w.heap.size + 1 + 1 + 1 ≠ w.heap.size + 1 + 1 + 1 + 1; omega)); have U4 := hide2 (((((W4.out.keep B5.out).other (a := ⟨w.heap.size + 1 + 1 + 1, 0, none⟩) (.slice B m d) (by show w.heap.size + 1 + 1 + 1 + 1 ≠ w.heap.size + 1 + 1 + 1; omega)).other (a := ⟨w.heap.size + 1 + 1 + 1, 1, none⟩) (.slice D l e) (by show w.heap.size + 1 + 1 + 1 + 1 ≠ w.heap.size + 1 + 1 + 1; omega)).other (a := ⟨w.heap.size + 1 + 1 + 1, 2, none⟩) (.slice I ni ci) (by show w.heap.size + 1 + 1 + 1 + 1 ≠ w.heap.size + 1 + 1 + 1; omega)).set2 (.int .i64 6) (.int .i64 0)); have UB := hide2 (((below_set3 (BK.out.trans (B5.out.mono BK.out.size)) (show w.heap.size ≤ w.heap.size + 1 + 1 + 1 by omega) (.slice B m d) (.slice D l e) (.slice I ni ci)).setCell (p := ⟨w.heap.size + 1 + 1 + 1 + 1, 0, none⟩) (by show w.heap.size ≤ w.heap.size + 1 + 1 + 1 + 1; omega) (.int .i64 6)).setCell (p := ⟨w.heap.size + 1 + 1 + 1 + 1, 1, none⟩) (by show w.heap.size ≤ w.heap.size + 1 + 1 + 1 + 1; omega) (.int .i64 0)))
            obtain ⟨r0, r1, r2⟩ := U3.out.three
            obtain ⟨r3, r4⟩ := U4.out.two
            exact bodyPost_ret (v := .tuple #[.agg #[.slice B m d, .slice D l e, .slice I ni ci], .agg #[.int .i64 6, .int .i64 0]]) (by simp [results, Try.results106, go_sem, r0, r1, r2, r3, r4]) rfl (by rw [FN.out]; exact ⟨_, _, _, _, _, _, _, _, _, rfl, XO.out.keep UB.out, UB.out, .inl ⟨rfl, rfl⟩, .inl ⟨rfl, rfl⟩, .inl ⟨rfl, rfl⟩⟩)
          · obtain ⟨y0, y1, y2, y3, y4⟩ := W2.out.five
            obtain ⟨q0, q1⟩ := WB.out.two
            have qf0 := WB.out.frozen 0
            go_upto_region 15 with fail
            clear q0 q1 qf0 y0 y1 y2 y3 y4
            have NB5 := hide2 (OK.out.notBox WB.out (by decide))
            have X0 := hide2 ((W0.out.other (a := ⟨bo, 0, none⟩) (.int .i64 2) HN.out.1.symm))
            have X1 := hide2 ((W1.out.other (a := ⟨bo, 0, none⟩) (.int .i64 2) HN.out.2.1.symm))
            have X2 := hide2 ((W2.out.other (a := ⟨bo, 0, none⟩) (.int .i64 2) HN.out.2.2.1.symm))
            have X3 := hide2 ((W3.out.other (a := ⟨bo, 0, none⟩) (.int .i64 2) HN.out.2.2.2.1.symm))
            have X4 := hide2 ((W4.out.other (a := ⟨bo, 0, none⟩) (.int .i64 2) HN.out.2.2.2.2.symm))
            have XB := hide2 (WB.out.set 0 (.int .i64 2))
            simp only [List.setIfInBounds_toArray, List.set_cons_zero] at XB
            have OJ := hide2 ((OwnSl.setOther OK.out (p := ⟨bo, 0, none⟩) (u := .int .i64 2) NB5.out (fun _ _ h => h)))
            have BZ := hide2 (BK.out.setCell (p := ⟨bo, 0, none⟩) (by show w.heap.size ≤ bo; have := SZ.out; omega) (.int .i64 2))
            clear W0 W1 W2 W3 W4 WB OK BK NB5
            generalize wd.setCell ⟨bo, 0, none⟩ (.int .i64 2) = wz at *
            obtain ⟨y0, y1, y2, y3, y4⟩ := X2.out.five
            go_upto_region 32 with (at_builtin; refine wpList_appNew tyItems rfl _ _ rfl [⟨ou, (j : Int), true⟩] #[.int .i64 ou, .int .i64 (j : Int), .bool true] rfl rfl (by first | rfl | simp) rfl (by simp [Value.oneCell']) OJ.out (Reads.item (x := ⟨ou, (j : Int), true⟩)) rfl BZ.out BZ.out.size (by omega) (by omega) (fun _ _ _ _ h => h) ?_; intro v13 wy own13 hg13 hb13; have O13 := hide2 own13; have G13 := hide2 hg13; have BY := hide2 hb13; clear own13 hg13 hb13)
            clear y0 y1 y2 y3 y4
            have C0 := hide2 (X0.out.grown G13.out (OJ.out.notBox X0.out (by decide)))
            have C1 := hide2 (X1.out.grown G13.out (OJ.out.notBox X1.out (by decide)))
            have C2 := hide2 (X2.out.grown G13.out (OJ.out.notBox X2.out (by decide)))
            have C3 := hide2 (X3.out.grown G13.out (OJ.out.notBox X3.out (by decide)))
            have C4 := hide2 (X4.out.grown G13.out (OJ.out.notBox X4.out (by decide)))
            have CB := hide2 (XB.out.grown G13.out (OJ.out.notBox XB.out (by decide)))
            obtain ⟨A13, c13, hv13, s13⟩ := O13.out.sl (by omega)
            subst hv13
            have SJ := hide2 s13
            have FI := hide2 (farBox (e := 0) O13.out C4.out (by decide) rfl)
            have FRI := hide2 (freshOwn (e := 0) O13.out rfl)
            clear X0 X1 X2 X3 X4 XB OJ BZ G13 O13 s13 C2
            have CD := hide2 (refDo_calls (P := P) 2 (j : Int) (HO.out.keep BY.out) (XO.out.mark.keep BY.out) (XO.out.busy.keep BY.out) hl)
            obtain ⟨p, hp⟩ : ∃ p, doL ⟨P, ts⟩ k.case_ 2 (j : Int) = p := ⟨_, rfl⟩
            rw [hp] at CD
            have HP := hide2 hp
            clear hp
            obtain ⟨a0, a1⟩ := C0.out.two
            obtain ⟨c0, c1, c2⟩ := C1.out.three
            obtain ⟨q0, q1⟩ := CB.out.two
            go_upto_region 33 with (go_at_call 165; (with_reducible refine CD.out.mono ?_); rintro e6 w6 ⟨A3, n3, k3, A4, n4, k4, rfl, i3, i4, hb6, fr3, fr4⟩; have I3 := hide2 i3; have I4 := hide2 i4; have B6 := hide2 hb6; have FR3 := hide2 fr3; have FR4 := hide2 fr4; clear i3 i4 hb6 fr3 fr4 a0 a1 c0 c1 c2 q0 q1)
            have XC := hide2 (Box.new w6 #[.slice A3 n3 k3, .slice A4 n4 k4] 75)
            have NB := newBelow w6 (.cells #[.slice A3 n3 k3, .slice A4 n4 k4] 75)
            have bb := B6.out.trans (NB.mono B6.out.size)
            have E1 := hide2 (C1.out.keep bb)
            have E3 := hide2 (C3.out.keep bb)
            have E4 := hide2 (C4.out.keep bb)
            have J3 := hide2 (I3.out.keep NB)
            have J4 := hide2 (I4.out.keep NB)
            have SK := hide2 (Sl.keep ItemR.kept SJ.out bb)
            have BE := hide2 (BY.out.trans (bb.mono BY.out.size))
            have hs4 := C4.out.lt
            have f3 : ∀ b' off, A3 = some ⟨b', off, none⟩ → 0 < n3 → b' ≠ w.heap.size + 1 + 1 + 1 + 1 := fun b' off e' _ => by have hq : wy.heap.size ≤ b' := FR3.out _ e'; omega
            have f4 : ∀ b' off, A4 = some ⟨b', off, none⟩ → 0 < n4 → b' ≠ w.heap.size + 1 + 1 + 1 + 1 := fun b' off e' _ => by have hq : wy.heap.size ≤ b' := FR4.out _ e'; omega
            have F3 := hide2 f3
            have F4 := hide2 f4
            have OF3 := hide2 (FR3.out.mono BY.out.size)
            have OF4 := hide2 (FR4.out.mono BY.out.size)
            clear f3 f4 FR3 FR4 I3 I4 B6 NB bb C0 C1 C3 C4 CB SJ BY CD hs4
            generalize w6.alloc (.cells #[.slice A3 n3 k3, .slice A4 n4 k4] 75) = w7 at *
            generalize w6.heap.size = bq at *
            by_cases he : p.2 = 0
            · have FN := hide2 (show stepD ⟨P, ts⟩ roles k o = (⟨p.1, k.items ++ [⟨ou, (j : Int), true⟩]⟩, (ni : Int), 0) by rw [stepD_1 HKK.out, beginD_yes INT.out HMV.out (by rw [HTR.out, HP.out]; exact he), HTR.out, HP.out, HOU.out, XO.out.items.len])
              have hee : (p.2 != 0) = false := by simpa using he
              clear he
              obtain ⟨q0, q1⟩ := XC.out.two
              obtain ⟨z0, z1, z2⟩ := E3.out.three
              obtain ⟨v0, v1⟩ := E4.out.two
              have fz0 := E3.out.frozen 0
              have fz1 := E3.out.frozen 1
              have fz2 := E3.out.frozen 2
              have g0 := E4.out.frozen 0
              have g1 := E4.out.frozen 1
              have U3 := hide2 (((E3.out.set3 (.slice A3 n3 k3) (.slice A4 n4 k4) (.slice A13 (ni + 1) c13)).other (a := ⟨w.heap.size + 1 + 1 + 1 + 1, 0, none⟩) (.int .i64 0) (by show w.heap.size + 1 + 1 + 1 ≠ w.heap.size + 1 + 1 + 1 + 1; omega)).other (a := ⟨w.heap.size + 1 + 1 + 1 + 1, 1, none⟩) (.int .i64 (ni : Int)) (by show w.heap.size + 1 + 1 + 1 ≠ w.heap.size + 1 + 1 + 1 + 1; omega))
              have U4 := hide2 ((((E4.out.other (a := ⟨w.heap.size + 1 + 1 + 1, 0, none⟩) (.slice A3 n3 k3) (by show w.heap.size + 1 + 1 + 1 + 1 ≠ w.heap.size + 1 + 1 + 1; omega)).other (a := ⟨w.heap.size + 1 + 1 + 1, 1, none⟩) (.slice A4 n4 k4) (by show w.heap.size + 1 + 1 + 1 + 1 ≠ w.heap.size + 1 + 1 + 1; omega)).other (a := ⟨w.heap.size + 1 + 1 + 1, 2, none⟩) (.slice A13 (ni + 1) c13) (by show w.heap.size + 1 + 1 + 1 + 1 ≠ w.heap.size + 1 + 1 + 1; omega)).set2 (.int .i64 0) (.int .i64 (ni : Int)))
              have UB := hide2 (((below_set3 BE.out (show w.heap.size ≤ w.heap.size + 1 + 1 + 1 by omega) (.slice A3 n3 k3) (.slice A4 n4 k4) (.slice A13 (ni + 1) c13)).setCell (p := ⟨w.heap.size + 1 + 1 + 1 + 1, 0, none⟩) (by show w.heap.size ≤ w.heap.size + 1 + 1 + 1 + 1; omega) (.int .i64 0)).setCell (p := ⟨w.heap.size + 1 + 1 + 1 + 1, 1, none⟩) (by show w.heap.size ≤ w.heap.size + 1 + 1 + 1 + 1; omega) (.int .i64 (ni : Int)))
              have UD := hide2 (((DeskW.beside (show DeskW w7 A3 n3 k3 A4 n4 k4 A13 (ni + 1) c13 ⟨p.1, k.items ++ [⟨ou, (j : Int), true⟩]⟩ from ⟨J3.out, J4.out, SK.out⟩) E3.out noInt3 (Beside.set3 _ _ (.slice A3 n3 k3) (.slice A4 n4 k4) (.slice A13 (ni + 1) c13))).set (p := ⟨w.heap.size + 1 + 1 + 1 + 1, 0, none⟩) (v := .int .i64 0) F3.out F4.out FI.out).set (p := ⟨w.heap.size + 1 + 1 + 1 + 1, 1, none⟩) (v := .int .i64 (ni : Int)) F3.out F4.out FI.out)
              go_wp2
              obtain ⟨r0, r1, r2⟩ := U3.out.three
              obtain ⟨r3, r4⟩ := U4.out.two
              exact bodyPost_ret (v := .tuple #[.agg #[.slice A3 n3 k3, .slice A4 n4 k4, .slice A13 (ni + 1) c13], .agg #[.int .i64 0, .int .i64 (ni : Int)]]) (by simp [results, Try.results106, go_sem, r0, r1, r2, r3, r4]) rfl (by rw [FN.out]; exact ⟨_, _, _, _, _, _, _, _, _, rfl, UD.out, UB.out, .inr OF3.out, .inr OF4.out, .inr FRI.out⟩)
            · have FN := hide2 (show stepD ⟨P, ts⟩ roles k o = (k, 0, p.2) by rw [stepD_1 HKK.out, beginD_err INT.out HMV.out (by rw [HTR.out, HP.out]; exact he), HTR.out, HP.out])
              have hee : (p.2 != 0) = true := by simpa using he
              clear he
              go_wp2_with (go_at_call 163; (with_reducible refine (no_calls p.2 E1.out).mono ?_); rintro e5 w5 ⟨rfl, hb5⟩; have B5 := hide2 hb5; clear hb5; obtain ⟨z0, z1, z2⟩ := (E3.out.keep B5.out).three; obtain ⟨v0, v1⟩ := (E4.out.keep B5.out).two; have fz0 := (E3.out.keep B5.out).frozen 0; have fz1 := (E3.out.keep B5.out).frozen 1; have fz2 := (E3.out.keep B5.out).frozen 2; have g0 := (E4.out.keep B5.out).frozen 0; have g1 := (E4.out.keep B5.out).frozen 1; have U3 := hide2 ((((E3.out.keep B5.out).set3 (.slice B m d) (.slice D l e) (.slice I ni ci)).other (a := ⟨w.heap.size + 1 + 1 + 1 + 1, 0, none⟩) (.int .i64 p.2) (by show w.heap.size + 1 + 1 + 1 ≠ w.heap.size + 1 + 1 + 1 + 1; omega)).other (a := ⟨w.heap.size + 1 + 1 + 1 + 1, 1, none⟩) (.int .i64 0) (by show w.heap.size + 1 + 1 + 1 ≠ w.heap.size + 1 + 1 + 1 + 1; omega)); have U4 := hide2 (((((E4.out.keep B5.out).other (a := ⟨w.heap.size + 1 + 1 + 1, 0, none⟩) (.slice B m d) (by show w.heap.size + 1 + 1 + 1 + 1 ≠ w.heap.size + 1 + 1 + 1; omega)).other (a := ⟨w.heap.size + 1 + 1 + 1, 1, none⟩) (.slice D l e) (by show w.heap.size + 1 + 1 + 1 + 1 ≠ w.heap.size + 1 + 1 + 1; omega)).other (a := ⟨w.heap.size + 1 + 1 + 1, 2, none⟩) (.slice I ni ci) (by show w.heap.size + 1 + 1 + 1 + 1 ≠ w.heap.size + 1 + 1 + 1; omega)).set2 (.int .i64 p.2) (.int .i64 0)); have UB := hide2 (((below_set3 (BE.out.trans (B5.out.mono BE.out.size)) (show w.heap.size ≤ w.heap.size + 1 + 1 + 1 by omega) (.slice B m d) (.slice D l e) (.slice I ni ci)).setCell (p := ⟨w.heap.size + 1 + 1 + 1 + 1, 0, none⟩) (by show w.heap.size ≤ w.heap.size + 1 + 1 + 1 + 1; omega) (.int .i64 p.2)).setCell (p := ⟨w.heap.size + 1 + 1 + 1 + 1, 1, none⟩) (by show w.heap.size ≤ w.heap.size + 1 + 1 + 1 + 1; omega) (.int .i64 0)))
              obtain ⟨r0, r1, r2⟩ := U3.out.three
              obtain ⟨r3, r4⟩ := U4.out.two
              exact bodyPost_ret (v := .tuple #[.agg #[.slice B m d, .slice D l e, .slice I ni ci], .agg #[.int .i64 p.2, .int .i64 0]]) (by simp [results, Try.results106, go_sem, r0, r1, r2, r3, r4]) rfl (by rw [FN.out]; exact ⟨_, _, _, _, _, _, _, _, _, rfl, XO.out.keep UB.out, UB.out, .inl ⟨rfl, rfl⟩, .inl ⟨rfl, rfl⟩, .inl ⟨rfl, rfl⟩⟩)
      · have FN := hide2 (show stepD ⟨P, ts⟩ roles k o = (k, 0, 3) by rw [stepD_1 HKK.out]; exact beginD_out (by rw [HTR.out]; unfold inT; show ¬ (0 ≤ tr ∧ tr < (ts.length : Int)); rw [HL.out]; exact hr))
        by_cases h0 : tr < 0
        · clear hr
          go_wp2_with (go_at_call 163; (with_reducible refine (no_calls 3 V1.out).mono ?_); rintro e5 w5 ⟨rfl, hb5⟩; have B5 := hide2 hb5; clear hb5; obtain ⟨z0, z1, z2⟩ := (V3.out.keep B5.out).three; obtain ⟨v0, v1⟩ := (V4.out.keep B5.out).two; have fz0 := (V3.out.keep B5.out).frozen 0; have fz1 := (V3.out.keep B5.out).frozen 1; have fz2 := (V3.out.keep B5.out).frozen 2; have g0 := (V4.out.keep B5.out).frozen 0; have g1 := (V4.out.keep B5.out).frozen 1; have U3 := hide2 ((((V3.out.keep B5.out).set3 (.slice B m d) (.slice D l e) (.slice I ni ci)).other (a := ⟨w.heap.size + 1 + 1 + 1 + 1, 0, none⟩) (.int .i64 3) (by show w.heap.size + 1 + 1 + 1 ≠ w.heap.size + 1 + 1 + 1 + 1; omega)).other (a := ⟨w.heap.size + 1 + 1 + 1 + 1, 1, none⟩) (.int .i64 0) (by show w.heap.size + 1 + 1 + 1 ≠ w.heap.size + 1 + 1 + 1 + 1; omega)); have U4 := hide2 (((((V4.out.keep B5.out).other (a := ⟨w.heap.size + 1 + 1 + 1, 0, none⟩) (.slice B m d) (by show w.heap.size + 1 + 1 + 1 + 1 ≠ w.heap.size + 1 + 1 + 1; omega)).other (a := ⟨w.heap.size + 1 + 1 + 1, 1, none⟩) (.slice D l e) (by show w.heap.size + 1 + 1 + 1 + 1 ≠ w.heap.size + 1 + 1 + 1; omega)).other (a := ⟨w.heap.size + 1 + 1 + 1, 2, none⟩) (.slice I ni ci) (by show w.heap.size + 1 + 1 + 1 + 1 ≠ w.heap.size + 1 + 1 + 1; omega)).set2 (.int .i64 3) (.int .i64 0)); have UB := hide2 (((below_set3 (BX.out.trans (B5.out.mono BX.out.size)) (show w.heap.size ≤ w.heap.size + 1 + 1 + 1 by omega) (.slice B m d) (.slice D l e) (.slice I ni ci)).setCell (p := ⟨w.heap.size + 1 + 1 + 1 + 1, 0, none⟩) (by show w.heap.size ≤ w.heap.size + 1 + 1 + 1 + 1; omega) (.int .i64 3)).setCell (p := ⟨w.heap.size + 1 + 1 + 1 + 1, 1, none⟩) (by show w.heap.size ≤ w.heap.size + 1 + 1 + 1 + 1; omega) (.int .i64 0)))
          obtain ⟨r0, r1, r2⟩ := U3.out.three
          obtain ⟨r3, r4⟩ := U4.out.two
          exact bodyPost_ret (v := .tuple #[.agg #[.slice B m d, .slice D l e, .slice I ni ci], .agg #[.int .i64 3, .int .i64 0]]) (by simp [results, Try.results106, go_sem, r0, r1, r2, r3, r4]) rfl (by rw [FN.out]; exact ⟨_, _, _, _, _, _, _, _, _, rfl, XO.out.keep UB.out, UB.out, .inl ⟨rfl, rfl⟩, .inl ⟨rfl, rfl⟩, .inl ⟨rfl, rfl⟩⟩)
        · have h9 : (n : Int) ≤ tr := by omega
          clear hr
          go_wp2_with (go_at_call 163; (with_reducible refine (no_calls 3 V1.out).mono ?_); rintro e5 w5 ⟨rfl, hb5⟩; have B5 := hide2 hb5; clear hb5; obtain ⟨z0, z1, z2⟩ := (V3.out.keep B5.out).three; obtain ⟨v0, v1⟩ := (V4.out.keep B5.out).two; have fz0 := (V3.out.keep B5.out).frozen 0; have fz1 := (V3.out.keep B5.out).frozen 1; have fz2 := (V3.out.keep B5.out).frozen 2; have g0 := (V4.out.keep B5.out).frozen 0; have g1 := (V4.out.keep B5.out).frozen 1; have U3 := hide2 ((((V3.out.keep B5.out).set3 (.slice B m d) (.slice D l e) (.slice I ni ci)).other (a := ⟨w.heap.size + 1 + 1 + 1 + 1, 0, none⟩) (.int .i64 3) (by show w.heap.size + 1 + 1 + 1 ≠ w.heap.size + 1 + 1 + 1 + 1; omega)).other (a := ⟨w.heap.size + 1 + 1 + 1 + 1, 1, none⟩) (.int .i64 0) (by show w.heap.size + 1 + 1 + 1 ≠ w.heap.size + 1 + 1 + 1 + 1; omega)); have U4 := hide2 (((((V4.out.keep B5.out).other (a := ⟨w.heap.size + 1 + 1 + 1, 0, none⟩) (.slice B m d) (by show w.heap.size + 1 + 1 + 1 + 1 ≠ w.heap.size + 1 + 1 + 1; omega)).other (a := ⟨w.heap.size + 1 + 1 + 1, 1, none⟩) (.slice D l e) (by show w.heap.size + 1 + 1 + 1 + 1 ≠ w.heap.size + 1 + 1 + 1; omega)).other (a := ⟨w.heap.size + 1 + 1 + 1, 2, none⟩) (.slice I ni ci) (by show w.heap.size + 1 + 1 + 1 + 1 ≠ w.heap.size + 1 + 1 + 1; omega)).set2 (.int .i64 3) (.int .i64 0)); have UB := hide2 (((below_set3 (BX.out.trans (B5.out.mono BX.out.size)) (show w.heap.size ≤ w.heap.size + 1 + 1 + 1 by omega) (.slice B m d) (.slice D l e) (.slice I ni ci)).setCell (p := ⟨w.heap.size + 1 + 1 + 1 + 1, 0, none⟩) (by show w.heap.size ≤ w.heap.size + 1 + 1 + 1 + 1; omega) (.int .i64 3)).setCell (p := ⟨w.heap.size + 1 + 1 + 1 + 1, 1, none⟩) (by show w.heap.size ≤ w.heap.size + 1 + 1 + 1 + 1; omega) (.int .i64 0)))
          obtain ⟨r0, r1, r2⟩ := U3.out.three
          obtain ⟨r3, r4⟩ := U4.out.two
          exact bodyPost_ret (v := .tuple #[.agg #[.slice B m d, .slice D l e, .slice I ni ci], .agg #[.int .i64 3, .int .i64 0]]) (by simp [results, Try.results106, go_sem, r0, r1, r2, r3, r4]) rfl (by rw [FN.out]; exact ⟨_, _, _, _, _, _, _, _, _, rfl, XO.out.keep UB.out, UB.out, .inl ⟨rfl, rfl⟩, .inl ⟨rfl, rfl⟩, .inl ⟨rfl, rfl⟩⟩)
    · by_cases h2 : kk = 2
      · subst h2
        by_cases hr : 0 ≤ it ∧ it < (ni : Int)
        · obtain ⟨j, rfl⟩ : ∃ j : Nat, it = (j : Int) := ⟨it.toNat, by omega⟩
          have hjn : j < ni := by omega
          have hji : (j : Int) < (ni : Int) := by omega
          clear hr
          obtain ⟨gg, cap, hgg, _⟩ := ownForm OI.out (by omega)
          injection hgg with hg1 _ hg2
          subst hg1 hg2
          obtain ⟨bi, ofi, x, ei, hbi, hx, i0, i1, i2⟩ := Items.get S12.out hjn
          injection ei with ei
          injection ei with ei1 ei2
          subst ei1 ei2
          simp only [Nat.zero_add] at i0 i1 i2
          have II := hide2 (itemL_in HIT.out hx.out)
          have XT := hide2 (HIN.out _ (List.mem_of_getElem? hx.out))
          cases ho : x.open_
          · have FN := hide2 (show stepD ⟨P, ts⟩ roles k o = (k, 0, 3) by rw [stepD_c (by have := HKK.out; omega), changeD_no (x := 3) (by rw [II.out.1, if_neg (by rw [ho]; decide)]) (by decide)])
            rw [ho] at i2
            clear ho
            go_wp2_with (go_at_call 163; (with_reducible refine (no_calls 3 V1.out).mono ?_); rintro e5 w5 ⟨rfl, hb5⟩; have B5 := hide2 hb5; clear hb5; obtain ⟨z0, z1, z2⟩ := (V3.out.keep B5.out).three; obtain ⟨v0, v1⟩ := (V4.out.keep B5.out).two; have fz0 := (V3.out.keep B5.out).frozen 0; have fz1 := (V3.out.keep B5.out).frozen 1; have fz2 := (V3.out.keep B5.out).frozen 2; have g0 := (V4.out.keep B5.out).frozen 0; have g1 := (V4.out.keep B5.out).frozen 1; have U3 := hide2 ((((V3.out.keep B5.out).set3 (.slice B m d) (.slice D l e) (.slice I ni ci)).other (a := ⟨w.heap.size + 1 + 1 + 1 + 1, 0, none⟩) (.int .i64 3) (by show w.heap.size + 1 + 1 + 1 ≠ w.heap.size + 1 + 1 + 1 + 1; omega)).other (a := ⟨w.heap.size + 1 + 1 + 1 + 1, 1, none⟩) (.int .i64 0) (by show w.heap.size + 1 + 1 + 1 ≠ w.heap.size + 1 + 1 + 1 + 1; omega)); have U4 := hide2 (((((V4.out.keep B5.out).other (a := ⟨w.heap.size + 1 + 1 + 1, 0, none⟩) (.slice B m d) (by show w.heap.size + 1 + 1 + 1 + 1 ≠ w.heap.size + 1 + 1 + 1; omega)).other (a := ⟨w.heap.size + 1 + 1 + 1, 1, none⟩) (.slice D l e) (by show w.heap.size + 1 + 1 + 1 + 1 ≠ w.heap.size + 1 + 1 + 1; omega)).other (a := ⟨w.heap.size + 1 + 1 + 1, 2, none⟩) (.slice I ni ci) (by show w.heap.size + 1 + 1 + 1 + 1 ≠ w.heap.size + 1 + 1 + 1; omega)).set2 (.int .i64 3) (.int .i64 0)); have UB := hide2 (((below_set3 (BX.out.trans (B5.out.mono BX.out.size)) (show w.heap.size ≤ w.heap.size + 1 + 1 + 1 by omega) (.slice B m d) (.slice D l e) (.slice I ni ci)).setCell (p := ⟨w.heap.size + 1 + 1 + 1 + 1, 0, none⟩) (by show w.heap.size ≤ w.heap.size + 1 + 1 + 1 + 1; omega) (.int .i64 3)).setCell (p := ⟨w.heap.size + 1 + 1 + 1 + 1, 1, none⟩) (by show w.heap.size ≤ w.heap.size + 1 + 1 + 1 + 1; omega) (.int .i64 0)))
            obtain ⟨r0, r1, r2⟩ := U3.out.three
            obtain ⟨r3, r4⟩ := U4.out.two
            exact bodyPost_ret (v := .tuple #[.agg #[.slice B m d, .slice D l e, .slice I ni ci], .agg #[.int .i64 3, .int .i64 0]]) (by simp [results, Try.results106, go_sem, r0, r1, r2, r3, r4]) rfl (by rw [FN.out]; exact ⟨_, _, _, _, _, _, _, _, _, rfl, XO.out.keep UB.out, UB.out, .inl ⟨rfl, rfl⟩, .inl ⟨rfl, rfl⟩, .inl ⟨rfl, rfl⟩⟩)
          · have HOP := hide2 ho
            rw [ho] at i2
            clear ho
            by_cases hu : x.user = ou
            · have ZI := hide2 (show itemL k o = 0 by rw [II.out.1, if_pos HOP.out, if_pos (by rw [HOU.out]; exact hu)])
              have hne : (x.user != ou) = false := by simpa using hu
              go_upto_region 21 with fail
              go_quiet (fail)
              clear hne i0 i1 i2 a0 a1 q0 q1 qf0 qf1 y0 y1 y2 y3 y4
              have W0 := hide2 (V0.out.keep (belowN w3 nq))
              have W1 := hide2 (V1.out.keep (belowN w3 nq))
              have W2 := hide2 (V2.out.keep (belowN w3 nq))
              have W3 := hide2 (V3.out.keep (belowN w3 nq))
              have W4 := hide2 (V4.out.keep (belowN w3 nq))
              have WB := hide2 (VB.out.keep (belowN w3 nq))
              have OK := hide2 (OwnSl.keep ItemR.kept OI.out (belowN w3 nq))
              have BK := hide2 (BX.out.trans ((belowN w3 nq).mono BX.out.size))
              clear V0 V1 V2 V3 V4 VB OI S12 BX
              generalize w3.drewN nq = wd at *
              obtain ⟨bi, ofi, x', ei, hbi, hx', i0, i1, i2⟩ := Items.get (OwnSl.arrAny OK.out (by omega)) hjn
              injection ei with ei
              injection ei with ei1 ei2
              subst ei1 ei2
              simp only [Nat.zero_add] at i0 i1 i2
              obtain rfl : x' = x := by have h1 := hx'.out; rw [hx.out] at h1; injection h1 with h1; exact h1.symm
              obtain ⟨y0, y1, y2, y3, y4⟩ := W2.out.five
              obtain ⟨tj, htj⟩ : ∃ tj : Nat, x'.tran = (tj : Int) := ⟨x'.tran.toNat, by have := XT.out.1; omega⟩
              rw [htj] at i1
              have htn : tj < n := by have := XT.out.2; have := HL.out; simp only at *; omega
              have htni : (tj : Int) < (n : Int) := by omega
              have HTJ := hide2 htj
              clear htj hu
              obtain ⟨q0, q1⟩ := WB.out.two
              have qf0 := WB.out.frozen 0
              have qf1 := WB.out.frozen 1
              obtain ⟨u2, i2'⟩ := OK.out.someAt (j := j * 3 + 2) (by omega)
              have j2 := OK.out.frozenAt (j * 3 + 2)
              have NB5 := hide2 (OK.out.notBox WB.out (by decide))
              have hgb : gg ≠ bo := fun e => NB5.out (by rw [e]; rfl)
              have hgb2 := hgb.symm
              have n52 := HN.out.2.2.1
              have n53 := HN.out.2.2.1.symm
              go_upto_region 32 with fail
              clear hgb hgb2 n52 n53
              clear q0 q1 qf0 qf1 i0 i1 i2 i2' j2 y0 y1 y2 y3 y4
              have X0 := hide2 (((W0.out.other (a := ⟨bo, 0, none⟩) (.int .i64 3) HN.out.1.symm).other (a := ⟨bo, 1, none⟩) (.int .i64 (tj : Int)) HN.out.1.symm))
              have X1 := hide2 (((W1.out.other (a := ⟨bo, 0, none⟩) (.int .i64 3) HN.out.2.1.symm).other (a := ⟨bo, 1, none⟩) (.int .i64 (tj : Int)) HN.out.2.1.symm))
              have X2 := hide2 (((W2.out.other (a := ⟨bo, 0, none⟩) (.int .i64 3) HN.out.2.2.1.symm).other (a := ⟨bo, 1, none⟩) (.int .i64 (tj : Int)) HN.out.2.2.1.symm))
              have X3 := hide2 (((W3.out.other (a := ⟨bo, 0, none⟩) (.int .i64 3) HN.out.2.2.2.1.symm).other (a := ⟨bo, 1, none⟩) (.int .i64 (tj : Int)) HN.out.2.2.2.1.symm))
              have X4 := hide2 (((W4.out.other (a := ⟨bo, 0, none⟩) (.int .i64 3) HN.out.2.2.2.2.symm).other (a := ⟨bo, 1, none⟩) (.int .i64 (tj : Int)) HN.out.2.2.2.2.symm))
              have XB := hide2 (((WB.out.set 0 (.int .i64 3)).set 1 (.int .i64 (tj : Int))))
              simp only [List.setIfInBounds_toArray, List.set_cons_zero, List.set_cons_succ] at XB
              have OQ := hide2 ((OwnSl.setOther (OwnSl.setOther OK.out (p := ⟨bo, 0, none⟩) (u := (.int .i64 3)) NB5.out (fun _ _ h => h)) (p := ⟨bo, 1, none⟩) (u := (.int .i64 (tj : Int))) NB5.out (fun _ _ h => h)))
              have BZ := hide2 (((BK.out.setCell (p := ⟨bo, 0, none⟩) (by show w.heap.size ≤ bo; have := SZ.out; omega) (.int .i64 3)).setCell (p := ⟨bo, 1, none⟩) (by show w.heap.size ≤ bo; have := SZ.out; omega) (.int .i64 (tj : Int))))
              clear W0 W1 W2 W3 W4 WB OK BK NB5
              generalize ((wd.setCell ⟨bo, 0, none⟩ (.int .i64 3)).setCell ⟨bo, 1, none⟩ (.int .i64 (tj : Int))) = wz at *
              have C0 := hide2 (X0.out.other (a := ⟨gg, j * 3 + 2, none⟩) (.bool false) (fun e => OQ.out.notBox X0.out (by decide) (by rw [e]; rfl)))
              have C1 := hide2 (X1.out.other (a := ⟨gg, j * 3 + 2, none⟩) (.bool false) (fun e => OQ.out.notBox X1.out (by decide) (by rw [e]; rfl)))
              have C2 := hide2 (X2.out.other (a := ⟨gg, j * 3 + 2, none⟩) (.bool false) (fun e => OQ.out.notBox X2.out (by decide) (by rw [e]; rfl)))
              have C3 := hide2 (X3.out.other (a := ⟨gg, j * 3 + 2, none⟩) (.bool false) (fun e => OQ.out.notBox X3.out (by decide) (by rw [e]; rfl)))
              have C4 := hide2 (X4.out.other (a := ⟨gg, j * 3 + 2, none⟩) (.bool false) (fun e => OQ.out.notBox X4.out (by decide) (by rw [e]; rfl)))
              have CB := hide2 (XB.out.other (a := ⟨gg, j * 3 + 2, none⟩) (.bool false) (fun e => OQ.out.notBox XB.out (by decide) (by rw [e]; rfl)))
              have OJ := hide2 (OwnItems.putOpen (u := false) OQ.out hjn hx.out)
              have BY := hide2 (BZ.out.setCell (p := ⟨gg, j * 3 + 2, none⟩) (show w.heap.size ≤ gg from (OQ.out.lt gg rfl).1) (.bool false))
              clear X0 X1 X2 X3 X4 XB OQ BZ C2 hbi
              generalize wz.setCell ⟨gg, j * 3 + 2, none⟩ (.bool false) = wy at *
              have FI := hide2 (farBox (e := 0) OJ.out C4.out (by decide) rfl)
              have FRI := hide2 (freshOwn (e := 0) OJ.out rfl)
              have SJ := hide2 (OwnSl.arrAny OJ.out (by omega))
              have KD := hide2 (show kindL o = 3 by unfold kindL; rw [if_neg (by rw [HKK.out]; decide)])
              clear OJ
              have CD := hide2 (refDo_calls (P := P) 3 (tj : Int) (HO.out.keep BY.out) (XO.out.mark.keep BY.out) (XO.out.busy.keep BY.out) hl)
              obtain ⟨p, hp⟩ : ∃ p, doL ⟨P, ts⟩ k.case_ 3 (tj : Int) = p := ⟨_, rfl⟩
              rw [hp] at CD
              have HP := hide2 hp
              clear hp
              obtain ⟨a0, a1⟩ := C0.out.two
              obtain ⟨c0, c1, c2⟩ := C1.out.three
              obtain ⟨q0, q1⟩ := CB.out.two
              go_upto_region 33 with (go_at_call 165; (with_reducible refine CD.out.mono ?_); rintro e6 w6 ⟨A3, n3, k3, A4, n4, k4, rfl, i3, i4, hb6, fr3, fr4⟩; have I3 := hide2 i3; have I4 := hide2 i4; have B6 := hide2 hb6; have FR3 := hide2 fr3; have FR4 := hide2 fr4; clear i3 i4 hb6 fr3 fr4 a0 a1 c0 c1 c2 q0 q1)
              have XC := hide2 (Box.new w6 #[.slice A3 n3 k3, .slice A4 n4 k4] 75)
              have NB := newBelow w6 (.cells #[.slice A3 n3 k3, .slice A4 n4 k4] 75)
              have bb := B6.out.trans (NB.mono B6.out.size)
              have E1 := hide2 (C1.out.keep bb)
              have E3 := hide2 (C3.out.keep bb)
              have E4 := hide2 (C4.out.keep bb)
              have J3 := hide2 (I3.out.keep NB)
              have J4 := hide2 (I4.out.keep NB)
              have SK := hide2 (Sl.keep ItemR.kept SJ.out bb)
              have BE := hide2 (BY.out.trans (bb.mono BY.out.size))
              have hs4 := C4.out.lt
              have f3 : ∀ b' off, A3 = some ⟨b', off, none⟩ → 0 < n3 → b' ≠ w.heap.size + 1 + 1 + 1 + 1 := fun b' off e' _ => by have hq : wy.heap.size ≤ b' := FR3.out _ e'; omega
              have f4 : ∀ b' off, A4 = some ⟨b', off, none⟩ → 0 < n4 → b' ≠ w.heap.size + 1 + 1 + 1 + 1 := fun b' off e' _ => by have hq : wy.heap.size ≤ b' := FR4.out _ e'; omega
              have F3 := hide2 f3
              have F4 := hide2 f4
              have OF3 := hide2 (FR3.out.mono BY.out.size)
              have OF4 := hide2 (FR4.out.mono BY.out.size)
              clear f3 f4 FR3 FR4 I3 I4 B6 NB bb C0 C1 C3 C4 CB SJ BY CD hs4
              generalize w6.alloc (.cells #[.slice A3 n3 k3, .slice A4 n4 k4] 75) = w7 at *
              generalize w6.heap.size = bq at *
              by_cases he : p.2 = 0
              · have FN := hide2 (show stepD ⟨P, ts⟩ roles k o = (⟨p.1, k.items.set j ⟨x'.user, x'.tran, false⟩⟩, (j : Int), 0) by rw [stepD_c (by have := HKK.out; omega), changeD_done (p := p) ZI.out (by rw [HKK.out]; decide) KD.out (by rw [II.out.2, HTJ.out]; exact HP.out) he, II.out.2, HIT.out]; rfl)
                have hee : (p.2 != 0) = false := by simpa using he
                clear he
                obtain ⟨q0, q1⟩ := XC.out.two
                obtain ⟨z0, z1, z2⟩ := E3.out.three
                obtain ⟨v0, v1⟩ := E4.out.two
                have fz0 := E3.out.frozen 0
                have fz1 := E3.out.frozen 1
                have fz2 := E3.out.frozen 2
                have g0 := E4.out.frozen 0
                have g1 := E4.out.frozen 1
                have U3 := hide2 (((E3.out.set3 (.slice A3 n3 k3) (.slice A4 n4 k4) (.slice (some ⟨gg, 0, none⟩) ni cI)).other (a := ⟨w.heap.size + 1 + 1 + 1 + 1, 0, none⟩) (.int .i64 0) (by show w.heap.size + 1 + 1 + 1 ≠ w.heap.size + 1 + 1 + 1 + 1; omega)).other (a := ⟨w.heap.size + 1 + 1 + 1 + 1, 1, none⟩) (.int .i64 (j : Int)) (by show w.heap.size + 1 + 1 + 1 ≠ w.heap.size + 1 + 1 + 1 + 1; omega))
                have U4 := hide2 ((((E4.out.other (a := ⟨w.heap.size + 1 + 1 + 1, 0, none⟩) (.slice A3 n3 k3) (by show w.heap.size + 1 + 1 + 1 + 1 ≠ w.heap.size + 1 + 1 + 1; omega)).other (a := ⟨w.heap.size + 1 + 1 + 1, 1, none⟩) (.slice A4 n4 k4) (by show w.heap.size + 1 + 1 + 1 + 1 ≠ w.heap.size + 1 + 1 + 1; omega)).other (a := ⟨w.heap.size + 1 + 1 + 1, 2, none⟩) (.slice (some ⟨gg, 0, none⟩) ni cI) (by show w.heap.size + 1 + 1 + 1 + 1 ≠ w.heap.size + 1 + 1 + 1; omega)).set2 (.int .i64 0) (.int .i64 (j : Int)))
                have UB := hide2 (((below_set3 BE.out (show w.heap.size ≤ w.heap.size + 1 + 1 + 1 by omega) (.slice A3 n3 k3) (.slice A4 n4 k4) (.slice (some ⟨gg, 0, none⟩) ni cI)).setCell (p := ⟨w.heap.size + 1 + 1 + 1 + 1, 0, none⟩) (by show w.heap.size ≤ w.heap.size + 1 + 1 + 1 + 1; omega) (.int .i64 0)).setCell (p := ⟨w.heap.size + 1 + 1 + 1 + 1, 1, none⟩) (by show w.heap.size ≤ w.heap.size + 1 + 1 + 1 + 1; omega) (.int .i64 (j : Int)))
                have UD := hide2 (((DeskW.beside (show DeskW w7 A3 n3 k3 A4 n4 k4 (some ⟨gg, 0, none⟩) ni cI ⟨p.1, k.items.set j ⟨x'.user, x'.tran, false⟩⟩ from ⟨J3.out, J4.out, SK.out⟩) E3.out noInt3 (Beside.set3 _ _ (.slice A3 n3 k3) (.slice A4 n4 k4) (.slice (some ⟨gg, 0, none⟩) ni cI))).set (p := ⟨w.heap.size + 1 + 1 + 1 + 1, 0, none⟩) (v := .int .i64 0) F3.out F4.out FI.out).set (p := ⟨w.heap.size + 1 + 1 + 1 + 1, 1, none⟩) (v := .int .i64 (j : Int)) F3.out F4.out FI.out)
                go_wp2
                obtain ⟨r0, r1, r2⟩ := U3.out.three
                obtain ⟨r3, r4⟩ := U4.out.two
                exact bodyPost_ret (v := .tuple #[.agg #[.slice A3 n3 k3, .slice A4 n4 k4, .slice (some ⟨gg, 0, none⟩) ni cI], .agg #[.int .i64 0, .int .i64 (j : Int)]]) (by simp [results, Try.results106, go_sem, r0, r1, r2, r3, r4]) rfl (by rw [FN.out]; exact ⟨_, _, _, _, _, _, _, _, _, rfl, UD.out, UB.out, .inr OF3.out, .inr OF4.out, .inr FRI.out⟩)
              · have FN := hide2 (show stepD ⟨P, ts⟩ roles k o = (k, 0, p.2) by rw [stepD_c (by have := HKK.out; omega), changeD_err (p := p) ZI.out (by rw [HKK.out]; decide) KD.out (by rw [II.out.2, HTJ.out]; exact HP.out) he])
                have hee : (p.2 != 0) = true := by simpa using he
                clear he
                go_wp2_with (go_at_call 163; (with_reducible refine (no_calls p.2 E1.out).mono ?_); rintro e5 w5 ⟨rfl, hb5⟩; have B5 := hide2 hb5; clear hb5; obtain ⟨z0, z1, z2⟩ := (E3.out.keep B5.out).three; obtain ⟨v0, v1⟩ := (E4.out.keep B5.out).two; have fz0 := (E3.out.keep B5.out).frozen 0; have fz1 := (E3.out.keep B5.out).frozen 1; have fz2 := (E3.out.keep B5.out).frozen 2; have g0 := (E4.out.keep B5.out).frozen 0; have g1 := (E4.out.keep B5.out).frozen 1; have U3 := hide2 ((((E3.out.keep B5.out).set3 (.slice B m d) (.slice D l e) (.slice I ni ci)).other (a := ⟨w.heap.size + 1 + 1 + 1 + 1, 0, none⟩) (.int .i64 p.2) (by show w.heap.size + 1 + 1 + 1 ≠ w.heap.size + 1 + 1 + 1 + 1; omega)).other (a := ⟨w.heap.size + 1 + 1 + 1 + 1, 1, none⟩) (.int .i64 0) (by show w.heap.size + 1 + 1 + 1 ≠ w.heap.size + 1 + 1 + 1 + 1; omega)); have U4 := hide2 (((((E4.out.keep B5.out).other (a := ⟨w.heap.size + 1 + 1 + 1, 0, none⟩) (.slice B m d) (by show w.heap.size + 1 + 1 + 1 + 1 ≠ w.heap.size + 1 + 1 + 1; omega)).other (a := ⟨w.heap.size + 1 + 1 + 1, 1, none⟩) (.slice D l e) (by show w.heap.size + 1 + 1 + 1 + 1 ≠ w.heap.size + 1 + 1 + 1; omega)).other (a := ⟨w.heap.size + 1 + 1 + 1, 2, none⟩) (.slice I ni ci) (by show w.heap.size + 1 + 1 + 1 + 1 ≠ w.heap.size + 1 + 1 + 1; omega)).set2 (.int .i64 p.2) (.int .i64 0)); have UB := hide2 (((below_set3 (BE.out.trans (B5.out.mono BE.out.size)) (show w.heap.size ≤ w.heap.size + 1 + 1 + 1 by omega) (.slice B m d) (.slice D l e) (.slice I ni ci)).setCell (p := ⟨w.heap.size + 1 + 1 + 1 + 1, 0, none⟩) (by show w.heap.size ≤ w.heap.size + 1 + 1 + 1 + 1; omega) (.int .i64 p.2)).setCell (p := ⟨w.heap.size + 1 + 1 + 1 + 1, 1, none⟩) (by show w.heap.size ≤ w.heap.size + 1 + 1 + 1 + 1; omega) (.int .i64 0)))
                obtain ⟨r0, r1, r2⟩ := U3.out.three
                obtain ⟨r3, r4⟩ := U4.out.two
                exact bodyPost_ret (v := .tuple #[.agg #[.slice B m d, .slice D l e, .slice I ni ci], .agg #[.int .i64 p.2, .int .i64 0]]) (by simp [results, Try.results106, go_sem, r0, r1, r2, r3, r4]) rfl (by rw [FN.out]; exact ⟨_, _, _, _, _, _, _, _, _, rfl, XO.out.keep UB.out, UB.out, .inl ⟨rfl, rfl⟩, .inl ⟨rfl, rfl⟩, .inl ⟨rfl, rfl⟩⟩)
            · have FN := hide2 (show stepD ⟨P, ts⟩ roles k o = (k, 0, 7) by rw [stepD_c (by have := HKK.out; omega), changeD_no (x := 7) (by rw [II.out.1, if_pos HOP.out, if_neg (by rw [HOU.out]; exact hu)]) (by decide)])
              have hne : (x.user != ou) = true := by simpa using hu
              clear hu
              go_upto_region 21 with fail
              go_quiet (fail)
              have W1 := hide2 (V1.out.keep (belowN w3 nq))
              have W3 := hide2 (V3.out.keep (belowN w3 nq))
              have W4 := hide2 (V4.out.keep (belowN w3 nq))
              have BK := hide2 (BX.out.trans ((belowN w3 nq).mono BX.out.size))
              clear hne i0 i1 i2 a0 a1 q0 q1 qf0 qf1 y0 y1 y2 y3 y4
              generalize w3.drewN nq = wd at *
              go_wp2_with (go_at_call 163; (with_reducible refine (no_calls 7 W1.out).mono ?_); rintro e5 w5 ⟨rfl, hb5⟩; have B5 := hide2 hb5; clear hb5; obtain ⟨z0, z1, z2⟩ := (W3.out.keep B5.out).three; obtain ⟨v0, v1⟩ := (W4.out.keep B5.out).two; have fz0 := (W3.out.keep B5.out).frozen 0; have fz1 := (W3.out.keep B5.out).frozen 1; have fz2 := (W3.out.keep B5.out).frozen 2; have g0 := (W4.out.keep B5.out).frozen 0; have g1 := (W4.out.keep B5.out).frozen 1; have U3 := hide2 ((((W3.out.keep B5.out).set3 (.slice B m d) (.slice D l e) (.slice I ni ci)).other (a := ⟨w.heap.size + 1 + 1 + 1 + 1, 0, none⟩) (.int .i64 7) (by show w.heap.size + 1 + 1 + 1 ≠ w.heap.size + 1 + 1 + 1 + 1; omega)).other (a := ⟨w.heap.size + 1 + 1 + 1 + 1, 1, none⟩) (.int .i64 0) (by show w.heap.size + 1 + 1 + 1 ≠ w.heap.size + 1 + 1 + 1 + 1; omega)); have U4 := hide2 (((((W4.out.keep B5.out).other (a := ⟨w.heap.size + 1 + 1 + 1, 0, none⟩) (.slice B m d) (by show w.heap.size + 1 + 1 + 1 + 1 ≠ w.heap.size + 1 + 1 + 1; omega)).other (a := ⟨w.heap.size + 1 + 1 + 1, 1, none⟩) (.slice D l e) (by show w.heap.size + 1 + 1 + 1 + 1 ≠ w.heap.size + 1 + 1 + 1; omega)).other (a := ⟨w.heap.size + 1 + 1 + 1, 2, none⟩) (.slice I ni ci) (by show w.heap.size + 1 + 1 + 1 + 1 ≠ w.heap.size + 1 + 1 + 1; omega)).set2 (.int .i64 7) (.int .i64 0)); have UB := hide2 (((below_set3 (BK.out.trans (B5.out.mono BK.out.size)) (show w.heap.size ≤ w.heap.size + 1 + 1 + 1 by omega) (.slice B m d) (.slice D l e) (.slice I ni ci)).setCell (p := ⟨w.heap.size + 1 + 1 + 1 + 1, 0, none⟩) (by show w.heap.size ≤ w.heap.size + 1 + 1 + 1 + 1; omega) (.int .i64 7)).setCell (p := ⟨w.heap.size + 1 + 1 + 1 + 1, 1, none⟩) (by show w.heap.size ≤ w.heap.size + 1 + 1 + 1 + 1; omega) (.int .i64 0)))
              obtain ⟨r0, r1, r2⟩ := U3.out.three
              obtain ⟨r3, r4⟩ := U4.out.two
              exact bodyPost_ret (v := .tuple #[.agg #[.slice B m d, .slice D l e, .slice I ni ci], .agg #[.int .i64 7, .int .i64 0]]) (by simp [results, Try.results106, go_sem, r0, r1, r2, r3, r4]) rfl (by rw [FN.out]; exact ⟨_, _, _, _, _, _, _, _, _, rfl, XO.out.keep UB.out, UB.out, .inl ⟨rfl, rfl⟩, .inl ⟨rfl, rfl⟩, .inl ⟨rfl, rfl⟩⟩)
        · have FN := hide2 (show stepD ⟨P, ts⟩ roles k o = (k, 0, 3) by rw [stepD_c (by have := HKK.out; omega), changeD_no (x := 3) (itemL_out (by rw [HIT.out, XO.out.items.len]; exact hr)) (by decide)])
          by_cases h0 : it < 0
          · clear hr
            go_wp2_with (go_at_call 163; (with_reducible refine (no_calls 3 V1.out).mono ?_); rintro e5 w5 ⟨rfl, hb5⟩; have B5 := hide2 hb5; clear hb5; obtain ⟨z0, z1, z2⟩ := (V3.out.keep B5.out).three; obtain ⟨v0, v1⟩ := (V4.out.keep B5.out).two; have fz0 := (V3.out.keep B5.out).frozen 0; have fz1 := (V3.out.keep B5.out).frozen 1; have fz2 := (V3.out.keep B5.out).frozen 2; have g0 := (V4.out.keep B5.out).frozen 0; have g1 := (V4.out.keep B5.out).frozen 1; have U3 := hide2 ((((V3.out.keep B5.out).set3 (.slice B m d) (.slice D l e) (.slice I ni ci)).other (a := ⟨w.heap.size + 1 + 1 + 1 + 1, 0, none⟩) (.int .i64 3) (by show w.heap.size + 1 + 1 + 1 ≠ w.heap.size + 1 + 1 + 1 + 1; omega)).other (a := ⟨w.heap.size + 1 + 1 + 1 + 1, 1, none⟩) (.int .i64 0) (by show w.heap.size + 1 + 1 + 1 ≠ w.heap.size + 1 + 1 + 1 + 1; omega)); have U4 := hide2 (((((V4.out.keep B5.out).other (a := ⟨w.heap.size + 1 + 1 + 1, 0, none⟩) (.slice B m d) (by show w.heap.size + 1 + 1 + 1 + 1 ≠ w.heap.size + 1 + 1 + 1; omega)).other (a := ⟨w.heap.size + 1 + 1 + 1, 1, none⟩) (.slice D l e) (by show w.heap.size + 1 + 1 + 1 + 1 ≠ w.heap.size + 1 + 1 + 1; omega)).other (a := ⟨w.heap.size + 1 + 1 + 1, 2, none⟩) (.slice I ni ci) (by show w.heap.size + 1 + 1 + 1 + 1 ≠ w.heap.size + 1 + 1 + 1; omega)).set2 (.int .i64 3) (.int .i64 0)); have UB := hide2 (((below_set3 (BX.out.trans (B5.out.mono BX.out.size)) (show w.heap.size ≤ w.heap.size + 1 + 1 + 1 by omega) (.slice B m d) (.slice D l e) (.slice I ni ci)).setCell (p := ⟨w.heap.size + 1 + 1 + 1 + 1, 0, none⟩) (by show w.heap.size ≤ w.heap.size + 1 + 1 + 1 + 1; omega) (.int .i64 3)).setCell (p := ⟨w.heap.size + 1 + 1 + 1 + 1, 1, none⟩) (by show w.heap.size ≤ w.heap.size + 1 + 1 + 1 + 1; omega) (.int .i64 0)))
            obtain ⟨r0, r1, r2⟩ := U3.out.three
            obtain ⟨r3, r4⟩ := U4.out.two
            exact bodyPost_ret (v := .tuple #[.agg #[.slice B m d, .slice D l e, .slice I ni ci], .agg #[.int .i64 3, .int .i64 0]]) (by simp [results, Try.results106, go_sem, r0, r1, r2, r3, r4]) rfl (by rw [FN.out]; exact ⟨_, _, _, _, _, _, _, _, _, rfl, XO.out.keep UB.out, UB.out, .inl ⟨rfl, rfl⟩, .inl ⟨rfl, rfl⟩, .inl ⟨rfl, rfl⟩⟩)
          · have h9 : (ni : Int) ≤ it := by omega
            clear hr
            go_wp2_with (go_at_call 163; (with_reducible refine (no_calls 3 V1.out).mono ?_); rintro e5 w5 ⟨rfl, hb5⟩; have B5 := hide2 hb5; clear hb5; obtain ⟨z0, z1, z2⟩ := (V3.out.keep B5.out).three; obtain ⟨v0, v1⟩ := (V4.out.keep B5.out).two; have fz0 := (V3.out.keep B5.out).frozen 0; have fz1 := (V3.out.keep B5.out).frozen 1; have fz2 := (V3.out.keep B5.out).frozen 2; have g0 := (V4.out.keep B5.out).frozen 0; have g1 := (V4.out.keep B5.out).frozen 1; have U3 := hide2 ((((V3.out.keep B5.out).set3 (.slice B m d) (.slice D l e) (.slice I ni ci)).other (a := ⟨w.heap.size + 1 + 1 + 1 + 1, 0, none⟩) (.int .i64 3) (by show w.heap.size + 1 + 1 + 1 ≠ w.heap.size + 1 + 1 + 1 + 1; omega)).other (a := ⟨w.heap.size + 1 + 1 + 1 + 1, 1, none⟩) (.int .i64 0) (by show w.heap.size + 1 + 1 + 1 ≠ w.heap.size + 1 + 1 + 1 + 1; omega)); have U4 := hide2 (((((V4.out.keep B5.out).other (a := ⟨w.heap.size + 1 + 1 + 1, 0, none⟩) (.slice B m d) (by show w.heap.size + 1 + 1 + 1 + 1 ≠ w.heap.size + 1 + 1 + 1; omega)).other (a := ⟨w.heap.size + 1 + 1 + 1, 1, none⟩) (.slice D l e) (by show w.heap.size + 1 + 1 + 1 + 1 ≠ w.heap.size + 1 + 1 + 1; omega)).other (a := ⟨w.heap.size + 1 + 1 + 1, 2, none⟩) (.slice I ni ci) (by show w.heap.size + 1 + 1 + 1 + 1 ≠ w.heap.size + 1 + 1 + 1; omega)).set2 (.int .i64 3) (.int .i64 0)); have UB := hide2 (((below_set3 (BX.out.trans (B5.out.mono BX.out.size)) (show w.heap.size ≤ w.heap.size + 1 + 1 + 1 by omega) (.slice B m d) (.slice D l e) (.slice I ni ci)).setCell (p := ⟨w.heap.size + 1 + 1 + 1 + 1, 0, none⟩) (by show w.heap.size ≤ w.heap.size + 1 + 1 + 1 + 1; omega) (.int .i64 3)).setCell (p := ⟨w.heap.size + 1 + 1 + 1 + 1, 1, none⟩) (by show w.heap.size ≤ w.heap.size + 1 + 1 + 1 + 1; omega) (.int .i64 0)))
            obtain ⟨r0, r1, r2⟩ := U3.out.three
            obtain ⟨r3, r4⟩ := U4.out.two
            exact bodyPost_ret (v := .tuple #[.agg #[.slice B m d, .slice D l e, .slice I ni ci], .agg #[.int .i64 3, .int .i64 0]]) (by simp [results, Try.results106, go_sem, r0, r1, r2, r3, r4]) rfl (by rw [FN.out]; exact ⟨_, _, _, _, _, _, _, _, _, rfl, XO.out.keep UB.out, UB.out, .inl ⟨rfl, rfl⟩, .inl ⟨rfl, rfl⟩, .inl ⟨rfl, rfl⟩⟩)
      · by_cases h3 : kk = 3
        · subst h3
          by_cases hr : 0 ≤ it ∧ it < (ni : Int)
          · obtain ⟨j, rfl⟩ : ∃ j : Nat, it = (j : Int) := ⟨it.toNat, by omega⟩
            have hjn : j < ni := by omega
            have hji : (j : Int) < (ni : Int) := by omega
            clear hr
            obtain ⟨gg, cap, hgg, _⟩ := ownForm OI.out (by omega)
            injection hgg with hg1 _ hg2
            subst hg1 hg2
            obtain ⟨bi, ofi, x, ei, hbi, hx, i0, i1, i2⟩ := Items.get S12.out hjn
            injection ei with ei
            injection ei with ei1 ei2
            subst ei1 ei2
            simp only [Nat.zero_add] at i0 i1 i2
            have II := hide2 (itemL_in HIT.out hx.out)
            have XT := hide2 (HIN.out _ (List.mem_of_getElem? hx.out))
            cases ho : x.open_
            · have FN := hide2 (show stepD ⟨P, ts⟩ roles k o = (k, 0, 3) by rw [stepD_c (by have := HKK.out; omega), changeD_no (x := 3) (by rw [II.out.1, if_neg (by rw [ho]; decide)]) (by decide)])
              rw [ho] at i2
              clear ho
              go_wp2_with (go_at_call 163; (with_reducible refine (no_calls 3 V1.out).mono ?_); rintro e5 w5 ⟨rfl, hb5⟩; have B5 := hide2 hb5; clear hb5; obtain ⟨z0, z1, z2⟩ := (V3.out.keep B5.out).three; obtain ⟨v0, v1⟩ := (V4.out.keep B5.out).two; have fz0 := (V3.out.keep B5.out).frozen 0; have fz1 := (V3.out.keep B5.out).frozen 1; have fz2 := (V3.out.keep B5.out).frozen 2; have g0 := (V4.out.keep B5.out).frozen 0; have g1 := (V4.out.keep B5.out).frozen 1; have U3 := hide2 ((((V3.out.keep B5.out).set3 (.slice B m d) (.slice D l e) (.slice I ni ci)).other (a := ⟨w.heap.size + 1 + 1 + 1 + 1, 0, none⟩) (.int .i64 3) (by show w.heap.size + 1 + 1 + 1 ≠ w.heap.size + 1 + 1 + 1 + 1; omega)).other (a := ⟨w.heap.size + 1 + 1 + 1 + 1, 1, none⟩) (.int .i64 0) (by show w.heap.size + 1 + 1 + 1 ≠ w.heap.size + 1 + 1 + 1 + 1; omega)); have U4 := hide2 (((((V4.out.keep B5.out).other (a := ⟨w.heap.size + 1 + 1 + 1, 0, none⟩) (.slice B m d) (by show w.heap.size + 1 + 1 + 1 + 1 ≠ w.heap.size + 1 + 1 + 1; omega)).other (a := ⟨w.heap.size + 1 + 1 + 1, 1, none⟩) (.slice D l e) (by show w.heap.size + 1 + 1 + 1 + 1 ≠ w.heap.size + 1 + 1 + 1; omega)).other (a := ⟨w.heap.size + 1 + 1 + 1, 2, none⟩) (.slice I ni ci) (by show w.heap.size + 1 + 1 + 1 + 1 ≠ w.heap.size + 1 + 1 + 1; omega)).set2 (.int .i64 3) (.int .i64 0)); have UB := hide2 (((below_set3 (BX.out.trans (B5.out.mono BX.out.size)) (show w.heap.size ≤ w.heap.size + 1 + 1 + 1 by omega) (.slice B m d) (.slice D l e) (.slice I ni ci)).setCell (p := ⟨w.heap.size + 1 + 1 + 1 + 1, 0, none⟩) (by show w.heap.size ≤ w.heap.size + 1 + 1 + 1 + 1; omega) (.int .i64 3)).setCell (p := ⟨w.heap.size + 1 + 1 + 1 + 1, 1, none⟩) (by show w.heap.size ≤ w.heap.size + 1 + 1 + 1 + 1; omega) (.int .i64 0)))
              obtain ⟨r0, r1, r2⟩ := U3.out.three
              obtain ⟨r3, r4⟩ := U4.out.two
              exact bodyPost_ret (v := .tuple #[.agg #[.slice B m d, .slice D l e, .slice I ni ci], .agg #[.int .i64 3, .int .i64 0]]) (by simp [results, Try.results106, go_sem, r0, r1, r2, r3, r4]) rfl (by rw [FN.out]; exact ⟨_, _, _, _, _, _, _, _, _, rfl, XO.out.keep UB.out, UB.out, .inl ⟨rfl, rfl⟩, .inl ⟨rfl, rfl⟩, .inl ⟨rfl, rfl⟩⟩)
            · have HOP := hide2 ho
              rw [ho] at i2
              clear ho
              by_cases hu : x.user = ou
              · have ZI := hide2 (show itemL k o = 0 by rw [II.out.1, if_pos HOP.out, if_pos (by rw [HOU.out]; exact hu)])
                have hne : (x.user != ou) = false := by simpa using hu
                go_upto_region 21 with fail
                go_quiet (fail)
                clear hne i0 i1 i2 a0 a1 q0 q1 qf0 qf1 y0 y1 y2 y3 y4
                have W0 := hide2 (V0.out.keep (belowN w3 nq))
                have W1 := hide2 (V1.out.keep (belowN w3 nq))
                have W2 := hide2 (V2.out.keep (belowN w3 nq))
                have W3 := hide2 (V3.out.keep (belowN w3 nq))
                have W4 := hide2 (V4.out.keep (belowN w3 nq))
                have WB := hide2 (VB.out.keep (belowN w3 nq))
                have OK := hide2 (OwnSl.keep ItemR.kept OI.out (belowN w3 nq))
                have BK := hide2 (BX.out.trans ((belowN w3 nq).mono BX.out.size))
                clear V0 V1 V2 V3 V4 VB OI S12 BX
                generalize w3.drewN nq = wd at *
                obtain ⟨bi, ofi, x', ei, hbi, hx', i0, i1, i2⟩ := Items.get (OwnSl.arrAny OK.out (by omega)) hjn
                injection ei with ei
                injection ei with ei1 ei2
                subst ei1 ei2
                simp only [Nat.zero_add] at i0 i1 i2
                obtain rfl : x' = x := by have h1 := hx'.out; rw [hx.out] at h1; injection h1 with h1; exact h1.symm
                obtain ⟨y0, y1, y2, y3, y4⟩ := W2.out.five
                obtain ⟨tj, htj⟩ : ∃ tj : Nat, x'.tran = (tj : Int) := ⟨x'.tran.toNat, by have := XT.out.1; omega⟩
                rw [htj] at i1
                have htn : tj < n := by have := XT.out.2; have := HL.out; simp only at *; omega
                have htni : (tj : Int) < (n : Int) := by omega
                have HTJ := hide2 htj
                clear htj hu
                obtain ⟨q0, q1⟩ := WB.out.two
                have qf0 := WB.out.frozen 0
                have qf1 := WB.out.frozen 1
                obtain ⟨u2, i2'⟩ := OK.out.someAt (j := j * 3 + 2) (by omega)
                have j2 := OK.out.frozenAt (j * 3 + 2)
                have NB5 := hide2 (OK.out.notBox WB.out (by decide))
                have hgb : gg ≠ bo := fun e => NB5.out (by rw [e]; rfl)
                have hgb2 := hgb.symm
                have n52 := HN.out.2.2.1
                have n53 := HN.out.2.2.1.symm
                go_upto_region 32 with fail
                clear hgb hgb2 n52 n53
                clear q0 q1 qf0 qf1 i0 i1 i2 i2' j2 y0 y1 y2 y3 y4
                have X0 := hide2 ((((W0.out.other (a := ⟨bo, 0, none⟩) (.int .i64 3) HN.out.1.symm).other (a := ⟨bo, 1, none⟩) (.int .i64 (tj : Int)) HN.out.1.symm).other (a := ⟨bo, 0, none⟩) (.int .i64 4) HN.out.1.symm))
                have X1 := hide2 ((((W1.out.other (a := ⟨bo, 0, none⟩) (.int .i64 3) HN.out.2.1.symm).other (a := ⟨bo, 1, none⟩) (.int .i64 (tj : Int)) HN.out.2.1.symm).other (a := ⟨bo, 0, none⟩) (.int .i64 4) HN.out.2.1.symm))
                have X2 := hide2 ((((W2.out.other (a := ⟨bo, 0, none⟩) (.int .i64 3) HN.out.2.2.1.symm).other (a := ⟨bo, 1, none⟩) (.int .i64 (tj : Int)) HN.out.2.2.1.symm).other (a := ⟨bo, 0, none⟩) (.int .i64 4) HN.out.2.2.1.symm))
                have X3 := hide2 ((((W3.out.other (a := ⟨bo, 0, none⟩) (.int .i64 3) HN.out.2.2.2.1.symm).other (a := ⟨bo, 1, none⟩) (.int .i64 (tj : Int)) HN.out.2.2.2.1.symm).other (a := ⟨bo, 0, none⟩) (.int .i64 4) HN.out.2.2.2.1.symm))
                have X4 := hide2 ((((W4.out.other (a := ⟨bo, 0, none⟩) (.int .i64 3) HN.out.2.2.2.2.symm).other (a := ⟨bo, 1, none⟩) (.int .i64 (tj : Int)) HN.out.2.2.2.2.symm).other (a := ⟨bo, 0, none⟩) (.int .i64 4) HN.out.2.2.2.2.symm))
                have XB := hide2 ((((WB.out.set 0 (.int .i64 3)).set 1 (.int .i64 (tj : Int))).set 0 (.int .i64 4)))
                simp only [List.setIfInBounds_toArray, List.set_cons_zero, List.set_cons_succ] at XB
                have OQ := hide2 ((OwnSl.setOther (OwnSl.setOther (OwnSl.setOther OK.out (p := ⟨bo, 0, none⟩) (u := (.int .i64 3)) NB5.out (fun _ _ h => h)) (p := ⟨bo, 1, none⟩) (u := (.int .i64 (tj : Int))) NB5.out (fun _ _ h => h)) (p := ⟨bo, 0, none⟩) (u := (.int .i64 4)) NB5.out (fun _ _ h => h)))
                have BZ := hide2 ((((BK.out.setCell (p := ⟨bo, 0, none⟩) (by show w.heap.size ≤ bo; have := SZ.out; omega) (.int .i64 3)).setCell (p := ⟨bo, 1, none⟩) (by show w.heap.size ≤ bo; have := SZ.out; omega) (.int .i64 (tj : Int))).setCell (p := ⟨bo, 0, none⟩) (by show w.heap.size ≤ bo; have := SZ.out; omega) (.int .i64 4)))
                clear W0 W1 W2 W3 W4 WB OK BK NB5
                generalize (((wd.setCell ⟨bo, 0, none⟩ (.int .i64 3)).setCell ⟨bo, 1, none⟩ (.int .i64 (tj : Int))).setCell ⟨bo, 0, none⟩ (.int .i64 4)) = wz at *
                have C0 := hide2 (X0.out.other (a := ⟨gg, j * 3 + 2, none⟩) (.bool false) (fun e => OQ.out.notBox X0.out (by decide) (by rw [e]; rfl)))
                have C1 := hide2 (X1.out.other (a := ⟨gg, j * 3 + 2, none⟩) (.bool false) (fun e => OQ.out.notBox X1.out (by decide) (by rw [e]; rfl)))
                have C2 := hide2 (X2.out.other (a := ⟨gg, j * 3 + 2, none⟩) (.bool false) (fun e => OQ.out.notBox X2.out (by decide) (by rw [e]; rfl)))
                have C3 := hide2 (X3.out.other (a := ⟨gg, j * 3 + 2, none⟩) (.bool false) (fun e => OQ.out.notBox X3.out (by decide) (by rw [e]; rfl)))
                have C4 := hide2 (X4.out.other (a := ⟨gg, j * 3 + 2, none⟩) (.bool false) (fun e => OQ.out.notBox X4.out (by decide) (by rw [e]; rfl)))
                have CB := hide2 (XB.out.other (a := ⟨gg, j * 3 + 2, none⟩) (.bool false) (fun e => OQ.out.notBox XB.out (by decide) (by rw [e]; rfl)))
                have OJ := hide2 (OwnItems.putOpen (u := false) OQ.out hjn hx.out)
                have BY := hide2 (BZ.out.setCell (p := ⟨gg, j * 3 + 2, none⟩) (show w.heap.size ≤ gg from (OQ.out.lt gg rfl).1) (.bool false))
                clear X0 X1 X2 X3 X4 XB OQ BZ C2 hbi
                generalize wz.setCell ⟨gg, j * 3 + 2, none⟩ (.bool false) = wy at *
                have FI := hide2 (farBox (e := 0) OJ.out C4.out (by decide) rfl)
                have FRI := hide2 (freshOwn (e := 0) OJ.out rfl)
                have SJ := hide2 (OwnSl.arrAny OJ.out (by omega))
                have KD := hide2 (show kindL o = 4 by unfold kindL; rw [if_pos HKK.out])
                clear OJ
                have CD := hide2 (refDo_calls (P := P) 4 (tj : Int) (HO.out.keep BY.out) (XO.out.mark.keep BY.out) (XO.out.busy.keep BY.out) hl)
                obtain ⟨p, hp⟩ : ∃ p, doL ⟨P, ts⟩ k.case_ 4 (tj : Int) = p := ⟨_, rfl⟩
                rw [hp] at CD
                have HP := hide2 hp
                clear hp
                obtain ⟨a0, a1⟩ := C0.out.two
                obtain ⟨c0, c1, c2⟩ := C1.out.three
                obtain ⟨q0, q1⟩ := CB.out.two
                go_upto_region 33 with (go_at_call 165; (with_reducible refine CD.out.mono ?_); rintro e6 w6 ⟨A3, n3, k3, A4, n4, k4, rfl, i3, i4, hb6, fr3, fr4⟩; have I3 := hide2 i3; have I4 := hide2 i4; have B6 := hide2 hb6; have FR3 := hide2 fr3; have FR4 := hide2 fr4; clear i3 i4 hb6 fr3 fr4 a0 a1 c0 c1 c2 q0 q1)
                have XC := hide2 (Box.new w6 #[.slice A3 n3 k3, .slice A4 n4 k4] 75)
                have NB := newBelow w6 (.cells #[.slice A3 n3 k3, .slice A4 n4 k4] 75)
                have bb := B6.out.trans (NB.mono B6.out.size)
                have E1 := hide2 (C1.out.keep bb)
                have E3 := hide2 (C3.out.keep bb)
                have E4 := hide2 (C4.out.keep bb)
                have J3 := hide2 (I3.out.keep NB)
                have J4 := hide2 (I4.out.keep NB)
                have SK := hide2 (Sl.keep ItemR.kept SJ.out bb)
                have BE := hide2 (BY.out.trans (bb.mono BY.out.size))
                have hs4 := C4.out.lt
                have f3 : ∀ b' off, A3 = some ⟨b', off, none⟩ → 0 < n3 → b' ≠ w.heap.size + 1 + 1 + 1 + 1 := fun b' off e' _ => by have hq : wy.heap.size ≤ b' := FR3.out _ e'; omega
                have f4 : ∀ b' off, A4 = some ⟨b', off, none⟩ → 0 < n4 → b' ≠ w.heap.size + 1 + 1 + 1 + 1 := fun b' off e' _ => by have hq : wy.heap.size ≤ b' := FR4.out _ e'; omega
                have F3 := hide2 f3
                have F4 := hide2 f4
                have OF3 := hide2 (FR3.out.mono BY.out.size)
                have OF4 := hide2 (FR4.out.mono BY.out.size)
                clear f3 f4 FR3 FR4 I3 I4 B6 NB bb C0 C1 C3 C4 CB SJ BY CD hs4
                generalize w6.alloc (.cells #[.slice A3 n3 k3, .slice A4 n4 k4] 75) = w7 at *
                generalize w6.heap.size = bq at *
                by_cases he : p.2 = 0
                · have FN := hide2 (show stepD ⟨P, ts⟩ roles k o = (⟨p.1, k.items.set j ⟨x'.user, x'.tran, false⟩⟩, (j : Int), 0) by rw [stepD_c (by have := HKK.out; omega), changeD_done (p := p) ZI.out (by rw [HKK.out]; decide) KD.out (by rw [II.out.2, HTJ.out]; exact HP.out) he, II.out.2, HIT.out]; rfl)
                  have hee : (p.2 != 0) = false := by simpa using he
                  clear he
                  obtain ⟨q0, q1⟩ := XC.out.two
                  obtain ⟨z0, z1, z2⟩ := E3.out.three
                  obtain ⟨v0, v1⟩ := E4.out.two
                  have fz0 := E3.out.frozen 0
                  have fz1 := E3.out.frozen 1
                  have fz2 := E3.out.frozen 2
                  have g0 := E4.out.frozen 0
                  have g1 := E4.out.frozen 1
                  have U3 := hide2 (((E3.out.set3 (.slice A3 n3 k3) (.slice A4 n4 k4) (.slice (some ⟨gg, 0, none⟩) ni cI)).other (a := ⟨w.heap.size + 1 + 1 + 1 + 1, 0, none⟩) (.int .i64 0) (by show w.heap.size + 1 + 1 + 1 ≠ w.heap.size + 1 + 1 + 1 + 1; omega)).other (a := ⟨w.heap.size + 1 + 1 + 1 + 1, 1, none⟩) (.int .i64 (j : Int)) (by show w.heap.size + 1 + 1 + 1 ≠ w.heap.size + 1 + 1 + 1 + 1; omega))
                  have U4 := hide2 ((((E4.out.other (a := ⟨w.heap.size + 1 + 1 + 1, 0, none⟩) (.slice A3 n3 k3) (by show w.heap.size + 1 + 1 + 1 + 1 ≠ w.heap.size + 1 + 1 + 1; omega)).other (a := ⟨w.heap.size + 1 + 1 + 1, 1, none⟩) (.slice A4 n4 k4) (by show w.heap.size + 1 + 1 + 1 + 1 ≠ w.heap.size + 1 + 1 + 1; omega)).other (a := ⟨w.heap.size + 1 + 1 + 1, 2, none⟩) (.slice (some ⟨gg, 0, none⟩) ni cI) (by show w.heap.size + 1 + 1 + 1 + 1 ≠ w.heap.size + 1 + 1 + 1; omega)).set2 (.int .i64 0) (.int .i64 (j : Int)))
                  have UB := hide2 (((below_set3 BE.out (show w.heap.size ≤ w.heap.size + 1 + 1 + 1 by omega) (.slice A3 n3 k3) (.slice A4 n4 k4) (.slice (some ⟨gg, 0, none⟩) ni cI)).setCell (p := ⟨w.heap.size + 1 + 1 + 1 + 1, 0, none⟩) (by show w.heap.size ≤ w.heap.size + 1 + 1 + 1 + 1; omega) (.int .i64 0)).setCell (p := ⟨w.heap.size + 1 + 1 + 1 + 1, 1, none⟩) (by show w.heap.size ≤ w.heap.size + 1 + 1 + 1 + 1; omega) (.int .i64 (j : Int)))
                  have UD := hide2 (((DeskW.beside (show DeskW w7 A3 n3 k3 A4 n4 k4 (some ⟨gg, 0, none⟩) ni cI ⟨p.1, k.items.set j ⟨x'.user, x'.tran, false⟩⟩ from ⟨J3.out, J4.out, SK.out⟩) E3.out noInt3 (Beside.set3 _ _ (.slice A3 n3 k3) (.slice A4 n4 k4) (.slice (some ⟨gg, 0, none⟩) ni cI))).set (p := ⟨w.heap.size + 1 + 1 + 1 + 1, 0, none⟩) (v := .int .i64 0) F3.out F4.out FI.out).set (p := ⟨w.heap.size + 1 + 1 + 1 + 1, 1, none⟩) (v := .int .i64 (j : Int)) F3.out F4.out FI.out)
                  go_wp2
                  obtain ⟨r0, r1, r2⟩ := U3.out.three
                  obtain ⟨r3, r4⟩ := U4.out.two
                  exact bodyPost_ret (v := .tuple #[.agg #[.slice A3 n3 k3, .slice A4 n4 k4, .slice (some ⟨gg, 0, none⟩) ni cI], .agg #[.int .i64 0, .int .i64 (j : Int)]]) (by simp [results, Try.results106, go_sem, r0, r1, r2, r3, r4]) rfl (by rw [FN.out]; exact ⟨_, _, _, _, _, _, _, _, _, rfl, UD.out, UB.out, .inr OF3.out, .inr OF4.out, .inr FRI.out⟩)
                · have FN := hide2 (show stepD ⟨P, ts⟩ roles k o = (k, 0, p.2) by rw [stepD_c (by have := HKK.out; omega), changeD_err (p := p) ZI.out (by rw [HKK.out]; decide) KD.out (by rw [II.out.2, HTJ.out]; exact HP.out) he])
                  have hee : (p.2 != 0) = true := by simpa using he
                  clear he
                  go_wp2_with (go_at_call 163; (with_reducible refine (no_calls p.2 E1.out).mono ?_); rintro e5 w5 ⟨rfl, hb5⟩; have B5 := hide2 hb5; clear hb5; obtain ⟨z0, z1, z2⟩ := (E3.out.keep B5.out).three; obtain ⟨v0, v1⟩ := (E4.out.keep B5.out).two; have fz0 := (E3.out.keep B5.out).frozen 0; have fz1 := (E3.out.keep B5.out).frozen 1; have fz2 := (E3.out.keep B5.out).frozen 2; have g0 := (E4.out.keep B5.out).frozen 0; have g1 := (E4.out.keep B5.out).frozen 1; have U3 := hide2 ((((E3.out.keep B5.out).set3 (.slice B m d) (.slice D l e) (.slice I ni ci)).other (a := ⟨w.heap.size + 1 + 1 + 1 + 1, 0, none⟩) (.int .i64 p.2) (by show w.heap.size + 1 + 1 + 1 ≠ w.heap.size + 1 + 1 + 1 + 1; omega)).other (a := ⟨w.heap.size + 1 + 1 + 1 + 1, 1, none⟩) (.int .i64 0) (by show w.heap.size + 1 + 1 + 1 ≠ w.heap.size + 1 + 1 + 1 + 1; omega)); have U4 := hide2 (((((E4.out.keep B5.out).other (a := ⟨w.heap.size + 1 + 1 + 1, 0, none⟩) (.slice B m d) (by show w.heap.size + 1 + 1 + 1 + 1 ≠ w.heap.size + 1 + 1 + 1; omega)).other (a := ⟨w.heap.size + 1 + 1 + 1, 1, none⟩) (.slice D l e) (by show w.heap.size + 1 + 1 + 1 + 1 ≠ w.heap.size + 1 + 1 + 1; omega)).other (a := ⟨w.heap.size + 1 + 1 + 1, 2, none⟩) (.slice I ni ci) (by show w.heap.size + 1 + 1 + 1 + 1 ≠ w.heap.size + 1 + 1 + 1; omega)).set2 (.int .i64 p.2) (.int .i64 0)); have UB := hide2 (((below_set3 (BE.out.trans (B5.out.mono BE.out.size)) (show w.heap.size ≤ w.heap.size + 1 + 1 + 1 by omega) (.slice B m d) (.slice D l e) (.slice I ni ci)).setCell (p := ⟨w.heap.size + 1 + 1 + 1 + 1, 0, none⟩) (by show w.heap.size ≤ w.heap.size + 1 + 1 + 1 + 1; omega) (.int .i64 p.2)).setCell (p := ⟨w.heap.size + 1 + 1 + 1 + 1, 1, none⟩) (by show w.heap.size ≤ w.heap.size + 1 + 1 + 1 + 1; omega) (.int .i64 0)))
                  obtain ⟨r0, r1, r2⟩ := U3.out.three
                  obtain ⟨r3, r4⟩ := U4.out.two
                  exact bodyPost_ret (v := .tuple #[.agg #[.slice B m d, .slice D l e, .slice I ni ci], .agg #[.int .i64 p.2, .int .i64 0]]) (by simp [results, Try.results106, go_sem, r0, r1, r2, r3, r4]) rfl (by rw [FN.out]; exact ⟨_, _, _, _, _, _, _, _, _, rfl, XO.out.keep UB.out, UB.out, .inl ⟨rfl, rfl⟩, .inl ⟨rfl, rfl⟩, .inl ⟨rfl, rfl⟩⟩)
              · have FN := hide2 (show stepD ⟨P, ts⟩ roles k o = (k, 0, 7) by rw [stepD_c (by have := HKK.out; omega), changeD_no (x := 7) (by rw [II.out.1, if_pos HOP.out, if_neg (by rw [HOU.out]; exact hu)]) (by decide)])
                have hne : (x.user != ou) = true := by simpa using hu
                clear hu
                go_upto_region 21 with fail
                go_quiet (fail)
                have W1 := hide2 (V1.out.keep (belowN w3 nq))
                have W3 := hide2 (V3.out.keep (belowN w3 nq))
                have W4 := hide2 (V4.out.keep (belowN w3 nq))
                have BK := hide2 (BX.out.trans ((belowN w3 nq).mono BX.out.size))
                clear hne i0 i1 i2 a0 a1 q0 q1 qf0 qf1 y0 y1 y2 y3 y4
                generalize w3.drewN nq = wd at *
                go_wp2_with (go_at_call 163; (with_reducible refine (no_calls 7 W1.out).mono ?_); rintro e5 w5 ⟨rfl, hb5⟩; have B5 := hide2 hb5; clear hb5; obtain ⟨z0, z1, z2⟩ := (W3.out.keep B5.out).three; obtain ⟨v0, v1⟩ := (W4.out.keep B5.out).two; have fz0 := (W3.out.keep B5.out).frozen 0; have fz1 := (W3.out.keep B5.out).frozen 1; have fz2 := (W3.out.keep B5.out).frozen 2; have g0 := (W4.out.keep B5.out).frozen 0; have g1 := (W4.out.keep B5.out).frozen 1; have U3 := hide2 ((((W3.out.keep B5.out).set3 (.slice B m d) (.slice D l e) (.slice I ni ci)).other (a := ⟨w.heap.size + 1 + 1 + 1 + 1, 0, none⟩) (.int .i64 7) (by show w.heap.size + 1 + 1 + 1 ≠ w.heap.size + 1 + 1 + 1 + 1; omega)).other (a := ⟨w.heap.size + 1 + 1 + 1 + 1, 1, none⟩) (.int .i64 0) (by show w.heap.size + 1 + 1 + 1 ≠ w.heap.size + 1 + 1 + 1 + 1; omega)); have U4 := hide2 (((((W4.out.keep B5.out).other (a := ⟨w.heap.size + 1 + 1 + 1, 0, none⟩) (.slice B m d) (by show w.heap.size + 1 + 1 + 1 + 1 ≠ w.heap.size + 1 + 1 + 1; omega)).other (a := ⟨w.heap.size + 1 + 1 + 1, 1, none⟩) (.slice D l e) (by show w.heap.size + 1 + 1 + 1 + 1 ≠ w.heap.size + 1 + 1 + 1; omega)).other (a := ⟨w.heap.size + 1 + 1 + 1, 2, none⟩) (.slice I ni ci) (by show w.heap.size + 1 + 1 + 1 + 1 ≠ w.heap.size + 1 + 1 + 1; omega)).set2 (.int .i64 7) (.int .i64 0)); have UB := hide2 (((below_set3 (BK.out.trans (B5.out.mono BK.out.size)) (show w.heap.size ≤ w.heap.size + 1 + 1 + 1 by omega) (.slice B m d) (.slice D l e) (.slice I ni ci)).setCell (p := ⟨w.heap.size + 1 + 1 + 1 + 1, 0, none⟩) (by show w.heap.size ≤ w.heap.size + 1 + 1 + 1 + 1; omega) (.int .i64 7)).setCell (p := ⟨w.heap.size + 1 + 1 + 1 + 1, 1, none⟩) (by show w.heap.size ≤ w.heap.size + 1 + 1 + 1 + 1; omega) (.int .i64 0)))
                obtain ⟨r0, r1, r2⟩ := U3.out.three
                obtain ⟨r3, r4⟩ := U4.out.two
                exact bodyPost_ret (v := .tuple #[.agg #[.slice B m d, .slice D l e, .slice I ni ci], .agg #[.int .i64 7, .int .i64 0]]) (by simp [results, Try.results106, go_sem, r0, r1, r2, r3, r4]) rfl (by rw [FN.out]; exact ⟨_, _, _, _, _, _, _, _, _, rfl, XO.out.keep UB.out, UB.out, .inl ⟨rfl, rfl⟩, .inl ⟨rfl, rfl⟩, .inl ⟨rfl, rfl⟩⟩)
          · have FN := hide2 (show stepD ⟨P, ts⟩ roles k o = (k, 0, 3) by rw [stepD_c (by have := HKK.out; omega), changeD_no (x := 3) (itemL_out (by rw [HIT.out, XO.out.items.len]; exact hr)) (by decide)])
            by_cases h0 : it < 0
            · clear hr
              go_wp2_with (go_at_call 163; (with_reducible refine (no_calls 3 V1.out).mono ?_); rintro e5 w5 ⟨rfl, hb5⟩; have B5 := hide2 hb5; clear hb5; obtain ⟨z0, z1, z2⟩ := (V3.out.keep B5.out).three; obtain ⟨v0, v1⟩ := (V4.out.keep B5.out).two; have fz0 := (V3.out.keep B5.out).frozen 0; have fz1 := (V3.out.keep B5.out).frozen 1; have fz2 := (V3.out.keep B5.out).frozen 2; have g0 := (V4.out.keep B5.out).frozen 0; have g1 := (V4.out.keep B5.out).frozen 1; have U3 := hide2 ((((V3.out.keep B5.out).set3 (.slice B m d) (.slice D l e) (.slice I ni ci)).other (a := ⟨w.heap.size + 1 + 1 + 1 + 1, 0, none⟩) (.int .i64 3) (by show w.heap.size + 1 + 1 + 1 ≠ w.heap.size + 1 + 1 + 1 + 1; omega)).other (a := ⟨w.heap.size + 1 + 1 + 1 + 1, 1, none⟩) (.int .i64 0) (by show w.heap.size + 1 + 1 + 1 ≠ w.heap.size + 1 + 1 + 1 + 1; omega)); have U4 := hide2 (((((V4.out.keep B5.out).other (a := ⟨w.heap.size + 1 + 1 + 1, 0, none⟩) (.slice B m d) (by show w.heap.size + 1 + 1 + 1 + 1 ≠ w.heap.size + 1 + 1 + 1; omega)).other (a := ⟨w.heap.size + 1 + 1 + 1, 1, none⟩) (.slice D l e) (by show w.heap.size + 1 + 1 + 1 + 1 ≠ w.heap.size + 1 + 1 + 1; omega)).other (a := ⟨w.heap.size + 1 + 1 + 1, 2, none⟩) (.slice I ni ci) (by show w.heap.size + 1 + 1 + 1 + 1 ≠ w.heap.size + 1 + 1 + 1; omega)).set2 (.int .i64 3) (.int .i64 0)); have UB := hide2 (((below_set3 (BX.out.trans (B5.out.mono BX.out.size)) (show w.heap.size ≤ w.heap.size + 1 + 1 + 1 by omega) (.slice B m d) (.slice D l e) (.slice I ni ci)).setCell (p := ⟨w.heap.size + 1 + 1 + 1 + 1, 0, none⟩) (by show w.heap.size ≤ w.heap.size + 1 + 1 + 1 + 1; omega) (.int .i64 3)).setCell (p := ⟨w.heap.size + 1 + 1 + 1 + 1, 1, none⟩) (by show w.heap.size ≤ w.heap.size + 1 + 1 + 1 + 1; omega) (.int .i64 0)))
              obtain ⟨r0, r1, r2⟩ := U3.out.three
              obtain ⟨r3, r4⟩ := U4.out.two
              exact bodyPost_ret (v := .tuple #[.agg #[.slice B m d, .slice D l e, .slice I ni ci], .agg #[.int .i64 3, .int .i64 0]]) (by simp [results, Try.results106, go_sem, r0, r1, r2, r3, r4]) rfl (by rw [FN.out]; exact ⟨_, _, _, _, _, _, _, _, _, rfl, XO.out.keep UB.out, UB.out, .inl ⟨rfl, rfl⟩, .inl ⟨rfl, rfl⟩, .inl ⟨rfl, rfl⟩⟩)
            · have h9 : (ni : Int) ≤ it := by omega
              clear hr
              go_wp2_with (go_at_call 163; (with_reducible refine (no_calls 3 V1.out).mono ?_); rintro e5 w5 ⟨rfl, hb5⟩; have B5 := hide2 hb5; clear hb5; obtain ⟨z0, z1, z2⟩ := (V3.out.keep B5.out).three; obtain ⟨v0, v1⟩ := (V4.out.keep B5.out).two; have fz0 := (V3.out.keep B5.out).frozen 0; have fz1 := (V3.out.keep B5.out).frozen 1; have fz2 := (V3.out.keep B5.out).frozen 2; have g0 := (V4.out.keep B5.out).frozen 0; have g1 := (V4.out.keep B5.out).frozen 1; have U3 := hide2 ((((V3.out.keep B5.out).set3 (.slice B m d) (.slice D l e) (.slice I ni ci)).other (a := ⟨w.heap.size + 1 + 1 + 1 + 1, 0, none⟩) (.int .i64 3) (by show w.heap.size + 1 + 1 + 1 ≠ w.heap.size + 1 + 1 + 1 + 1; omega)).other (a := ⟨w.heap.size + 1 + 1 + 1 + 1, 1, none⟩) (.int .i64 0) (by show w.heap.size + 1 + 1 + 1 ≠ w.heap.size + 1 + 1 + 1 + 1; omega)); have U4 := hide2 (((((V4.out.keep B5.out).other (a := ⟨w.heap.size + 1 + 1 + 1, 0, none⟩) (.slice B m d) (by show w.heap.size + 1 + 1 + 1 + 1 ≠ w.heap.size + 1 + 1 + 1; omega)).other (a := ⟨w.heap.size + 1 + 1 + 1, 1, none⟩) (.slice D l e) (by show w.heap.size + 1 + 1 + 1 + 1 ≠ w.heap.size + 1 + 1 + 1; omega)).other (a := ⟨w.heap.size + 1 + 1 + 1, 2, none⟩) (.slice I ni ci) (by show w.heap.size + 1 + 1 + 1 + 1 ≠ w.heap.size + 1 + 1 + 1; omega)).set2 (.int .i64 3) (.int .i64 0)); have UB := hide2 (((below_set3 (BX.out.trans (B5.out.mono BX.out.size)) (show w.heap.size ≤ w.heap.size + 1 + 1 + 1 by omega) (.slice B m d) (.slice D l e) (.slice I ni ci)).setCell (p := ⟨w.heap.size + 1 + 1 + 1 + 1, 0, none⟩) (by show w.heap.size ≤ w.heap.size + 1 + 1 + 1 + 1; omega) (.int .i64 3)).setCell (p := ⟨w.heap.size + 1 + 1 + 1 + 1, 1, none⟩) (by show w.heap.size ≤ w.heap.size + 1 + 1 + 1 + 1; omega) (.int .i64 0)))
              obtain ⟨r0, r1, r2⟩ := U3.out.three
              obtain ⟨r3, r4⟩ := U4.out.two
              exact bodyPost_ret (v := .tuple #[.agg #[.slice B m d, .slice D l e, .slice I ni ci], .agg #[.int .i64 3, .int .i64 0]]) (by simp [results, Try.results106, go_sem, r0, r1, r2, r3, r4]) rfl (by rw [FN.out]; exact ⟨_, _, _, _, _, _, _, _, _, rfl, XO.out.keep UB.out, UB.out, .inl ⟨rfl, rfl⟩, .inl ⟨rfl, rfl⟩, .inl ⟨rfl, rfl⟩⟩)
        · by_cases h4 : kk = 4
          · subst h4
            by_cases hr : 0 ≤ it ∧ it < (ni : Int)
            · obtain ⟨j, rfl⟩ : ∃ j : Nat, it = (j : Int) := ⟨it.toNat, by omega⟩
              have hjn : j < ni := by omega
              have hji : (j : Int) < (ni : Int) := by omega
              clear hr
              obtain ⟨gg, cap, hgg, _⟩ := ownForm OI.out (by omega)
              injection hgg with hg1 _ hg2
              subst hg1 hg2
              obtain ⟨bi, ofi, x, ei, hbi, hx, i0, i1, i2⟩ := Items.get S12.out hjn
              injection ei with ei
              injection ei with ei1 ei2
              subst ei1 ei2
              simp only [Nat.zero_add] at i0 i1 i2
              have II := hide2 (itemL_in HIT.out hx.out)
              have XT := hide2 (HIN.out _ (List.mem_of_getElem? hx.out))
              cases ho : x.open_
              · have FN := hide2 (show stepD ⟨P, ts⟩ roles k o = (k, 0, 3) by rw [stepD_c (by have := HKK.out; omega), changeD_no (x := 3) (by rw [II.out.1, if_neg (by rw [ho]; decide)]) (by decide)])
                rw [ho] at i2
                clear ho
                go_wp2_with (go_at_call 163; (with_reducible refine (no_calls 3 V1.out).mono ?_); rintro e5 w5 ⟨rfl, hb5⟩; have B5 := hide2 hb5; clear hb5; obtain ⟨z0, z1, z2⟩ := (V3.out.keep B5.out).three; obtain ⟨v0, v1⟩ := (V4.out.keep B5.out).two; have fz0 := (V3.out.keep B5.out).frozen 0; have fz1 := (V3.out.keep B5.out).frozen 1; have fz2 := (V3.out.keep B5.out).frozen 2; have g0 := (V4.out.keep B5.out).frozen 0; have g1 := (V4.out.keep B5.out).frozen 1; have U3 := hide2 ((((V3.out.keep B5.out).set3 (.slice B m d) (.slice D l e) (.slice I ni ci)).other (a := ⟨w.heap.size + 1 + 1 + 1 + 1, 0, none⟩) (.int .i64 3) (by show w.heap.size + 1 + 1 + 1 ≠ w.heap.size + 1 + 1 + 1 + 1; omega)).other (a := ⟨w.heap.size + 1 + 1 + 1 + 1, 1, none⟩) (.int .i64 0) (by show w.heap.size + 1 + 1 + 1 ≠ w.heap.size + 1 + 1 + 1 + 1; omega)); have U4 := hide2 (((((V4.out.keep B5.out).other (a := ⟨w.heap.size + 1 + 1 + 1, 0, none⟩) (.slice B m d) (by show w.heap.size + 1 + 1 + 1 + 1 ≠ w.heap.size + 1 + 1 + 1; omega)).other (a := ⟨w.heap.size + 1 + 1 + 1, 1, none⟩) (.slice D l e) (by show w.heap.size + 1 + 1 + 1 + 1 ≠ w.heap.size + 1 + 1 + 1; omega)).other (a := ⟨w.heap.size + 1 + 1 + 1, 2, none⟩) (.slice I ni ci) (by show w.heap.size + 1 + 1 + 1 + 1 ≠ w.heap.size + 1 + 1 + 1; omega)).set2 (.int .i64 3) (.int .i64 0)); have UB := hide2 (((below_set3 (BX.out.trans (B5.out.mono BX.out.size)) (show w.heap.size ≤ w.heap.size + 1 + 1 + 1 by omega) (.slice B m d) (.slice D l e) (.slice I ni ci)).setCell (p := ⟨w.heap.size + 1 + 1 + 1 + 1, 0, none⟩) (by show w.heap.size ≤ w.heap.size + 1 + 1 + 1 + 1; omega) (.int .i64 3)).setCell (p := ⟨w.heap.size + 1 + 1 + 1 + 1, 1, none⟩) (by show w.heap.size ≤ w.heap.size + 1 + 1 + 1 + 1; omega) (.int .i64 0)))
                obtain ⟨r0, r1, r2⟩ := U3.out.three
                obtain ⟨r3, r4⟩ := U4.out.two
                exact bodyPost_ret (v := .tuple #[.agg #[.slice B m d, .slice D l e, .slice I ni ci], .agg #[.int .i64 3, .int .i64 0]]) (by simp [results, Try.results106, go_sem, r0, r1, r2, r3, r4]) rfl (by rw [FN.out]; exact ⟨_, _, _, _, _, _, _, _, _, rfl, XO.out.keep UB.out, UB.out, .inl ⟨rfl, rfl⟩, .inl ⟨rfl, rfl⟩, .inl ⟨rfl, rfl⟩⟩)
              · have HOP := hide2 ho
                rw [ho] at i2
                clear ho
                by_cases hu : x.user = ou
                · have ZI := hide2 (show itemL k o = 0 by rw [II.out.1, if_pos HOP.out, if_pos (by rw [HOU.out]; exact hu)])
                  have hne : (x.user != ou) = false := by simpa using hu
                  go_upto_region 21 with fail
                  go_quiet (fail)
                  clear hne i0 i1 i2 a0 a1 q0 q1 qf0 qf1 y0 y1 y2 y3 y4
                  have W0 := hide2 (V0.out.keep (belowN w3 nq))
                  have W1 := hide2 (V1.out.keep (belowN w3 nq))
                  have W2 := hide2 (V2.out.keep (belowN w3 nq))
                  have W3 := hide2 (V3.out.keep (belowN w3 nq))
                  have W4 := hide2 (V4.out.keep (belowN w3 nq))
                  have WB := hide2 (VB.out.keep (belowN w3 nq))
                  have OK := hide2 (OwnSl.keep ItemR.kept OI.out (belowN w3 nq))
                  have BK := hide2 (BX.out.trans ((belowN w3 nq).mono BX.out.size))
                  clear V0 V1 V2 V3 V4 VB OI S12 BX
                  generalize w3.drewN nq = wd at *
                  obtain ⟨bi, ofi, x', ei, hbi, hx', i0, i1, i2⟩ := Items.get (OwnSl.arrAny OK.out (by omega)) hjn
                  injection ei with ei
                  injection ei with ei1 ei2
                  subst ei1 ei2
                  simp only [Nat.zero_add] at i0 i1 i2
                  obtain rfl : x' = x := by have h1 := hx'.out; rw [hx.out] at h1; injection h1 with h1; exact h1.symm
                  obtain ⟨y0, y1, y2, y3, y4⟩ := W2.out.five
                  obtain ⟨tj, htj⟩ : ∃ tj : Nat, x'.tran = (tj : Int) := ⟨x'.tran.toNat, by have := XT.out.1; omega⟩
                  rw [htj] at i1
                  have htn : tj < n := by have := XT.out.2; have := HL.out; simp only at *; omega
                  have htni : (tj : Int) < (n : Int) := by omega
                  have HTJ := hide2 htj
                  clear htj hu
                  have H3 := hide2 (HO.out.keep BK.out)
                  obtain ⟨b, off, t, A1, n1, c1', A2, n2, c2', rfl, hb, ht, l0, l1, l2, _⟩ := Trans.get H3.out htn
                  have LB := hide2 (show labelL ⟨P, ts⟩ (itemAt k o).tran = t.label by rw [II.out.2, HTJ.out]; exact labelL_at ht.out)
                  clear l1 l2
                  obtain ⟨lb, hlb⟩ : ∃ lb, t.label = lb := ⟨_, rfl⟩
                  rw [hlb] at l0 LB
                  obtain ⟨mv, hmv⟩ : ∃ v, mayL roles ot lb = v := ⟨_, rfl⟩
                  have CM := hide2 (fun (w' : World) (hb : Below wd.heap.size wd w') => qmay_calls ot lb (Sl.keep ListR.kept GO.out (BK.out.trans (hb.mono BK.out.size))))
                  simp only [hmv] at CM
                  have HMV := hide2 (show mayL roles o.to_ (labelL ⟨P, ts⟩ (itemAt k o).tran) = mv by rw [LB.out, HOT.out]; exact hmv)
                  clear hmv hlb
                  have DR := hide2 ((Below.refl wd.heap.size wd).drew)
                  have a1 := W0.out.two.2
                  go_upto_region 24 with fail
                  clear y0 y1 y2 y3 i0 i2
                  go_region_held3 (fun w' => w'.cell? ⟨w.heap.size + 1 + 1, 4, none⟩ = some (.int .i64 ot) ∧ w'.cell? ⟨w.heap.size, 1, none⟩ = some (.slice (some ⟨b, off, none⟩) n c) ∧ w'.cell? ⟨gg, j * 3 + 1, none⟩ = some (.int .i64 (tj : Int)) ∧ w'.cell? ⟨b, off + tj * 3, none⟩ = some (.int .i64 lb))
                    (first | go_keep)
                    (first | (go_at_call 164; (with_reducible refine (CM.out _ DR.out).mono ?_); rintro e1 w9 ⟨rfl, rfl⟩))
                  all_goals
                    clear y4 a1 i1 l0 CM
                    have V0 := hide2 (W0.out.keep DR.out)
                    have V1 := hide2 (W1.out.keep DR.out)
                    have V2 := hide2 (W2.out.keep DR.out)
                    have V3 := hide2 (W3.out.keep DR.out)
                    have V4 := hide2 (W4.out.keep DR.out)
                    have VB := hide2 (WB.out.keep DR.out)
                    have OI := hide2 (OwnSl.keep ItemR.kept OK.out DR.out)
                    have BX := hide2 (BK.out.trans (DR.out.mono BK.out.size))
                    clear W0 W1 W2 W3 W4 WB OK BK DR H3 hb hbi
                    generalize wd.drew = we at *
                    cases mv
                    · have FN := hide2 (show stepD ⟨P, ts⟩ roles k o = (k, 0, 6) by rw [stepD_c (by have := HKK.out; omega), changeD_may ZI.out HKK.out HMV.out])
                      go_wp2_with (go_at_call 163; (with_reducible refine (no_calls 6 V1.out).mono ?_); rintro e5 w5 ⟨rfl, hb5⟩; have B5 := hide2 hb5; clear hb5; obtain ⟨z0, z1, z2⟩ := (V3.out.keep B5.out).three; obtain ⟨v0, v1⟩ := (V4.out.keep B5.out).two; have fz0 := (V3.out.keep B5.out).frozen 0; have fz1 := (V3.out.keep B5.out).frozen 1; have fz2 := (V3.out.keep B5.out).frozen 2; have g0 := (V4.out.keep B5.out).frozen 0; have g1 := (V4.out.keep B5.out).frozen 1; have U3 := hide2 ((((V3.out.keep B5.out).set3 (.slice B m d) (.slice D l e) (.slice I ni ci)).other (a := ⟨w.heap.size + 1 + 1 + 1 + 1, 0, none⟩) (.int .i64 6) (by show w.heap.size + 1 + 1 + 1 ≠ w.heap.size + 1 + 1 + 1 + 1; omega)).other (a := ⟨w.heap.size + 1 + 1 + 1 + 1, 1, none⟩) (.int .i64 0) (by show w.heap.size + 1 + 1 + 1 ≠ w.heap.size + 1 + 1 + 1 + 1; omega)); have U4 := hide2 (((((V4.out.keep B5.out).other (a := ⟨w.heap.size + 1 + 1 + 1, 0, none⟩) (.slice B m d) (by show w.heap.size + 1 + 1 + 1 + 1 ≠ w.heap.size + 1 + 1 + 1; omega)).other (a := ⟨w.heap.size + 1 + 1 + 1, 1, none⟩) (.slice D l e) (by show w.heap.size + 1 + 1 + 1 + 1 ≠ w.heap.size + 1 + 1 + 1; omega)).other (a := ⟨w.heap.size + 1 + 1 + 1, 2, none⟩) (.slice I ni ci) (by show w.heap.size + 1 + 1 + 1 + 1 ≠ w.heap.size + 1 + 1 + 1; omega)).set2 (.int .i64 6) (.int .i64 0)); have UB := hide2 (((below_set3 (BX.out.trans (B5.out.mono BX.out.size)) (show w.heap.size ≤ w.heap.size + 1 + 1 + 1 by omega) (.slice B m d) (.slice D l e) (.slice I ni ci)).setCell (p := ⟨w.heap.size + 1 + 1 + 1 + 1, 0, none⟩) (by show w.heap.size ≤ w.heap.size + 1 + 1 + 1 + 1; omega) (.int .i64 6)).setCell (p := ⟨w.heap.size + 1 + 1 + 1 + 1, 1, none⟩) (by show w.heap.size ≤ w.heap.size + 1 + 1 + 1 + 1; omega) (.int .i64 0)))
                      obtain ⟨r0, r1, r2⟩ := U3.out.three
                      obtain ⟨r3, r4⟩ := U4.out.two
                      exact bodyPost_ret (v := .tuple #[.agg #[.slice B m d, .slice D l e, .slice I ni ci], .agg #[.int .i64 6, .int .i64 0]]) (by simp [results, Try.results106, go_sem, r0, r1, r2, r3, r4]) rfl (by rw [FN.out]; exact ⟨_, _, _, _, _, _, _, _, _, rfl, XO.out.keep UB.out, UB.out, .inl ⟨rfl, rfl⟩, .inl ⟨rfl, rfl⟩, .inl ⟨rfl, rfl⟩⟩)
                    · have FN := hide2 (show stepD ⟨P, ts⟩ roles k o = (⟨k.case_, k.items.set j ⟨ot, x'.tran, x'.open_⟩⟩, (j : Int), 0) by rw [stepD_c (by have := HKK.out; omega), changeD_give ZI.out HKK.out HMV.out, II.out.2, HIT.out, HOT.out]; rfl)
                      obtain ⟨u0, i0⟩ := OI.out.someAt (j := j * 3) (by omega)
                      have j0 := OI.out.frozenAt (j * 3)
                      obtain ⟨y0, y1, y2, y3, y4⟩ := V2.out.five
                      go_upto_region 27 with fail
                      clear i0 j0 y0 y1 y2 y3 y4
                      have C0 := hide2 (V0.out.other (a := ⟨gg, j * 3, none⟩) (.int .i64 ot) (fun e => OI.out.notBox V0.out (by decide) (by rw [e]; rfl)))
                      have C1 := hide2 (V1.out.other (a := ⟨gg, j * 3, none⟩) (.int .i64 ot) (fun e => OI.out.notBox V1.out (by decide) (by rw [e]; rfl)))
                      have C2 := hide2 (V2.out.other (a := ⟨gg, j * 3, none⟩) (.int .i64 ot) (fun e => OI.out.notBox V2.out (by decide) (by rw [e]; rfl)))
                      have C3 := hide2 (V3.out.other (a := ⟨gg, j * 3, none⟩) (.int .i64 ot) (fun e => OI.out.notBox V3.out (by decide) (by rw [e]; rfl)))
                      have C4 := hide2 (V4.out.other (a := ⟨gg, j * 3, none⟩) (.int .i64 ot) (fun e => OI.out.notBox V4.out (by decide) (by rw [e]; rfl)))
                      have CB := hide2 (VB.out.other (a := ⟨gg, j * 3, none⟩) (.int .i64 ot) (fun e => OI.out.notBox VB.out (by decide) (by rw [e]; rfl)))
                      have OJ := hide2 (OwnItems.putUser (u := ot) OI.out hjn hx.out)
                      have BY := hide2 (BX.out.setCell (p := ⟨gg, j * 3, none⟩) (show w.heap.size ≤ gg from (OI.out.lt gg rfl).1) (.int .i64 ot))
                      clear V0 V1 V2 V3 V4 VB OI BX C0 C2 CB
                      generalize we.setCell ⟨gg, j * 3, none⟩ (.int .i64 ot) = wy at *
                      have FI := hide2 (farBox (e := 0) OJ.out C4.out (by decide) rfl)
                      have FRI := hide2 (freshOwn (e := 0) OJ.out rfl)
                      have SJ := hide2 (OwnSl.arrAny OJ.out (by omega))
                      obtain ⟨c0, c1, c2⟩ := C1.out.three
                      obtain ⟨z0, z1, z2⟩ := C3.out.three
                      obtain ⟨v0, v1⟩ := C4.out.two
                      have fz0 := C3.out.frozen 0
                      have fz1 := C3.out.frozen 1
                      have fz2 := C3.out.frozen 2
                      have g0 := C4.out.frozen 0
                      have g1 := C4.out.frozen 1
                      have U3 := hide2 (((C3.out.set3 (.slice B m d) (.slice D l e) (.slice (some ⟨gg, 0, none⟩) ni cI)).other (a := ⟨w.heap.size + 1 + 1 + 1 + 1, 0, none⟩) (.int .i64 0) (by show w.heap.size + 1 + 1 + 1 ≠ w.heap.size + 1 + 1 + 1 + 1; omega)).other (a := ⟨w.heap.size + 1 + 1 + 1 + 1, 1, none⟩) (.int .i64 (j : Int)) (by show w.heap.size + 1 + 1 + 1 ≠ w.heap.size + 1 + 1 + 1 + 1; omega))
                      have U4 := hide2 ((((C4.out.other (a := ⟨w.heap.size + 1 + 1 + 1, 0, none⟩) (.slice B m d) (by show w.heap.size + 1 + 1 + 1 + 1 ≠ w.heap.size + 1 + 1 + 1; omega)).other (a := ⟨w.heap.size + 1 + 1 + 1, 1, none⟩) (.slice D l e) (by show w.heap.size + 1 + 1 + 1 + 1 ≠ w.heap.size + 1 + 1 + 1; omega)).other (a := ⟨w.heap.size + 1 + 1 + 1, 2, none⟩) (.slice (some ⟨gg, 0, none⟩) ni cI) (by show w.heap.size + 1 + 1 + 1 + 1 ≠ w.heap.size + 1 + 1 + 1; omega)).set2 (.int .i64 0) (.int .i64 (j : Int)))
                      have UB := hide2 (((below_set3 BY.out (show w.heap.size ≤ w.heap.size + 1 + 1 + 1 by omega) (.slice B m d) (.slice D l e) (.slice (some ⟨gg, 0, none⟩) ni cI)).setCell (p := ⟨w.heap.size + 1 + 1 + 1 + 1, 0, none⟩) (by show w.heap.size ≤ w.heap.size + 1 + 1 + 1 + 1; omega) (.int .i64 0)).setCell (p := ⟨w.heap.size + 1 + 1 + 1 + 1, 1, none⟩) (by show w.heap.size ≤ w.heap.size + 1 + 1 + 1 + 1; omega) (.int .i64 (j : Int)))
                      have OM : Old wy B m B m := .inl ⟨rfl, rfl⟩
                      have OD : Old wy D l D l := .inl ⟨rfl, rfl⟩
                      have hs4 := C4.out.lt
                      have UD := hide2 (((DeskW.beside (show DeskW wy B m d D l e (some ⟨gg, 0, none⟩) ni cI ⟨k.case_, k.items.set j ⟨ot, x'.tran, x'.open_⟩⟩ from ⟨XO.out.mark.keep BY.out, XO.out.busy.keep BY.out, SJ.out⟩) C3.out noInt3 (Beside.set3 _ _ (.slice B m d) (.slice D l e) (.slice (some ⟨gg, 0, none⟩) ni cI))).set (p := ⟨w.heap.size + 1 + 1 + 1 + 1, 0, none⟩) (v := .int .i64 0) (OM.far XO.out.mark (show w.heap.size ≤ w.heap.size + 1 + 1 + 1 + 1 by omega) hs4) (OD.far XO.out.busy (show w.heap.size ≤ w.heap.size + 1 + 1 + 1 + 1 by omega) hs4) FI.out).set (p := ⟨w.heap.size + 1 + 1 + 1 + 1, 1, none⟩) (v := .int .i64 (j : Int)) (OM.far XO.out.mark (show w.heap.size ≤ w.heap.size + 1 + 1 + 1 + 1 by omega) hs4) (OD.far XO.out.busy (show w.heap.size ≤ w.heap.size + 1 + 1 + 1 + 1 by omega) hs4) FI.out)
                      go_wp2
                      obtain ⟨r0, r1, r2⟩ := U3.out.three
                      obtain ⟨r3, r4⟩ := U4.out.two
                      exact bodyPost_ret (v := .tuple #[.agg #[.slice B m d, .slice D l e, .slice (some ⟨gg, 0, none⟩) ni cI], .agg #[.int .i64 0, .int .i64 (j : Int)]]) (by simp [results, Try.results106, go_sem, r0, r1, r2, r3, r4]) rfl (by rw [FN.out]; exact ⟨_, _, _, _, _, _, _, _, _, rfl, UD.out, UB.out, .inl ⟨rfl, rfl⟩, .inl ⟨rfl, rfl⟩, .inr FRI.out⟩)
                · have FN := hide2 (show stepD ⟨P, ts⟩ roles k o = (k, 0, 7) by rw [stepD_c (by have := HKK.out; omega), changeD_no (x := 7) (by rw [II.out.1, if_pos HOP.out, if_neg (by rw [HOU.out]; exact hu)]) (by decide)])
                  have hne : (x.user != ou) = true := by simpa using hu
                  clear hu
                  go_upto_region 21 with fail
                  go_quiet (fail)
                  have W1 := hide2 (V1.out.keep (belowN w3 nq))
                  have W3 := hide2 (V3.out.keep (belowN w3 nq))
                  have W4 := hide2 (V4.out.keep (belowN w3 nq))
                  have BK := hide2 (BX.out.trans ((belowN w3 nq).mono BX.out.size))
                  clear hne i0 i1 i2 a0 a1 q0 q1 qf0 qf1 y0 y1 y2 y3 y4
                  generalize w3.drewN nq = wd at *
                  go_wp2_with (go_at_call 163; (with_reducible refine (no_calls 7 W1.out).mono ?_); rintro e5 w5 ⟨rfl, hb5⟩; have B5 := hide2 hb5; clear hb5; obtain ⟨z0, z1, z2⟩ := (W3.out.keep B5.out).three; obtain ⟨v0, v1⟩ := (W4.out.keep B5.out).two; have fz0 := (W3.out.keep B5.out).frozen 0; have fz1 := (W3.out.keep B5.out).frozen 1; have fz2 := (W3.out.keep B5.out).frozen 2; have g0 := (W4.out.keep B5.out).frozen 0; have g1 := (W4.out.keep B5.out).frozen 1; have U3 := hide2 ((((W3.out.keep B5.out).set3 (.slice B m d) (.slice D l e) (.slice I ni ci)).other (a := ⟨w.heap.size + 1 + 1 + 1 + 1, 0, none⟩) (.int .i64 7) (by show w.heap.size + 1 + 1 + 1 ≠ w.heap.size + 1 + 1 + 1 + 1; omega)).other (a := ⟨w.heap.size + 1 + 1 + 1 + 1, 1, none⟩) (.int .i64 0) (by show w.heap.size + 1 + 1 + 1 ≠ w.heap.size + 1 + 1 + 1 + 1; omega)); have U4 := hide2 (((((W4.out.keep B5.out).other (a := ⟨w.heap.size + 1 + 1 + 1, 0, none⟩) (.slice B m d) (by show w.heap.size + 1 + 1 + 1 + 1 ≠ w.heap.size + 1 + 1 + 1; omega)).other (a := ⟨w.heap.size + 1 + 1 + 1, 1, none⟩) (.slice D l e) (by show w.heap.size + 1 + 1 + 1 + 1 ≠ w.heap.size + 1 + 1 + 1; omega)).other (a := ⟨w.heap.size + 1 + 1 + 1, 2, none⟩) (.slice I ni ci) (by show w.heap.size + 1 + 1 + 1 + 1 ≠ w.heap.size + 1 + 1 + 1; omega)).set2 (.int .i64 7) (.int .i64 0)); have UB := hide2 (((below_set3 (BK.out.trans (B5.out.mono BK.out.size)) (show w.heap.size ≤ w.heap.size + 1 + 1 + 1 by omega) (.slice B m d) (.slice D l e) (.slice I ni ci)).setCell (p := ⟨w.heap.size + 1 + 1 + 1 + 1, 0, none⟩) (by show w.heap.size ≤ w.heap.size + 1 + 1 + 1 + 1; omega) (.int .i64 7)).setCell (p := ⟨w.heap.size + 1 + 1 + 1 + 1, 1, none⟩) (by show w.heap.size ≤ w.heap.size + 1 + 1 + 1 + 1; omega) (.int .i64 0)))
                  obtain ⟨r0, r1, r2⟩ := U3.out.three
                  obtain ⟨r3, r4⟩ := U4.out.two
                  exact bodyPost_ret (v := .tuple #[.agg #[.slice B m d, .slice D l e, .slice I ni ci], .agg #[.int .i64 7, .int .i64 0]]) (by simp [results, Try.results106, go_sem, r0, r1, r2, r3, r4]) rfl (by rw [FN.out]; exact ⟨_, _, _, _, _, _, _, _, _, rfl, XO.out.keep UB.out, UB.out, .inl ⟨rfl, rfl⟩, .inl ⟨rfl, rfl⟩, .inl ⟨rfl, rfl⟩⟩)
            · have FN := hide2 (show stepD ⟨P, ts⟩ roles k o = (k, 0, 3) by rw [stepD_c (by have := HKK.out; omega), changeD_no (x := 3) (itemL_out (by rw [HIT.out, XO.out.items.len]; exact hr)) (by decide)])
              by_cases h0 : it < 0
              · clear hr
                go_wp2_with (go_at_call 163; (with_reducible refine (no_calls 3 V1.out).mono ?_); rintro e5 w5 ⟨rfl, hb5⟩; have B5 := hide2 hb5; clear hb5; obtain ⟨z0, z1, z2⟩ := (V3.out.keep B5.out).three; obtain ⟨v0, v1⟩ := (V4.out.keep B5.out).two; have fz0 := (V3.out.keep B5.out).frozen 0; have fz1 := (V3.out.keep B5.out).frozen 1; have fz2 := (V3.out.keep B5.out).frozen 2; have g0 := (V4.out.keep B5.out).frozen 0; have g1 := (V4.out.keep B5.out).frozen 1; have U3 := hide2 ((((V3.out.keep B5.out).set3 (.slice B m d) (.slice D l e) (.slice I ni ci)).other (a := ⟨w.heap.size + 1 + 1 + 1 + 1, 0, none⟩) (.int .i64 3) (by show w.heap.size + 1 + 1 + 1 ≠ w.heap.size + 1 + 1 + 1 + 1; omega)).other (a := ⟨w.heap.size + 1 + 1 + 1 + 1, 1, none⟩) (.int .i64 0) (by show w.heap.size + 1 + 1 + 1 ≠ w.heap.size + 1 + 1 + 1 + 1; omega)); have U4 := hide2 (((((V4.out.keep B5.out).other (a := ⟨w.heap.size + 1 + 1 + 1, 0, none⟩) (.slice B m d) (by show w.heap.size + 1 + 1 + 1 + 1 ≠ w.heap.size + 1 + 1 + 1; omega)).other (a := ⟨w.heap.size + 1 + 1 + 1, 1, none⟩) (.slice D l e) (by show w.heap.size + 1 + 1 + 1 + 1 ≠ w.heap.size + 1 + 1 + 1; omega)).other (a := ⟨w.heap.size + 1 + 1 + 1, 2, none⟩) (.slice I ni ci) (by show w.heap.size + 1 + 1 + 1 + 1 ≠ w.heap.size + 1 + 1 + 1; omega)).set2 (.int .i64 3) (.int .i64 0)); have UB := hide2 (((below_set3 (BX.out.trans (B5.out.mono BX.out.size)) (show w.heap.size ≤ w.heap.size + 1 + 1 + 1 by omega) (.slice B m d) (.slice D l e) (.slice I ni ci)).setCell (p := ⟨w.heap.size + 1 + 1 + 1 + 1, 0, none⟩) (by show w.heap.size ≤ w.heap.size + 1 + 1 + 1 + 1; omega) (.int .i64 3)).setCell (p := ⟨w.heap.size + 1 + 1 + 1 + 1, 1, none⟩) (by show w.heap.size ≤ w.heap.size + 1 + 1 + 1 + 1; omega) (.int .i64 0)))
                obtain ⟨r0, r1, r2⟩ := U3.out.three
                obtain ⟨r3, r4⟩ := U4.out.two
                exact bodyPost_ret (v := .tuple #[.agg #[.slice B m d, .slice D l e, .slice I ni ci], .agg #[.int .i64 3, .int .i64 0]]) (by simp [results, Try.results106, go_sem, r0, r1, r2, r3, r4]) rfl (by rw [FN.out]; exact ⟨_, _, _, _, _, _, _, _, _, rfl, XO.out.keep UB.out, UB.out, .inl ⟨rfl, rfl⟩, .inl ⟨rfl, rfl⟩, .inl ⟨rfl, rfl⟩⟩)
              · have h9 : (ni : Int) ≤ it := by omega
                clear hr
                go_wp2_with (go_at_call 163; (with_reducible refine (no_calls 3 V1.out).mono ?_); rintro e5 w5 ⟨rfl, hb5⟩; have B5 := hide2 hb5; clear hb5; obtain ⟨z0, z1, z2⟩ := (V3.out.keep B5.out).three; obtain ⟨v0, v1⟩ := (V4.out.keep B5.out).two; have fz0 := (V3.out.keep B5.out).frozen 0; have fz1 := (V3.out.keep B5.out).frozen 1; have fz2 := (V3.out.keep B5.out).frozen 2; have g0 := (V4.out.keep B5.out).frozen 0; have g1 := (V4.out.keep B5.out).frozen 1; have U3 := hide2 ((((V3.out.keep B5.out).set3 (.slice B m d) (.slice D l e) (.slice I ni ci)).other (a := ⟨w.heap.size + 1 + 1 + 1 + 1, 0, none⟩) (.int .i64 3) (by show w.heap.size + 1 + 1 + 1 ≠ w.heap.size + 1 + 1 + 1 + 1; omega)).other (a := ⟨w.heap.size + 1 + 1 + 1 + 1, 1, none⟩) (.int .i64 0) (by show w.heap.size + 1 + 1 + 1 ≠ w.heap.size + 1 + 1 + 1 + 1; omega)); have U4 := hide2 (((((V4.out.keep B5.out).other (a := ⟨w.heap.size + 1 + 1 + 1, 0, none⟩) (.slice B m d) (by show w.heap.size + 1 + 1 + 1 + 1 ≠ w.heap.size + 1 + 1 + 1; omega)).other (a := ⟨w.heap.size + 1 + 1 + 1, 1, none⟩) (.slice D l e) (by show w.heap.size + 1 + 1 + 1 + 1 ≠ w.heap.size + 1 + 1 + 1; omega)).other (a := ⟨w.heap.size + 1 + 1 + 1, 2, none⟩) (.slice I ni ci) (by show w.heap.size + 1 + 1 + 1 + 1 ≠ w.heap.size + 1 + 1 + 1; omega)).set2 (.int .i64 3) (.int .i64 0)); have UB := hide2 (((below_set3 (BX.out.trans (B5.out.mono BX.out.size)) (show w.heap.size ≤ w.heap.size + 1 + 1 + 1 by omega) (.slice B m d) (.slice D l e) (.slice I ni ci)).setCell (p := ⟨w.heap.size + 1 + 1 + 1 + 1, 0, none⟩) (by show w.heap.size ≤ w.heap.size + 1 + 1 + 1 + 1; omega) (.int .i64 3)).setCell (p := ⟨w.heap.size + 1 + 1 + 1 + 1, 1, none⟩) (by show w.heap.size ≤ w.heap.size + 1 + 1 + 1 + 1; omega) (.int .i64 0)))
                obtain ⟨r0, r1, r2⟩ := U3.out.three
                obtain ⟨r3, r4⟩ := U4.out.two
                exact bodyPost_ret (v := .tuple #[.agg #[.slice B m d, .slice D l e, .slice I ni ci], .agg #[.int .i64 3, .int .i64 0]]) (by simp [results, Try.results106, go_sem, r0, r1, r2, r3, r4]) rfl (by rw [FN.out]; exact ⟨_, _, _, _, _, _, _, _, _, rfl, XO.out.keep UB.out, UB.out, .inl ⟨rfl, rfl⟩, .inl ⟨rfl, rfl⟩, .inl ⟨rfl, rfl⟩⟩)
          · have e1 : (kk == 1) = false := by simpa using h1
            have e2 : (kk == 2) = false := by simpa using h2
            have e3 : (kk == 3) = false := by simpa using h3
            have e4 : (kk == 4) = false := by simpa using h4
            have e5 : (kk == 5) = false := by simpa using h5
            have FN := hide2 (stepD_no (N := ⟨P, ts⟩) (roles := roles) (k := k) (o := o) (by rw [HKK.out]; exact h1) (by rw [HKK.out]; exact h2) (by rw [HKK.out]; exact h3) (by rw [HKK.out]; exact h4) (by rw [HKK.out]; exact h5))
            clear h1 h2 h3 h4 h5
            go_wp2_with (go_at_call 163; (with_reducible refine (no_calls 5 V1.out).mono ?_); rintro e5 w5 ⟨rfl, hb5⟩; have B5 := hide2 hb5; clear hb5; obtain ⟨z0, z1, z2⟩ := (V3.out.keep B5.out).three; obtain ⟨v0, v1⟩ := (V4.out.keep B5.out).two; have fz0 := (V3.out.keep B5.out).frozen 0; have fz1 := (V3.out.keep B5.out).frozen 1; have fz2 := (V3.out.keep B5.out).frozen 2; have g0 := (V4.out.keep B5.out).frozen 0; have g1 := (V4.out.keep B5.out).frozen 1; have U3 := hide2 ((((V3.out.keep B5.out).set3 (.slice B m d) (.slice D l e) (.slice I ni ci)).other (a := ⟨w.heap.size + 1 + 1 + 1 + 1, 0, none⟩) (.int .i64 5) (by show w.heap.size + 1 + 1 + 1 ≠ w.heap.size + 1 + 1 + 1 + 1; omega)).other (a := ⟨w.heap.size + 1 + 1 + 1 + 1, 1, none⟩) (.int .i64 0) (by show w.heap.size + 1 + 1 + 1 ≠ w.heap.size + 1 + 1 + 1 + 1; omega)); have U4 := hide2 (((((V4.out.keep B5.out).other (a := ⟨w.heap.size + 1 + 1 + 1, 0, none⟩) (.slice B m d) (by show w.heap.size + 1 + 1 + 1 + 1 ≠ w.heap.size + 1 + 1 + 1; omega)).other (a := ⟨w.heap.size + 1 + 1 + 1, 1, none⟩) (.slice D l e) (by show w.heap.size + 1 + 1 + 1 + 1 ≠ w.heap.size + 1 + 1 + 1; omega)).other (a := ⟨w.heap.size + 1 + 1 + 1, 2, none⟩) (.slice I ni ci) (by show w.heap.size + 1 + 1 + 1 + 1 ≠ w.heap.size + 1 + 1 + 1; omega)).set2 (.int .i64 5) (.int .i64 0)); have UB := hide2 (((below_set3 (BX.out.trans (B5.out.mono BX.out.size)) (show w.heap.size ≤ w.heap.size + 1 + 1 + 1 by omega) (.slice B m d) (.slice D l e) (.slice I ni ci)).setCell (p := ⟨w.heap.size + 1 + 1 + 1 + 1, 0, none⟩) (by show w.heap.size ≤ w.heap.size + 1 + 1 + 1 + 1; omega) (.int .i64 5)).setCell (p := ⟨w.heap.size + 1 + 1 + 1 + 1, 1, none⟩) (by show w.heap.size ≤ w.heap.size + 1 + 1 + 1 + 1; omega) (.int .i64 0)))
            obtain ⟨r0, r1, r2⟩ := U3.out.three
            obtain ⟨r3, r4⟩ := U4.out.two
            exact bodyPost_ret (v := .tuple #[.agg #[.slice B m d, .slice D l e, .slice I ni ci], .agg #[.int .i64 5, .int .i64 0]]) (by simp [results, Try.results106, go_sem, r0, r1, r2, r3, r4]) rfl (by rw [FN.out]; exact ⟨_, _, _, _, _, _, _, _, _, rfl, XO.out.keep UB.out, UB.out, .inl ⟨rfl, rfl⟩, .inl ⟨rfl, rfl⟩, .inl ⟨rfl, rfl⟩⟩)
end Go.Proofs.Ytmnacahoamkokaa
