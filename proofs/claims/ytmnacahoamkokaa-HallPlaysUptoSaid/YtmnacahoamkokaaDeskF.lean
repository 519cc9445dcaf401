/- The contract of desk.Play; answers of a desk as they read. Conditions: the net, the roles and the things to do read as lists. -/
import Derived.Test.YtmnacahoamkokaaDeskE
import Derived.Test.YtmnacahoamkokaaCaseL
namespace Go.Proofs.Ytmnacahoamkokaa
open Go.RowKit

theorem scrMeet {P : Program} {ops : Array Oper} {Q : Exit → Act → World → Prop} {S : World → Prop} {T : Scr} (Tend : Scr) {a0 : Act} {w0 : World} (F : Act → Act → World → Prop) (hF : ∀ a' w', F a0 a' w' → S w' → wpScr P ops Q S Tend a' w')
    (h : Hid (∀ a' w', F a0 a' w' → S w' → wpScr P ops Q S Tend a' w') → wpScr P ops Q S T a0 w0) : wpScr P ops Q S T a0 w0 := h hF
theorem DOps.at {w : World} {A : Option Addr} {n c k : Nat} {os : List POp} (h : DOps w A n c os) (hk : k < n) :
    ∃ b off o, A = some ⟨b, off, none⟩ ∧ b < w.heap.size ∧ Hid (os[k]? = some o) ∧ w.cell? ⟨b, off + k * 5, none⟩ = some (.int .i64 o.kind) ∧ w.cell? ⟨b, off + k * 5 + 1, none⟩ = some (.int .i64 o.user) ∧
      w.cell? ⟨b, off + k * 5 + 2, none⟩ = some (.int .i64 o.tran) ∧ w.cell? ⟨b, off + k * 5 + 3, none⟩ = some (.int .i64 o.item) ∧ w.cell? ⟨b, off + k * 5 + 4, none⟩ = some (.int .i64 o.to_) := by
  obtain ⟨b, off, o, vs, h1, h2, h3, h4, e0, e1, e2, e3, e4⟩ := Sl.get h hk
  refine ⟨b, off, o, h1, h2, h3, ?_, ?_, ?_, ?_, ?_⟩
  · rw [← e0]; exact h4 0 (by omega)
  · rw [← e1]; exact h4 1 (by omega)
  · rw [← e2]; exact h4 2 (by omega)
  · rw [← e3]; exact h4 3 (by omega)
  · rw [← e4]; exact h4 4 (by omega)
def AnsR : World → (Nat → Value) → (Int × Int) → Prop := fun _ vs o => vs 0 = .int .i64 o.1 ∧ vs 1 = .int .i64 o.2
theorem AnsR.kept : Kept AnsR := fun _ _ _ _ _ h => h
theorem AnsR.good : Good AnsR 2 where
  kept := AnsR.kept
  one := fun w vs x h j hj => by
    obtain ⟨h0, h1⟩ := h
    match j, hj with
    | 0, _ => rw [h0]; rfl
    | 1, _ => rw [h1]; rfl
  pos := by omega
abbrev Answers (w : World) (A : Option Addr) (n c : Nat) (os : List (Int × Int)) : Prop := Sl AnsR 2 w A n c os
abbrev OwnAnswers (w : World) (B : Nat) (v : Value) (n : Nat) (os : List (Int × Int)) : Prop := OwnSl AnsR 2 w B 85 v n os
theorem tyAnswers : SlTy 79 85 2 16 := SlTy.mk' (z := .agg #[.int .i64 0, .int .i64 0]) Try.underlying79 (by kernel_rfl) rfl (by decide)
theorem Reads.ans {w : World} {x y : Int} : Reads AnsR 2 w [.int .i64 x, .int .i64 y] [(x, y)] :=
  Reads.one (vs := fun j => [Value.int .i64 x, .int .i64 y].getD j undef) ⟨rfl, rfl⟩ rfl (fun j hj => by
    match j, hj with
    | 0, _ => rfl
    | 1, _ => rfl)
/-- The lists of a desk lie in none of the rows that v owns. -/
structure FarD (v : Value) (B : Option Addr) (m : Nat) (D : Option Addr) (l : Nat) (I : Option Addr) (n : Nat) : Prop where
  mark : ∀ b off, B = some ⟨b, off, none⟩ → 0 < m → v.ownBlock ≠ some b
  busy : ∀ b off, D = some ⟨b, off, none⟩ → 0 < l → v.ownBlock ≠ some b
  items : ∀ b off, I = some ⟨b, off, none⟩ → 0 < n → v.ownBlock ≠ some b
theorem FarD.nil {B D I : Option Addr} {m l n : Nat} : FarD (.slice none 0 0) B m D l I n := ⟨fun _ _ _ _ h => (by cases h), fun _ _ _ _ h => (by cases h), fun _ _ _ _ h => (by cases h)⟩
theorem farOld {W : World} {v : Value} {A0 A : Option Addr} {n0 n : Nat} (h : ∀ b off, A0 = some ⟨b, off, none⟩ → 0 < n0 → v.ownBlock ≠ some b) (hv : ∀ k, v.ownBlock = some k → k < W.heap.size) (o : Old W A0 n0 A n) : ∀ b off, A = some ⟨b, off, none⟩ → 0 < n → v.ownBlock ≠ some b := by
  intro b off e h0
  rcases o with ⟨e1, e2⟩ | o
  · subst e1 e2
    exact h b off e h0
  · intro hb
    have h1 : W.heap.size ≤ b := o _ e
    have := hv b hb
    omega
theorem FarD.step {W : World} {v : Value} {B D I B' D' I' : Option Addr} {m l n m' l' n' : Nat} (h : FarD v B m D l I n) (hv : ∀ k, v.ownBlock = some k → k < W.heap.size) (o1 : Old W B m B' m') (o2 : Old W D l D' l') (o3 : Old W I n I' n') : FarD v B' m' D' l' I' n' :=
  ⟨farOld h.mark hv o1, farOld h.busy hv o2, farOld h.items hv o3⟩
theorem FarD.app {w : World} {v : Value} {B D I : Option Addr} {m d l e n c g k cap : Nat} {K : PDesk} (h : FarD v B m D l I n) (x : DeskW w B m d D l e I n c K) (lies : v.ownBlock = some g ∨ w.heap.size ≤ g) : FarD (.slice (some ⟨g, 0, none⟩) k cap) B m D l I n := by
  have key : ∀ {α : Type} {R : World → (Nat → Value) → α → Prop} {sz : Nat} {A : Option Addr} {na ca : Nat} {xs : List α}, Sl R sz w A na ca xs → (∀ b off, A = some ⟨b, off, none⟩ → 0 < na → v.ownBlock ≠ some b) → ∀ b off, A = some ⟨b, off, none⟩ → 0 < na → (Value.slice (some ⟨g, 0, none⟩) k cap).ownBlock ≠ some b := by
    intro α R sz A na ca xs hs hf b off e h0 hb
    simp only [Value.ownBlock, Option.some.injEq] at hb
    subst hb
    rcases lies with h1 | h1
    · exact hf _ off e h0 h1
    · have := Sl.ltOf hs _ off e h0
      omega
  exact ⟨key x.mark h.mark, key x.busy h.busy, key x.items h.items⟩
theorem Sl.grownFar {α : Type} {R : World → (Nat → Value) → α → Prop} {sz : Nat} {w w' : World} {A : Option Addr} {n c : Nat} {xs : List α} {row : Option Nat} (h : Sl R sz w A n c xs) (hg : w.grownBy w' row) (hR : ∀ vs x, R w vs x → R w' vs x) (hf : ∀ b off, A = some ⟨b, off, none⟩ → 0 < n → row ≠ some b) : Sl R sz w' A n c xs :=
  ⟨h.len, h.le, h.cap, h.small, h.nul, fun hn => by
    obtain ⟨b, off, e, hlt, hc⟩ := h.cells hn
    refine ⟨b, off, e, Nat.lt_of_lt_of_le hlt hg.size, fun i x hx => ?_⟩
    obtain ⟨vs, h1, h2⟩ := hc i x hx
    exact ⟨vs, fun j hj => (World.cell?_of_block (a := ⟨b, off + (i * sz + j), none⟩) (hg.block b hlt (fun e2 => hf b off e hn e2.symm))).trans (h1 j hj), hR _ _ h2⟩⟩
theorem DeskW.grown {w w' : World} {B D I : Option Addr} {m d l e n c : Nat} {k : PDesk} {v : Value} (x : DeskW w B m d D l e I n c k) (hg : w.grownBy w' v.ownBlock) (hf : FarD v B m D l I n) : DeskW w' B m d D l e I n c k :=
  ⟨x.mark.grownFar hg (fun _ _ h => h) hf.mark, x.busy.grownFar hg (fun _ _ h => h) hf.busy, x.items.grownFar hg (fun _ _ h => h) hf.items⟩
theorem OwnSl.setOther {α : Type} {R : World → (Nat → Value) → α → Prop} {sz : Nat} {w : World} {B e : Nat} {v : Value} {n : Nat} {xs : List α} (h : OwnSl R sz w B e v n xs) {p : Addr} {u : Value} (hne : v.ownBlock ≠ some p.block) (hR : ∀ vs x, R w vs x → R (w.setCell p u) vs x) : OwnSl R sz (w.setCell p u) B e v n xs := by
  obtain ⟨cells, o1, o2, o3⟩ := h
  exact ⟨cells, ownsRow_setCell_other o1 hne _, ⟨o2.1, fun i x hx => by obtain ⟨vs, a, b⟩ := o2.2 i x hx; exact ⟨vs, a, hR _ _ b⟩⟩, o3⟩
theorem OwnSl.notAt {α : Type} {R : World → (Nat → Value) → α → Prop} {sz : Nat} {w : World} {B e : Nat} {v : Value} {n : Nat} {xs : List α} (h : OwnSl R sz w B e v n xs) {b : Nat} (hb : w.heap.size ≤ b) : v.ownBlock ≠ some b := fun e => by
  have := (h.lt b e).2
  omega
def AnsPlayD (p : PDesk × List (Int × Int) × Int) (w : World) (e : Ending) (w' : World) : Prop :=
  ∃ B m d D l f I n c A na ca, e = .returned (.tuple #[.agg #[.slice B m d, .slice D l f, .slice I n c], .slice A na ca, .int .i64 p.2.2]) ∧ DeskW w' B m d D l f I n c p.1 ∧ Answers w' A na ca p.2.1 ∧ Below w.heap.size w w'
theorem playD_err {N : PNet} {roles : List (List Int)} {i : Int} {l : List POp} {p : PCase × Int} (hp : beginL N i = p) (h : p.2 ≠ 0) : playD N roles i l = (PDesk.nil, [], p.2) := by rw [playD, hp, if_neg h]
theorem playD_yes {N : PNet} {roles : List (List Int)} {i : Int} {l : List POp} {p : PCase × Int} (hp : beginL N i = p) (h : p.2 = 0) : playD N roles i l = ((runD N roles ⟨p.1, []⟩ l).1, (runD N roles ⟨p.1, []⟩ l).2, 0) := by rw [playD, hp, if_pos h]

set_option maxRecDepth 100000 in
set_option maxHeartbeats 16000000 in
theorem deskPlay_calls {w : World} {P : Int} {A R O : Option Addr} {n c r q s so : Nat} {ts : List PTran} {roles : List (List Int)} {os : List POp} (i : Int) (h : Trans w A n c ts) (g : Lists w R r q roles) (x : DOps w O s so os) (hs : s ≤ 3518437208780) :
    Calls Try.prog 157 #[.agg #[.int .i64 P, .slice A n c], .int .i64 i, .slice R r q, .slice O s so] w (AnsPlayD (playD ⟨P, ts⟩ roles i os) w) := by
  generalize hw : (w.alloc (.cells #[.int .i64 P, .slice A n c] 27)).alloc (.cells #[.slice none 0 0, .slice none 0 0, .slice none 0 0] 78) = w0
  have HB := hide2 (show Below w.heap.size w w0 by rw [← hw]; exact ((Below.refl _ _).alloc (Nat.le_refl _) _).alloc (by simp) _)
  have X0 := hide2 (show Box w0 w.heap.size 27 #[.int .i64 P, .slice A n c] by rw [← hw]; exact (Box.new _ _ _).old _)
  have X1 := hide2 (show Box w0 (w.heap.size + 1) 78 #[.slice none 0 0, .slice none 0 0, .slice none 0 0] by rw [← hw]; exact Box.newAt (by simp) _ _)
  have HO := hide2 h
  have GO := hide2 g
  have XO := hide2 x
  have HL := hide2 x.len
  have CB := hide2 (begin_calls (P := P) i (h.keep HB.out))
  obtain ⟨p, hp⟩ : ∃ p, beginL ⟨P, ts⟩ i = p := ⟨_, rfl⟩
  rw [hp] at CB
  have HP := hide2 hp
  clear h g x hp
  go_enter Try.func157, Try.ntmps157
  go_upto_region 1 with fail
  clear hw
  obtain ⟨a0, a1⟩ := X0.out.two
  go_upto_region 2 with (go_at_call 186; (with_reducible refine CB.out.mono ?_); rintro e1 w1 ⟨A3, n3, k3, A4, n4, k4, rfl, i3, i4, hb1, fr3, fr4⟩; have I3 := hide2 i3; have I4 := hide2 i4; have B1 := hide2 hb1; clear i3 i4 hb1 fr3 fr4)
  have XC := hide2 (Box.new w1 #[.slice A3 n3 k3, .slice A4 n4 k4] 75)
  have NB := newBelow w1 (.cells #[.slice A3 n3 k3, .slice A4 n4 k4] 75)
  have bb := B1.out.trans (NB.mono B1.out.size)
  have W0 := hide2 (X0.out.keep bb)
  have W1 := hide2 (X1.out.keep bb)
  have J3 := hide2 (I3.out.keep NB)
  have J4 := hide2 (I4.out.keep NB)
  have BC := hide2 (HB.out.trans (bb.mono HB.out.size))
  have SZ := hide2 (show w.heap.size + 1 < w1.heap.size from Nat.lt_of_lt_of_le X1.out.lt B1.out.size)
  clear X0 X1 I3 I4 B1 NB bb a0 a1 HB CB
  generalize w1.alloc (.cells #[.slice A3 n3 k3, .slice A4 n4 k4] 75) = w2 at *
  generalize w1.heap.size = bc at *
  obtain ⟨a0, a1⟩ := W0.out.two
  obtain ⟨z0, z1, z2⟩ := W1.out.three
  have f0 := W1.out.frozen 0
  have f1 := W1.out.frozen 1
  have f2 := W1.out.frozen 2
  obtain ⟨q0, q1⟩ := XC.out.two
  by_cases he : p.2 = 0
  · have FN := hide2 (playD_yes (roles := roles) (l := os) HP.out he)
    have OK0 := hide2 (show DeskOk ⟨P, ts⟩ ⟨p.1, []⟩ by have := DeskOk.start (N := ⟨P, ts⟩) (i := i) (by rw [HP.out]; exact he); rw [HP.out] at this; exact this)
    have hee : (p.2 != 0) = false := by simpa using he
    clear he
    go_upto_region 4 with fail
    clear z0 z1 z2 f0 f1 f2 hee
    refine wp_region_scr 8 (.takes [0, 1, 2, 3, 4] (.two 5 (.one 6 (.one 7 (.fin 8 .done))) 6 (.one 5 (.one 7 (.fin 8 .done))))) (fun w' => w'.cell? ⟨w.heap.size, 0, none⟩ = some (.int .i64 P) ∧ w'.cell? ⟨w.heap.size, 1, none⟩ = some (.slice A n c) ∧ w'.cell? ⟨bc, 0, none⟩ = some (.slice A3 n3 k3) ∧ w'.cell? ⟨bc, 1, none⟩ = some (.slice A4 n4 k4)) (by kernel_rfl) (by kernel_rfl) (by kernel_rfl) (fun _ _ _ _ _ h => h) ⟨a0, a1, q0, q1⟩ (fun hHeld => ?_)
    simp only [Scr.takes]
    have DR := hide2 ((Below.refl w2.heap.size w2).drew)
    have VC := hide2 (XC.out.keep DR.out)
    have VN := hide2 (W0.out.keep DR.out)
    have VR := hide2 (W1.out.keep DR.out)
    have L3 := hide2 (J3.out.keep DR.out)
    have L4 := hide2 (J4.out.keep DR.out)
    have BD := hide2 (BC.out.trans (DR.out.mono BC.out.size))
    clear W0 W1 XC J3 J4 BC DR a0 a1 q0 q1
    generalize w2.drew = w3 at *
    iterate 5
      refine tkTake (v := ?_) rfl (by rfl) hHeld (fun w' hSw => ?_) ?_
      rotate_left
      · (go_simp; try with_reducible rfl)
      simp only [Act.put, List.setIfInBounds_toArray, List.set_cons_zero, List.set_cons_succ]
    refine scrMeet (.one 7 (.fin 8 .done)) (fun a0 a' w' => ∃ bd bk, a' = ((a0.put (some 13) (.pointer (some ⟨bd, 0, none⟩))).put (some 14) (.pointer (some ⟨bk, 0, none⟩))) ∧ Hid (Box w' bd 283 #[.int .i64 0, .slice none 0 0, .slice none 0 0]) ∧ Hid (Box w' bk 78 #[.slice none 0 0, .slice none 0 0, .slice none 0 0]) ∧ (w3.heap.size ≤ bd ∧ w3.heap.size ≤ bk ∧ bd ≠ bk) ∧ Hid (Below w3.heap.size w3 w')) ?_ (fun EN => ?_)
    · rintro a' w4 ⟨bd, bk, rfl, XD, XK, ⟨hd, hkb, hne⟩, B4⟩ hS
      simp only [Act.put, List.setIfInBounds_toArray, List.set_cons_zero, List.set_cons_succ]
      obtain ⟨d0, d1, d2⟩ := XD.out.three
      have df0 := XD.out.frozen 0
      have df1 := XD.out.frozen 1
      have df2 := XD.out.frozen 2
      obtain ⟨s0, s1, s2, s3⟩ := hS
      refine tkOne rfl (fun K hK => ?_)
      go_simp
      refine hK.out _ _ (by refine ⟨?_, ?_, ?_, ?_⟩ <;> (rw [World.cell?_setCell_other _ _ _ _ (fun e => by have := congrArg Addr.block e; have := VN.out.lt; have := VC.out.lt; simp only at *; omega), World.cell?_setCell_other _ _ _ _ (fun e => by have := congrArg Addr.block e; have := VN.out.lt; have := VC.out.lt; simp only at *; omega), World.cell?_setCell_other _ _ _ _ (fun e => by have := congrArg Addr.block e; have := VN.out.lt; have := VC.out.lt; simp only at *; omega)]; assumption)) (fun _ => ?_)
      clear hK d0 d1 d2 df0 df1 df2 s0 s1 s2 s3
      try simp only [Act.put, List.setIfInBounds_toArray, List.set_cons_zero, List.set_cons_succ]
      have YD := hide2 (XD.out.set3 (.int .i64 P) (.slice A n c) (.slice R r q))
      have YK := hide2 (((XK.out.other (a := ⟨bd, 0, none⟩) (.int .i64 P) hne.symm).other (a := ⟨bd, 1, none⟩) (.slice A n c) hne.symm).other (a := ⟨bd, 2, none⟩) (.slice R r q) hne.symm)
      have hb5 := hide2 (below_set3 B4.out hd (.int .i64 P) (.slice A n c) (.slice R r q))
      clear XD XK B4
      generalize ((w4.setCell ⟨bd, 0, none⟩ (.int .i64 P)).setCell ⟨bd, 1, none⟩ (.slice A n c)).setCell ⟨bd, 2, none⟩ (.slice R r q) = w5 at *
      obtain ⟨d0, d1, d2⟩ := YK.out.three
      have df0 := YK.out.frozen 0
      have df1 := YK.out.frozen 1
      have df2 := YK.out.frozen 2
      refine tkEnd rfl (fun K hK => ?_)
      go_simp
      refine hK.out _ _ ?_
      clear hK d0 d1 d2 df0 df1 df2 hHeld
      try simp only [Act.put, List.setIfInBounds_toArray, List.set_cons_zero, List.set_cons_succ]
      refine tkDone ?_
      have VK := hide2 (YK.out.set3 (.slice A3 n3 k3) (.slice A4 n4 k4) (.slice none 0 0))
      have V0 := hide2 (((YD.out.other (a := ⟨bk, 0, none⟩) (.slice A3 n3 k3) hne).other (a := ⟨bk, 1, none⟩) (.slice A4 n4 k4) hne).other (a := ⟨bk, 2, none⟩) (.slice none 0 0) hne)
      have hb6 := hide2 (below_set3 hb5.out hkb (.slice A3 n3 k3) (.slice A4 n4 k4) (.slice none 0 0))
      have V1 := hide2 (VR.out.keep hb6.out)
      have VD := hide2 (show DeskW _ A3 n3 k3 A4 n4 k4 none 0 0 ⟨p.1, []⟩ from ⟨L3.out.keep hb6.out, L4.out.keep hb6.out, Sl.nil0⟩)
      have BV := hide2 (BD.out.trans (hb6.out.mono BD.out.size))
      have hk1 : w.heap.size + 1 < bk := by have := VR.out.lt; omega
      clear YK YD hb5 hb6 VR L3 L4 BD VN VC hd
      generalize ((w5.setCell ⟨bk, 0, none⟩ (.slice A3 n3 k3)).setCell ⟨bk, 1, none⟩ (.slice A4 n4 k4)).setCell ⟨bk, 2, none⟩ (.slice none 0 0) = w6 at *
      go_upto_region 7 with fail
      go_loopw [15, 36] (fun u v wr => ∃ k : Nat, k ≤ s ∧ v = .int .i64 k ∧ ∃ B m d D l e I ni ci, Hid (Box wr bd 283 #[.int .i64 P, .slice A n c, .slice R r q]) ∧ Hid (Box wr bk 78 #[.slice B m d, .slice D l e, .slice I ni ci]) ∧ Hid (Box wr (w.heap.size + 1) 78 #[.slice none 0 0, .slice none 0 0, .slice none 0 0]) ∧ Hid (DeskW wr B m d D l e I ni ci (runD ⟨P, ts⟩ roles ⟨p.1, []⟩ (os.take k)).1) ∧ Hid (OwnAnswers wr w.heap.size u k (runD ⟨P, ts⟩ roles ⟨p.1, []⟩ (os.take k)).2) ∧ Hid (FarD u B m D l I ni) ∧ Hid (Below w.heap.size w wr)) (fun _ v _ => s - (intOf v).toNat)
      case atStart => exact ⟨0, Nat.zero_le _, rfl, A3, n3, k3, A4, n4, k4, none, 0, 0, V0, VK, V1, VD, OwnSl.nil, FarD.nil, BV⟩
      case round =>
        clear V0 VK V1 VD BV
        obtain ⟨k, hk, rfl, B, m, d, D, l, e, I, ni, ci, V0, VK, V1, VD, OA, FD, BV⟩ := hrel
        by_cases hlt : k < s
        · have hki : (k : Int) < (s : Int) := by omega
          obtain ⟨bl, off, o, rfl, hbl, ho, x0, x1, x2, x3, x4⟩ := DOps.at (Sl.keep DOpR.kept XO.out BV.out) hlt
          obtain ⟨rk, rl, rn⟩ := runD_ok ⟨P, ts⟩ roles (os.take k) _ OK0.out
          have SN := hide2 (runD_snoc ⟨P, ts⟩ roles (os.take k) ⟨p.1, []⟩ o)
          rw [← take_snoc ho.out] at SN
          have RS := rk.small
          have hl24 : l ≤ 24 := by rw [← VD.out.busy.len]; exact RS.1
          have hnik : ni ≤ k := by
            have h1 := VD.out.items.len
            have h2 : (os.take k).length ≤ k := by rw [List.length_take]; omega
            simp only [List.length_nil, Nat.zero_add] at rl
            omega
          have RT := hide2 rk.trans
          clear rk rl rn RS
          obtain ⟨K, hK⟩ : ∃ K, runD ⟨P, ts⟩ roles ⟨p.1, []⟩ (os.take k) = K := ⟨_, rfl⟩
          rw [hK] at VD OA RT SN
          clear hK
          have CS := hide2 (fun (w' : World) (hb : Below wr.heap.size wr w') => deskDo_calls (P := P) o (HO.out.keep (BV.out.trans (hb.mono BV.out.size))) (Sl.keep ListR.kept GO.out (BV.out.trans (hb.mono BV.out.size))) (VD.out.keep hb) (by omega) (by omega) RT.out)
          obtain ⟨P2, hP2⟩ : ∃ P2, stepD ⟨P, ts⟩ roles K.1 o = P2 := ⟨_, rfl⟩
          simp only [hP2] at CS SN
          clear hP2 RT
          have bb1 := ((Below.refl wr.heap.size wr).alloc (Nat.le_refl _) (.cells #[.int .i64 o.kind, .int .i64 o.user, .int .i64 o.tran, .int .i64 o.item, .int .i64 o.to_] 187)).alloc (by simp) (.cells #[.int .i64 0, .int .i64 0] 85)
          have XP := hide2 ((Box.new wr #[.int .i64 o.kind, .int .i64 o.user, .int .i64 o.tran, .int .i64 o.item, .int .i64 o.to_] 187).old (.cells #[.int .i64 0, .int .i64 0] 85))
          have XA := hide2 (Box.newAt (w := wr.alloc (.cells #[.int .i64 o.kind, .int .i64 o.user, .int .i64 o.tran, .int .i64 o.item, .int .i64 o.to_] 187)) (n := wr.heap.size + 1) (by simp) #[.int .i64 0, .int .i64 0] 85)
          have BB := hide2 bb1
          clear bb1
          go_upto_region 10 with fail
          clear x0 x1 x2 x3 x4
          generalize (wr.alloc (.cells #[.int .i64 o.kind, .int .i64 o.user, .int .i64 o.tran, .int .i64 o.item, .int .i64 o.to_] 187)).alloc (.cells #[.int .i64 0, .int .i64 0] 85) = wa at *
          have Y0 := hide2 (V0.out.keep BB.out)
          have YK := hide2 (VK.out.keep BB.out)
          have Y1 := hide2 (V1.out.keep BB.out)
          have YO := hide2 (OwnSl.keep AnsR.kept OA.out BB.out)
          have YL := hide2 OA.out.lt
          have NK := hide2 (OA.out.notBox VK.out (by decide))
          have hkl := VK.out.lt
          obtain ⟨dd0, dd1, dd2⟩ := Y0.out.three
          obtain ⟨c0, c1, c2⟩ := YK.out.three
          obtain ⟨y0, y1, y2, y3, y4⟩ := XP.out.five
          obtain ⟨v0, v1⟩ := XA.out.two
          have g0 := XA.out.frozen 0
          have g1 := XA.out.frozen 1
          have k0 := YK.out.frozen 0
          have k1 := YK.out.frozen 1
          have k2 := YK.out.frozen 2
          go_upto_region 11 with (go_at_call 187; (with_reducible refine (CS.out _ BB.out).mono ?_); rintro e2 w3 ⟨B2, m2, d2, D2, l2, f2, I2, n2, c2', rfl, dw, hb2, od1, od2, od3⟩; have DW := hide2 dw; have B9 := hide2 hb2; have OD1 := hide2 od1; have OD2 := hide2 od2; have OD3 := hide2 od3; clear dw hb2 od1 od2 od3 dd0 dd1 dd2 c0 c1 c2 y0 y1 y2 y3 y4 v0 v1 g0 g1 k0 k1 k2; obtain ⟨c0, c1, c2⟩ := (YK.out.keep B9.out).three; obtain ⟨v0, v1⟩ := (XA.out.keep B9.out).two; have g0 := (XA.out.keep B9.out).frozen 0; have g1 := (XA.out.keep B9.out).frozen 1; have k0 := (YK.out.keep B9.out).frozen 0; have k1 := (YK.out.keep B9.out).frozen 1; have k2 := (YK.out.keep B9.out).frozen 2)
          have hb18 : wr.heap.size + 1 < wa.heap.size := XA.out.lt
          have hkn : bk ≠ wr.heap.size + 1 := by omega
          have h1k : w.heap.size + 1 ≠ bk := by omega
          have h1l := V1.out.lt
          have h1n : w.heap.size + 1 ≠ wr.heap.size + 1 := by omega
          have h0k : bd ≠ bk := hne
          have h0n : bd ≠ wr.heap.size + 1 := by have := V0.out.lt; omega
          have SA := hide2 (show ∀ v0 v1 v2 v3 v4 : Value, World.setCell (World.setCell (((w3.setCell ⟨bk, 0, none⟩ v0).setCell ⟨bk, 1, none⟩ v1).setCell ⟨bk, 2, none⟩ v2) ⟨wr.heap.size + 1, 0, none⟩ v3) ⟨wr.heap.size + 1, 1, none⟩ v4 = World.setCell (World.setCell (((w3.setCell ⟨bk, 0, none⟩ v0).setCell ⟨bk, 1, none⟩ v1).setCell ⟨bk, 2, none⟩ v2) ⟨wr.heap.size + 1, 0, none⟩ v3) ⟨wr.heap.size + 1, 1, none⟩ v4 from fun _ _ _ _ _ => rfl)
          have Z0 := hide2 ((((((Y0.out.keep B9.out).other (a := ⟨bk, 0, none⟩) (.slice B2 m2 d2) h0k).other (a := ⟨bk, 1, none⟩) (.slice D2 l2 f2) h0k).other (a := ⟨bk, 2, none⟩) (.slice I2 n2 c2') h0k).other (a := ⟨wr.heap.size + 1, 0, none⟩) (.int .i64 P2.2.2) h0n).other (a := ⟨wr.heap.size + 1, 1, none⟩) (.int .i64 P2.2.1) h0n)
          have ZK := hide2 ((((YK.out.keep B9.out).set3 (.slice B2 m2 d2) (.slice D2 l2 f2) (.slice I2 n2 c2')).other (a := ⟨wr.heap.size + 1, 0, none⟩) (.int .i64 P2.2.2) hkn).other (a := ⟨wr.heap.size + 1, 1, none⟩) (.int .i64 P2.2.1) hkn)
          have Z1 := hide2 ((((((Y1.out.keep B9.out).other (a := ⟨bk, 0, none⟩) (.slice B2 m2 d2) h1k).other (a := ⟨bk, 1, none⟩) (.slice D2 l2 f2) h1k).other (a := ⟨bk, 2, none⟩) (.slice I2 n2 c2') h1k).other (a := ⟨wr.heap.size + 1, 0, none⟩) (.int .i64 P2.2.2) h1n).other (a := ⟨wr.heap.size + 1, 1, none⟩) (.int .i64 P2.2.1) h1n)
          have ZA := hide2 (((((XA.out.keep B9.out).other (a := ⟨bk, 0, none⟩) (.slice B2 m2 d2) hkn.symm).other (a := ⟨bk, 1, none⟩) (.slice D2 l2 f2) hkn.symm).other (a := ⟨bk, 2, none⟩) (.slice I2 n2 c2') hkn.symm).set2 (.int .i64 P2.2.2) (.int .i64 P2.2.1))
          have fa := OD1.out.far VD.out.mark (b := wr.heap.size + 1) (by omega) hb18
          have fb := OD2.out.far VD.out.busy (b := wr.heap.size + 1) (by omega) hb18
          have fc := OD3.out.far VD.out.items (b := wr.heap.size + 1) (by omega) hb18
          have ZD := hide2 (((DW.out.beside (YK.out.keep B9.out) noInt3 (Beside.set3 _ _ (.slice B2 m2 d2) (.slice D2 l2 f2) (.slice I2 n2 c2'))).set (p := ⟨wr.heap.size + 1, 0, none⟩) (v := .int .i64 P2.2.2) fa fb fc).set (p := ⟨wr.heap.size + 1, 1, none⟩) (v := .int .i64 P2.2.1) fa fb fc)
          have hu1 := OA.out.notAt (b := wr.heap.size + 1) (by omega)
          have ZO := hide2 ((((((OwnSl.keep AnsR.kept YO.out B9.out).setOther (p := ⟨bk, 0, none⟩) (u := .slice B2 m2 d2) NK.out (fun _ _ h => h)).setOther (p := ⟨bk, 1, none⟩) (u := .slice D2 l2 f2) NK.out (fun _ _ h => h)).setOther (p := ⟨bk, 2, none⟩) (u := .slice I2 n2 c2') NK.out (fun _ _ h => h)).setOther (p := ⟨wr.heap.size + 1, 0, none⟩) (u := .int .i64 P2.2.2) hu1 (fun _ _ h => h)).setOther (p := ⟨wr.heap.size + 1, 1, none⟩) (u := .int .i64 P2.2.1) hu1 (fun _ _ h => h))
          have FD2 := hide2 (FD.out.step (W := wa) (fun q hq => Nat.lt_of_lt_of_le (YL.out q hq).2 BB.out.size) OD1.out OD2.out OD3.out)
          have hwk : w.heap.size ≤ bk := by omega
          have hwr := BV.out.size
          have BW := hide2 (((below_set3 ((BV.out.trans (BB.out.mono BV.out.size)).trans (B9.out.mono (Nat.le_trans BV.out.size BB.out.size))) hwk (.slice B2 m2 d2) (.slice D2 l2 f2) (.slice I2 n2 c2')).setCell (p := ⟨wr.heap.size + 1, 0, none⟩) (by show w.heap.size ≤ wr.heap.size + 1; omega) (.int .i64 P2.2.2)).setCell (p := ⟨wr.heap.size + 1, 1, none⟩) (by show w.heap.size ≤ wr.heap.size + 1; omega) (.int .i64 P2.2.1))
          clear V0 VK V1 VD OA FD BV BB Y0 YK Y1 YO YL NK XP XA DW B9 OD1 OD2 OD3 fa fb fc c0 c1 c2 v0 v1 g0 g1 k0 k1 k2 hu1 SA
          generalize World.setCell (World.setCell (((w3.setCell ⟨bk, 0, none⟩ (.slice B2 m2 d2)).setCell ⟨bk, 1, none⟩ (.slice D2 l2 f2)).setCell ⟨bk, 2, none⟩ (.slice I2 n2 c2')) ⟨wr.heap.size + 1, 0, none⟩ (.int .i64 P2.2.2)) ⟨wr.heap.size + 1, 1, none⟩ (.int .i64 P2.2.1) = w4 at *
          obtain ⟨v0, v1⟩ := ZA.out.two
          have N0 := hide2 (ZO.out.notBox Z0.out (by decide))
          have NKK := hide2 (ZO.out.notBox ZK.out (by decide))
          have N1 := hide2 (ZO.out.notBox Z1.out (by decide))
          go_wp2_with (at_builtin; refine wpList_appLies tyAnswers rfl _ _ rfl [(P2.2.2, P2.2.1)] #[.int .i64 P2.2.2, .int .i64 P2.2.1] rfl rfl (by first | rfl | simp) rfl (by omega) (by simp [Value.oneCell']) ZO.out Reads.ans rfl BW.out BW.out.size (by omega) (by omega) (fun _ _ _ _ h => h) ?_; intro g' cap w5 own5 hg5 hb5 lies5; have O5 := hide2 own5; have G5 := hide2 hg5; have B5 := hide2 hb5; have L5 := hide2 lies5; clear own5 hg5 hb5 lies5)
          go_roundw
          case rel => exact ⟨k + 1, by omega, by go_num, B2, m2, d2, D2, l2, f2, I2, n2, c2', Z0.out.grown G5.out N0.out, ZK.out.grown G5.out NKK.out, Z1.out.grown G5.out N1.out, hide2 (by rw [SN.out]; exact ZD.out.grown G5.out FD2.out), hide2 (by rw [SN.out]; exact O5.out), FD2.out.app ZD.out L5.out, B5.out⟩
          case measure => simp [intOf]; omega
        · obtain rfl : k = s := by omega
          have TK := hide2 (show os.take k = os from List.take_of_length_le (by rw [HL.out]; exact Nat.le_refl _))
          rw [TK.out] at VD OA
          obtain ⟨Au, cu, hu, iu⟩ := OA.out.sl (by omega)
          have IU := hide2 iu
          subst hu
          clear iu
          obtain ⟨c0, c1, c2⟩ := VK.out.three
          obtain ⟨z0, z1, z2⟩ := V1.out.three
          have f0 := V1.out.frozen 0
          have f1 := V1.out.frozen 1
          have f2 := V1.out.frozen 2
          go_wp2
          obtain ⟨r0, r1, r2⟩ := (V1.out.set3 (.slice B m d) (.slice D l e) (.slice I ni ci)).three
          exact bodyPost_ret (v := .tuple #[.agg #[.slice B m d, .slice D l e, .slice I ni ci], .slice Au k cu, .int .i64 0]) (by simp [results, Try.results157, go_sem, r0, r1, r2]) rfl (by rw [FN.out]; exact ⟨B, m, d, D, l, e, I, ni, ci, Au, k, cu, rfl, VD.out.beside V1.out noInt3 (Beside.set3 _ _ _ _ _), Sl.beside IU.out (by omega) (fun vs x hx => ⟨⟨_, hx.1⟩, hx⟩) V1.out noInt3 (Beside.set3 _ _ _ _ _), below_set3 BV.out (by omega) _ _ _⟩)
    · refine tkTwo rfl rfl (fun K hK => ?_) (fun K hK => ?_)
      · go_simp
        have hc := hHeld
        refine hK.out _ _ (by simp [*, World.cell?_alloc_some]) (fun hHeld => ?_)
        clear hK
        try simp only [Act.put, List.setIfInBounds_toArray, List.set_cons_zero, List.set_cons_succ]
        refine tkOne rfl (fun K hK => ?_)
        go_simp
        refine hK.out _ _ (by simp [*, World.cell?_alloc_some]) (fun hHeld => ?_)
        clear hK
        exact EN.out _ _ ⟨w3.heap.size, w3.heap.size + 1, rfl, (Box.new _ _ _).old _, Box.newAt (by simp) _ _, ⟨by omega, by omega, by omega⟩, ((Below.refl _ _).alloc (Nat.le_refl _) _).alloc (by simp) _⟩ hHeld
      · go_simp
        have hc := hHeld
        refine hK.out _ _ (by simp [*, World.cell?_alloc_some]) (fun hHeld => ?_)
        clear hK
        try simp only [Act.put, List.setIfInBounds_toArray, List.set_cons_zero, List.set_cons_succ]
        refine tkOne rfl (fun K hK => ?_)
        go_simp
        refine hK.out _ _ (by simp [*, World.cell?_alloc_some]) (fun hHeld => ?_)
        clear hK
        exact EN.out _ _ ⟨w3.heap.size + 1, w3.heap.size, rfl, Box.newAt (by simp) _ _, (Box.new _ _ _).old _, ⟨by omega, by omega, by omega⟩, ((Below.refl _ _).alloc (Nat.le_refl _) _).alloc (by simp) _⟩ hHeld
  · have FN := hide2 (playD_err (roles := roles) (l := os) HP.out he)
    have hee : (p.2 != 0) = true := by simpa using he
    clear he
    go_wp2
    obtain ⟨r0, r1, r2⟩ := (W1.out.set3 (.slice none 0 0) (.slice none 0 0) (.slice none 0 0)).three
    exact bodyPost_ret (v := .tuple #[.agg #[.slice none 0 0, .slice none 0 0, .slice none 0 0], .slice none 0 0, .int .i64 p.2]) (by simp [results, Try.results157, go_sem, r0, r1, r2]) rfl (by rw [FN.out]; exact ⟨none, 0, 0, none, 0, 0, none, 0, 0, none, 0, 0, rfl, ⟨Sl.nil0, Sl.nil0, Sl.nil0⟩, Sl.nil0, below_set3 BC.out (by omega) _ _ _⟩)
end Go.Proofs.Ytmnacahoamkokaa
