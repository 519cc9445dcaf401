/- The reference's links: the contract of kbetween's closure. Conditions: the links so far and the two lists read as such. -/
import Derived.Test.YtnfppolgaeibeaaGrowK
import Derived.Test.YtnfppolgaeibeaaNetJ
import Derived.Test.YtnfppolgaeibeaaAppW
import Derived.Test.YtnfppolgaeibeaaHeld
import Derived.Test.YtnfppolgaeibeaaBox
namespace Go.Proofs.Ytnfppolgaeibeaa
open Go.RowKit

/-- A link, read in a world that is past. -/
def LinkR0 (N : Nat) (w0 : World) : World → (Nat → Value) → PTran → Prop := fun _ vs t => LinkR N w0 vs t
theorem LinkR0.kept (N : Nat) (w0 : World) : Kept (LinkR0 N w0) := fun _ _ _ _ _ h => h
theorem LinkR0.good (N : Nat) (w0 : World) : Good (LinkR0 N w0) 3 where
  kept := LinkR0.kept N w0
  one := fun w vs x h j hj => (LinkR.good N).one w0 vs x h j hj
  pos := by omega
theorem OwnSl.ofL {N : Nat} {w0 w : World} {B e : Nat} {v : Value} {n : Nat} {xs : List PTran} (h : OwnSl (LinkR0 N w0) 3 w B e v n xs) (hb : Below w0.heap.size w0 w) : OwnSl (LinkR N) 3 w B e v n xs := by
  obtain ⟨cells, h1, h2, h3⟩ := h
  exact ⟨cells, h1, ⟨h2.1, fun i x hx => by obtain ⟨vs, a, b⟩ := h2.2 i x hx; exact ⟨vs, a, LinkR.kept N _ _ _ _ hb b⟩⟩, h3⟩
/-- The links so far: they and their places lie below N or in rows of their own kind. -/
structure LkM (N : Nat) (w : World) (C : Option Addr) (K c : Nat) (l : List PTran) : Prop where
  sl : Sl (LinkR N) 3 w C K c l
  far : ∀ b off, C = some ⟨b, off, none⟩ → 0 < K → b < N ∨ ∃ cs fr, w.heap[b]? = some (.cells cs 84 fr)
theorem LkM.keep {N K c : Nat} {w w' : World} {C : Option Addr} {l : List PTran} (h : LkM N w C K c l) (hb : Below w.heap.size w w') : LkM N w' C K c l :=
  ⟨h.sl.keep (LinkR.kept N) hb, fun b off e hK => by
    rcases h.far b off e hK with h1 | ⟨cs, fr, h1⟩
    · exact .inl h1
    · exact .inr ⟨cs, fr, (hb.block b (Array.getElem?_eq_some_iff.1 h1).1).trans h1⟩⟩
/-- Whatever lies in a box that is none of theirs may turn. -/
theorem LkM.turn {N K c g ty : Nat} {w w' : World} {C : Option Addr} {l : List PTran} {cs : Array Value} (h : LkM N w C K c l) (hx : Box w g ty cs) (h1 : ty ≠ 3) (h2 : ty ≠ 84) (hN : N ≤ g) (hs : w.grownBy w' (some g)) : LkM N w' C K c l := by
  have ne : ∀ b off, C = some ⟨b, off, none⟩ → 0 < K → b ≠ g := fun b off e hK e' => by
    subst e'
    rcases h.far b off e hK with h3 | ⟨cs', fr, h3⟩
    · omega
    · unfold Box at hx
      rw [hx] at h3
      injection h3 with h3
      injection h3 with _ h3
      exact h2 h3
  refine ⟨⟨h.sl.len, h.sl.le, h.sl.cap, h.sl.small, h.sl.nul, fun hn => ?_⟩, fun b off e hK => ?_⟩
  · obtain ⟨b, off, e, hlt, hc⟩ := h.sl.cells hn
    refine ⟨b, off, e, Nat.lt_of_lt_of_le hlt hs.size, fun i x hi => ?_⟩
    obtain ⟨vs, q1, q2⟩ := hc i x hi
    exact ⟨vs, fun q hq => (World.cell?_of_block (hs.block b hlt (fun e' => by injection e' with e'; exact ne b off e hn e'))).trans (q1 q hq), q2.turn hN hx h1 hs⟩
  · rcases h.far b off e hK with h3 | ⟨cs', fr, h3⟩
    · exact .inl h3
    · exact .inr ⟨cs', fr, (hs.block b (Array.getElem?_eq_some_iff.1 h3).1 (fun e' => by injection e' with e'; exact ne b off e hK e')).trans h3⟩
theorem tyKl : SlTy 79 84 3 56 := SlTy.mk' (z := .agg #[.int .i64 0, .slice none 0 0, .slice none 0 0]) Try.underlying79 (by kernel_rfl) rfl (by decide)
theorem rowK {N : Nat} {w u : World} {HH ty n1 c1 n2 c2 : Nat} {l : Int} {A1 A2 : Option Addr} {xs ys : List Int} (hx : Box u HH ty #[.int .i64 l, .slice A1 n1 c1, .slice A2 n2 c2]) (i1 : Ints w A1 n1 c1 xs) (i2 : Ints w A2 n2 c2 ys) (m1 : FarG N w A1 n1) (m2 : FarG N w A2 n2) :
    Sl (LinkR0 N w) 3 u (some ⟨HH, 0, none⟩) 1 1 [(⟨l, xs, ys⟩ : PTran)] := by
  refine ⟨rfl, Nat.le_refl _, by simp [maxLen], by omega, fun h => (by cases h), fun _ => ⟨HH, 0, rfl, hx.lt, fun j x hx' => ?_⟩⟩
  obtain rfl : j = 0 := by
    have := (List.getElem?_eq_some_iff.1 hx').1
    simpa using this
  simp only [List.getElem?_cons_zero, Option.some.injEq] at hx'
  subst hx'
  refine ⟨fun j => [Value.int .i64 l, .slice A1 n1 c1, .slice A2 n2 c2].getD j undef, fun q hq => ?_, rfl, A1, n1, c1, A2, n2, c2, rfl, rfl, i1, i2, m1, m2⟩
  match q, hq with
  | 0, _ => exact hx.cell 0
  | 1, _ => exact hx.cell 1
  | 2, _ => exact hx.cell 2
theorem endK {P : Program} {ops : Array Oper} {Q : Exit → Act → World → Prop} {S : World → Prop} {T : Scr} (Tend : Scr) {a0 : Act} {w0 : World} (F : Act → Act → World → Prop) (hF : ∀ a' w', F a0 a' w' → S w' → wpScr P ops Q S Tend a' w')
    (h : Hid (∀ a' w', F a0 a' w' → S w' → wpScr P ops Q S Tend a' w') → wpScr P ops Q S T a0 w0) : wpScr P ops Q S T a0 w0 := h hF
theorem grownK (w : World) (b i : Nat) (v : Value) : w.grownBy (w.setCell ⟨b, i, none⟩ v) (some b) :=
  ⟨rfl, rfl, rfl, by simp [World.setCell], fun k _ hk => heap_setCell_other _ _ _ _ (fun e => hk (by rw [e]))⟩
/-- The growth so far, as a value. -/
def AnsK (N : Nat) (g : KSt) (w : World) (e : Ending) (w' : World) : Prop :=
  ∃ C c, e = .returned (.agg #[.int .i64 g.places, .slice C g.links.length c]) ∧ LkM N w' C g.links.length c g.links ∧ Below w.heap.size w w'

set_option maxRecDepth 100000 in
set_option maxHeartbeats 8000000 in
theorem klink_calls {N : Nat} {w : World} {g : KSt} {C A1 A2 : Option Addr} {K0 cc n1 c1 n2 c2 : Nat} {xs ys : List Int} (l : Int) (h : LkM N w C K0 cc g.links) (i1 : Ints w A1 n1 c1 xs) (i2 : Ints w A2 n2 c2 ys) (f1 : FarG N w A1 n1) (f2 : FarG N w A2 n2) (hK0 : K0 ≤ 1000) :
    Calls Try.prog 104 #[.agg #[.int .i64 g.places, .slice C K0 cc], .int .i64 l, .slice A1 n1 c1, .slice A2 n2 c2] w (AnsK N (lnk g l xs ys) w) := by
  obtain ⟨P, hP⟩ : ∃ P, g.places = P := ⟨_, rfl⟩
  have GL := hide2 (show g.links.length = K0 from h.sl.len)
  have HP := hide2 hP
  rw [hP]
  have XB := hide2 ((Box.new w #[.int .i64 P, .slice C K0 cc] 81).old (.cells #[.int .i64 0, .slice none 0 0] 81))
  have XR := hide2 (show Box ((w.alloc (.cells #[.int .i64 P, .slice C K0 cc] 81)).alloc (.cells #[.int .i64 0, .slice none 0 0] 81)) (w.heap.size + 1) 81 #[.int .i64 0, .slice none 0 0] from Box.newAt (by simp) _ _)
  have EB := hide2 (show Below w.heap.size w ((w.alloc (.cells #[.int .i64 P, .slice C K0 cc] 81)).alloc (.cells #[.int .i64 0, .slice none 0 0] 81)) from ((Below.refl _ _).alloc (Nat.le_refl _) _).alloc (by simp) _)
  have H0 := hide2 (show Sl (LinkR0 N w) 3 w C K0 cc g.links from Sl.imp h.sl fun _ _ h => h)
  have I1 := hide2 i1
  have I2 := hide2 i2
  have F1 := hide2 f1
  have F2 := hide2 f2
  clear h i1 i2 f1 f2 hP
  go_enter Try.func104, Try.ntmps104
  go_upto_region 1 with fail
  generalize (w.alloc (.cells #[.int .i64 P, .slice C K0 cc] 81)).alloc (.cells #[.int .i64 0, .slice none 0 0] 81) = u at *
  obtain ⟨x0, x1⟩ := XB.out.two
  refine wp_region_scr 12 (.takes [0, 1, 3, 4, 6, 7, 8, 9] (.two 2 (.two 5 (.one 10 (.one 11 (.fin 12 (.fin 13 .done)))) 10 (.one 5 (.one 11 (.fin 12 (.fin 13 .done))))) 10 (.one 2 (.one 5 (.one 11 (.fin 12 (.fin 13 .done))))))) (fun w' => w'.cell? ⟨w.heap.size, 0, none⟩ = some (.int .i64 P) ∧ w'.cell? ⟨w.heap.size, 1, none⟩ = some (.slice C K0 cc)) (by kernel_rfl) (by kernel_rfl) (by kernel_rfl) (fun _ _ _ _ _ h => h) ⟨x0, x1⟩ (fun hHeld => ?_)
  simp only [Scr.takes]
  have XBu := hide2 (XB.out.keep (Below.refl _ _).drew)
  have XRu := hide2 (XR.out.keep (Below.refl _ _).drew)
  have EBu := hide2 EB.out.drew
  clear XB XR EB x0 x1
  generalize u.drew = u0 at *
  have LK := hide2 (Sl.keep (LinkR0.kept N w) H0.out EBu.out)
  have E := hide2 (Below.refl u0.heap.size u0)
  iterate 8
    refine tkTake (v := ?_) rfl (by rfl) hHeld (fun w' hSw => ?_) ?_
    rotate_left
    · (go_simp; try with_reducible rfl)
    try simp only [Act.put, List.setIfInBounds_toArray, List.set_cons_zero, List.set_cons_succ]
  refine endK (.fin 12 (.fin 13 .done)) (fun a0 a' w' => ∃ e1 e2 e3 v : Value, a' = ((((a0.put (some 11) e1).put (some 14) e2).put (some 19) e3).put (some 20) v) ∧ Hid (OwnSl (LinkR0 N w) 3 w' u0.heap.size 84 v (0 + K0 + 1) ([] ++ g.links ++ [⟨l, xs, ys⟩])) ∧ Hid (Below u0.heap.size u0 w')) ?_ (fun EN => ?_)
  · rintro a' w6 ⟨e1, e2, e3, v, rfl, R1, E⟩ hHeld
    simp only [Act.put, List.setIfInBounds_toArray, List.set_cons_zero, List.set_cons_succ]
    have R2 := R1.out
    rw [List.nil_append, Nat.zero_add] at R2
    obtain ⟨C6, c6, rfl, _⟩ := R2.sl (by omega)
    have OW := hide2 R2
    have HU := hide2 XRu.out.lt
    have X6 := hide2 (XRu.out.keep E.out)
    have B6 := hide2 (EBu.out.trans (E.out.mono EBu.out.size))
    obtain ⟨y0, y1⟩ := X6.out.two
    have f0 := X6.out.frozen 0
    have f1 := X6.out.frozen 1
    clear XBu XRu EBu LK hHeld E R1 R2
    refine tkEnd rfl (fun K hK => ?_)
    go_simp
    refine hK.out _ _ ?_
    clear hK
    try simp only [Act.put, List.setIfInBounds_toArray, List.set_cons_zero, List.set_cons_succ]
    refine tkEnd rfl (fun K hK => ?_)
    go_simp
    refine hK.out _ _ ?_
    clear hK
    try simp only [Act.put, List.setIfInBounds_toArray, List.set_cons_zero, List.set_cons_succ]
    refine tkDone ?_
    go_wp2
    have S6 := X6.out.set2 (.int .i64 P) (.slice C6 (K0 + 1) c6)
    have r0 := S6.cell 0
    have r1 := S6.cell 1
    have BF := (B6.out.setCell (p := ⟨w.heap.size + 1, 0, none⟩) (by simp) (.int .i64 P)).setCell (p := ⟨w.heap.size + 1, 1, none⟩) (by simp) (.slice C6 (K0 + 1) c6)
    have NE : (Value.slice C6 (K0 + 1) c6).ownBlock ≠ some (w.heap.size + 1) := fun e => by
      have := (OW.out.lt _ e).1
      have := HU.out
      omega
    have O1 := (OW.out.kept (grownK w6 (w.heap.size + 1) 0 (.int .i64 P)) (.inr NE) (fun _ _ h => h)).kept (grownK _ (w.heap.size + 1) 1 (.slice C6 (K0 + 1) c6)) (.inr NE) (fun _ _ h => h)
    obtain ⟨C7, c7, hv7, T7⟩ := (OwnSl.ofL O1 BF).sl (by omega)
    injection hv7 with h1 h2 h3
    subst h1 h3
    have e7 : (lnk g l xs ys).links.length = K0 + 1 := by simp only [lnk, List.length_append, List.length_cons, List.length_nil, GL.out]
    refine bodyPost_ret (v := .agg #[.int .i64 P, .slice C6 (K0 + 1) c6]) (by simp [results, Try.results104, go_sem, r0, r1]) rfl ?_
    unfold AnsK
    rw [e7]
    exact ⟨C6, c6, by simp only [lnk, HP.out], ⟨T7, fun b off e _ => .inr (by
      subst e
      obtain ⟨cells, o1, _⟩ := O1
      obtain ⟨_, cur, hc⟩ := ownG_at o1 (g := b) rfl
      exact ⟨cur, _, hc⟩)⟩, BF⟩
  · refine tkTwo rfl rfl (fun K hK => ?_) (fun K hK => ?_)
    · go_simp
      have hb := boxBelow u0 (.cells #[] 84)
      have RR := OwnSl.empty (R := LinkR0 N w) (sz := 3) (w := u0) (B := u0.heap.size) (e := 84) E.out.size
      obtain ⟨vb, hv⟩ : ∃ v : Value, v = .slice (some ⟨u0.heap.size, 0, none⟩) 0 0 := ⟨_, rfl⟩
      rw [← hv] at RR ⊢
      generalize hE : u0.alloc (.cells #[] 84) = u1 at *
      replace E := hide2 (E.out.trans (hb.mono E.out.size))
      have R1 := hide2 RR
      clear hb hv hE RR
      refine hK.out _ _ ⟨(XBu.out.keep E.out).cell 0, (XBu.out.keep E.out).cell 1⟩ (fun hHeld => ?_)
      clear hK
      try simp only [Act.put, List.setIfInBounds_toArray, List.set_cons_zero, List.set_cons_succ]
      refine tkTwo rfl rfl (fun K hK => ?_) (fun K hK => ?_)
      · refine step_appAny tyKl (LinkR0.good N w) rfl (.tmp 11) (.tmp 13) rfl rfl rfl R1.out (Sl.keep (LinkR0.kept N w) LK.out E.out) E.out.size (by omega) (by omega) (fun _ _ _ _ h => h) E.out (Nat.le_refl _) ?_
        intro vc u2 own' hg' hb' hat'
        replace R1 := hide2 own'
        replace E := hide2 hb'
        clear own' hg' hb' hat'
        refine hK.out _ _ ⟨(XBu.out.keep E.out).cell 0, (XBu.out.keep E.out).cell 1⟩ (fun hHeld => ?_)
        clear hK
        try simp only [Act.put, List.setIfInBounds_toArray, List.set_cons_zero, List.set_cons_succ]
        refine tkOne rfl (fun K hK => ?_)
        go_simp
        have hb := boxBelow u2 (.cells #[.int .i64 l, .slice A1 n1 c1, .slice A2 n2 c2] 84)
        have SB := Box.new u2 #[.int .i64 l, .slice A1 n1 c1, .slice A2 n2 c2] 84
        obtain ⟨HH, hHH⟩ : ∃ HH, u2.heap.size = HH := ⟨_, rfl⟩
        have NE := hide2 (show vc.ownBlock ≠ some HH from fun e => by
          have := (R1.out.lt _ e).2
          omega)
        replace R1 := hide2 (R1.out.keep (LinkR0.kept N w) hb)
        replace E := hide2 (E.out.trans (hb.mono E.out.size))
        rw [hHH] at SB ⊢
        generalize hE : u2.alloc (.cells #[.int .i64 l, .slice A1 n1 c1, .slice A2 n2 c2] 84) = u3 at *
        have S1 := hide2 SB
        clear hb hE SB hHH
        refine hK.out _ _ ⟨(XBu.out.keep E.out).cell 0, (XBu.out.keep E.out).cell 1⟩ (fun hHeld => ?_)
        clear hK
        try simp only [Act.put, List.setIfInBounds_toArray, List.set_cons_zero, List.set_cons_succ]
        refine tkOne rfl (fun K hK => ?_)
        refine step_appAny tyKl (LinkR0.good N w) rfl (.tmp 14) (.tmp 19) rfl rfl rfl R1.out (rowK S1.out I1.out I2.out F1.out F2.out) E.out.size (by omega) (by omega) (fun _ _ _ _ h => h) E.out (Nat.le_refl _) ?_
        intro vd u4 own' hg' hb' hat'
        replace R1 := hide2 own'
        replace E := hide2 hb'
        clear own' hg' hb' hat'
        refine hK.out _ _ ⟨(XBu.out.keep E.out).cell 0, (XBu.out.keep E.out).cell 1⟩ (fun hHeld => ?_)
        clear hK
        try simp only [Act.put, List.setIfInBounds_toArray, List.set_cons_zero, List.set_cons_succ]
        exact EN.out _ _ ⟨_, _, _, _, rfl, R1, E⟩ ⟨(XBu.out.keep E.out).cell 0, (XBu.out.keep E.out).cell 1⟩
      · go_simp
        have hb := boxBelow u1 (.cells #[.int .i64 l, .slice A1 n1 c1, .slice A2 n2 c2] 84)
        have SB := Box.new u1 #[.int .i64 l, .slice A1 n1 c1, .slice A2 n2 c2] 84
        obtain ⟨HH, hHH⟩ : ∃ HH, u1.heap.size = HH := ⟨_, rfl⟩
        have NE := hide2 (show vb.ownBlock ≠ some HH from fun e => by
          have := (R1.out.lt _ e).2
          omega)
        replace R1 := hide2 (R1.out.keep (LinkR0.kept N w) hb)
        replace E := hide2 (E.out.trans (hb.mono E.out.size))
        rw [hHH] at SB ⊢
        generalize hE : u1.alloc (.cells #[.int .i64 l, .slice A1 n1 c1, .slice A2 n2 c2] 84) = u2 at *
        have S1 := hide2 SB
        clear hb hE SB hHH
        refine hK.out _ _ ⟨(XBu.out.keep E.out).cell 0, (XBu.out.keep E.out).cell 1⟩ (fun hHeld => ?_)
        clear hK
        try simp only [Act.put, List.setIfInBounds_toArray, List.set_cons_zero, List.set_cons_succ]
        refine tkOne rfl (fun K hK => ?_)
        refine step_appAny tyKl (LinkR0.good N w) rfl (.tmp 11) (.tmp 13) rfl rfl rfl R1.out (Sl.keep (LinkR0.kept N w) LK.out E.out) E.out.size (by omega) (by omega) (fun _ _ _ _ h => h) E.out (Nat.le_refl _) ?_
        intro vc u3 own' hg' hb' hat'
        have NX := hide2 (show vc.ownBlock ≠ some HH from fun e => by
          rcases hat' with h1 | h1
          · exact NE.out (h1.symm.trans e)
          · rw [e] at h1
            injection h1 with h1
            have := S1.out.lt
            omega)
        replace S1 := hide2 (S1.out.grown hg' NE.out)
        replace NE := NX
        clear NX
        replace R1 := hide2 own'
        replace E := hide2 hb'
        clear own' hg' hb' hat'
        refine hK.out _ _ ⟨(XBu.out.keep E.out).cell 0, (XBu.out.keep E.out).cell 1⟩ (fun hHeld => ?_)
        clear hK
        try simp only [Act.put, List.setIfInBounds_toArray, List.set_cons_zero, List.set_cons_succ]
        refine tkOne rfl (fun K hK => ?_)
        refine step_appAny tyKl (LinkR0.good N w) rfl (.tmp 14) (.tmp 19) rfl rfl rfl R1.out (rowK S1.out I1.out I2.out F1.out F2.out) E.out.size (by omega) (by omega) (fun _ _ _ _ h => h) E.out (Nat.le_refl _) ?_
        intro vd u4 own' hg' hb' hat'
        replace R1 := hide2 own'
        replace E := hide2 hb'
        clear own' hg' hb' hat'
        refine hK.out _ _ ⟨(XBu.out.keep E.out).cell 0, (XBu.out.keep E.out).cell 1⟩ (fun hHeld => ?_)
        clear hK
        try simp only [Act.put, List.setIfInBounds_toArray, List.set_cons_zero, List.set_cons_succ]
        exact EN.out _ _ ⟨_, _, _, _, rfl, R1, E⟩ ⟨(XBu.out.keep E.out).cell 0, (XBu.out.keep E.out).cell 1⟩
    · go_simp
      have hb := boxBelow u0 (.cells #[.int .i64 l, .slice A1 n1 c1, .slice A2 n2 c2] 84)
      have SB := Box.new u0 #[.int .i64 l, .slice A1 n1 c1, .slice A2 n2 c2] 84
      obtain ⟨HH, hHH⟩ : ∃ HH, u0.heap.size = HH := ⟨_, rfl⟩
      replace E := hide2 (E.out.trans (hb.mono E.out.size))
      rw [hHH] at SB ⊢
      generalize hE : u0.alloc (.cells #[.int .i64 l, .slice A1 n1 c1, .slice A2 n2 c2] 84) = u1 at *
      have S1 := hide2 SB
      clear hb hE SB hHH
      refine hK.out _ _ ⟨(XBu.out.keep E.out).cell 0, (XBu.out.keep E.out).cell 1⟩ (fun hHeld => ?_)
      clear hK
      try simp only [Act.put, List.setIfInBounds_toArray, List.set_cons_zero, List.set_cons_succ]
      refine tkOne rfl (fun K hK => ?_)
      go_simp
      have hb := boxBelow u1 (.cells #[] 84)
      have RR := OwnSl.empty (R := LinkR0 N w) (sz := 3) (w := u1) (B := u0.heap.size) (e := 84) E.out.size
      obtain ⟨vb, hv⟩ : ∃ v : Value, v = .slice (some ⟨u1.heap.size, 0, none⟩) 0 0 := ⟨_, rfl⟩
      have NE := hide2 (show vb.ownBlock ≠ some HH from fun e => by
        rw [hv] at e
        simp only [Value.ownBlock, Option.some.injEq] at e
        have := S1.out.lt
        omega)
      replace S1 := hide2 (S1.out.keep hb)
      rw [← hv] at RR ⊢
      generalize hE : u1.alloc (.cells #[] 84) = u2 at *
      replace E := hide2 (E.out.trans (hb.mono E.out.size))
      have R1 := hide2 RR
      clear hb hv hE RR
      refine hK.out _ _ ⟨(XBu.out.keep E.out).cell 0, (XBu.out.keep E.out).cell 1⟩ (fun hHeld => ?_)
      clear hK
      try simp only [Act.put, List.setIfInBounds_toArray, List.set_cons_zero, List.set_cons_succ]
      refine tkOne rfl (fun K hK => ?_)
      refine step_appAny tyKl (LinkR0.good N w) rfl (.tmp 11) (.tmp 13) rfl rfl rfl R1.out (Sl.keep (LinkR0.kept N w) LK.out E.out) E.out.size (by omega) (by omega) (fun _ _ _ _ h => h) E.out (Nat.le_refl _) ?_
      intro vc u3 own' hg' hb' hat'
      have NX := hide2 (show vc.ownBlock ≠ some HH from fun e => by
        rcases hat' with h1 | h1
        · exact NE.out (h1.symm.trans e)
        · rw [e] at h1
          injection h1 with h1
          have := S1.out.lt
          omega)
      replace S1 := hide2 (S1.out.grown hg' NE.out)
      replace NE := NX
      clear NX
      replace R1 := hide2 own'
      replace E := hide2 hb'
      clear own' hg' hb' hat'
      refine hK.out _ _ ⟨(XBu.out.keep E.out).cell 0, (XBu.out.keep E.out).cell 1⟩ (fun hHeld => ?_)
      clear hK
      try simp only [Act.put, List.setIfInBounds_toArray, List.set_cons_zero, List.set_cons_succ]
      refine tkOne rfl (fun K hK => ?_)
      refine step_appAny tyKl (LinkR0.good N w) rfl (.tmp 14) (.tmp 19) rfl rfl rfl R1.out (rowK S1.out I1.out I2.out F1.out F2.out) E.out.size (by omega) (by omega) (fun _ _ _ _ h => h) E.out (Nat.le_refl _) ?_
      intro vd u4 own' hg' hb' hat'
      replace R1 := hide2 own'
      replace E := hide2 hb'
      clear own' hg' hb' hat'
      refine hK.out _ _ ⟨(XBu.out.keep E.out).cell 0, (XBu.out.keep E.out).cell 1⟩ (fun hHeld => ?_)
      clear hK
      try simp only [Act.put, List.setIfInBounds_toArray, List.set_cons_zero, List.set_cons_succ]
      exact EN.out _ _ ⟨_, _, _, _, rfl, R1, E⟩ ⟨(XBu.out.keep E.out).cell 0, (XBu.out.keep E.out).cell 1⟩
end Go.Proofs.Ytnfppolgaeibeaa
