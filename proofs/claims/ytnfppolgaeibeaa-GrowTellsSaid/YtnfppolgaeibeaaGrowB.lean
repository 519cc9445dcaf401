/- The grower as it lies in memory; the contracts of place, link, one. Conditions: none but these. | The contracts of link and weights. Conditions: the lists read as lists of ints; places lie in range. -/
import Derived.Test.YtnfppolgaeibeaaGrowA
import Derived.Test.YtnfppolgaeibeaaAppW
import Derived.Test.YtnfppolgaeibeaaCaseC
namespace Go.Proofs.Ytnfppolgaeibeaa
open Go.RowKit

def SafeG (N : Nat) (w : World) (b : Nat) : Prop := b < N ∨ ∃ cs fr, w.heap[b]? = some (.cells cs 3 fr)
/-- Where a list of ints lies that stays: below N, or in a row of ints. -/
def FarG (N : Nat) (w : World) (A : Option Addr) (n : Nat) : Prop := ∀ b off, A = some ⟨b, off, none⟩ → 0 < n → SafeG N w b
theorem SafeG.ne {N : Nat} {w : World} {b g : Nat} (h : SafeG N w b) (hg : N ≤ g) {cs : Array Value} {ty : Nat} {fr : Nat × Nat} (ht : w.heap[g]? = some (.cells cs ty fr)) (hne : ty ≠ 3) : b ≠ g := by
  rintro rfl
  rcases h with h | ⟨cs', fr', h⟩
  · omega
  · rw [ht] at h
    injection h with h
    injection h with _ h
    exact hne h
theorem FarG.same {N : Nat} {w w' : World} {A : Option Addr} {n c : Nat} {xs : List Int} (h : FarG N w A n) (i : Ints w A n c xs) (hs : w.heap.size ≤ w'.heap.size) (hb : ∀ b, b < w.heap.size → SafeG N w b → w'.heap[b]? = w.heap[b]?) : FarG N w' A n ∧ Ints w' A n c xs := by
  constructor
  · intro b off hA hn
    obtain ⟨b', off', e, hlt, _⟩ := i.cells hn
    rw [hA] at e
    injection e with e
    injection e with e _
    subst e
    have h1 := h b off hA hn
    have h2 := hb b hlt h1
    rcases h1 with h1 | ⟨cs, fr, h1⟩
    · exact .inl h1
    · exact .inr ⟨cs, fr, h2.trans h1⟩
  · refine ⟨i.len, i.le, i.cap, i.small, i.nul, fun hn => ?_⟩
    obtain ⟨b, off, e, hlt, hc⟩ := i.cells hn
    refine ⟨b, off, e, Nat.lt_of_lt_of_le hlt hs, fun j x hx => ?_⟩
    obtain ⟨vs, h1, h2⟩ := hc j x hx
    exact ⟨vs, fun q hq => (World.cell?_of_block (hb b hlt (h b off e hn))).trans (h1 q hq), h2⟩
theorem FarG.own {N B n c : Nat} {w : World} {A : Option Addr} {xs : List Int} (h : OwnInts w B (.slice A n c) n xs) : FarG N w A n := by
  intro b off hA hn
  obtain ⟨cells, h1, _⟩ := h
  rcases h1.2 with ⟨e, _⟩ | ⟨g, cap, cur, e, _, hh, _⟩
  · subst hA; cases e
  · subst hA
    injection e with e1 _ _
    injection e1 with e1
    injection e1 with e1
    subst e1
    exact .inr ⟨cur, _, hh⟩
/-- A link, in a row. -/
def LinkR (N : Nat) : World → (Nat → Value) → PTran → Prop := fun w vs t =>
  vs 0 = .int .i64 t.label ∧ ∃ A1 n1 c1 A2 n2 c2, vs 1 = .slice A1 n1 c1 ∧ vs 2 = .slice A2 n2 c2 ∧ Ints w A1 n1 c1 t.pre ∧ Ints w A2 n2 c2 t.post ∧ FarG N w A1 n1 ∧ FarG N w A2 n2
theorem LinkR.same {N : Nat} {w w' : World} (hs : w.heap.size ≤ w'.heap.size) (hb : ∀ b, b < w.heap.size → SafeG N w b → w'.heap[b]? = w.heap[b]?) {vs : Nat → Value} {t : PTran} (h : LinkR N w vs t) : LinkR N w' vs t := by
  obtain ⟨h0, A1, n1, c1, A2, n2, c2, e1, e2, i1, i2, f1, f2⟩ := h
  have g1 := f1.same i1 hs hb
  have g2 := f2.same i2 hs hb
  exact ⟨h0, A1, n1, c1, A2, n2, c2, e1, e2, g1.2, g2.2, g1.1, g2.1⟩
theorem LinkR.kept (N : Nat) : Kept (LinkR N) := fun _ _ _ _ hb h => LinkR.same hb.size (fun b hlt _ => hb.block b hlt) h
theorem LinkR.good (N : Nat) : Good (LinkR N) 3 where
  kept := LinkR.kept N
  one := fun w vs x h j hj => by
    obtain ⟨h0, A1, n1, c1, A2, n2, c2, h1, h2, _⟩ := h
    match j, hj with
    | 0, _ => rw [h0]; rfl
    | 1, _ => rw [h1]; rfl
    | 2, _ => rw [h2]; rfl
  pos := by omega
theorem ownG_at {w : World} {B e s n : Nat} {v : Value} {c : List Value} (h : w.ownsRow B e s v n c) {g : Nat} (hg : v.ownBlock = some g) : B ≤ g ∧ ∃ cur, w.heap[g]? = some (.cells cur e (0, 0)) := by
  rcases h.2 with ⟨rfl, _⟩ | ⟨g', cap, cur, rfl, h1, hh, _⟩
  · cases hg
  · simp only [Value.ownBlock, Option.some.injEq] at hg
    subst hg
    exact ⟨h1, cur, hh⟩
theorem tyLinks : SlTy 70 75 3 56 := SlTy.mk' (z := .agg #[.int .i64 0, .slice none 0 0, .slice none 0 0]) Try.underlying70 (by kernel_rfl) rfl (by decide)
/-- The grower. -/
structure GrW (N bg : Nat) (w : World) (v : Value) (g : KSt) : Prop where
  lo : N ≤ bg
  box : Box w bg 72 #[.int .i64 g.places, v]
  own : OwnSl (LinkR N) 3 w N 75 v g.links.length g.links
section
variable {N bg : Nat} {w0 w w' : World} {v v' : Value} {g : KSt}
theorem GrW.lt (h : GrW N bg w v g) : bg < w.heap.size := h.box.lt
theorem GrW.keep (h : GrW N bg w v g) (hb : Below w.heap.size w w') : GrW N bg w' v g := ⟨h.lo, h.box.keep hb, h.own.keep (LinkR.kept N) hb⟩
/-- Whatever has no ints in it turns: the links stay. -/
theorem LinkR.turn {b : Nat} (hN : N ≤ b) {cs : Array Value} {ty : Nat} (hx : Box w b ty cs) (hty : ty ≠ 3) (hg : w.grownBy w' (some b)) {vs : Nat → Value} {t : PTran} (h : LinkR N w vs t) : LinkR N w' vs t :=
  LinkR.same hg.size (fun b' hlt hs => hg.block b' hlt (fun e => by
    injection e with e
    subst e
    unfold Box at hx
    exact hs.ne hN hx hty rfl)) h
theorem LinkR.grown {n : Nat} {cells : List Value} (ho : w.ownsRow N 75 3 v n cells) (hg : w.grownBy w' v.ownBlock) {vs : Nat → Value} {t : PTran} (h : LinkR N w vs t) : LinkR N w' vs t :=
  LinkR.same hg.size (fun b hlt hs => hg.block b hlt (fun e => by
    obtain ⟨h1, cur, h2⟩ := ownG_at ho e.symm
    exact hs.ne h1 h2 (by decide) rfl)) h
theorem ownG_neBox {B e s n b ty : Nat} {c : List Value} {cs : Array Value} (h : w.ownsRow B e s v n c) (hx : Box w b ty cs) (hne : e ≠ ty) : v.ownBlock ≠ some b := by
  intro e'
  rcases h.2 with ⟨rfl, _⟩ | ⟨g, cap, cur, rfl, _, hh, _⟩
  · cases e'
  · simp only [Value.ownBlock, Option.some.injEq] at e'
    subst e'
    unfold Box at hx
    rw [hx] at hh
    injection hh with hh
    injection hh with _ hh
    exact hne hh.symm
theorem grownG (w : World) (b i : Nat) (v : Value) : w.grownBy (w.setCell ⟨b, i, none⟩ v) (some b) :=
  ⟨rfl, rfl, rfl, by simp [World.setCell], fun k _ hk => heap_setCell_other _ _ _ _ (fun e => hk (by rw [e]))⟩
/-- So many places more. -/
theorem GrW.place (h : GrW N bg w v g) (k : Nat) : GrW N bg (w.setCell ⟨bg, 0, none⟩ (.int .i64 ((g.places + k : Nat) : Int))) v (more g k) := by
  obtain ⟨_, o1, _⟩ := id h.own
  refine ⟨h.lo, by simpa [more] using h.box.set 0 (.int .i64 ((g.places + k : Nat) : Int)), ?_⟩
  exact h.own.kept (grownG w bg 0 _) (.inr (ownG_neBox o1 h.box (by decide))) (fun vs x hx => hx.turn h.lo h.box (by decide) (grownG w bg 0 _))
/-- Nothing but the number of places has turned, of what was there. -/
theorem GrW.far (h : GrW N bg w v g) (hg : w.grownBy w' (some bg)) {k : Nat} (hx : Box w' bg 72 #[.int .i64 ((g.places + k : Nat) : Int), v]) : GrW N bg w' v (more g k) := by
  obtain ⟨_, o1, _⟩ := id h.own
  exact ⟨h.lo, hx, h.own.kept hg (.inr (ownG_neBox o1 h.box (by decide))) (fun vs x hx => hx.turn h.lo h.box (by decide) hg)⟩
/-- A link more. -/
theorem GrW.link (h : GrW N bg w v g) {t : PTran} {b k cap : Nat} (hk : k = g.links.length + 1) (own : OwnSl (LinkR N) 3 w' N 75 (.slice (some ⟨b, 0, none⟩) k cap) k (g.links ++ [t])) (hg : w.grownBy w' v.ownBlock) :
    Box w' bg 72 #[.int .i64 g.places, v] ∧ GrW N bg (w'.setCell ⟨bg, 1, none⟩ (.slice (some ⟨b, 0, none⟩) k cap)) (.slice (some ⟨b, 0, none⟩) k cap) (lnk g t.label t.pre t.post) := by
  obtain ⟨_, o1, _⟩ := id h.own
  obtain ⟨_, q1, _⟩ := id own
  have b1 := h.box.grown hg (ownG_neBox o1 h.box (by decide))
  refine ⟨b1, h.lo, by simpa [lnk] using b1.set 1 (.slice (some ⟨b, 0, none⟩) k cap), ?_⟩
  have e : (lnk g t.label t.pre t.post).links.length = k := by simp [lnk, hk]
  rw [e]
  exact own.kept (grownG w' bg 1 _) (.inr (ownG_neBox q1 b1 (by decide))) (fun vs x hx => hx.turn h.lo b1 (by decide) (grownG w' bg 1 _))
end
/-- What is neither a grower nor a row of links stays. -/
def Kp (w w' : World) : Prop := w.heap.size ≤ w'.heap.size ∧ ∀ (b : Nat) (cs : Array Value) (ty : Nat) (fr : Nat × Nat), ty ≠ 75 → ty ≠ 72 → w.heap[b]? = some (.cells cs ty fr) → w'.heap[b]? = w.heap[b]?
theorem Kp.refl (w : World) : Kp w w := ⟨Nat.le_refl _, fun _ _ _ _ _ _ _ => rfl⟩
theorem Kp.trans {a b c : World} (h : Kp a b) (g : Kp b c) : Kp a c := ⟨Nat.le_trans h.1 g.1, fun k cs ty fr h1 h2 hx => by
  have e := h.2 k cs ty fr h1 h2 hx
  exact (g.2 k cs ty fr h1 h2 (e.trans hx)).trans e⟩
theorem Kp.below {w w' : World} (h : Below w.heap.size w w') : Kp w w' := ⟨h.size, fun b _ _ _ _ _ hx => h.block b (Array.getElem?_eq_some_iff.1 hx).1⟩
theorem Kp.grown {w w' : World} {B e s n : Nat} {v : Value} {c : List Value} (h : w.ownsRow B e s v n c) (he : e = 75) (hg : w.grownBy w' v.ownBlock) : Kp w w' := ⟨hg.size, fun b cs ty fr h1 _ hx => hg.block b (Array.getElem?_eq_some_iff.1 hx).1 (fun e' => by
  obtain ⟨_, cur, h2⟩ := ownG_at h e'.symm
  rw [hx] at h2
  injection h2 with h2
  injection h2 with _ h2
  exact h1 (h2.trans he))⟩
theorem Kp.set {w : World} {b : Nat} {cs : Array Value} (hx : Box w b 72 cs) (i : Nat) (v : Value) : Kp w (w.setCell ⟨b, i, none⟩ v) := ⟨by simp [World.setCell], fun b' cs' ty fr _ h2 hx' => heap_setCell_other _ _ _ _ (fun e => by
  simp only at e
  subst e
  unfold Box at hx
  rw [hx'] at hx
  injection hx with hx
  injection hx with _ hx
  exact h2 hx)⟩
theorem Kp.box {w w' : World} (h : Kp w w') {b ty : Nat} {cs : Array Value} (hx : Box w b ty cs) (h1 : ty ≠ 75) (h2 : ty ≠ 72) : Box w' b ty cs := (h.2 b cs ty _ h1 h2 hx).trans hx
/-- A list of ints that stays does so as the grower grows. -/
theorem FarG.kp {N n c : Nat} {w0 w w' : World} {A : Option Addr} {xs : List Int} (h : FarG N w A n) (i : Ints w A n c xs) (hk : Kp w w') (hb : Below N w0 w) (hb' : Below N w0 w') : FarG N w' A n ∧ Ints w' A n c xs :=
  h.same i hk.1 (fun b hlt hs => by
    rcases hs with hs | ⟨cs, fr, hs⟩
    · exact (hb'.block b hs).trans (hb.block b hs).symm
    · exact hk.2 b cs _ fr (by decide) (by decide) hs)
abbrev fullP : PanicEntry := { v := .iface 67 (.agg #[]), recovered := false }

set_option maxRecDepth 100000 in
theorem one_calls' (w : World) (p : Int) : Calls Try.prog 100 #[.int .i64 p] w (fun e w' => e = .returned (.slice (some ⟨w.heap.size, 0, none⟩) 1 1) ∧ w' = w.alloc (.cells #[.int .i64 p] 3)) := by
  go_enter Try.func100, Try.ntmps100
  go_wp2
  go_ret
  exact ⟨rfl, rfl⟩

set_option maxRecDepth 100000 in
theorem place_ok {N bg : Nat} {w0 w : World} {v : Value} {g : KSt} (h : GrW N bg w v g) (hb : Below N w0 w) (hp : g.places < 16) :
    Calls Try.prog 102 #[.pointer (some ⟨bg, 0, none⟩)] w (fun e w' => e = .returned (.int .i64 g.places) ∧ GrW N bg w' v (more g 1) ∧ Below N w0 w' ∧ Kp w w' ∧ w.grownBy w' (some bg)) := by
  have H := hide2 h
  have B := hide2 hb
  obtain ⟨c0, c1⟩ := h.box.two
  have f0 := h.box.frozen 0
  obtain ⟨P, hP⟩ : ∃ P, g.places = P := ⟨_, rfl⟩
  have HP := hide2 (show Hid (GrW N bg (w.setCell ⟨bg, 0, none⟩ (.int .i64 ((P : Int) + 1))) v (more g 1)) from hide2 (by have := h.place 1; rw [hP] at this; exact this))
  have HB := hide2 (hb.setCell (p := ⟨bg, 0, none⟩) h.lo (.int .i64 ((P : Int) + 1)))
  have HKP := hide2 (Kp.set h.box 0 (.int .i64 ((P : Int) + 1)))
  rw [hP] at c0 hp
  rw [hP]
  clear h hb hP
  go_enter Try.func102, Try.ntmps102
  go_wp2
  go_ret
  exact ⟨by first | rfl | simp, HP.out.out, HB.out, HKP.out, grownG _ _ _ _⟩

set_option maxRecDepth 100000 in
theorem place_full {N bg : Nat} {w0 w : World} {v : Value} {g : KSt} (h : GrW N bg w v g) (hb : Below N w0 w) (hp : g.places = 16) :
    Calls Try.prog 102 #[.pointer (some ⟨bg, 0, none⟩)] w (fun e w' => e = .panicked [fullP] ∧ Below N w0 w') := by
  have H := hide2 h
  obtain ⟨c0, c1⟩ := h.box.two
  have f0 := h.box.frozen 0
  rw [hp] at c0
  have HB := hide2 (hb.setCell (p := ⟨bg, 0, none⟩) h.lo (.int .i64 17))
  clear h hb hp
  go_enter Try.func102, Try.ntmps102
  go_wp2
  exact ⟨rfl, rfl, HB.out⟩
end Go.Proofs.Ytnfppolgaeibeaa
namespace Go.Proofs.Ytnfppolgaeibeaa
open Go.RowKit

set_option maxRecDepth 100000 in
set_option maxHeartbeats 4000000 in
theorem link_ok {N bg : Nat} {w0 w : World} {v : Value} {g : KSt} {A1 A2 : Option Addr} {n1 c1 n2 c2 : Nat} {xs ys : List Int} (l : Int) (h : GrW N bg w v g) (hb : Below N w0 w) (hN : N ≤ w.heap.size) (i1 : Ints w A1 n1 c1 xs) (i2 : Ints w A2 n2 c2 ys) (f1 : FarG N w A1 n1) (f2 : FarG N w A2 n2) (hp : g.links.length < 24) :
    Calls Try.prog 101 #[.pointer (some ⟨bg, 0, none⟩), .int .i64 l, .slice A1 n1 c1, .slice A2 n2 c2] w (fun e w' => e = .returned (.tuple #[]) ∧ (∃ v', GrW N bg w' v' (lnk g l xs ys)) ∧ Below N w0 w' ∧ Kp w w') := by
  have H := hide2 h
  have B := hide2 hb
  obtain ⟨C, cc, rfl, _⟩ := h.own.sl (by omega)
  obtain ⟨c0, c1'⟩ := h.box.two
  have LR := hide2 (show LinkR N w (fun j => match j with | 0 => .int .i64 l | 1 => .slice A1 n1 c1 | _ => .slice A2 n2 c2) ⟨l, xs, ys⟩ from ⟨rfl, A1, n1, c1, A2, n2, c2, rfl, rfl, i1, i2, f1, f2⟩)
  have RD := hide2 (show Reads (LinkR N) 3 w #[.int .i64 l, .slice A1 n1 c1, .slice A2 n2 c2].toList [(⟨l, xs, ys⟩ : PTran)] from Reads.one (vs := fun j => match j with | 0 => .int .i64 l | 1 => .slice A1 n1 c1 | _ => .slice A2 n2 c2) LR.out rfl (fun j hj => by
    match j, hj with
    | 0, _ => rfl
    | 1, _ => rfl
    | 2, _ => rfl))
  have KP := hide2 (show ∀ w', w.grownBy w' (Value.slice C g.links.length cc).ownBlock → ∀ vs y, LinkR N w vs y → LinkR N w' vs y from by
    obtain ⟨_, o1, _⟩ := id h.own
    exact fun w' hg vs y hy => hy.grown o1 hg)
  obtain ⟨K, hK⟩ : ∃ K, g.links.length = K := ⟨_, rfl⟩
  have HK := hide2 hK
  have OW := h.own
  have KP' := KP.out
  rw [hK] at c1' hp OW KP'
  have HOW := hide2 OW
  have HKP := hide2 KP'
  have OR := hide2 (show ∀ w', w.grownBy w' (Value.slice C K cc).ownBlock → Kp w w' from by
    obtain ⟨_, o1, _⟩ := id OW
    exact fun w' hg => Kp.grown o1 rfl hg)
  clear h hb i1 i2 f1 f2 hK KP OW KP'
  go_enter Try.func101, Try.ntmps101
  have hne : ¬ (K : Int) = 24 := by omega
  go_wp2_with (at_builtin; refine wpList_appNew (v := .slice C K cc) tyLinks rfl _ _ rfl [(⟨l, xs, ys⟩ : PTran)] #[.int .i64 l, .slice A1 n1 c1, .slice A2 n2 c2] rfl rfl (by first | rfl | simp) rfl (by simp [Value.oneCell']) HOW.out RD.out rfl B.out hN (by omega) (by omega) HKP.out ?_; intro v1 w1 own1 hg1 hb1; obtain ⟨C2, cc2, hv2, _⟩ := own1.sl (by omega); obtain ⟨bq, hq⟩ : ∃ bq, C2 = some ⟨bq, 0, none⟩ := (by subst hv2; obtain ⟨_, q1, _⟩ := id own1; rcases q1.2 with ⟨e, _⟩ | ⟨g', cap, cur, e, _⟩; (cases e); (injection e with e _ _; exact ⟨g', e⟩)); subst hv2 hq; obtain ⟨xb, xg⟩ := H.out.link (t := ⟨l, xs, ys⟩) (by rw [HK.out]) own1 (by rw [HK.out]; exact hg1); have XG := hide2 xg; have XB := hide2 xb; have B1 := hide2 hb1; have K1 := hide2 (OR.out _ hg1); clear own1 hg1 hb1 xg xb; have x1 := XB.out.cell 1; have f1 := XB.out.frozen 1)
  exact bodyPost_end (v := .tuple #[]) (by simp [results, Try.results101, go_sem]) rfl ⟨rfl, ⟨_, XG.out⟩, B1.out.setCell (p := ⟨bg, 1, none⟩) H.out.lo _, K1.out.trans (Kp.set XB.out 1 _)⟩

set_option maxRecDepth 100000 in
set_option maxHeartbeats 4000000 in
theorem link_full {N bg : Nat} {w0 w : World} {v : Value} {g : KSt} {A1 A2 : Option Addr} {n1 c1 n2 c2 : Nat} (l : Int) (h : GrW N bg w v g) (hb : Below N w0 w) (hp : g.links.length = 24) :
    Calls Try.prog 101 #[.pointer (some ⟨bg, 0, none⟩), .int .i64 l, .slice A1 n1 c1, .slice A2 n2 c2] w (fun e w' => e = .panicked [fullP] ∧ Below N w0 w') := by
  have B := hide2 hb
  obtain ⟨C, cc, rfl, _⟩ := h.own.sl (by omega)
  obtain ⟨c0, c1'⟩ := h.box.two
  rw [hp] at c1'
  clear h hb hp
  go_enter Try.func101, Try.ntmps101
  go_wp2
  exact ⟨rfl, rfl, B.out⟩

/-- 1 at each of some places. -/
def onesTo (n : Nat) (l : List Int) (k : Nat) : List Int := (l.take k).foldl (fun o p => o.set p.toNat 1) (List.replicate n 0)
theorem onesTo_succ {n k : Nat} {l : List Int} {x : Int} (h : l[k]? = some x) : onesTo n l (k + 1) = (onesTo n l k).set x.toNat 1 := by
  unfold onesTo
  rw [List.take_add_one, h, List.foldl_append]; rfl
theorem onesTo_len (n : Nat) (l : List Int) (k : Nat) : (onesTo n l k).length = n := by
  unfold onesTo
  have : ∀ (l : List Int) (o : List Int), (l.foldl (fun o (p : Int) => o.set p.toNat 1) o).length = o.length := fun l => by
    induction l with
    | nil => exact fun o => rfl
    | cons a l ih => intro o; rw [List.foldl_cons, ih]; simp
  rw [this]; simp
def onesL (n : Nat) (l : List Int) : List Int := onesTo n l l.length
theorem onesL_len (n : Nat) (l : List Int) : (onesL n l).length = n := onesTo_len n l _

set_option maxRecDepth 100000 in
set_option maxHeartbeats 4000000 in
theorem weights_calls {w : World} {P n c : Nat} {A : Option Addr} {xs : List Int} (h : Ints w A n c xs) (hP : P ≤ 1000) (hn : n ≤ 1000) (hx : ∀ x ∈ xs, 0 ≤ x ∧ x < (P : Int)) :
    Calls Try.prog 39 #[.int .i64 P, .slice A n c] w (fun e w' => ∃ g, e = .returned (.slice (some ⟨g, 0, none⟩) P P) ∧ OwnInts w' w.heap.size (.slice (some ⟨g, 0, none⟩) P P) P (onesL P xs) ∧ Below w.heap.size w w') := by
  have H := hide2 h
  have HX := hide2 hx
  have HL := hide2 (show xs.length = n from h.len)
  clear h hx
  go_enter Try.func39, Try.ntmps39
  go_upto_region 2 with (at_make; refine wpList_mk Try.underlying35 infoInt rfl rfl _ _ rfl P rfl rfl rfl rfl (by omega) (by omega) (Below.refl w.heap.size w) (Nat.le_refl _) ?_; intro w1 own1 hg1 hb1; have OB := hide2 (show OwnInts w1 w.heap.size (.slice (some ⟨w.heap.size, 0, none⟩) P P) P (onesTo P xs 0) from OwnInts.of_row (by unfold onesTo; rw [List.take_zero, List.foldl_nil, List.map_replicate]; exact own1)); have B1 := hide2 hb1; clear own1 hg1 hb1)
  go_wp2
  go_loopw [12] (fun v wr => ∃ k : Nat, k ≤ n ∧ v = .int .i64 k ∧ Hid (OwnInts wr w.heap.size (.slice (some ⟨w.heap.size, 0, none⟩) P P) P (onesTo P xs k)) ∧ Hid (Below w.heap.size w wr)) (fun v _ => n - (intOf v).toNat)
  case atStart => exact ⟨0, Nat.zero_le _, rfl, OB, B1⟩
  case round =>
    clear OB B1
    obtain ⟨k, hk, rfl, OB, BX⟩ := hrel
    by_cases hlt : k < n
    · have hki : (k : Int) < (n : Int) := by omega
      obtain ⟨b, off, x, rfl, hbl, hx, q0⟩ := (Ints.keep H.out BX.out).get hlt
      obtain ⟨x0, x1⟩ := HX.out x (List.mem_of_getElem? hx.out)
      obtain ⟨p, hp⟩ : ∃ p : Nat, x = (p : Int) := ⟨x.toNat, by omega⟩
      have NX := hide2 (onesTo_succ (n := P) hx.out)
      rw [hp, Int.toNat_natCast] at NX
      rw [hp] at q0 x1
      have hpP : p < P := by omega
      obtain ⟨y, hy⟩ : ∃ y, (onesTo P xs k)[p]? = some y := ⟨_, List.getElem?_eq_getElem (by rw [onesTo_len]; exact hpP)⟩
      have c0 : wr.cell? ⟨w.heap.size, p, none⟩ = some (.int .i64 y) := OwnInts.at OB.out hy
      have f0 : wr.frozen? ⟨w.heap.size, p, none⟩ = false := OwnInts.frozen OB.out p
      have V2 := hide2 (OwnInts.put OB.out p 1)
      have V3 := hide2 (BX.out.setCell (p := ⟨w.heap.size, p, none⟩) (Nat.le_refl _) (.int .i64 1))
      clear hx hy hp x0
      go_wp2
      go_roundw
      case rel => exact ⟨k + 1, by omega, by go_num, hide2 (by rw [NX.out]; exact V2.out), V3⟩
      case measure => simp [intOf]; omega
    · obtain rfl : k = n := by omega
      go_wp2
      go_ret
      exact ⟨_, rfl, by unfold onesL; rw [HL.out]; exact OB.out, BX.out⟩
end Go.Proofs.Ytnfppolgaeibeaa
