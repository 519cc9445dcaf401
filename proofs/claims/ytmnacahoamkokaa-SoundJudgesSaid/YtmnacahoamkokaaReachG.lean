/- The contract of Graph. Conditions: the net and the mark read as lists. -/
import Derived.Test.YtmnacahoamkokaaReachF
import Derived.Test.YtmnacahoamkokaaListW
namespace Go.Proofs.Ytmnacahoamkokaa
open Go.RowKit

def AnsSpace (r : PSp × Int) (w : World) (e : Ending) (w' : World) : Prop :=
  ∃ U cu V cv, e = .returned (.tuple #[.agg #[.slice U r.1.marks.length cu, .slice V r.1.arcs.length cv], .int .i64 r.2]) ∧ Lists w' U r.1.marks.length cu r.1.marks ∧ Arcs w' V r.1.arcs.length cv r.1.arcs ∧ Below w.heap.size w w'
theorem FinW.space {w w' : World} {B bf bm b ty : Nat} {P : Int} {A : Option Addr} {n c : Nat} {most : Int} {u v z : Value} {mm ms : List (List Int)} {ars : List PArc} {fs : List Int} {cs : Array Value} (h : FinW w B bf bm P A n c most u v z mm ms ars fs) (hx : Box w b ty cs) (hcs : ∀ (j : Nat) (x : Int), cs[j]? ≠ some (.int .i64 x)) (hb : b < B) (hw : Beside b w w') (hos : w'.os = w.os) (htape : w'.tape = w.tape) (hout : w'.output = w.output) (hl : ms.length ≤ 7200) (ha : ars.length ≤ 7200) :
    ∃ U cu V cv, u = .slice U ms.length cu ∧ v = .slice V ars.length cv ∧ Lists w' U ms.length cu ms ∧ Arcs w' V ars.length cv ars := by
  have hg : w.grownBy w' (some b) := ⟨hos, htape, hout, Nat.le_of_eq hw.1.symm, fun k _ hk => hw.2 k (fun e => hk (by rw [e]))⟩
  have o1 : OwnSl ListR 1 w' B 33 u ms.length ms := h.marks.turn hg (.inr (fun e => by have := (h.marks.lt b e).1; omega)) (fun vs x hx' => by
    obtain ⟨A, n, c, e, i, l, _⟩ := hx'
    exact ⟨A, n, c, e, i.beside hx hcs hw, by omega⟩)
  have o2 : OwnSl ArcR 3 w' B 147 v ars.length ars := h.arcs.turn hg (.inr (fun e => by have := (h.arcs.lt b e).1; omega)) (fun vs x hx' => hx')
  obtain ⟨U, cu, e1, s1⟩ := o1.sl (by omega)
  obtain ⟨V, cv, e2, s2⟩ := o2.sl (by omega)
  exact ⟨U, cu, V, cv, e1, e2, s1, s2⟩
theorem ans_space0 {w w' : World} {k : Int} (hb : Below w.heap.size w w') : AnsSpace (PSp.nil, k) w (.returned (.tuple #[.agg #[.slice none 0 0, .slice none 0 0], .int .i64 k])) w' :=
  ⟨none, 0, none, 0, rfl, Sl.nil0, Sl.nil0, hb⟩
theorem graphL_err {N : PNet} {m : List Int} {most : Int} (h : (graphL N m most).2 ≠ 0) : (graphL N m most).1 = PSp.nil := by
  unfold graphL at h ⊢
  split
  · rename_i h1
    rw [if_pos h1] at h
    cases hg : goM N most.toNat most.toNat 0 ⟨[m], []⟩ with
    | none => rfl
    | some s => rw [hg] at h; simp at h
  · rfl
theorem below_set2 {B b : Nat} {w0 w : World} (h : Below B w0 w) (hB : B ≤ w0.heap.size) (hb : B ≤ b) (u v : Value) : Below B w0 ((w.setCell ⟨b, 0, none⟩ u).setCell ⟨b, 1, none⟩ v) :=
  (h.grown (grown_setCell w b 0 u) (Nat.le_trans hB h.size) (fun k hk => by cases hk; exact hb)).grown (grown_setCell _ b 1 v) (by simpa [World.setCell] using Nat.le_trans hB h.size) (fun k hk => by cases hk; exact hb)

set_option maxRecDepth 100000 in
set_option maxHeartbeats 2000000 in
theorem graph_calls {w : World} {P : Int} {A B : Option Addr} {n c m d : Nat} {ts : List PTran} {xs : List Int} (most : Int) (h : Trans w A n c ts) (g : Ints w B m d xs) :
    Calls Try.prog 22 #[.agg #[.int .i64 P, .slice A n c], .slice B m d, .int .i64 most] w (AnsSpace (graphL ⟨P, ts⟩ xs most) w) := by
  generalize hw : ((w.alloc (.cells #[.int .i64 P, .slice A n c] 27)).alloc (.cells #[.slice none 0 0, .slice none 0 0] 48)) = w0
  have HB := hide2 (show Below w.heap.size w w0 by rw [← hw]; exact ((Below.refl _ _).alloc (Nat.le_refl _) _).alloc (by simp) _)
  have X0 := hide2 (show Box w0 w.heap.size 27 #[.int .i64 P, .slice A n c] by rw [← hw]; exact (Box.new _ _ _).old _)
  have X1 := hide2 (show Box w0 (w.heap.size + 1) 48 #[.slice none 0 0, .slice none 0 0] by rw [← hw]; exact Box.newAt (by simp) _ _)
  have CS := hide2 (search_calls (P := P) most (h.keep HB.out) (g.keep HB.out))
  have ER := hide2 (graphL_err (N := ⟨P, ts⟩) (m := xs) (most := most))
  clear h g
  obtain ⟨r, hr⟩ : ∃ r, graphL ⟨P, ts⟩ xs most = r := ⟨_, rfl⟩
  rw [hr] at CS ER
  rw [hr]
  clear hr
  obtain ⟨s, k⟩ := r
  go_enter Try.func22, Try.ntmps22
  go_upto_region 1 with fail
  clear hw
  obtain ⟨a0, a1⟩ := X0.out.two
  obtain ⟨z0, z1⟩ := X1.out.two
  have f0 := X1.out.frozen 0
  have f1 := X1.out.frozen 1
  by_cases hk : k = 0
  · subst hk
    go_upto_region 2 with (go_at_call 74; go_loud ((with_reducible refine CS.out.mono ?_); rintro e w1 ⟨B1, ⟨hne, _⟩ | ⟨_, bf, bm, A1, n1, c1, u, v, z, fs, rfl, hF, hX, hms'⟩⟩; (exact absurd rfl hne); have FF := hide2 hF; have XX := hide2 hX; have BB := hide2 B1; have HMS := hide2 hms'; clear hF hX B1 hms'))
    have Y1 := hide2 (X1.out.keep BB.out)
    have BZ := hide2 (HB.out.trans (BB.out.mono HB.out.size))
    have Hlt := hide2 X1.out.lt
    clear X0 X1 HB CS ER a0 a1 z0 z1 f0 f1 BB
    have hms : s.marks.length ≤ 300 := HMS.out
    obtain ⟨U, cu, V, cv, eu, ev, hL, hA⟩ := FF.out.space Y1.out noInt2 Hlt.out (Beside.set2 w1 (w.heap.size + 1) 0 1 u v) rfl rfl rfl (by omega) XX.out.arcs
    subst eu ev
    have LL := hide2 hL
    have LA := hide2 hA
    clear hL hA
    have c4 : w1.cell? ⟨bf, 4, none⟩ = some (.slice U s.marks.length cu) := FF.out.box.cell 4
    have c5 : w1.cell? ⟨bf, 5, none⟩ = some (.slice V s.arcs.length cv) := FF.out.box.cell 5
    obtain ⟨z0, z1⟩ := Y1.out.two
    have f0 := Y1.out.frozen 0
    have f1 := Y1.out.frozen 1
    go_wp2
    obtain ⟨r0, r1⟩ := (Y1.out.set2 (.slice U s.marks.length cu) (.slice V s.arcs.length cv)).two
    have BW := below_set2 BZ.out (Nat.le_refl _) (show w.heap.size ≤ w.heap.size + 1 by omega) (.slice U s.marks.length cu) (.slice V s.arcs.length cv)
    exact bodyPost_ret (v := .tuple #[.agg #[.slice U s.marks.length cu, .slice V s.arcs.length cv], .int .i64 0]) (by simp [results, Try.results22, go_sem, r0, r1]) rfl ⟨U, cu, V, cv, rfl, LL.out, LA.out, BW⟩
  · have ES := hide2 (ER.out hk)
    simp only at ES
    go_upto_region 2 with (go_at_call 74; go_loud ((with_reducible refine CS.out.mono ?_); rintro e w1 ⟨B1, ⟨_, rfl⟩ | ⟨he, _⟩⟩; rotate_left; (exact absurd he hk); have BB := hide2 B1; clear B1))
    have Y1 := hide2 (X1.out.keep BB.out)
    have BZ := hide2 (HB.out.trans (BB.out.mono HB.out.size))
    clear X0 X1 HB CS ER a0 a1 z0 z1 f0 f1 BB
    obtain ⟨z0, z1⟩ := Y1.out.two
    have f0 := Y1.out.frozen 0
    have f1 := Y1.out.frozen 1
    go_wp2
    obtain ⟨r0, r1⟩ := (Y1.out.set2 (.slice none 0 0) (.slice none 0 0)).two
    have BW := below_set2 BZ.out (Nat.le_refl _) (show w.heap.size ≤ w.heap.size + 1 by omega) (.slice none 0 0) (.slice none 0 0)
    obtain rfl : s = PSp.nil := ES.out
    exact bodyPost_ret (v := .tuple #[.agg #[.slice none 0 0, .slice none 0 0], .int .i64 k]) (by simp [results, Try.results22, go_sem, r0, r1]) rfl (ans_space0 BW)
end Go.Proofs.Ytmnacahoamkokaa
