/- Texts melted into one: The contract of SameLists on lists of lists that read as the same. Conditions: they read as lists. (Cut out of ReachK.) | The law TracksTell as a call: it returns true. Conditions: the log and the labels read as lists. | Maps to integers, read by what each key has (0 where it has none): made, asked, written. Conditions: the keys are good. | slices.Index and Contains on pairs; mine's behind. Conditions: the log reads as lists and prints. -/
import Derived.Test.YtcopnfdknclhnaaGreatMineTellsK02
import Derived.Test.YtcopnfdknclhnaaGreatMineTellsK04
import Derived.Test.YtcopnfdknclhnaaGreatMineTellsK26
import Derived.ChangeKeysEq
import Derived.Test.YtcopnfdknclhnaaGreatMineTellsK14
import Derived.Test.YtcopnfdknclhnaaGreatMineTellsK25
namespace Go.Proofs.YtcopnfdknclhnaaGreat
open Go.RowKit

end Go.Proofs.YtcopnfdknclhnaaGreat
namespace Go.Proofs.YtcopnfdknclhnaaGreat
open Go.RowKit

theorem undPair : Tryz.prog.underlying 57 = some (.array 2 3) := by kernel_rfl
theorem guardPair : Tryz.prog.eqGuardType Tryz.prog.depth 57 = false := by kernel_rfl
/-- What the print's four lists read as. -/
structure PrI (w : World) (A1 A2 A3 A4 : Option Addr) (n1 c1 n2 c2 n3 c3 n4 c4 : Nat) (p : PPrints) : Prop where
  i1 : Ints w A1 n1 c1 p.labels
  i2 : Ints w A2 n2 c2 p.first
  i3 : Ints w A3 n3 c3 p.last
  i4 : Pairs w A4 n4 c4 p.behind
theorem PrI.keep {w w' : World} {A1 A2 A3 A4 : Option Addr} {n1 c1 n2 c2 n3 c3 n4 c4 : Nat} {p : PPrints} (h : PrI w A1 A2 A3 A4 n1 c1 n2 c2 n3 c3 n4 c4 p) (hb : Below w.heap.size w w') : PrI w' A1 A2 A3 A4 n1 c1 n2 c2 n3 c3 n4 c4 p :=
  ⟨h.i1.keep hb, h.i2.keep hb, h.i3.keep hb, Sl.keep PairR.kept h.i4 hb⟩
theorem Box.four {w : World} {b ty : Nat} {u0 u1 u2 u3 : Value} (h : Box w b ty #[u0, u1, u2, u3]) : w.cell? ⟨b, 0, none⟩ = some u0 ∧ w.cell? ⟨b, 1, none⟩ = some u1 ∧ w.cell? ⟨b, 2, none⟩ = some u2 ∧ w.cell? ⟨b, 3, none⟩ = some u3 := ⟨h.cell 0, h.cell 1, h.cell 2, h.cell 3⟩
theorem Sl.impT {α : Type} {R R' : World → (Nat → Value) → α → Prop} {sz : Nat} {w : World} {A : Option Addr} {n c : Nat} {xs : List α} (h : Sl R sz w A n c xs) (hR : ∀ vs x, R w vs x → R' w vs x) : Sl R' sz w A n c xs :=
  ⟨h.len, h.le, h.cap, h.small, h.nul, fun hn => by obtain ⟨b, off, e, hb, hx⟩ := h.cells hn; exact ⟨b, off, e, hb, fun i x hi => by obtain ⟨vs, a, r⟩ := hx i x hi; exact ⟨vs, a, hR _ _ r⟩⟩⟩
theorem OwnSl.lists {w : World} {B B2 n : Nat} {v : Value} {xs : List (List Int)} (h : OwnSl (OwnListR B) 1 w B2 35 v n xs) (hn : n ≤ 5864062014805) : ∃ A c, v = .slice A n c ∧ Lists w A n c xs := by
  obtain ⟨A, c, rfl, s⟩ := h.sl (by omega)
  exact ⟨A, c, rfl, Sl.impT s (fun _ _ h => h.list)⟩
end Go.Proofs.YtcopnfdknclhnaaGreat
namespace Go.Proofs.YtcopnfdknclhnaaGreat
open Go.RowKit Go.Maps

/-- Block b is a map that has f x at each good key x; q: how often it was written. -/
def MapZ {α : Type} (k : TypeId) (ok : α → Prop) (kk : α → Lit) (w : World) (b : Nat) (f : α → Int) (q : Nat) : Prop :=
  ∃ (D : DataW Unit) (n : Nat), w.ownsMap Tryz.prog k (plainElem Tryz.prog 3) b n D ∧ n ≤ q ∧ ∀ x, ok x → D.atKey (kk x) (.lit (.int .i64 0)) = .lit (.int .i64 (f x))
theorem zeroIntZ (w : World) : (zeroValue 3).run Tryz.prog w = .ok (.int .i64 0) w := by kernel_rfl
section
variable {α : Type} {k : TypeId} {ok : α → Prop} {kv : α → Value} {kk : α → Lit} {w w' : World} {b q : Nat} {f : α → Int}
theorem MapZ.made (k : TypeId) (ok : α → Prop) (kk : α → Lit) (w : World) : MapZ k ok kk (w.alloc (.map #[] 0)) w.heap.size (fun _ => 0) 0 := ⟨.map [], 0, World.ownsMap_made _ _ _ _, Nat.le_refl _, fun _ _ => rfl⟩
theorem MapZ.of_block (h : MapZ k ok kk w b f q) (hb : w'.heap[b]? = w.heap[b]?) : MapZ k ok kk w' b f q := by
  obtain ⟨D, n, h1, h2⟩ := h
  exact ⟨D, n, mapOf_block h1 hb, h2⟩
theorem MapZ.lt (h : MapZ k ok kk w b f q) : b < w.heap.size := by
  obtain ⟨D, n, h1, _⟩ := h
  exact h1.lt
theorem MapZ.keep (h : MapZ k ok kk w b f q) (hb : Below w.heap.size w w') : MapZ k ok kk w' b f q := h.of_block (hb.block b h.lt)
theorem MapZ.beside {row : Option Nat} (h : MapZ k ok kk w b f q) (hg : w.grownBy w' row) (hne : some b ≠ row) : MapZ k ok kk w' b f q := h.of_block (hg.block b h.lt hne)
theorem MapZ.mono {q' : Nat} (h : MapZ k ok kk w b f q) (hq : q ≤ q') : MapZ k ok kk w b f q' := by
  obtain ⟨D, n, h1, h2, h3⟩ := h
  exact ⟨D, n, h1, Nat.le_trans h2 hq, h3⟩
theorem MapZ.same {f' : α → Int} (h : MapZ k ok kk w b f q) (e : ∀ x, ok x → f' x = f x) : MapZ k ok kk w b f' q := by
  obtain ⟨D, n, h1, h2, h3⟩ := h
  exact ⟨D, n, h1, h2, fun x hx => by rw [e x hx]; exact h3 x hx⟩
theorem MapZ.look (K : KeyD k ok kv kk) {t : TypeId} (ht : Tryz.prog.underlying t = some (.map k 3)) (h : MapZ k ok kk w b f q) {x : α} (hx : ok x) : (Instr.lookup t (.map (some b)) (kv x) false).run Tryz.prog w = .ok (.int .i64 (f x)) w := by
  obtain ⟨D, n, h1, h2, h3⟩ := h
  obtain ⟨c, hrun, hat, _⟩ := h1.lookup_int K.law ht Tryz.underlying3 (zeroIntZ w) (K.key x hx)
  rw [h3 x hx] at hat
  simp only [DataW.lit.injEq, Lit.int.injEq, true_and] at hat
  rw [hrun, ← hat]
theorem MapZ.update [DecidableEq α] (K : KeyD k ok kv kk) {t : TypeId} (ht : Tryz.prog.underlying t = some (.map k 3)) (h : MapZ k ok kk w b f q) {x : α} (hx : ok x) (y : Int) (hy : (Lit.int .i64 y).wf = true) (hq : q < maxLen) :
    ∃ w', (Instr.mapUpdate t (.map (some b)) (kv x) (.int .i64 y)).run Tryz.prog w = .ok () w' ∧ MapZ k ok kk w' b (fun z => if z = x then y else f z) (q + 1) ∧ w.grownBy w' (some b) := by
  obtain ⟨D, n, h1, h2, h3⟩ := h
  obtain ⟨w', r1, r2, r3⟩ := h1.update K.law ht (by omega) (K.key x hx) (plainElem_int Tryz.underlying3 hy)
  refine ⟨w', r1, ⟨_, n + 1, r2, by omega, fun z hz => ?_⟩, r3⟩
  by_cases e : z = x
  · subst e
    rw [Maps.atKey_put_same (h1.tidy K.law).isMap (K.law.key (K.key z hz))]
    simp
  · rw [Maps.atKey_put_other (fun e' => e (K.back z x hz hx e')), h3 z hz]
    simp [e]
end
abbrev MapP (w : World) (b : Nat) (f : Int × Int → Int) (q : Nat) : Prop := MapZ 57 okP kkP w b f q
abbrev MapI (w : World) (b : Nat) (f : Int → Int) (q : Nat) : Prop := MapZ 3 okI kkI w b f q
theorem MapP.look {w : World} {b q : Nat} {f : Int × Int → Int} (h : MapP w b f q) {x y : Int} (hx : okI x) (hy : okI y) : (Instr.lookup 92 (.map (some b)) (.agg #[.int .i64 x, .int .i64 y]) false).run Tryz.prog w = .ok (.int .i64 (f (x, y))) w := MapZ.look keyP Tryz.underlying92 h (x := (x, y)) ⟨hx, hy⟩
theorem MapP.one {w : World} {b q : Nat} {f : Int × Int → Int} (h : MapP w b f q) {x y : Int} (hx : okI x) (hy : okI y) (hq : q < maxLen) :
    ∃ w', (Instr.mapUpdate 92 (.map (some b)) (.agg #[.int .i64 x, .int .i64 y]) (.int .i64 1)).run Tryz.prog w = .ok () w' ∧ MapP w' b (fun z => if z = (x, y) then 1 else f z) (q + 1) ∧ w.grownBy w' (some b) := MapZ.update keyP Tryz.underlying92 h (x := (x, y)) ⟨hx, hy⟩ 1 (by decide) hq
theorem MapI.look {w : World} {b q : Nat} {f : Int → Int} (h : MapI w b f q) {x : Int} (hx : okI x) : (Instr.lookup 77 (.map (some b)) (.int .i64 x) false).run Tryz.prog w = .ok (.int .i64 (f x)) w := MapZ.look keyI Tryz.underlying77 h hx
theorem MapI.put {w : World} {b q : Nat} {f : Int → Int} (h : MapI w b f q) {x : Int} (hx : okI x) (y : Int) (hy : okI y) (hq : q < maxLen) :
    ∃ w', (Instr.mapUpdate 77 (.map (some b)) (.int .i64 x) (.int .i64 y)).run Tryz.prog w = .ok () w' ∧ MapI w' b (fun z => if z = x then y else f z) (q + 1) ∧ w.grownBy w' (some b) := MapZ.update keyI Tryz.underlying77 h hx y (WalkArith.wf_i64 (by unfold okI at hy; omega)) hq
end Go.Proofs.YtcopnfdknclhnaaGreat
namespace Go.Proofs.YtcopnfdknclhnaaGreat
open Go.RowKit Go.Maps

theorem eql_pair (a b c d : Int) (w : World) : (binOp .eql 57 (.agg #[.int .i64 a, .int .i64 b]) (.agg #[.int .i64 c, .int .i64 d])).run Tryz.prog w = .ok (.bool (decide ((a, b) = (c, d)))) w := by
  obtain ⟨i, hi⟩ := info_of_underlying (P := Tryz.prog) (t := 3) Tryz.underlying3
  have hc : Tryz.prog.cellsOf 3 = 1 := by kernel_rfl
  rw [run_eql_struct, run_equalIn_array w 9999 _ _ undPair hi, hc]
  have e : decide ((a, b) = (c, d)) = (a == c && b == d) := by
    by_cases h1 : a = c <;> by_cases h2 : b = d <;> simp [h1, h2]
  rw [e]
  by_cases h1 : a = c <;> by_cases h2 : b = d <;> simp [Op.eqItems, List.range_succ, part, isAgg, run_underlying Tryz.underlying3, run_equalIn_int w 9998 3 .i64 .i64 _ _ Tryz.underlying3, h1, h2]

set_option maxRecDepth 100000 in
theorem indexPair_calls {w : World} {A : Option Addr} {n c : Nat} {xs : List (Int × Int)} (x y : Int) (h : Pairs w A n c xs) :
    Calls Tryz.prog 68 #[.slice A n c, .agg #[.int .i64 x, .int .i64 y]] w fun e w' => e = .returned (.int .i64 (idxFirst (fun q => decide ((x, y) = q)) xs)) ∧ Below w.heap.size w w' := by
  have hn := h.small
  have hgd := guardPair
  have B0 := hide2 (boxBelow w (.cells #[.int .i64 x, .int .i64 y] 57))
  have X0 := hide2 (Box.new w #[.int .i64 x, .int .i64 y] 57)
  have H := hide2 h
  clear h
  go_enter Tryz.func68, Tryz.ntmps68
  go_upto_region 1 with fail
  generalize w.alloc (.cells #[.int .i64 x, .int .i64 y] 57) = w0 at *
  go_wp2
  go_loopw [8] (fun i wr => ∃ k : Nat, k ≤ n ∧ i = .int .i64 k ∧ Hid (∀ j, j < k → ∀ y', xs[j]? = some y' → decide ((x, y) = y') = false) ∧ Hid (Below w0.heap.size w0 wr)) (fun i _ => n - (intOf i).toNat)
  case atStart => exact ⟨0, Nat.zero_le _, rfl, fun j hj => absurd hj (by omega), hide2 (Below.refl _ _)⟩
  case round =>
    obtain ⟨k, hk, rfl, lo, D⟩ := hrel
    have DW := hide2 (B0.out.trans (D.out.mono B0.out.size))
    by_cases hlt : k < n
    · have hki : (k : Int) < (n : Int) := by omega
      obtain ⟨b, off, t, vs, rfl, hb, ht, hc, e0, e1⟩ := Sl.get (Sl.keep PairR.kept H.out DW.out) hlt
      have q0 : wr.cell? ⟨b, off + k * 2, none⟩ = some (.int .i64 t.1) := by have := hc 0 (by omega); rw [e0] at this; simpa using this
      have q1 : wr.cell? ⟨b, off + k * 2 + 1, none⟩ = some (.int .i64 t.2) := by have := hc 1 (by omega); rw [e1] at this; simpa [Nat.add_assoc] using this
      have x0 := (D.out.cell (p := ⟨w.heap.size, 0, none⟩) X0.out.lt).trans (X0.out.cell 0)
      have x1 := (D.out.cell (p := ⟨w.heap.size, 1, none⟩) X0.out.lt).trans (X0.out.cell 1)
      have HT := hide2 ht
      obtain ⟨v, hv⟩ : ∃ v, decide ((x, y) = t) = v := ⟨_, rfl⟩
      have HV := hide2 hv
      have hne : ∀ w : World, (binOp .eql 57 (.agg #[.int .i64 x, .int .i64 y]) (.agg #[.int .i64 t.1, .int .i64 t.2])).run Tryz.prog w = .ok (.bool v) w := fun w => by rw [eql_pair, ← hv]
      clear hc e0 e1 ht hv
      cases v
      · go_wp2
        go_quiet (fail)
        go_wp2
        go_roundw
        case rel =>
          refine ⟨k + 1, by omega, by go_num, fun j hj z hz => ?_, hide2 (D.out.trans ((show Below wr.heap.size wr (wr.drewN nq) from ⟨rfl, rfl, rfl, Nat.le_refl _, fun _ _ => rfl⟩).mono D.out.size))⟩
          by_cases hjk : j = k
          · subst hjk
            have := HT.out
            rw [hz] at this
            injection this with this
            rw [this]
            exact HV.out
          · exact lo.out j (by omega) z hz
        case measure => simp [intOf]; omega
      · go_wp2
        go_quiet (fail)
        go_wp2
        go_ret
        exact ⟨ret_int (idxFirst_some lo.out HT.out HV.out).symm, DW.out.trans ((show Below wr.heap.size wr (wr.drewN nq) from ⟨rfl, rfl, rfl, Nat.le_refl _, fun _ _ => rfl⟩).mono DW.out.size)⟩
    · go_wp2
      go_ret
      exact ⟨ret_int (idxFirst_none (fun j hj z hz => lo.out j (by have := H.out.len; omega) z hz)).symm, DW.out⟩
set_option maxRecDepth 100000 in
theorem containsPair_calls {w : World} {A : Option Addr} {n c : Nat} {xs : List (Int × Int)} (x y : Int) (h : Pairs w A n c xs) :
    Calls Tryz.prog 31 #[.slice A n c, .agg #[.int .i64 x, .int .i64 y]] w fun e w' => e = .returned (.bool (xs.any fun q => decide ((x, y) = q))) ∧ Below w.heap.size w w' := by
  have B0 := hide2 (boxBelow w (.cells #[.int .i64 x, .int .i64 y] 57))
  have X0 := hide2 (Box.new w #[.int .i64 x, .int .i64 y] 57)
  have H := hide2 (Sl.keep PairR.kept h B0.out)
  clear h
  go_enter Tryz.func31, Tryz.ntmps31
  go_upto_region 1 with fail
  generalize w.alloc (.cells #[.int .i64 x, .int .i64 y] 57) = w0 at *
  have x0 := X0.out.cell 0
  have x1 := X0.out.cell 1
  go_wp2_with (refine (indexPair_calls x y H.out).mono ?_; rintro e w' ⟨rfl, hb⟩; have HB := hide2 hb; clear hb)
  go_ret
  exact ⟨ret_bool (idxFirst_any _ _), B0.out.trans (HB.out.mono B0.out.size)⟩

/-- A log that is looked at, in memory. -/
structure LogI (w : World) (A A1 A2 A3 A4 : Option Addr) (n c n1 c1 n2 c2 n3 c3 n4 c4 : Nat) (log : List (List Int)) (p : PPrints) : Prop where
  il : Lists w A n c log
  ip : PrI w A1 A2 A3 A4 n1 c1 n2 c2 n3 c3 n4 c4 p
theorem LogI.keep {w w' : World} {A A1 A2 A3 A4 : Option Addr} {n c n1 c1 n2 c2 n3 c3 n4 c4 : Nat} {log : List (List Int)} {p : PPrints} (h : LogI w A A1 A2 A3 A4 n c n1 c1 n2 c2 n3 c3 n4 c4 log p) (hb : Below w.heap.size w w') : LogI w' A A1 A2 A3 A4 n c n1 c1 n2 c2 n3 c3 n4 c4 log p :=
  ⟨Sl.keep ListR.kept h.il hb, h.ip.keep hb⟩
abbrev logV (A A1 A2 A3 A4 : Option Addr) (n c n1 c1 n2 c2 n3 c3 n4 c4 : Nat) : Value := .agg #[.slice A n c, .slice A1 n1 c1, .slice A2 n2 c2, .slice A3 n3 c3, .slice A4 n4 c4]
section
variable {w : World} {A A1 A2 A3 A4 : Option Addr} {n c n1 c1 n2 c2 n3 c3 n4 c4 : Nat} {log : List (List Int)} {p : PPrints}
set_option maxRecDepth 100000 in
theorem behind_calls (a b : Int) (h : LogI w A A1 A2 A3 A4 n c n1 c1 n2 c2 n3 c3 n4 c4 log p) :
    Calls Tryz.prog 51 #[logV A A1 A2 A3 A4 n c n1 c1 n2 c2 n3 c3 n4 c4, .int .i64 a, .int .i64 b] w fun e w' => e = .returned (.bool (bhB p a b)) ∧ Below w.heap.size w w' := by
  have B0 := hide2 (boxBelow w (.cells #[.slice A n c, .slice A1 n1 c1, .slice A2 n2 c2, .slice A3 n3 c3, .slice A4 n4 c4] 47))
  have X0 := hide2 (Box.new w #[.slice A n c, .slice A1 n1 c1, .slice A2 n2 c2, .slice A3 n3 c3, .slice A4 n4 c4] 47)
  have H := hide2 (h.keep B0.out)
  clear h
  go_enter Tryz.func51, Tryz.ntmps51
  go_upto_region 1 with fail
  generalize w.alloc (.cells #[.slice A n c, .slice A1 n1 c1, .slice A2 n2 c2, .slice A3 n3 c3, .slice A4 n4 c4] 47) = w0 at *
  have x4 := X0.out.cell 4
  go_wp2_with (refine (containsPair_calls a b H.out.ip.i4).mono ?_; rintro e w' ⟨rfl, hb⟩; have HB := hide2 hb; clear hb)
  go_ret
  exact ⟨rfl, B0.out.trans (HB.out.mono B0.out.size)⟩
end
end Go.Proofs.YtcopnfdknclhnaaGreat
