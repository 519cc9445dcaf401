/- The beginnings of words in memory; slices.Sorted, Clip; append to a clipped slice. Conditions: the rows are the call's own. -/
import Derived.Test.YtmabnigdocokmaaGreatSortI
import Derived.Test.YtmabnigdocokmaaGreatSipA
import Derived.Test.YtmabnigdocokmaaGreatRowsL
import Derived.Test.YtmabnigdocokmaaGreatTwA
import Derived.Test.YtmabnigdocokmaaGreatTongC
import Derived.Lib.AppendZeros
namespace Go.Proofs.YtmabnigdocokmaaGreat
open Go.RowKit

set_option maxRecDepth 100000 in
set_option maxHeartbeats 1000000 in
theorem sortedW_calls {w : World} {bx m c : Nat} {A : Option Addr} {xs : List Int} (hb : bx < w.heap.size) (hc : w.cell? ⟨bx, 0, none⟩ = some (.slice A m c)) (h : Ints w A m c xs) (hm : m ≤ 17592186044416) :
    Calls Tryz.prog 9 #[.func (.func 28) #[] #[.pointer (some ⟨bx, 0, none⟩)]] w fun e w' => ∃ v, e = .returned v ∧ OwnInts w' w.heap.size v m (xs.mergeSort fun x y => decide (x ≤ y)) ∧ Below w.heap.size w w' := by
  have H := hide2 h
  have HC := hide2 hc
  clear h hc
  go_enter Tryz.func9, Tryz.ntmps9
  go_wp2_with fail
  refine (collect_calls hb HC.out H.out hm).mono ?_
  rintro e w1 ⟨v, rfl, own, hb1⟩
  have OW := hide2 own
  have B1 := hide2 hb1
  clear own hb1
  go_wp2_with fail
  refine (sortOwn_calls OW.out hm).mono ?_
  rintro e w2 ⟨rfl, own2, hg⟩
  have O2 := hide2 own2
  have B2 := hide2 (B1.out.grown hg B1.out.size (fun k e => (OW.out.lt k e).1))
  clear own2 hg
  go_wp2
  go_ret
  exact ⟨v, rfl, O2.out, B2.out⟩

theorem run_append_clipW {P : Program} {w : World} (t ty e : TypeId) (i : TypeInfo) (z : Value) (size bytes : Nat) (ht : P.underlying t = some (.slice e)) (hi : P.info? e = some i) (hz : i.zero = some z)
    (hsize : i.size = size) (hby : i.bytes = bytes) (hzs : z.cells.size = size) (hsz : 0 < size)
    (A : Option Addr) (n : Nat) (xs : List Value) (hx : xs.length = n * size) (hnone : A = none → n = 0) (hcell : ∀ ad, A = some ad → ∀ j u, xs[j]? = some u → w.cell? (ad.add j) = some u)
    (a : Addr) (m c : Nat) (news : List Value) (hl : news.length = m * size) (hm : 0 < m) (hnews : ∀ j u, news[j]? = some u → w.cell? (a.add j) = some u) (h1 : ∀ u ∈ news, u.oneCell' = true)
    (h63 : n + m ≤ maxLen) (hbytes : (n + m) * bytes ≤ 140737488355328) :
    ∃ v' w', (Builtin.append_ #[t, t] ty #[.slice A n n, .slice (some a) m c]).run P w = .ok v' w' ∧ w'.ownsRow w.heap.size e size v' (n + m) (xs ++ news) ∧ w.grownBy w' none := by
  cases hA : A with
  | none =>
    have hn := hnone hA
    subst hn
    have hx0 : xs = [] := List.eq_nil_of_length_eq_zero (by simpa using hx)
    subst hx0
    obtain ⟨v', w', r1, r2, r3, _⟩ := run_append_own_at (P := P) w w.heap.size t ty e i z size bytes ht hi hz hsize hby hzs hsz (.slice none 0 0) 0 [] (World.ownsRow_nil _ _ _ _) a m c news hl hnews h1 h63 hbytes (Nat.le_refl _)
    exact ⟨v', w', r1, r2, r3⟩
  | some ad =>
    subst hsize hby
    have hsmall : n + m ≤ 9223372036854775807 := by simp only [maxLen] at h63; omega
    have hlen : (xs ++ news).length = (n + m) * i.size := by rw [List.length_append, hx, hl, Nat.add_mul]
    have hr := run_append_grow (P := P) w t ty e i z ht hi hz ad n n xs hx (hcell ad hA) a m c news hl hnews (by omega) (by omega) (growslice_fits (by omega) hbytes)
    have hge := grownCap_ge w (n + m) n e
    have hcm : grownCap w (n + m) n e ≤ maxLen := grownCap_le_maxLen w (n + m) n e h63
    refine ⟨_, _, hr, ⟨hlen, .inr ⟨w.heap.size, _, _, rfl, Nat.le_refl _, heap_alloc_new w.drew _, hge, hcm, ?_, ?_⟩⟩, ⟨rfl, rfl, rfl, by simp, fun k hk _ => heap_alloc_old w.drew _ hk⟩⟩
    · simp only [Array.size_append, List.size_toArray, size_zeroCells, hzs, hx, hl, ← Nat.add_mul]
      congr 1
      omega
    · simp only [Array.toList_append, List.append_assoc]
      rw [← List.append_assoc, ← hlen]
      exact List.take_left

theorem wpList_appClip {ops : Array Oper} {rest : List Oper} {o : Oper} {a : Act} {Q : Exit → Act → World → Prop} (hgd : o.guard = none) (s x : Operand)
    (ho : o.op = .call { callee := .builtin .append, args := #[s, x], argTypes := #[34, 34] })
    {w : World} {A : Option Addr} {n H : Nat} {xs : List Int} {y : Int} (hs : a.eval s = .slice A n n) (hx : a.eval x = .slice (some ⟨H, 0, none⟩) 1 1) (hH : H = w.heap.size)
    (src : Ints w A n n xs) (hn : n ≤ 1000000)
    (K : ∀ g cap w', OwnInts w' w.heap.size (.slice (some ⟨g, 0, none⟩) (n + 1) cap) (n + 1) (xs ++ [y]) → Below w.heap.size w w' → wpList Tryz.prog ops Q rest (a.put o.dst (.slice (some ⟨g, 0, none⟩) (n + 1) cap)) w') :
    wpList Tryz.prog ops Q (o :: rest) a (w.alloc (.cells #[.int .i64 y] 3)) := by
  subst hH
  obtain ⟨i, z, h1, h2, h3, h4, h5⟩ := tyInts.info
  have na : Below w.heap.size w (w.alloc (.cells #[.int .i64 y] 3)) := boxBelow w _
  have src' := Ints.keep src na
  obtain ⟨ds, d1, d2, d3, d4, d5⟩ := Sl.flat IntR.good src'
  obtain ⟨v', w', hr, r1, r2⟩ := run_append_clipW (P := Tryz.prog) (w := w.alloc (.cells #[.int .i64 y] 3)) 34 o.type 3 i z 1 8 tyInts.und h1 h2 h3 h4 h5 tyInts.pos A n ds d1 (fun e => (d2 e).1) d3 ⟨w.heap.size, 0, none⟩ 1 1 [.int .i64 y] rfl (by omega) (fun j u hj => by
    have hz : ((⟨w.heap.size, 0, none⟩ : Addr).add j) = ⟨w.heap.size, j, none⟩ := by unfold Addr.add; split <;> simp_all
    rw [hz]
    have : (w.alloc (.cells #[.int .i64 y] 3)).cell? ⟨w.heap.size, j, none⟩ = (#[Value.int .i64 y] : Array Value)[j]? := cell_of_row _ _ _ _ _ (0, 0) (heap_alloc_new w _)
    rw [this]
    simpa using hj) (by simp [Value.oneCell']) (by simp only [maxLen]; omega) (by omega)
  obtain ⟨g, cap, hv, hBg, hgl⟩ : ∃ g cap, v' = .slice (some ⟨g, 0, none⟩) (n + 1) cap ∧ (w.alloc (.cells #[.int .i64 y] 3)).heap.size ≤ g ∧ g < w'.heap.size := r1.form (by omega)
  subst hv
  have hb2 : Below (w.alloc (.cells #[.int .i64 y] 3)).heap.size (w.alloc (.cells #[.int .i64 y] 3)) w' := (Below.refl _ _).grown r2 (Nat.le_refl _) (fun k hk => by cases hk)
  have hb3 : Below w.heap.size w w' := na.trans (hb2.mono na.size)
  have hy : Reads IntR 1 (w.alloc (.cells #[.int .i64 y] 3)) [.int .i64 y] [y] := Reads.one (vs := fun _ => .int .i64 y) rfl rfl (fun j hj => by cases j with | zero => rfl | succ j => omega)
  have ap := d5.append hy
  have own2 : OwnInts w' (w.alloc (.cells #[.int .i64 y] 3)).heap.size (.slice (some ⟨g, 0, none⟩) (n + 1) cap) (n + 1) (xs ++ [y]) :=
    ⟨_, r1, ap.keep IntR.kept hb2, by rw [List.length_append, src.len]; rfl⟩
  exact Lib.wpList_append_run _ hgd s x _ _ ho _ _ hs hx _ _ hr (K g cap w' (own2.base na.size) hb3)
theorem wpList_appNewAtW {α : Type} {R : World → (Nat → Value) → α → Prop} {t e size bytes : Nat} (T : SlTy t e size bytes) {ops : Array Oper} {rest : List Oper} {o : Oper} {a : Act} {Q : Exit → Act → World → Prop} (hgd : o.guard = none) (s x : Operand)
    (ho : o.op = .call { callee := .builtin .append, args := #[s, x], argTypes := #[t, t] })
    {w : World} {B : Nat} {v : Value} {n m : Nat} {xs : List α} (ys : List α) (us : Array Value) {H : Nat} (hs : a.eval s = v) (hx : a.eval x = .slice (some ⟨H, 0, none⟩) m m) (hH : H = w.heap.size) (hus : us.size = m * size) (one : ∀ u ∈ us.toList, u.oneCell' = true)
    (own : OwnSl R size w B e v n xs) (hread : Reads R size w us.toList ys) (hy : ys.length = m) (hB : B ≤ w.heap.size) (h63 : n + m ≤ 281474976710656) (hn : (n + m) * bytes ≤ 140737488355328)
    (hkeep : ∀ w', w.grownBy w' v.ownBlock → ∀ vs y, R w vs y → R w' vs y)
    (K : ∀ v' w', OwnSl R size w' B e v' (n + m) (xs ++ ys) → w.grownBy w' v.ownBlock → (v'.ownBlock = v.ownBlock ∨ v'.ownBlock = some (w.heap.size + 1)) → wpList Tryz.prog ops Q rest (a.put o.dst v') w') :
    wpList Tryz.prog ops Q (o :: rest) a (w.alloc (.cells us e)) := by
  subst hH
  obtain ⟨i, z, h1, h2, h3, h4, h5⟩ := T.info
  obtain ⟨cells, o1, o2, o3⟩ := own
  refine wpList_append_own_at (P := Tryz.prog) _ hgd s x t ho B e i z size bytes T.und h1 h2 h3 h4 h5 T.pos v n cells hs (o1.alloc _) ⟨w.heap.size, 0, none⟩ m m us.toList hx (by simpa using hus) (fun j u hj => ?_) one ?_ hn (by simp; omega) (fun v' w' h6 h7 _ h8 => ?_)
  · have hz : ((⟨w.heap.size, 0, none⟩ : Addr).add j) = ⟨w.heap.size, j, none⟩ := by unfold Addr.add; split <;> simp_all
    rw [hz]
    have : (w.alloc (.cells us e)).cell? ⟨w.heap.size, j, none⟩ = us[j]? := cell_of_row _ _ _ _ _ (0, 0) (heap_alloc_new w _)
    rw [this]
    simpa using hj
  · simp only [maxLen]; omega
  · have hg : w.grownBy w' v.ownBlock := ⟨h7.os, h7.tape, h7.output, Nat.le_trans (by simp) h7.size, fun k hk hne => (h7.block k (by simp; omega) hne).trans (heap_alloc_old w _ hk)⟩
    refine K v' w' ⟨_, h6, ?_, by rw [List.length_append, o3, hy]⟩ hg (by rw [World.size_alloc] at h8; exact h8)
    have := o2.append hread
    exact ⟨this.1, fun i x hx => by obtain ⟨vs, a, b⟩ := this.2 i x hx; exact ⟨vs, a, hkeep _ hg _ _ b⟩⟩
set_option maxRecDepth 100000 in
theorem clipInts_calls {w : World} {A : Option Addr} {n c : Nat} (h : n ≤ c) :
    Calls Tryz.prog 16 #[.slice A n c] w fun e w' => e = .returned (.slice A n n) ∧ w = w' := by
  go_enter Tryz.func16, Tryz.ntmps16
  have hi : (n : Int) ≤ (c : Int) := by omega
  go_wp2
  go_ret
  exact ⟨by first | rfl | simp, rfl⟩

/-! ### beginnings in memory -/
/-- A beginning: a word of the call's own, and where one can be behind it. -/
def StR (ars : List PArc) (lb : Int → Int) (n B : Nat) : World → (Nat → Value) → List Int → Prop := fun w vs v =>
  ∃ A c gs, vs 0 = .slice A v.length c ∧ OwnInts w B (.slice A v.length c) v.length v ∧ v.length ≤ 1000 ∧ vs 1 = .slice (some ⟨gs, 0, none⟩) n n ∧ OwnBools w B gs n (toldL ars lb v n v.length)
theorem tyStarts : SlTy 51 50 2 48 := SlTy.mk' (z := .agg #[.slice none 0 0, .slice none 0 0]) Tryz.underlying51 (by kernel_rfl) rfl (by decide)
section
variable {ars : List PArc} {lb : Int → Int} {n B : Nat}
theorem StR.kept : Kept (StR ars lb n B) := fun _ _ _ _ hb ⟨A, c, gs, e0, o0, hl, e1, o1⟩ => ⟨A, c, gs, e0, OwnSl.keep IntR.kept o0 hb, hl, e1, o1.keep hb⟩
theorem StR.grown {B2 sz m e : Nat} {w w' : World} {v : Value} {cells : List Value} (hown : w.ownsRow B2 e sz v m cells) (h1 : 3 ≠ e) (h2 : 4 ≠ e) (hg : w.grownBy w' v.ownBlock) {vs : Nat → Value} {x : List Int} (h : StR ars lb n B w vs x) : StR ars lb n B w' vs x := by
  obtain ⟨A, c, gs, e0, ⟨c1, a1, a2, a3⟩, hl, e1, o1⟩ := h
  exact ⟨A, c, gs, e0, ⟨c1, a1.kept hg (own_ne a1 hown h1), ⟨a2.1, a2.2⟩, a3⟩, hl, e1, World.ownsRow.kept o1 hg (own_ne o1 hown h2)⟩
abbrev RowS (ars : List PArc) (lb : Int → Int) (n B : Nat) (w : World) (B2 : Nat) (v : Value) (m : Nat) (L : List (List Int)) : Prop := OwnSl (StR ars lb n B) 2 w B2 50 v m L
theorem RowS.keep {w w' : World} {B2 m : Nat} {v : Value} {L : List (List Int)} (h : RowS ars lb n B w B2 v m L) (hb : Below w.heap.size w w') : RowS ars lb n B w' B2 v m L := OwnSl.keep StR.kept h hb
/-- Beside a row of another type. -/
theorem RowS.other {w w' : World} {B2 B3 m sz n3 e : Nat} {v v3 : Value} {L : List (List Int)} {cells : List Value} (h : RowS ars lb n B w B2 v m L) (hown : w.ownsRow B3 e sz v3 n3 cells) (h0 : 50 ≠ e) (h1 : 3 ≠ e) (h2 : 4 ≠ e) (hg : w.grownBy w' v3.ownBlock) : RowS ars lb n B w' B2 v m L := by
  obtain ⟨cs, a1, a2, a3⟩ := h
  exact ⟨cs, a1.kept hg (own_ne a1 hown h0), ⟨a2.1, fun i x hx => by obtain ⟨vs, e, r⟩ := a2.2 i x hx; exact ⟨vs, e, StR.grown hown h1 h2 hg r⟩⟩, a3⟩
/-- Beside another row of beginnings. -/
theorem RowS.beside {w w' : World} {B2 B3 m n3 : Nat} {v v3 : Value} {L L3 : List (List Int)} (h : RowS ars lb n B w B2 v m L) (hown : RowS ars lb n B w B3 v3 n3 L3) (hne : ∀ k, v.ownBlock = some k → v3.ownBlock ≠ some k) (hg : w.grownBy w' v3.ownBlock) : RowS ars lb n B w' B2 v m L := by
  obtain ⟨cs, a1, a2, a3⟩ := h
  obtain ⟨c3, b1, _⟩ := hown
  refine ⟨cs, a1.kept hg ?_, ⟨a2.1, fun i x hx => by obtain ⟨vs, e, r⟩ := a2.2 i x hx; exact ⟨vs, e, StR.grown b1 (by decide) (by decide) hg r⟩⟩, a3⟩
  cases e : v.ownBlock with
  | none => exact .inl rfl
  | some k => exact .inr (fun h => hne k e h.symm)
theorem keepStarts {w : World} {B2 m : Nat} {v : Value} {L : List (List Int)} (h : RowS ars lb n B w B2 v m L) : ∀ w', w.grownBy w' v.ownBlock → ∀ vs y, StR ars lb n B w vs y → StR ars lb n B w' vs y := by
  obtain ⟨c3, b1, _⟩ := h
  exact fun w' hg vs y hy => hy.grown b1 (by decide) (by decide) hg
theorem Reads.start1 {w : World} {A : Option Addr} {c gs : Nat} {v : List Int} (h0 : OwnInts w B (.slice A v.length c) v.length v) (hl : v.length ≤ 1000) (h1 : OwnBools w B gs n (toldL ars lb v n v.length)) : Reads (StR ars lb n B) 2 w [.slice A v.length c, .slice (some ⟨gs, 0, none⟩) n n] [v] :=
  Reads.one (vs := fun j => [Value.slice A v.length c, .slice (some ⟨gs, 0, none⟩) n n].getD j undef) ⟨A, c, gs, rfl, h0, hl, rfl, h1⟩ rfl (fun j hj => by
    rcases (show j = 0 ∨ j = 1 by omega) with rfl | rfl <;> rfl)
theorem RowS.one {w : World} {A : Option Addr} {c gs : Nat} {v : List Int} (h0 : OwnInts w B (.slice A v.length c) v.length v) (hl : v.length ≤ 1000) (h1 : OwnBools w B gs n (toldL ars lb v n v.length)) (hB : B ≤ w.heap.size) : RowS ars lb n B (w.alloc (.cells #[.slice A v.length c, .slice (some ⟨gs, 0, none⟩) n n] 50)) B (.slice (some ⟨w.heap.size, 0, none⟩) 1 1) 1 [v] :=
  ⟨_, ⟨by simp, .inr ⟨w.heap.size, 1, _, rfl, hB, heap_alloc_new w _, Nat.le_refl _, by simp [maxLen], by simp, by simp⟩⟩, (Reads.start1 h0 hl h1).keep StR.kept ((Below.refl _ _).alloc (Nat.le_refl _) _), rfl⟩
/-- The i-th of a row of beginnings. -/
theorem RowS.at {w : World} {B2 m i : Nat} {v : Value} {L : List (List Int)} (h : RowS ars lb n B w B2 v m L) (hi : i < m) (hm : m ≤ 1000000) : ∃ g cap x A c gs, v = .slice (some ⟨g, 0, none⟩) m cap ∧ Hid (L[i]? = some x) ∧ w.cell? ⟨g, i * 2, none⟩ = some (.slice A x.length c) ∧ w.cell? ⟨g, i * 2 + 1, none⟩ = some (.slice (some ⟨gs, 0, none⟩) n n) ∧ Hid (OwnInts w B (.slice A x.length c) x.length x) ∧ Hid (x.length ≤ 1000) ∧ Hid (OwnBools w B gs n (toldL ars lb x n x.length)) := by
  obtain ⟨cs, a1, a2, a3⟩ := h
  obtain ⟨g, cap, rfl, _, _⟩ := a1.form (by omega)
  obtain ⟨x, hx⟩ : ∃ x, L[i]? = some x := ⟨_, List.getElem?_eq_getElem (by omega)⟩
  obtain ⟨vs, e, A, c, gs, e0, o0, hl, e1, o1⟩ := a2.2 i x hx
  have c0 := e 0 (by omega)
  have c1 := e 1 (by omega)
  rw [e0, Nat.add_zero] at c0
  rw [e1] at c1
  exact ⟨g, cap, x, A, c, gs, rfl, hx, by rw [a1.cellAt _ (by omega)]; exact c0, by rw [a1.cellAt _ (by omega)]; exact c1, o0, hl, o1⟩
end
end Go.Proofs.YtmabnigdocokmaaGreat
