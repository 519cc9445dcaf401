/- reduce's small net in memory; the contract of dropTran. Conditions: the net's rows are the call's own, the index lies among the transitions. | The contracts of inner, column and dropPlace of reduce's small net. Conditions: the net is right, the place lies in it. | The contract of dropPlace of reduce's small net. Conditions: the net is right, the place lies in it. | The contracts of the first two rules of reduce's small net: trans, places. Conditions: the net is right. -/
import Derived.Test.YtadepofaobdbhaaDelA
import Derived.Test.YtadepofaobdbhaaShapeH
import Derived.Test.YtadepofaobdbhaaReduA
namespace Go.Proofs.Ytadepofaobdbhaa
open Go.RowKit

/-- A transition of rows of the call's own, read in a world that is past. -/
def OwnTranR0 (B : Nat) (w0 : World) : World → (Nat → Value) → PTran → Prop := fun _ vs t => OwnTranR B w0 vs t
theorem OwnTranR0.good (B : Nat) (w0 : World) : Good (OwnTranR0 B w0) 3 where
  kept := fun _ _ _ _ _ h => h
  one := fun _ vs x h j hj => (OwnTranR.good B).one w0 vs x h j hj
  pos := by omega
theorem OwnSl.ofR0 {B B' : Nat} {w0 w : World} {e : Nat} {v : Value} {n : Nat} {xs : List PTran} (h : OwnSl (OwnTranR0 B w0) 3 w B' e v n xs) (hb : Below w0.heap.size w0 w) : OwnSl (OwnTranR B) 3 w B' e v n xs := by
  obtain ⟨cells, h1, h2, h3⟩ := h
  exact ⟨cells, h1, ⟨h2.1, fun i x hx => by obtain ⟨vs, a, b⟩ := h2.2 i x hx; exact ⟨vs, a, OwnTranR.kept B _ _ _ _ hb b⟩⟩, h3⟩
set_option maxRecDepth 100000 in
theorem cloneOwn_calls {B : Nat} {w : World} {A : Option Addr} {n c : Nat} {xs : List PTran} (h : Sl (OwnTranR B) 3 w A n c xs) (hn : n ≤ 1000) :
    Calls Try.prog 117 #[.slice A n c] w (AnsOwn (OwnTranR B) 3 76 n xs w) := by
  have HB := hide2 (show ∀ o, Below w.heap.size w (w.alloc o) from fun o => (Below.refl _ _).alloc (Nat.le_refl _) _)
  rcases A with _ | ad
  · have hc := h.nul rfl
    have hn0 : n = 0 := by have := h.le; omega
    subst hc hn0
    have hx := List.eq_nil_of_length_eq_zero h.len
    subst hx
    clear h
    have he := fun (w : World) => Lib.run_eql_slice_nil (P := Try.prog) w 22 76 none 0 0 0 0 Try.underlying22
    go_enter Try.func117, Try.ntmps117
    go_wp2
    go_ret
    exact ⟨_, rfl, OwnSl.nil, Below.refl _ _⟩
  · have H := hide2 (h.imp (R' := OwnTranR0 B w) fun _ _ h => h)
    have O := hide2 (OwnSl.empty (R := OwnTranR0 B w) (sz := 3) (w := w) (B := w.heap.size) (e := 76) (Nat.le_refl _))
    clear h
    have he := fun (w : World) => Lib.run_eql_slice_nil (P := Try.prog) w 22 76 (some ad) n c 0 0 Try.underlying22
    go_enter Try.func117, Try.ntmps117
    go_wp2_with (at_builtin; refine wpList_appSl tyTrans (OwnTranR0.good B w) rfl _ _ rfl rfl rfl O.out (Sl.keep (OwnTranR0.good B w).kept H.out (HB.out _)) (HB.out _) (by simp) (by omega) (by omega) (fun _ _ _ _ h => h) ?_; intro v1 w1 own1 hg1 hb1)
    go_ret
    exact ⟨_, rfl, (show OwnSl (OwnTranR0 B w) 3 _ _ _ _ _ _ by simpa using own1).ofR0 hb1, hb1⟩

/-- The small net that is being worked on: its box b, its transitions, whose rows lie from B on. -/
def SmM (B b : Nat) (w : World) (s : PSm) : Prop :=
  ∃ A n c, B ≤ b ∧ Box w b 66 #[.int .i64 s.net.places, .slice A n c, .int .i64 s.i, .int .i64 s.o] ∧ OwnSl (OwnTranR B) 3 w B 76 (.slice A n c) n s.net.trans ∧ n ≤ 24
theorem row_ne_box {α : Type} {R : World → (Nat → Value) → α → Prop} {sz : Nat} {w : World} {B e n b ty : Nat} {v : Value} {xs : List α} {cs : Array Value} (h : OwnSl R sz w B e v n xs) (hb : Box w b ty cs) (hne : e ≠ ty) : v.ownBlock = none ∨ v.ownBlock ≠ some b := by
  obtain ⟨cells, ⟨_, h1⟩, _⟩ := h
  rcases h1 with ⟨rfl, _⟩ | ⟨g1, cap1, cur1, rfl, _, hh1, _⟩
  · exact .inl rfl
  · refine .inr (fun e => ?_)
    simp only [Value.ownBlock, Option.some.injEq] at e
    subst e
    unfold Box at hb
    rw [hh1] at hb
    injection hb with hb
    injection hb with _ ht
    exact hne ht
theorem OwnTranR.box {B b : Nat} {w w' : World} {cs : Array Value} {ty : Nat} (hb : Box w b ty cs) (hne : 3 ≠ ty) (hg : w.grownBy w' (some b)) {vs : Nat → Value} {t : PTran} (h : OwnTranR B w vs t) : OwnTranR B w' vs t := by
  obtain ⟨h0, n1, n2, a, b, h3⟩ := h
  have e1 := row_ne_box a hb hne
  have e2 := row_ne_box b hb hne
  exact ⟨h0, n1, n2, a.kept hg e1 (fun _ _ h => h), b.kept hg e2 (fun _ _ h => h), h3⟩
/-- The rows stay where the box alone turns. -/
theorem own_box {B B2 b : Nat} {w w' : World} {cs : Array Value} (hb : Box w b 66 cs) (hg : w.grownBy w' (some b)) {v : Value} {n : Nat} {ts : List PTran} (h : OwnSl (OwnTranR B) 3 w B2 76 v n ts) : OwnSl (OwnTranR B) 3 w' B2 76 v n ts :=
  h.kept hg (row_ne_box h hb (by decide)) (fun _ _ hx => hx.box hb (by decide) hg)
theorem grown_reflB (w : World) (r : Option Nat) : w.grownBy w r := ⟨rfl, rfl, rfl, Nat.le_refl _, fun _ _ _ => rfl⟩
theorem grown_setB {a b : World} {q j : Nat} {u : Value} (h : a.grownBy b (some q)) : a.grownBy (b.setCell ⟨q, j, none⟩ u) (some q) :=
  ⟨h.os, h.tape, h.output, by simpa [World.setCell] using h.size, fun k hk hne => (Below.heap_setCell _ _ _ _ (fun e => hne (by rw [e]))).trans (h.block k hk hne)⟩
theorem keepTran2 {B B2 : Nat} {w : World} {v : Value} {n : Nat} {xs : List PTran} (h : OwnSl (OwnTranR B) 3 w B2 76 v n xs) : ∀ w', w.grownBy w' v.ownBlock → ∀ vs y, OwnTranR B w vs y → OwnTranR B w' vs y := by
  obtain ⟨cells, h1, _⟩ := h
  exact fun w' hg vs y hy => hy.grown h1 hg
/-- New transitions go into the box. -/
theorem SmM.put {B b : Nat} {w w1 : World} {s : PSm} {A A' : Option Addr} {n c n' c' : Nat} {ts : List PTran} (hB : B ≤ b) (hb : Box w1 b 66 #[.int .i64 s.net.places, .slice A n c, .int .i64 s.i, .int .i64 s.o]) (h : OwnSl (OwnTranR B) 3 w1 B 76 (.slice A' n' c') n' ts) (hn : n' ≤ 24) (hg : w.grownBy w1 (some b)) :
    SmM B b (w1.setCell ⟨b, 1, none⟩ (.slice A' n' c')) { s with net := ⟨s.net.places, ts⟩ } ∧ w.grownBy (w1.setCell ⟨b, 1, none⟩ (.slice A' n' c')) (some b) := by
  have g1 : w1.grownBy (w1.setCell ⟨b, 1, none⟩ (.slice A' n' c')) (some b) := grown_setB (grown_reflB w1 _)
  refine ⟨⟨A', n', c', hB, ?_, own_box hb g1 h, hn⟩, grown_setB hg⟩
  have := hb.set 1 (.slice A' n' c')
  simpa using this
theorem grown_transB {a b c : World} {r : Option Nat} (h : a.grownBy b r) (g : b.grownBy c r) : a.grownBy c r :=
  ⟨g.os.trans h.os, g.tape.trans h.tape, g.output.trans h.output, Nat.le_trans h.size g.size, fun k hk hne => (g.block k (Nat.lt_of_lt_of_le hk h.size) hne).trans (h.block k hk hne)⟩
theorem grown_any {a b : World} (h : a.grownBy b none) (r : Option Nat) : a.grownBy b r := ⟨h.os, h.tape, h.output, h.size, fun k hk _ => h.block k hk (by simp)⟩
/-- What lies beside a new row of the call's own is as it was. -/
theorem grown_new {a b c : World} {r : Option Nat} {g : Nat} (h : Below a.heap.size a b) (hg : b.grownBy c (some g)) (hlo : a.heap.size ≤ g) : a.grownBy c r :=
  ⟨hg.os.trans h.os, hg.tape.trans h.tape, hg.output.trans h.output, Nat.le_trans h.size hg.size, fun k hk _ => (hg.block k (Nat.lt_of_lt_of_le hk h.size) (by simp; omega)).trans (h.block k hk)⟩

set_option maxRecDepth 100000 in
set_option maxHeartbeats 4000000 in
theorem dropTran_calls {B b k : Nat} {w : World} {s : PSm} (h : SmM B b w s) (hk : k < s.net.trans.length) :
    Calls Try.prog 108 #[.pointer (some ⟨b, 0, none⟩), .int .i64 k] w (fun e w' => e = .returned (.tuple #[]) ∧ SmM B b w' { s with net := ⟨s.net.places, s.net.trans.eraseIdx k⟩ } ∧ w.grownBy w' (some b)) := by
  obtain ⟨A, n, c, hB, hb, own, hn⟩ := h
  have hl := own.len
  have HX := hide2 hb
  have HO := hide2 own
  obtain ⟨A', c', hv, hs⟩ := own.sl (by omega)
  injection hv with e1 e2 e3
  subst e1 e3
  have CC := hide2 (cloneOwn_calls hs (by omega))
  have c1 := hb.cell 1
  have hkn : k < n := by omega
  simp only [List.getElem?_toArray] at c1
  clear hb own hs
  go_enter Try.func108, Try.ntmps108
  go_wp2_with ((with_reducible refine CC.out.mono ?_); rintro e w1 ⟨v1, rfl, own, hb⟩; obtain ⟨g, cap, hv, hBg, _⟩ := own.form (by omega); subst hv)
  have own' := hide2 (show OwnSl (OwnTranR B) 3 w1 B 76 (.slice (some ⟨g, 0, none⟩) n cap) n s.net.trans from own.base (by have := HX.out.lt; omega))
  clear own
  go_wp2_with ((with_reducible refine (deleteTrans_calls own'.out hkn rfl).mono ?_); rintro e w2 ⟨rfl, own2, hg⟩; have G := hide2 (grown_new (r := none) hb hg hBg); have X2 := hide2 (HX.out.grown G.out (by simp)); have OW2 := hide2 own2; have f1 := X2.out.frozen 1; have d1 := X2.out.cell 1; simp only [List.getElem?_toArray] at d1; clear own2 hb hg)
  have P := SmM.put (s := s) hB X2.out OW2.out (by omega) (grown_any G.out (some b))
  exact bodyPost_end (v := .tuple #[]) (by simp [results, Try.results108, go_sem]) rfl ⟨rfl, P.1, P.2⟩
end Go.Proofs.Ytadepofaobdbhaa
namespace Go.Proofs.Ytadepofaobdbhaa
open Go.RowKit

theorem SmM.lens {s : PSm} (hok : netOk s.net = true) {k : Nat} {t : PTran} (h : s.net.trans[k]? = some t) : (t.pre.length : Int) = s.net.places ∧ (t.post.length : Int) = s.net.places := by
  have := ((netOk_iff _).1 hok).2.2.2 t (List.mem_iff_getElem?.2 ⟨k, h⟩)
  have := (tranOk_iff _ _).1 this
  exact ⟨this.2.2.1, this.2.2.2.1⟩
theorem getD_get {xs : List Int} {k : Nat} {x : Int} (h : xs[k]? = some x) : xs.getD k 0 = x := by simp [h]
theorem Reads.two {w : World} (x y : Int) : Reads IntR 1 w [.int .i64 x, .int .i64 y] [x, y] :=
  ⟨rfl, fun i z h => match i, h with
    | 0, h => by
      cases h
      exact ⟨fun _ => .int .i64 x, fun j hj => by cases j with | zero => rfl | succ j => omega, rfl⟩
    | 1, h => by
      cases h
      exact ⟨fun _ => .int .i64 y, fun j hj => by cases j with | zero => rfl | succ j => omega, rfl⟩⟩

set_option maxRecDepth 100000 in
theorem inner_calls {B b p : Nat} {w : World} {s : PSm} (h : SmM B b w s) :
    Calls Try.prog 109 #[.pointer (some ⟨b, 0, none⟩), .int .i64 p] w (fun e w' => e = .returned (.bool (innerB s p)) ∧ w' = w) := by
  obtain ⟨A, n, c, hB, hb, own, hn⟩ := h
  have c2 : w.cell? ⟨b, 2, none⟩ = some (.int .i64 s.i) := hb.cell 2
  have c3 : w.cell? ⟨b, 3, none⟩ = some (.int .i64 s.o) := hb.cell 3
  obtain ⟨qi, hqi⟩ : ∃ q, s.i = q := ⟨_, rfl⟩
  obtain ⟨qo, hqo⟩ : ∃ q, s.o = q := ⟨_, rfl⟩
  have F := hide2 (show innerB s p = (decide ((p : Int) ≠ qi) && decide ((p : Int) ≠ qo)) by rw [← hqi, ← hqo]; rfl)
  rw [hqi] at c2
  rw [hqo] at c3
  clear hb own hqi hqo
  rw [F.out]
  by_cases h1 : (p : Int) = qi
  · rw [decide_eq_false (not_not_intro h1), Bool.false_and]
    go_enter Try.func109, Try.ntmps109
    go_wp2
    go_ret
    exact ⟨rfl, rfl⟩
  · rw [decide_eq_true h1, Bool.true_and]
    by_cases h2 : (p : Int) = qo
    · rw [decide_eq_false (not_not_intro h2)]
      go_enter Try.func109, Try.ntmps109
      go_wp2
      go_ret
      exact ⟨rfl, rfl⟩
    · rw [decide_eq_true h2]
      go_enter Try.func109, Try.ntmps109
      go_wp2
      go_ret
      exact ⟨by simp [h1, h2], rfl⟩

set_option maxRecDepth 100000 in
set_option maxHeartbeats 4000000 in
theorem column_calls {B b p : Nat} {w : World} {s : PSm} (h : SmM B b w s) (hok : netOk s.net = true) (hp : (p : Int) < s.net.places) :
    Calls Try.prog 110 #[.pointer (some ⟨b, 0, none⟩), .int .i64 p] w (AnsOwn IntR 1 3 (2 * s.net.trans.length) (colL s.net.trans p) w) := by
  obtain ⟨A, n, c, hB, hb, own, hn⟩ := h
  have hl := own.len
  obtain ⟨A', c', hv, hs⟩ := own.sl (by omega)
  injection hv with e1 e2 e3
  subst e1 e3
  have H := hide2 (hs.imp (R' := TranR) fun _ _ h => h.tran)
  have LN := hide2 (fun k t => SmM.lens (s := s) hok (k := k) (t := t))
  obtain ⟨ts, hts⟩ : ∃ ts, s.net.trans = ts := ⟨_, rfl⟩
  have u1 : w.cell? ⟨b, 1, none⟩ = some (.slice A n c) := hb.cell 1
  have HP := hide2 hp
  have HL := hide2 hl
  rw [hts] at H LN HL
  rw [hl, hts]
  clear hb own hs hts hl hp hok
  go_enter Try.func110, Try.ntmps110
  go_wp2
  go_loopg [5, 14] n (fun gk v i wr => ∃ (k m : Nat) (C : Option Addr) (e : Nat), k + gk = n ∧ m = 2 * k ∧ i = .int .i64 k ∧ v = .slice C m e ∧ Hid (OwnInts wr w.heap.size (.slice C m e) m (colL (ts.take k) p)) ∧ Hid (Below w.heap.size w wr))
  case atStart => exact ⟨0, 0, none, 0, by omega, by omega, rfl, rfl, OwnSl.nil, Below.refl _ _⟩
  case round =>
    obtain ⟨k, m, C, e, hk, hm, rfl, rfl, own, hb⟩ := hrel
    by_cases hlt : k < n
    · obtain ⟨bl, off, t, A1, n1, c1, A2, n2, c2, rfl, hbl, ht, q0, q1, q2, i1, i2, m1, m2⟩ := Trans.get H.out hlt
      have hl1 := (LN.out k t ht.out).1
      have hl2 := (LN.out k t ht.out).2
      rw [i1.len] at hl1
      rw [i2.len] at hl2
      have hp1 : p < n1 := by have := HP.out; omega
      have hp2 : p < n2 := by have := HP.out; omega
      obtain ⟨b1, o1, x, rfl, hb1, hx, d1⟩ := i1.get hp1
      obtain ⟨b2, o2, y, rfl, hb2, hy, d2⟩ := i2.get hp2
      have q0' := (hb.out.cell (p := ⟨bl, off + k * 3, none⟩) hbl).trans q0
      have q1' := (hb.out.cell (p := ⟨bl, off + k * 3 + 1, none⟩) hbl).trans q1
      have q2' := (hb.out.cell (p := ⟨bl, off + k * 3 + 2, none⟩) hbl).trans q2
      have d1' := (hb.out.cell (p := ⟨b1, o1 + p, none⟩) hb1).trans d1
      have d2' := (hb.out.cell (p := ⟨b2, o2 + p, none⟩) hb2).trans d2
      have g1 : b1 < wr.heap.size := Nat.lt_of_lt_of_le hb1 hb.out.size
      have g2 : b2 < wr.heap.size := Nat.lt_of_lt_of_le hb2 hb.out.size
      have HST := hide2 (show colL (ts.take (k + 1)) p = colL (ts.take k) p ++ [x, y] by rw [colL_snoc p ht.out, getD_get hx.out, getD_get hy.out])
      clear q0 q1 q2 d1 d2 i1 i2 hl1 hl2
      have hm46 : m ≤ 46 := by omega
      have HM := hide2 hm
      clear hm
      go_upto_region 5 with fail
      generalize hw2 : wr.alloc (.cells #[.int .i64 t.label, .slice (some ⟨b1, o1, none⟩) n1 c1, .slice (some ⟨b2, o2, none⟩) n2 c2] 76) = w2
      have hb2' : Below wr.heap.size wr w2 := by rw [← hw2]; exact boxBelow _ _
      have x1 : w2.cell? ⟨wr.heap.size, 1, none⟩ = some (.slice (some ⟨b1, o1, none⟩) n1 c1) := by rw [← hw2]; simp
      have x2 : w2.cell? ⟨wr.heap.size, 2, none⟩ = some (.slice (some ⟨b2, o2, none⟩) n2 c2) := by rw [← hw2]; simp
      have y1 := (hb2'.cell (p := ⟨b1, o1 + p, none⟩) g1).trans d1'
      have y2 := (hb2'.cell (p := ⟨b2, o2 + p, none⟩) g2).trans d2'
      have D0 := hide2 (show Below w.heap.size w w2.drew from (hb.out.trans (hb2'.mono hb.out.size)).drew)
      have OW := hide2 (own.out.keep IntR.kept (show Below wr.heap.size wr w2.drew from hb2'.drew))
      have sz2 : wr.heap.size < w2.heap.size := by rw [← hw2]; simp
      have SZ := hide2 (show w.heap.size ≤ w2.drew.heap.size from D0.out.size)
      clear hw2 hb2' own hb d1' d2' g1 g2 q0' q1' q2'
      refine wp_region_script 12 [(0, 0), (0, 1), (0, 2), (0, 3), (0, 4), (0, 5), (0, 6), (0, 7), (0, 8), (0, 9), (0, 10), (1, 11), (2, 12), (2, 13)] (fun w' => w'.cell? ⟨wr.heap.size, 1, none⟩ = some (.slice (some ⟨b1, o1, none⟩) n1 c1) ∧ w'.cell? ⟨wr.heap.size, 2, none⟩ = some (.slice (some ⟨b2, o2, none⟩) n2 c2) ∧ w'.cell? ⟨b1, o1 + p, none⟩ = some (.int .i64 x) ∧ w'.cell? ⟨b2, o2 + p, none⟩ = some (.int .i64 y)) (by kernel_rfl) (by kernel_rfl) (by kernel_rfl) (fun _ _ _ _ _ h => h) ⟨x1, x2, y1, y2⟩ (fun hHeld => ?_)
      iterate 11
        refine scTake (v := ?_) rfl (by rfl) hHeld (fun w' hSw => ?_) ?_
        rotate_left
        · (go_simp; try with_reducible rfl)
        try simp only [Act.put, List.setIfInBounds_toArray, List.set_cons_zero, List.set_cons_succ]
      refine scOne rfl (fun K hK => ?_)
      go_simp
      refine hK.out _ _ (by simp [*, World.cell?_alloc_some]) (fun hHeld => ?_)
      clear hK
      try simp only [Act.put, List.setIfInBounds_toArray, List.set_cons_zero, List.set_cons_succ]
      refine scEnd rfl (fun K hK => ?_)
      refine step_appNew tyInts rfl (.tmp 18) (.tmp 29) rfl [x, y] #[.int .i64 x, .int .i64 y] rfl rfl (by first | rfl | simp) rfl rfl (by omega) (by simp [Value.oneCell']) OW.out (Reads.two x y) rfl D0.out SZ.out (by omega) (by omega) (fun _ _ _ _ h => h) ?_
      intro g cap w5 own5 hg5 hb5 hBg hgl
      rw [← HST.out] at own5
      have O5 := hide2 own5
      have HB5 := hide2 hb5
      clear own5 hg5 hb5
      refine hK.out _ _ ?_
      clear hK
      simp only [Act.put, List.setIfInBounds_toArray, List.set_cons_zero, List.set_cons_succ]
      refine scEnd rfl (fun K hK => ?_)
      go_simp
      refine hK.out _ _ ?_
      clear hK
      try simp only [Act.put, List.setIfInBounds_toArray, List.set_cons_zero, List.set_cons_succ]
      simp only [wpScript]
      all_goals
        go_wp2
        go_roundg (gk - 1)
        case measure => omega
        case rel => exact ⟨k + 1, m + 2, some ⟨g, 0, none⟩, cap, by omega, by have := HM.out; omega, by simp, by simp, O5.out, HB5.out⟩
    · obtain rfl : k = n := by omega
      subst hm
      have O5 := hide2 (show OwnInts wr w.heap.size (.slice C (2 * k) e) (2 * k) (colL ts p) by rw [← List.take_of_length_le (l := ts) (i := k) (by rw [HL.out]; omega)]; exact own.out)
      clear own
      go_wp2
      go_ret
      exact ⟨_, rfl, O5.out, hb.out⟩
end Go.Proofs.Ytadepofaobdbhaa
namespace Go.Proofs.Ytadepofaobdbhaa
open Go.RowKit

theorem map_take_snoc {α β : Type} {f : α → β} {ts : List α} {k : Nat} {t : α} (h : ts[k]? = some t) : (ts.take (k + 1)).map f = (ts.take k).map f ++ [f t] := by
  obtain ⟨hk, rfl⟩ := List.getElem?_eq_some_iff.1 h
  rw [List.take_succ_eq_append_getElem hk, List.map_append]
  rfl
/-- What is known while the two ends are turned. -/
def EndF (B b q : Nat) (w : World) (P : Int) (v : Value) (k : Nat) (ts : List PTran) (x y : Int) (wr : World) : Prop :=
  Box wr b 66 #[.int .i64 P, v, .int .i64 x, .int .i64 y] ∧ Box wr q 185 #[.pointer (some ⟨b, 2, none⟩), .pointer (some ⟨b, 3, none⟩)] ∧ OwnSl (OwnTranR B) 3 wr B 76 v k ts ∧ w.grownBy wr (some b)
def EndD (B b q p : Nat) (w : World) (P : Int) (v : Value) (k : Nat) (ts : List PTran) (x y : Int) (gj : Nat) (i : Value) (wr : World) : Prop :=
  (gj = 2 ∧ i = .int .i64 0 ∧ EndF B b q w P v k ts x y wr) ∨ (gj = 1 ∧ i = .int .i64 1 ∧ EndF B b q w P v k ts (down x p) y wr) ∨ (gj = 0 ∧ i = .int .i64 2 ∧ EndF B b q w P v k ts (down x p) (down y p) wr)
theorem EndF.setI {B b q : Nat} {w : World} {P : Int} {v : Value} {k : Nat} {ts : List PTran} {x y : Int} {wr : World} (h : EndF B b q w P v k ts x y wr) (hne : q ≠ b) (z : Int) : EndF B b q w P v k ts z y (wr.setCell ⟨b, 2, none⟩ (.int .i64 z)) := by
  obtain ⟨h1, h2, h3, h4⟩ := h
  have g := grown_setB (j := 2) (u := .int .i64 z) (grown_reflB wr (some b))
  refine ⟨?_, h2.other _ hne, own_box h1 g h3, grown_transB h4 g⟩
  have := h1.set 2 (.int .i64 z)
  simpa using this
theorem EndF.setO {B b q : Nat} {w : World} {P : Int} {v : Value} {k : Nat} {ts : List PTran} {x y : Int} {wr : World} (h : EndF B b q w P v k ts x y wr) (hne : q ≠ b) (z : Int) : EndF B b q w P v k ts x z (wr.setCell ⟨b, 3, none⟩ (.int .i64 z)) := by
  obtain ⟨h1, h2, h3, h4⟩ := h
  have g := grown_setB (j := 3) (u := .int .i64 z) (grown_reflB wr (some b))
  refine ⟨?_, h2.other _ hne, own_box h1 g h3, grown_transB h4 g⟩
  have := h1.set 3 (.int .i64 z)
  simpa using this

theorem OwnSl.baseT {B B' : Nat} (hB : B' ≤ B) {w : World} {v : Value} {n : Nat} {ts : List PTran} (h : OwnSl (OwnTranR B) 3 w B 76 v n ts) : OwnSl (OwnTranR B') 3 w B' 76 v n ts := by
  obtain ⟨cells, q1, q2, q3⟩ := h.base hB
  exact ⟨cells, q1, ⟨q2.1, fun i x hx => by obtain ⟨vs, a, b⟩ := q2.2 i x hx; exact ⟨vs, a, b.base hB⟩⟩, q3⟩
theorem endRows {B b : Nat} {w w' : World} {v : Value} {n : Nat} {ts : List PTran} (hB : B ≤ b) (hb : b < w.heap.size) (h : OwnSl (OwnTranR w.heap.size) 3 w' w.heap.size 76 v n ts) : OwnSl (OwnTranR B) 3 w' B 76 v n ts := h.baseT (by omega)

set_option maxRecDepth 100000 in
set_option maxHeartbeats 8000000 in
theorem dropPlace_calls {B b p : Nat} {w : World} {s : PSm} (h : SmM B b w s) (hok : netOk s.net = true) (hp : (p : Int) < s.net.places) (hi : 0 ≤ s.i ∧ s.i ≤ 1000) (ho : 0 ≤ s.o ∧ s.o ≤ 1000) :
    Calls Try.prog 111 #[.pointer (some ⟨b, 0, none⟩), .int .i64 p] w (fun e w' => e = .returned (.tuple #[]) ∧ SmM B b w' (dropP s p) ∧ w.grownBy w' (some b)) := by
  obtain ⟨A, n, c, hB, hb, own, hn⟩ := h
  have hl := own.len
  obtain ⟨A', c', hv, hs⟩ := own.sl (by omega)
  injection hv with e1 e2 e3
  subst e1 e3
  have H := hide2 (hs.imp (R' := TranR) fun _ _ h => h.tran)
  have LN := hide2 (fun k t => SmM.lens (s := s) hok (k := k) (t := t))
  have PL := hide2 ((netOk_iff _).1 hok)
  have HI := hide2 hi
  have HO := hide2 ho
  have HX := hide2 hb
  have HBB := hide2 hB
  have u1 : w.cell? ⟨b, 1, none⟩ = some (.slice A n c) := hb.cell 1
  have hbs := hb.lt
  obtain ⟨P, qi, qo, ts, hq⟩ : ∃ P qi qo ts, s = ⟨⟨P, ts⟩, qi, qo⟩ := ⟨_, _, _, _, rfl⟩
  subst hq
  simp only at H LN hl PL HX hp HI HO
  have HP := hide2 hp
  have HL := hide2 hl
  clear hb own hs hl hp hok hi ho hB
  go_enter Try.func111, Try.ntmps111
  go_wp2
  go_loopg [4, 15] n (fun gk v i wr => ∃ (k : Nat) (C : Option Addr) (e : Nat), k + gk = n ∧ i = .int .i64 k ∧ v = .slice C k e ∧ Hid (OwnSl (OwnTranR w.heap.size) 3 wr w.heap.size 76 (.slice C k e) k ((ts.take k).map (dropPl p))) ∧ Hid (Below w.heap.size w wr))
  case atStart => exact ⟨0, none, 0, by omega, rfl, rfl, OwnSl.nil, Below.refl _ _⟩
  case round =>
    obtain ⟨k, C, e, hk, rfl, rfl, own, hb⟩ := hrel
    by_cases hlt : k < n
    · obtain ⟨bl, off, t, A1, n1, c1, A2, n2, c2, rfl, hbl, ht, q0, q1, q2, i1, i2, m1, m2⟩ := Trans.get H.out hlt
      have hl1 := (LN.out k t ht.out).1
      have hl2 := (LN.out k t ht.out).2
      rw [i1.len] at hl1
      rw [i2.len] at hl2
      have hp1 : p < n1 := by have := HP.out; omega
      have hp2 : p < n2 := by have := HP.out; omega
      have q0' := (hb.out.cell (p := ⟨bl, off + k * 3, none⟩) hbl).trans q0
      have q1' := (hb.out.cell (p := ⟨bl, off + k * 3 + 1, none⟩) hbl).trans q1
      have q2' := (hb.out.cell (p := ⟨bl, off + k * 3 + 2, none⟩) hbl).trans q2
      have I1 := hide2 (i1.keep hb.out)
      have I2 := hide2 (i2.keep hb.out)
      have HST := hide2 (map_take_snoc (f := dropPl p) ht.out)
      clear q0 q1 q2 i1 i2 hl1 hl2
      go_upto_region 4 with fail
      generalize hw2 : wr.alloc (.cells #[.int .i64 t.label, .slice A1 n1 c1, .slice A2 n2 c2] 76) = w2
      have hb2 : Below wr.heap.size wr w2 := by rw [← hw2]; exact boxBelow _ _
      have x0 : w2.cell? ⟨wr.heap.size, 0, none⟩ = some (.int .i64 t.label) := by rw [← hw2]; simp
      have x1 : w2.cell? ⟨wr.heap.size, 1, none⟩ = some (.slice A1 n1 c1) := by rw [← hw2]; simp
      have x2 : w2.cell? ⟨wr.heap.size, 2, none⟩ = some (.slice A2 n2 c2) := by rw [← hw2]; simp
      have sz2 : wr.heap.size < w2.heap.size := by rw [← hw2]; simp
      have D0 := hide2 (show Below wr.heap.size wr w2.drew from hb2.drew)
      have J1 := hide2 (I1.out.keep D0.out)
      have J2 := hide2 (I2.out.keep D0.out)
      have OW := hide2 (own.out.keep (OwnTranR.kept _) D0.out)
      have DD := hide2 (show Below w.heap.size w w2.drew from hb.out.trans (D0.out.mono hb.out.size))
      clear hw2 hb2 q0' q1' q2' own hb
      have MX := hide2 (show n1 ≤ 17592186044416 ∧ n2 ≤ 17592186044416 from ⟨m1, m2⟩)
      refine wp_region_script 13 [(0, 0), (0, 1), (0, 2), (0, 3), (0, 4), (0, 5), (0, 7), (0, 8), (0, 9), (1, 6), (1, 10), (0, 11), (1, 12), (2, 13), (2, 14)] (fun w' => w'.cell? ⟨wr.heap.size, 0, none⟩ = some (.int .i64 t.label) ∧ w'.cell? ⟨wr.heap.size, 1, none⟩ = some (.slice A1 n1 c1) ∧ w'.cell? ⟨wr.heap.size, 2, none⟩ = some (.slice A2 n2 c2)) (by kernel_rfl) (by kernel_rfl) (by kernel_rfl) (fun _ _ _ _ _ h => h) ⟨x0, x1, x2⟩ (fun hHeld => ?_)
      iterate 9
        refine scTake (v := ?_) rfl (by rfl) hHeld (fun w' hSw => ?_) ?_
        rotate_left
        · (go_simp; try with_reducible rfl)
        try simp only [Act.put, List.setIfInBounds_toArray, List.set_cons_zero, List.set_cons_succ]
      refine scOne rfl (fun K hK => ?_)
      go_simp; go_at_call 148
      (with_reducible refine (without_calls J1.out MX.out.1 (by assumption)).mono ?_)
      rintro e w3 ⟨vw3, rfl, ow3, bw3⟩
      obtain ⟨Cw3, kw3, hvw3, _⟩ := ow3.sl (by omega)
      subst hvw3
      have y0w3 := (bw3.cell (p := ⟨wr.heap.size, 0, none⟩) (show wr.heap.size < w2.drew.heap.size from sz2)).trans x0
      have y1w3 := (bw3.cell (p := ⟨wr.heap.size, 1, none⟩) (show wr.heap.size < w2.drew.heap.size from sz2)).trans x1
      have y2w3 := (bw3.cell (p := ⟨wr.heap.size, 2, none⟩) (show wr.heap.size < w2.drew.heap.size from sz2)).trans x2
      have Dw3 := hide2 (DD.out.trans (bw3.mono DD.out.size))
      have szw3 := Nat.lt_of_lt_of_le (show wr.heap.size < w2.drew.heap.size from sz2) bw3.size
      have O3 := hide2 (show OwnInts w3 w.heap.size (.slice Cw3 (n1 - 1) kw3) (n1 - 1) (t.pre.eraseIdx p) from ow3.base DD.out.size)
      have K2 := hide2 (J2.out.keep bw3)
      have OW3 := hide2 (OW.out.keep (OwnTranR.kept _) bw3)
      clear bw3 ow3
      refine hK.out _ _ ⟨y0w3, y1w3, y2w3⟩ (fun hHeld => ?_)
      clear hK
      try simp only [Act.put, List.setIfInBounds_toArray, List.set_cons_zero, List.set_cons_succ]
      refine scOne rfl (fun K hK => ?_)
      go_simp; go_at_call 148
      (with_reducible refine (without_calls K2.out MX.out.2 (by assumption)).mono ?_)
      rintro e w4 ⟨vw4, rfl, ow4, bw4⟩
      obtain ⟨Cw4, kw4, hvw4, _⟩ := ow4.sl (by omega)
      subst hvw4
      have y0w4 := (bw4.cell (p := ⟨wr.heap.size, 0, none⟩) szw3).trans y0w3
      have y1w4 := (bw4.cell (p := ⟨wr.heap.size, 1, none⟩) szw3).trans y1w3
      have y2w4 := (bw4.cell (p := ⟨wr.heap.size, 2, none⟩) szw3).trans y2w3
      have Dw4 := hide2 (Dw3.out.trans (bw4.mono Dw3.out.size))
      have szw4 := Nat.lt_of_lt_of_le szw3 bw4.size
      have O4 := hide2 (show OwnInts w4 w.heap.size (.slice Cw4 (n2 - 1) kw4) (n2 - 1) (t.post.eraseIdx p) from ow4.base Dw3.out.size)
      have O34 := hide2 (O3.out.keep IntR.kept bw4)
      have OW4 := hide2 (OW3.out.keep (OwnTranR.kept _) bw4)
      have KP4 := hide2 (keepTran OW4.out)
      have RD4 := hide2 (show OwnTranR w.heap.size w4 (fun j => [Value.int .i64 t.label, .slice Cw3 (n1 - 1) kw3, .slice Cw4 (n2 - 1) kw4].getD j undef) (dropPl p t) from ⟨rfl, n1 - 1, n2 - 1, O34.out, O4.out, Nat.le_trans (Nat.sub_le _ _) MX.out.1, Nat.le_trans (Nat.sub_le _ _) MX.out.2⟩)
      clear bw4 ow4
      refine hK.out _ _ ⟨y0w4, y1w4, y2w4⟩ (fun hHeld => ?_)
      clear hK
      try simp only [Act.put, List.setIfInBounds_toArray, List.set_cons_zero, List.set_cons_succ]
      iterate 1
        refine scTake (v := ?_) rfl (by rfl) hHeld (fun w' hSw => ?_) ?_
        rotate_left
        · (go_simp; try with_reducible rfl)
        try simp only [Act.put, List.setIfInBounds_toArray, List.set_cons_zero, List.set_cons_succ]
      refine scOne rfl (fun K hK => ?_)
      go_simp
      refine hK.out _ _ (by simp [*, World.cell?_alloc_some]) (fun hHeld => ?_)
      clear hK
      try simp only [Act.put, List.setIfInBounds_toArray, List.set_cons_zero, List.set_cons_succ]
      refine scEnd rfl (fun K hK => ?_)
      refine step_appNew tyTrans rfl (.tmp 19) (.tmp 31) rfl [dropPl p t] #[.int .i64 t.label, .slice Cw3 (n1 - 1) kw3, .slice Cw4 (n2 - 1) kw4] rfl rfl (by first | rfl | simp) rfl rfl (by omega) (by simp [Value.oneCell']) OW4.out (Reads.tran RD4.out) rfl Dw4.out Dw4.out.size (by omega) (by omega) KP4.out ?_
      intro g cap w5 own5 hg5 hb5 hBg hgl
      rw [← HST.out] at own5
      have O5 := hide2 own5
      have HB5 := hide2 hb5
      clear own5 hg5 hb5
      refine hK.out _ _ ?_
      clear hK
      simp only [Act.put, List.setIfInBounds_toArray, List.set_cons_zero, List.set_cons_succ]
      refine scEnd rfl (fun K hK => ?_)
      go_simp
      refine hK.out _ _ ?_
      clear hK
      try simp only [Act.put, List.setIfInBounds_toArray, List.set_cons_zero, List.set_cons_succ]
      simp only [wpScript]
      all_goals
        go_wp2
        go_roundg (gk - 1)
        case measure => omega
        case rel => exact ⟨k + 1, some ⟨g, 0, none⟩, cap, by omega, by simp, by simp, O5.out, HB5.out⟩
    · obtain rfl : k = n := by omega
      have O5 := hide2 (show OwnSl (OwnTranR w.heap.size) 3 wr w.heap.size 76 (.slice C k e) k (ts.map (dropPl p)) by rw [← List.take_of_length_le (l := ts) (i := k) (by rw [HL.out]; omega)]; exact own.out)
      clear own
      have X := hide2 (HX.out.keep hb.out)
      have t0 : wr.cell? ⟨b, 0, none⟩ = some (.int .i64 P) := X.out.cell 0
      have t1 : wr.cell? ⟨b, 1, none⟩ = some (.slice A k c) := X.out.cell 1
      have f0 := X.out.frozen 0
      have f1 := X.out.frozen 1
      have hP0 : 0 < P := by have := HP.out; omega
      have hP1 : P ≤ 16 := PL.out.2.1
      go_upto_region 7 with fail
      generalize hw5 : (wr.setCell ⟨b, 0, none⟩ (.int .i64 (P - 1))).setCell ⟨b, 1, none⟩ (.slice C k e) = w5
      have X5 : Box w5 b 66 #[.int .i64 (P - 1), .slice C k e, .int .i64 qi, .int .i64 qo] := by
        rw [← hw5]
        have := (X.out.set 0 (.int .i64 (P - 1))).set 1 (.slice C k e)
        simpa using this
      have g5 : wr.grownBy w5 (some b) := by rw [← hw5]; exact grown_setB (grown_setB (grown_reflB wr _))
      have OW5 := own_box X.out g5 O5.out
      have G5 : w.grownBy w5 (some b) := grown_transB (grown_below (grown_reflB w _) hb.out) g5
      clear hw5 t0 t1 f0 f1 g5
      go_region
      generalize hw6 : (w5.alloc (Obj.cells #[.pointer (some ⟨b, 2, none⟩), .pointer (some ⟨b, 3, none⟩)] 185)).drew = w6
      obtain ⟨q, hq⟩ : ∃ q, w5.heap.size = q := ⟨_, rfl⟩
      have hb6 : Below w5.heap.size w5 w6 := by rw [← hw6]; exact ((Below.refl _ _).alloc (Nat.le_refl _) _).drew
      have XP : Box w6 q 185 #[.pointer (some ⟨b, 2, none⟩), .pointer (some ⟨b, 3, none⟩)] := by rw [← hw6, ← hq]; exact (Box.new _ _ _).drew
      have X6 := hide2 (X5.keep hb6)
      have OW6 := hide2 (OW5.keep (OwnTranR.kept _) hb6)
      have G6 := hide2 (grown_below G5 (hb6.mono G5.size))
      have NE := hide2 (show q ≠ b by have := X5.lt; omega)
      have XP6 := hide2 XP
      rw [hq]
      clear hw6 hb6 X5 OW5 G5 XP hq hb O5 X
      go_wp2
      have E0 := hide2 (show EndD w.heap.size b q p w (P - 1) (.slice C k e) k (ts.map (dropPl p)) qi qo 2 (.int .i64 0) w6 from .inl ⟨rfl, rfl, X6.out, XP6.out, OW6.out, G6.out⟩)
      go_loopg [53] 2 (fun gj i wr => EndD w.heap.size b q p w (P - 1) (.slice C k e) k (ts.map (dropPl p)) qi qo gj i wr)
      case atStart => exact E0.out
      case round =>
        rcases hrel with ⟨rfl, rfl, F⟩ | ⟨rfl, rfl, F⟩ | ⟨rfl, rfl, F⟩
        ·
          have v0 : wr.cell? ⟨b, 2, none⟩ = some (.int .i64 qi) := F.1.cell 2
          have v1 : wr.cell? ⟨q, 0, none⟩ = some (.pointer (some ⟨b, 2, none⟩)) := F.2.1.cell 0
          have v2 := F.1.frozen 2
          have FF := hide2 F
          clear F
          by_cases hd : (p : Int) < qi
          · have DN := hide2 (show down qi p = qi - 1 by simp [down, hd])
            have hq1 : 0 ≤ qi - 1 := by omega
            have hq2 : qi ≤ 1000 := HI.out.2
            go_wp2
            go_roundg 1
            case measure => omega
            case rel => exact .inr (.inl ⟨rfl, by simp, by rw [DN.out]; exact FF.out.setI NE.out _⟩)
          · have DN := hide2 (show down qi p = qi by simp [down, hd])
            go_wp2
            go_roundg 1
            case measure => omega
            case rel => exact .inr (.inl ⟨rfl, by simp, by rw [DN.out]; exact FF.out⟩)
        · obtain ⟨DI, hDI⟩ : ∃ D, down qi p = D := ⟨_, rfl⟩
          have HDI := hide2 hDI
          rw [hDI] at F
          clear hDI
          have v0 : wr.cell? ⟨b, 3, none⟩ = some (.int .i64 qo) := F.1.cell 3
          have v1 : wr.cell? ⟨q, 1, none⟩ = some (.pointer (some ⟨b, 3, none⟩)) := F.2.1.cell 1
          have v2 := F.1.frozen 3
          have FF := hide2 F
          clear F
          by_cases hd : (p : Int) < qo
          · have DN := hide2 (show down qo p = qo - 1 by simp [down, hd])
            have hq1 : 0 ≤ qo - 1 := by omega
            have hq2 : qo ≤ 1000 := HO.out.2
            go_wp2
            go_roundg 0
            case measure => omega
            case rel => exact .inr (.inr ⟨rfl, by simp, by rw [DN.out, HDI.out]; exact FF.out.setO NE.out _⟩)
          · have DN := hide2 (show down qo p = qo by simp [down, hd])
            go_wp2
            go_roundg 0
            case measure => omega
            case rel => exact .inr (.inr ⟨rfl, by simp, by rw [DN.out, HDI.out]; exact FF.out⟩)
        · have FF := hide2 F
          clear F
          go_wp2
          exact bodyPost_end (v := .tuple #[]) (by simp [results, Try.results111, go_sem]) rfl ⟨rfl, ⟨C, k, e, HBB.out, FF.out.1, endRows HBB.out hbs FF.out.2.2.1, by have := PL.out.2.2.1; have := HL.out; omega⟩, FF.out.2.2.2⟩
end Go.Proofs.Ytadepofaobdbhaa
namespace Go.Proofs.Ytadepofaobdbhaa
open Go.RowKit

theorem SmM.keep {B b : Nat} {w w' : World} {s : PSm} (h : SmM B b w s) (hb : Below w.heap.size w w') : SmM B b w' s := by
  obtain ⟨A, n, c, hB, hx, own, hn⟩ := h
  exact ⟨A, n, c, hB, hx.keep hb, own.keep (OwnTranR.kept _) hb, hn⟩
/-- What a rule answers: whether it turned the net, and the net. -/
def AnsSt (B b : Nat) (s : PSm) (w : World) (o : Option PSm) (e : Ending) (w' : World) : Prop :=
  e = .returned (.bool o.isSome) ∧ SmM B b w' (o.getD s) ∧ w.grownBy w' (some b)
/-- No pair so far. -/
def NoPair (f : Nat → Nat → Bool) (k j : Nat) : Prop := (∀ a, a < k → ∀ c, c < a → f a c = false) ∧ ∀ c, c < j → f k c = false
theorem NoPair.start (f : Nat → Nat → Bool) : NoPair f 0 0 := ⟨fun a ha => by omega, fun c hc => by omega⟩
theorem NoPair.more {f : Nat → Nat → Bool} {k j : Nat} (h : NoPair f k j) (hf : f k j = false) : NoPair f k (j + 1) :=
  ⟨h.1, fun c hc => by
    by_cases e : c = j
    · subst e; exact hf
    · exact h.2 c (by omega)⟩
theorem NoPair.next {f : Nat → Nat → Bool} {k : Nat} (h : NoPair f k k) : NoPair f (k + 1) 0 :=
  ⟨fun a ha c hc => by
    by_cases e : a = k
    · subst e; exact h.2 c hc
    · exact h.1 a (by omega) c hc, fun c hc => by omega⟩

set_option maxRecDepth 100000 in
set_option maxHeartbeats 8000000 in
theorem trans_calls {B b : Nat} {w : World} {s : PSm} (h : SmM B b w s) :
    Calls Try.prog 40 #[.pointer (some ⟨b, 0, none⟩)] w (AnsSt B b s w (stT s)) := by
  have HS := hide2 h
  obtain ⟨A, n, c, hB, hb, own, hn⟩ := h
  have hl := own.len
  obtain ⟨A', c', hv, hs⟩ := own.sl (by omega)
  injection hv with e1 e2 e3
  subst e1 e3
  have hcn := hs.le
  have H := hide2 (hs.imp (R' := TranR) fun _ _ h => h.tran)
  have u1 : w.cell? ⟨b, 1, none⟩ = some (.slice A n c) := hb.cell 1
  have U1 := hide2 u1
  have hbs := hb.lt
  have HL := hide2 hl
  have F0 := hide2 (show ∀ k j, k < n → j < k → sameTr s.net.trans k j = true → NoPair (sameTr s.net.trans) k j → stT s = some (dropT s k) from fun k j hk hj hf hn => by
    unfold stT
    rw [firstPair_some (by rw [hl]; exact hk) hj hf (fun a ha c hc => hn.1 a ha c hc)]
    rfl)
  have F1 := hide2 (show NoPair (sameTr s.net.trans) n 0 → stT s = none from fun hn => by
    unfold stT
    rw [firstPair_none (by rw [hl]; exact fun a ha c hc => hn.1 a ha c hc)]
    rfl)
  clear hb own hs hl hB
  go_enter Try.func40, Try.ntmps40
  go_wp2
  go_loopg [13] n (fun gk i wr => ∃ k : Nat, k + gk = n ∧ i = .int .i64 k ∧ Hid (NoPair (sameTr s.net.trans) k 0) ∧ Hid (Below w.heap.size w wr))
  case atStart => exact ⟨0, by omega, rfl, NoPair.start _, Below.refl _ _⟩
  case round =>
    obtain ⟨k, hk, rfl, hnp, hb⟩ := hrel
    by_cases hlt : k < n
    · obtain ⟨bl, off, t, A1, n1, c1, A2, n2, c2, rfl, hbl, ht, q0, q1, q2, i1, i2, m1, m2⟩ := Trans.get H.out hlt
      have q0' := (hb.out.cell (p := ⟨bl, off + k * 3, none⟩) hbl).trans q0
      have q1' := (hb.out.cell (p := ⟨bl, off + k * 3 + 1, none⟩) hbl).trans q1
      have q2' := (hb.out.cell (p := ⟨bl, off + k * 3 + 2, none⟩) hbl).trans q2
      have I1 := hide2 i1
      have I2 := hide2 i2
      have u1' := (hb.out.cell (p := ⟨b, 1, none⟩) hbs).trans U1.out
      have hsw := hide2 hb.out.size
      clear q0 q1 q2 i1 i2 u1
      have hkc : k ≤ c := by omega
      go_upto_region 4 with fail
      generalize hw2 : wr.alloc (.cells #[.int .i64 t.label, .slice A1 n1 c1, .slice A2 n2 c2] 76) = w2
      have hb2 : Below wr.heap.size wr w2 := by rw [← hw2]; exact boxBelow _ _
      have X := hide2 (show Box w2 wr.heap.size 76 #[.int .i64 t.label, .slice A1 n1 c1, .slice A2 n2 c2] by rw [← hw2]; exact Box.new _ _ _)
      have u2 := (hb2.cell (p := ⟨b, 1, none⟩) (Nat.lt_of_lt_of_le hbs hb.out.size)).trans u1'
      obtain ⟨tb, htb⟩ : ∃ q, wr.heap.size = q := ⟨_, rfl⟩
      have DD := hide2 (show Below w.heap.size w w2 from hb.out.trans (hb2.mono hb.out.size))
      have NP := hnp
      rw [htb] at X
      rw [htb]
      clear hb hb2 hw2 htb hsw u1' q0' q1' q2' hnp
      go_wp2
      obtain ⟨wo, hwo⟩ : ∃ wo : World, wo = w2 := ⟨_, rfl⟩
      subst hwo
      obtain ⟨gO, hgO⟩ : ∃ g : Nat, g = gk := ⟨_, rfl⟩
      subst hgO
      go_loopg [26] k (fun gj i wr => ∃ j : Nat, j + gj = k ∧ i = .int .i64 j ∧ Hid (NoPair (sameTr s.net.trans) k j) ∧ Hid (Below wo.heap.size wo wr))
      case atStart => exact ⟨0, by omega, rfl, NP.out, Below.refl _ _⟩
      case round =>
        obtain ⟨j, hj, rfl, hnp, hb⟩ := hrel
        by_cases hjk : j < k
        · obtain ⟨bl', off', t', A1', n1', c1', A2', n2', c2', hA', hbl', ht', q0, q1, q2, i1, i2, m1', m2'⟩ := Trans.get H.out (show j < n by omega)
          injection hA' with hA'
          injection hA' with e1 e2
          subst e1 e2
          have hbx := DD.out.trans (hb.out.mono DD.out.size)
          have q0' := (hbx.cell (p := ⟨bl, off + j * 3, none⟩) hbl).trans q0
          have q1' := (hbx.cell (p := ⟨bl, off + j * 3 + 1, none⟩) hbl).trans q1
          have q2' := (hbx.cell (p := ⟨bl, off + j * 3 + 2, none⟩) hbl).trans q2
          have hjb : j < n := by omega
          have BX := hide2 hbx
          have X' := hide2 (X.out.keep hb.out)
          have J1 := hide2 (i1.keep hbx)
          have J2 := hide2 (i2.keep hbx)
          have K1 := hide2 (I1.out.keep hbx)
          have K2 := hide2 (I2.out.keep hbx)
          have SV := hide2 (show sameTr s.net.trans k j = ((t.pre == t'.pre) && (t.post == t'.post)) by unfold sameTr; rw [tAt_get ht.out, tAt_get ht'.out])
          clear q0 q1 q2 i1 i2 hbx
          go_upto_region 7 with fail
          generalize hw3 : wr.alloc (.cells #[.int .i64 t'.label, .slice A1' n1' c1', .slice A2' n2' c2'] 76) = w3
          have hb3 : Below wr.heap.size wr w3 := by rw [← hw3]; exact boxBelow _ _
          have y1 : w3.cell? ⟨wr.heap.size, 1, none⟩ = some (.slice A1' n1' c1') := by rw [← hw3]; simp
          have y2 : w3.cell? ⟨wr.heap.size, 2, none⟩ = some (.slice A2' n2' c2') := by rw [← hw3]; simp
          have sz3 : wr.heap.size < w3.heap.size := by rw [← hw3]; simp
          have X3 := X'.out.keep hb3
          have x1 : w3.cell? ⟨tb, 1, none⟩ = some (.slice A1 n1 c1) := X3.cell 1
          have x2 : w3.cell? ⟨tb, 2, none⟩ = some (.slice A2 n2 c2) := X3.cell 2
          have D3 := hide2 (hb.out.trans (hb3.mono hb.out.size))
          have L1 := hide2 (J1.out.keep hb3)
          have L2 := hide2 (J2.out.keep hb3)
          have M1 := hide2 (K1.out.keep hb3)
          have M2 := hide2 (K2.out.keep hb3)
          have X3' := hide2 X3
          have NJ := hnp
          clear hb3 X3 hb hnp hw3 q0' q1' q2'
          have GO := hide2 (show sameTr s.net.trans k j = false → NoPair (sameTr s.net.trans) k (j + 1) from fun hf => NJ.out.more hf)
          have EQ1 := hide2 (equalInts_calls M1.out L1.out)
          obtain ⟨p1, hp1⟩ : ∃ p, (t.pre == t'.pre) = p := ⟨_, rfl⟩
          obtain ⟨p2, hp2⟩ : ∃ p, (t.post == t'.post) = p := ⟨_, rfl⟩
          have HP2 := hide2 hp2
          rw [hp1] at EQ1
          rw [hp1, hp2] at SV
          clear hp1 hp2
          go_wp2_with fail
          (with_reducible refine EQ1.out.mono ?_)
          rintro e w4 ⟨rfl, dr4⟩
          have X4 := X3'.out.keep dr4.below
          have z2 : w4.cell? ⟨tb, 2, none⟩ = some (.slice A2 n2 c2) := X4.cell 2
          have z3 := (dr4.below.cell (p := ⟨wr.heap.size, 2, none⟩) sz3).trans y2
          have D4 := hide2 (D3.out.trans (dr4.below.mono D3.out.size))
          have L4 := L2.out.keep dr4.below
          have M4 := M2.out.keep dr4.below
          have EQ2 := hide2 (equalInts_calls M4 L4)
          rw [HP2.out] at EQ2
          clear dr4 X4 M4 L4
          cases p1
          · have GG := hide2 (GO.out (by rw [SV.out]; rfl))
            go_wp2
            go_roundg (gk - 1)
            case measure => omega
            case rel => exact ⟨j + 1, by omega, by simp, GG.out, D4.out⟩
          · go_wp2_with fail
            (with_reducible refine EQ2.out.mono ?_)
            rintro e w5 ⟨rfl, dr5⟩
            have D5 := hide2 (D4.out.trans (dr5.below.mono D4.out.size))
            clear dr5
            cases p2
            · have GG := hide2 (GO.out (by rw [SV.out]; rfl))
              go_wp2
              go_roundg (gk - 1)
              case measure => omega
              case rel => exact ⟨j + 1, by omega, by simp, GG.out, D5.out⟩
            · have FF := hide2 (F0.out k j hlt hjk (by rw [SV.out]; rfl) NJ.out)
              have D6 := hide2 (DD.out.trans (D5.out.mono DD.out.size))
              have DT := hide2 (dropTran_calls (HS.out.keep D6.out) (by rw [HL.out]; exact hlt))
              go_wp2_with fail
              (with_reducible refine DT.out.mono ?_)
              rintro e w6 ⟨rfl, hs6, hg6⟩
              have R6 := hide2 hs6
              have G6 := hide2 (grown_transB (grown_below (grown_reflB w (some b)) D6.out) hg6)
              clear hs6 hg6
              go_wp2
              go_ret
              exact ⟨by rw [FF.out]; rfl, by rw [FF.out]; exact R6.out, G6.out⟩
        · obtain rfl : j = k := by omega
          have NX := hide2 hnp.out.next
          go_wp2
          go_roundg (gO - 1)
          case measure => omega
          case rel => exact ⟨j + 1, by omega, by simp, NX.out, DD.out.trans (hb.out.mono DD.out.size)⟩
    · obtain rfl : k = n := by omega
      have E := hide2 (F1.out hnp.out)
      go_wp2
      go_ret
      exact ⟨by rw [E.out]; rfl, by rw [E.out]; exact HS.out.keep hb.out, grown_below (grown_reflB w _) hb.out⟩

set_option maxRecDepth 100000 in
set_option maxHeartbeats 8000000 in
theorem places_calls {B b : Nat} {w : World} {s : PSm} (h : SmM B b w s) (hok : netOk s.net = true) (hi : 0 ≤ s.i ∧ s.i ≤ 1000) (ho : 0 ≤ s.o ∧ s.o ≤ 1000) :
    Calls Try.prog 41 #[.pointer (some ⟨b, 0, none⟩)] w (AnsSt B b s w (stP s)) := by
  have HS := hide2 h
  have HOK := hide2 hok
  have HI := hide2 hi
  have HO := hide2 ho
  obtain ⟨A, n, c, hB, hb, own, hn⟩ := h
  have hl := own.len
  have hn24 := hn
  have hP := ((netOk_iff _).1 hok)
  obtain ⟨P, hPP⟩ : ∃ P : Nat, s.net.places = (P : Int) := ⟨s.net.places.toNat, by have := hP.1; omega⟩
  have hP16 : P ≤ 16 := by have := hP.2.1; omega
  have u0 : w.cell? ⟨b, 0, none⟩ = some (.int .i64 P) := by have : w.cell? ⟨b, 0, none⟩ = some (.int .i64 s.net.places) := hb.cell 0; rw [this, hPP]
  have HPP := hide2 hPP
  have F0 := hide2 (show ∀ k j, k < P → j < k → sameP s k j = true → NoPair (sameP s) k j → stP s = some (dropP s k) from fun k j hk hj hf hn => by
    unfold stP
    rw [firstPair_some (by rw [hPP]; exact hk) hj hf (fun a ha c hc => hn.1 a ha c hc)]
    rfl)
  have F1 := hide2 (show NoPair (sameP s) P 0 → stP s = none from fun hn => by
    unfold stP
    rw [firstPair_none (by rw [hPP]; exact fun a ha c hc => hn.1 a ha c hc)]
    rfl)
  have HL := hide2 (show 2 * s.net.trans.length ≤ 48 by omega)
  clear hb own hl hB hok hi ho hn hP hPP
  go_enter Try.func41, Try.ntmps41
  go_wp2
  go_loopg [10] P (fun gk i wr => ∃ k : Nat, k + gk = P ∧ i = .int .i64 k ∧ Hid (NoPair (sameP s) k 0) ∧ Hid (Below w.heap.size w wr))
  case atStart => exact ⟨0, by omega, rfl, NoPair.start _, Below.refl _ _⟩
  case round =>
    obtain ⟨k, hk, rfl, hnp, hb⟩ := hrel
    by_cases hlt : k < P
    · have DD := hide2 hb.out
      have NP := hnp
      clear hb hnp
      go_wp2
      obtain ⟨wo, hwo⟩ : ∃ wo : World, wo = wr := ⟨_, rfl⟩
      subst hwo
      obtain ⟨gO, hgO⟩ : ∃ g : Nat, g = gk := ⟨_, rfl⟩
      subst hgO
      go_loopg [14] k (fun gj i wr => ∃ j : Nat, j + gj = k ∧ i = .int .i64 j ∧ Hid (NoPair (sameP s) k j) ∧ Hid (Below wo.heap.size wo wr))
      case atStart => exact ⟨0, by omega, rfl, NP.out, Below.refl _ _⟩
      case round =>
        obtain ⟨j, hj, rfl, hnp, hb⟩ := hrel
        by_cases hjk : j < k
        · have BX := hide2 (DD.out.trans (hb.out.mono DD.out.size))
          have GO := hide2 (show sameP s k j = false → NoPair (sameP s) k (j + 1) from fun hf => hnp.out.more hf)
          have NJ := hnp
          have HB := hide2 hb.out
          obtain ⟨p1, hp1⟩ : ∃ p, innerB s j = p := ⟨_, rfl⟩
          obtain ⟨p2, hp2⟩ : ∃ p, innerB s k = p := ⟨_, rfl⟩
          obtain ⟨p3, hp3⟩ : ∃ p, (colL s.net.trans j == colL s.net.trans k) = p := ⟨_, rfl⟩
          have SV := hide2 (show sameP s k j = (p1 && p2 && p3) by unfold sameP; rw [hp1, hp2, hp3])
          have C1 := hide2 (inner_calls (p := j) (HS.out.keep BX.out))
          have C2 := hide2 (inner_calls (p := k) (HS.out.keep BX.out))
          rw [hp1] at C1
          rw [hp2] at C2
          have HP3 := hide2 hp3
          clear hp1 hp2 hp3 hb hnp
          go_wp2_with fail
          (with_reducible refine C1.out.mono ?_)
          rintro e w1 ⟨rfl, rfl⟩
          cases p1
          · have GG := hide2 (GO.out (by rw [SV.out]; rfl))
            go_wp2
            go_roundg (gk - 1)
            case measure => omega
            case rel => exact ⟨j + 1, by omega, by simp, GG.out, HB.out⟩
          · go_wp2_with fail
            (with_reducible refine C2.out.mono ?_)
            rintro e w1 ⟨rfl, rfl⟩
            cases p2
            · have GG := hide2 (GO.out (by rw [SV.out]; rfl))
              go_wp2
              go_roundg (gk - 1)
              case measure => omega
              case rel => exact ⟨j + 1, by omega, by simp, GG.out, HB.out⟩
            · have C3 := hide2 (column_calls (p := j) (HS.out.keep BX.out) HOK.out (by rw [HPP.out]; omega))
              go_wp2_with fail
              (with_reducible refine C3.out.mono ?_)
              rintro e w2 ⟨v2, rfl, o2, b2⟩
              obtain ⟨A2, c2, hv2, i2⟩ := o2.sl (by have := HL.out; omega)
              subst hv2
              have BX2 := hide2 (BX.out.trans (b2.mono BX.out.size))
              have HB2 := hide2 (HB.out.trans (b2.mono HB.out.size))
              have I2 := hide2 i2
              have C4 := hide2 (column_calls (p := k) (HS.out.keep BX2.out) HOK.out (by rw [HPP.out]; omega))
              clear o2 b2 i2
              go_wp2_with fail
              (with_reducible refine C4.out.mono ?_)
              rintro e w3 ⟨v3, rfl, o3, b3⟩
              obtain ⟨A3, c3, hv3, i3⟩ := o3.sl (by have := HL.out; omega)
              subst hv3
              have BX3 := hide2 (BX2.out.trans (b3.mono BX2.out.size))
              have HB3 := hide2 (HB2.out.trans (b3.mono HB2.out.size))
              have C5 := hide2 (equalInts_calls (Ints.keep I2.out b3) i3)
              rw [HP3.out] at C5
              clear o3 b3 i3
              go_wp2_with fail
              (with_reducible refine C5.out.mono ?_)
              rintro e w4 ⟨rfl, dr⟩
              have BX4 := hide2 (BX3.out.trans (dr.below.mono BX3.out.size))
              have HB4 := hide2 (HB3.out.trans (dr.below.mono HB3.out.size))
              clear dr
              cases p3
              · have GG := hide2 (GO.out (by rw [SV.out]; rfl))
                go_wp2
                go_roundg (gk - 1)
                case measure => omega
                case rel => exact ⟨j + 1, by omega, by simp, GG.out, HB4.out⟩
              · have FF := hide2 (F0.out k j hlt hjk (by rw [SV.out]; rfl) NJ.out)
                have DT := hide2 (dropPlace_calls (p := k) (HS.out.keep BX4.out) HOK.out (by rw [HPP.out]; omega) HI.out HO.out)
                go_wp2_with fail
                (with_reducible refine DT.out.mono ?_)
                rintro e w6 ⟨rfl, hs6, hg6⟩
                have R6 := hide2 hs6
                have G6 := hide2 (grown_transB (grown_below (grown_reflB w (some b)) BX4.out) hg6)
                clear hs6 hg6
                go_wp2
                go_ret
                exact ⟨by rw [FF.out]; rfl, by rw [FF.out]; exact R6.out, G6.out⟩
        · obtain rfl : j = k := by omega
          have NX := hide2 hnp.out.next
          go_wp2
          go_roundg (gO - 1)
          case measure => omega
          case rel => exact ⟨j + 1, by omega, by simp, NX.out, DD.out.trans (hb.out.mono DD.out.size)⟩
    · obtain rfl : k = P := by omega
      have E := hide2 (F1.out hnp.out)
      go_wp2
      go_ret
      exact ⟨by rw [E.out]; rfl, by rw [E.out]; exact HS.out.keep hb.out, grown_below (grown_reflB w _) hb.out⟩
end Go.Proofs.Ytadepofaobdbhaa
