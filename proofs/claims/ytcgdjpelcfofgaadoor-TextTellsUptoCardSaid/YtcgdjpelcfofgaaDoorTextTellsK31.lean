/- The contract of the reference's reading of a net's text. Conditions: the text has at most a million letters; the tables lie as they were laid. -/
import Derived.Test.YtcgdjpelcfofgaaDoorTextTellsK29
import Derived.Test.YtcgdjpelcfofgaaDoorTextTellsK30
import Derived.StillTailTactics
set_option linter.all false
namespace Go.Proofs.YtcgdjpelcfofgaaDoor
open Go.RowKit

/-! ### lines -/
def ne10 (c : UInt8) : Bool := c != 10
theorem line_no {r : List UInt8} (h : r.dropWhile ne10 = []) : linesT r = ([], r) := by
  refine linesT_tail (fun c hc => ?_)
  have e := List.takeWhile_append_dropWhile (p := ne10) (l := r)
  rw [h, List.append_nil] at e
  rw [← e] at hc
  have : ne10 c = true := by
    clear e h
    induction r with
    | nil => simp at hc
    | cons x r ih =>
      rw [List.takeWhile_cons] at hc
      split at hc
      · rename_i hx
        rcases List.mem_cons.1 hc with rfl | hc
        · exact hx
        · exact ih hc
      · simp at hc
  unfold ne10 at this
  simpa using this
theorem line_all (r : List UInt8) : ∀ c ∈ r.takeWhile ne10, ne10 c = true := by
  intro c hc
  induction r with
  | nil => simp at hc
  | cons x r ih =>
    rw [List.takeWhile_cons] at hc
    split at hc
    · rename_i hx
      rcases List.mem_cons.1 hc with rfl | hc
      · exact hx
      · exact ih hc
    · simp at hc
theorem line_yes {r : List UInt8} (h : r.dropWhile ne10 ≠ []) : r.dropWhile ne10 = 10 :: r.drop ((r.takeWhile ne10).length + 1) ∧ linesT r = (r.takeWhile ne10 :: (linesT (r.drop ((r.takeWhile ne10).length + 1))).1, (linesT (r.drop ((r.takeWhile ne10).length + 1))).2) := by
  have e := List.takeWhile_append_dropWhile (p := ne10) (l := r)
  obtain ⟨c, r2, hc⟩ : ∃ c r2, r.dropWhile ne10 = c :: r2 := by
    cases hd : r.dropWhile ne10 with
    | nil => exact absurd hd h
    | cons c r2 => exact ⟨c, r2, rfl⟩
  have h10 : c = 10 := by
    have := List.head?_dropWhile_not ne10 r
    rw [hc] at this
    simp [ne10] at this
    exact this
  subst h10
  have e2 : r.drop ((r.takeWhile ne10).length + 1) = r2 := by
    rw [← List.drop_drop]
    have e3 := congrArg (List.drop (r.takeWhile ne10).length) e
    rw [List.drop_left] at e3
    rw [← e3, hc]
    rfl
  refine ⟨by rw [e2]; exact hc, ?_⟩
  rw [e2]
  have : linesT r = linesT (r.takeWhile ne10 ++ 10 :: r2) := by rw [← hc, e]
  rw [this]
  exact linesT_line r2 (fun c hc => by have := line_all r c hc; unfold ne10 at this; simpa using this)
theorem line_at {s : List UInt8} {f e : Nat} (h1 : f ≤ e) (h2 : e ≤ f + ((s.drop f).takeWhile ne10).length) {x : UInt8} (hx : s[e]? = some x) :
    (x ≠ 10 → e + 1 ≤ f + ((s.drop f).takeWhile ne10).length) ∧ (x = 10 → e = f + ((s.drop f).takeWhile ne10).length) := by
  have eq := List.takeWhile_append_dropWhile (p := ne10) (l := s.drop f)
  have hxk : (s.drop f)[e - f]? = some x := by rw [List.getElem?_drop, show f + (e - f) = e by omega]; exact hx
  constructor
  · intro hd
    apply Classical.byContradiction
    intro hn
    have hj : e - f = ((s.drop f).takeWhile ne10).length := by omega
    rw [← eq, List.getElem?_append_right (by omega), hj, Nat.sub_self] at hxk
    cases hw : (s.drop f).dropWhile ne10 with
    | nil => rw [hw] at hxk; cases hxk
    | cons c r =>
      have h9 := (line_yes (r := s.drop f) (by rw [hw]; simp)).1
      rw [hw] at hxk h9
      injection hxk with hxk
      injection h9 with h9 _
      exact hd (by rw [← hxk, h9])
  · intro hd
    apply Classical.byContradiction
    intro hn
    rw [← eq, List.getElem?_append_left (by omega)] at hxk
    have := line_all (s.drop f) x (List.mem_of_getElem? hxk)
    rw [hd] at this
    exact absurd this (by decide)
theorem line_lt {s : List UInt8} {f : Nat} (hf : f ≤ s.length) (h : (s.drop f).dropWhile ne10 ≠ []) : f + ((s.drop f).takeWhile ne10).length < s.length ∧ s[f + ((s.drop f).takeWhile ne10).length]? = some 10 := by
  have e := List.takeWhile_append_dropWhile (p := ne10) (l := s.drop f)
  have h1 := (line_yes h).1
  have e2 := congrArg List.length e
  have l1 := congrArg List.length h1
  have l2 : (s.drop f).length = s.length - f := List.length_drop
  rw [List.length_append] at e2
  rw [List.length_cons] at l1
  refine ⟨by omega, ?_⟩
  rw [show f + ((s.drop f).takeWhile ne10).length = f + (((s.drop f).takeWhile ne10).length) from rfl, ← List.getElem?_drop]
  have e3 : (s.drop f)[((s.drop f).takeWhile ne10).length]? = ((s.drop f).takeWhile ne10 ++ (s.drop f).dropWhile ne10)[((s.drop f).takeWhile ne10).length]? := by rw [e]
  rw [e3, List.getElem?_append_right (Nat.le_refl _), Nat.sub_self, h1]
  rfl
theorem line_end {s : List UInt8} {f : Nat} (hf : f ≤ s.length) (h : (s.drop f).dropWhile ne10 = []) : f + ((s.drop f).takeWhile ne10).length = s.length := by
  have e := congrArg List.length (List.takeWhile_append_dropWhile (p := ne10) (l := s.drop f))
  rw [h, List.append_nil, List.length_drop] at e
  omega
/-- What is left of the text, read. -/
def leftT (s : List UInt8) (f k P : Nat) (ts : List PTran) : PNet × Int × Int := parseL (linesT (s.drop f)).2 (linesT (s.drop f)).1 k P ts
theorem left_no {s : List UInt8} {f k P : Nat} {ts : List PTran} (h : (s.drop f).dropWhile ne10 = []) (hk : f < s.length ∨ k = 0) : leftT s f k P ts = noT k := by
  unfold leftT
  rw [line_no h]
  unfold parseL
  rw [if_neg]
  rintro ⟨h1, h2⟩
  have := congrArg List.length h2
  rw [List.length_drop] at this
  simp at this
  omega
theorem left_end {s : List UInt8} {k P : Nat} {ts : List PTran} (hk : 0 < k) : leftT s s.length k P ts = (⟨(P : Int), ts⟩, 0, 0) := by
  unfold leftT
  rw [List.drop_length]
  unfold linesT parseL
  rw [if_pos ⟨hk, rfl⟩]
theorem left_yes {s : List UInt8} {f k P : Nat} {ts : List PTran} (h : (s.drop f).dropWhile ne10 ≠ []) : leftT s f k P ts = if 24 < k then noT k else if k = 0 then (match headR ((s.drop f).takeWhile ne10) with
      | some p => leftT s (f + ((s.drop f).takeWhile ne10).length + 1) 1 p ts
      | none => noT k) else (match tranR P ((s.drop f).takeWhile ne10) with
      | some t => leftT s (f + ((s.drop f).takeWhile ne10).length + 1) (k + 1) P (ts ++ [t])
      | none => noT k) := by
  unfold leftT
  rw [(line_yes h).2]
  rw [List.drop_drop, show f + (((s.drop f).takeWhile ne10).length + 1) = f + ((s.drop f).takeWhile ne10).length + 1 by omega]
  rfl
/-! ### the first line -/
theorem head_yes {l : List UInt8} (h1 : [(110 : UInt8), 101, 116, 32].isPrefixOf l = true) (h2 : (numT ((l.drop 4).takeWhile dgt)).2 = true) (h3 : (numT ((l.drop 4).takeWhile dgt)).1 ≤ 16) (h4 : 4 + ((l.drop 4).takeWhile dgt).length = l.length) : ∃ p : Nat, headR l = some p ∧ (numT ((l.drop 4).takeWhile dgt)).1 = (p : Int) ∧ p ≤ 16 := by
  obtain ⟨k, hk, hd⟩ := num_is (take_drop_dgt (l.drop 4)).2 h2
  refine ⟨k, headR_some.2 ⟨by omega, ?_⟩, hk, by omega⟩
  have e1 : l.take 4 = [110, 101, 116, 32] := by
    have := take_pre (p := [(110 : UInt8), 101, 116, 32]) (r := l)
    rw [h1] at this
    simpa using this.symm
  have e2 := (take_drop_dgt (l.drop 4)).1
  have e3 : (l.drop 4).dropWhile dgt = [] := by
    have := congrArg List.length e2
    rw [List.length_append, List.length_drop] at this
    exact List.eq_nil_of_length_eq_zero (by omega)
  rw [e3, List.append_nil, hd] at e2
  have := List.take_append_drop 4 l
  rw [e1, ← e2] at this
  unfold headT
  rw [Int.toNat_natCast]
  exact this.symm
theorem head_is {l : List UInt8} {p : Nat} (h : headR l = some p) : [(110 : UInt8), 101, 116, 32].isPrefixOf l = true ∧ (numT ((l.drop 4).takeWhile dgt)).2 = true ∧ (numT ((l.drop 4).takeWhile dgt)).1 ≤ 16 ∧ 4 + ((l.drop 4).takeWhile dgt).length = l.length := by
  obtain ⟨h1, rfl⟩ := headR_some.1 h
  have e : (headT (p : Int)).drop 4 = Lib.decDigits p := by unfold headT; rw [Int.toNat_natCast]; rfl
  have e2 : (Lib.decDigits p).takeWhile dgt = Lib.decDigits p := by
    have := (span_dgt (Lib.decDigits p) [] (dec_dgt p) (fun c hc => by cases hc)).1
    rwa [List.append_nil] at this
  rw [e, e2, num_dec (by omega)]
  refine ⟨by unfold headT; rfl, rfl, by simp only; omega, ?_⟩
  unfold headT
  rw [Int.toNat_natCast, List.length_append]
  rfl
/-- What the reading of a text answers. -/
def AnsParse (w w' : World) (s : List UInt8) (e : Ending) : Prop :=
  Below w.heap.size w w' ∧ ∃ A n c, e = .returned (.tuple #[.agg #[.int .i64 (parseT s).1.places, .slice A n c], .int .i64 (parseT s).2.1, .int .i64 (parseT s).2.2]) ∧ Trans w' A n c (parseT s).1.trans
theorem transNil (w : World) : Trans w none 0 0 [] := ⟨rfl, Nat.le_refl _, by simp [maxLen], by omega, fun _ => rfl, fun h => absurd h (by omega)⟩

theorem cell_far3 {w : World} {a b : Nat} {x v0 v1 v2 : Value} (h : a ≠ b) (hc : w.cell? ⟨a, 0, none⟩ = some x) : (((w.setCell ⟨b, 0, none⟩ v0).setCell ⟨b, 1, none⟩ v1).setCell ⟨b, 2, none⟩ v2).cell? ⟨a, 0, none⟩ = some x := by
  have g := (grownSet w b 0 v0).trans ((grownSet _ b 1 v1).trans (grownSet _ b 2 v2))
  rw [World.cell?_of_block (g.block a (World.block_lt_of_cell? _ _ hc) (fun e => h (by injection e)))]
  exact hc
theorem ownAny {w : World} {B B2 e : Nat} {v : Value} {n : Nat} {xs : List PTran} (h : OwnSl (OwnTranR B) 3 w B2 e v n xs) : OwnSl (fun (_ : World) (_ : Nat → Value) (_ : PTran) => True) 3 w B2 e v n xs := by
  obtain ⟨cells, h1, h2, h3⟩ := h
  exact ⟨cells, h1, ⟨h2.1, fun i x hx => by obtain ⟨vs, a, _⟩ := h2.2 i x hx; exact ⟨vs, a, trivial⟩⟩, h3⟩
theorem endTrans {wr : World} {B b n c : Nat} {A : Option Addr} {ts : List PTran} {u v : Value} (h : OwnSl (OwnTranR B) 3 wr B 44 (.slice A n c) n ts) (hB : B = b + 2) (hn : n ≤ 1000) : Trans ((wr.setCell ⟨b, 0, none⟩ u).setCell ⟨b, 1, none⟩ v) A n c ts := by
  have h1 := (turnedEnd h (g0 := b) (by omega) (j := 0) (u := u)).out
  have h2 := (turnedEnd h1 (g0 := b) (by omega) (j := 1) (u := v)).out
  obtain ⟨A', c', hA, t'⟩ := (OwnSl.ofOwnTran h2).sl (by omega)
  injection hA with hA1 hA2 hA3
  subst hA1 hA3
  exact t'
set_option maxRecDepth 100000 in
set_option maxHeartbeats 16000000 in
theorem oparse_calls {w : World} {B : Nat} {s : List UInt8} (hs : s.length ≤ 1100000) (T : Tabs B w) :
    Calls Tryd.prog 7 #[.string ⟨s.toArray⟩] w fun e w' => AnsParse w w' s e := by
  have TT := hide2 T
  have HS := hide2 hs
  clear T hs
  go_enter Tryd.func7, Tryd.ntmps7
  go_wp2_with fail
  generalize hw1 : (w.alloc (.cells #[.int .i64 0, .slice none 0 0] 24)).alloc (.cells #[.int .i64 0, .slice none 0 0] 24) = w1
  have S1 : (w.alloc (.cells #[.int .i64 0, .slice none 0 0] 24)).heap.size = w.heap.size + 1 := Array.size_push _
  have B1 := hide2 (show Below w.heap.size w w1 by rw [← hw1]; exact ((Below.refl _ _).alloc (Nat.le_refl _) _).alloc (by omega) _)
  have Z1 := hide2 (show Box w1 w.heap.size 24 #[.int .i64 0, .slice none 0 0] by rw [← hw1]; exact (Box.new w _ _).old _)
  have N1 := hide2 (show Box w1 (w.heap.size + 1) 24 #[.int .i64 0, .slice none 0 0] by rw [← hw1]; exact Box.newAt S1 _ _)
  have SZ := hide2 (show w1.heap.size = w.heap.size + 2 by rw [← hw1, World.size_alloc]; omega)
  clear hw1 S1
  have E0 := hide2 (show leftT s 0 0 0 [] = parseT s from rfl)
  go_loopg [6, 7] (s.length + 1) (fun gk v6 v7 wr => ∃ (k f P : Nat) (A : Option Addr) (c : Nat) (ts : List PTran), v6 = .int .i64 (k : Int) ∧ v7 = .int .i64 (f : Int) ∧ gk + f = s.length + 1 ∧ f ≤ s.length ∧ k ≤ 25 ∧ P ≤ 16 ∧ ts.length ≤ k ∧ (k = 0 → f = 0 ∧ ts = [] ∧ A = none ∧ c = 0) ∧
    Hid (leftT s f k P ts = parseT s) ∧ Hid (Below w.heap.size w wr) ∧ Hid (Box wr w.heap.size 24 #[.int .i64 0, .slice none 0 0]) ∧ Hid (Box wr (w.heap.size + 1) 24 #[.int .i64 (P : Int), .slice A ts.length c]) ∧ Hid (OwnSl (OwnTranR w1.heap.size) 3 wr w1.heap.size 44 (.slice A ts.length c) ts.length ts))
  case atStart => exact ⟨0, 0, 0, none, 0, [], rfl, rfl, rfl, Nat.zero_le _, by omega, by omega, by simp, fun _ => ⟨rfl, rfl, rfl, rfl⟩, E0, B1, Z1, N1, OwnSl.nil⟩
  case round =>
    clear B1 Z1 N1 E0
    obtain ⟨k, f, P, A, c, ts, rfl, rfl, hgk, hf, hk25, hP, hts, hk0, EQ, BR, ZR, NR, OR⟩ := hrel
    obtain ⟨g1, hg1⟩ : ∃ g1 : Nat, g1 = gk := ⟨_, rfl⟩
    subst hg1
    have HK0 := hide2 hk0
    have HT := hide2 hts
    clear hk0 hts
    by_cases hfin : f = s.length ∧ 0 < k
    · obtain ⟨rfl, hk⟩ := hfin
      have hki : ((k : Int) == 0) = false := by simp; omega
      have hk2 : ¬ (k : Int) = 0 := by omega
      have hk3 : (k == 0) = false := by simp; omega
      have EE := hide2 (show parseT s = (⟨(P : Int), ts⟩, 0, 0) by rw [← EQ.out]; exact left_end hk)
      obtain ⟨n0, n1⟩ := NR.out.two
      obtain ⟨c0, c1⟩ := ZR.out.two
      have f0 := ZR.out.frozen 0
      have f1 := ZR.out.frozen 1
      go_wp2
      have ZF := hide2 (ZR.out.set2 (.int .i64 (P : Int)) (.slice A ts.length c))
      obtain ⟨A', c', hA, t'⟩ := (OwnSl.ofOwnTran OR.out).sl (by have := HT.out; omega)
      injection hA with hA1 hA2 hA3
      subst hA1 hA3
      have FIN := hide2 (show AnsParse w ((wr.setCell ⟨w.heap.size, 0, none⟩ (.int .i64 (P : Int))).setCell ⟨w.heap.size, 1, none⟩ (.slice A ts.length c)) s (.returned (.tuple #[.agg #[.int .i64 (P : Int), .slice A ts.length c], .int .i64 0, .int .i64 0])) from ⟨(BR.out.setCell (p := ⟨w.heap.size, 0, none⟩) (Nat.le_refl _) _).setCell (p := ⟨w.heap.size, 1, none⟩) (Nat.le_refl _) _, A, ts.length, c, by rw [EE.out], by rw [EE.out]; exact endTrans OR.out SZ.out (by have := HT.out; omega)⟩)
      obtain ⟨y0, y1⟩ := ZF.out.two
      exact bodyPost_ret (v := .tuple #[.agg #[.int .i64 (P : Int), .slice A ts.length c], .int .i64 0, .int .i64 0]) (by simp [results, Tryd.results7, go_sem, y0, y1]) rfl FIN.out
    · have HFI := hide2 (show f < s.length ∨ k = 0 by omega)
      by_cases hnl : (s.drop f).dropWhile ne10 = []
      · obtain ⟨L, hL⟩ : ∃ L, L = ((s.drop f).takeWhile ne10).length := ⟨_, rfl⟩
        have HL := hide2 (show f + L = s.length by rw [hL]; exact line_end hf hnl)
        have LA := hide2 (fun (e : Nat) (x : UInt8) (h1 : f ≤ e) (h2 : e ≤ f + L) (hx : s[e]? = some x) => (show (x ≠ 10 → e + 1 ≤ f + L) ∧ (x = 10 → e = f + L) by rw [hL] at h2 ⊢; exact line_at h1 h2 hx))
        have LN := hide2 (show leftT s f k P ts = noT k from left_no hnl HFI.out)
        clear hnl hL
        have hent : ((f : Int) < (s.length : Int)) ∨ (decide (f < s.length) = false ∧ decide ((f : Int) < (s.length : Int)) = false ∧ (k == 0) = true ∧ ((k : Int) == 0) = true) := by
          rcases HFI.out with h | h
          · exact .inl (by omega)
          · by_cases h2 : f < s.length
            · exact .inl (by omega)
            · exact .inr ⟨by rw [decide_eq_false_iff_not]; exact h2, by rw [decide_eq_false_iff_not]; omega, by simp [h], by simp [h]⟩
        rcases hent with hent | ⟨hent, hent2, hent3, hent4⟩
        all_goals
          clear hgk
          go_wp2_with fail
          go_loopg [8] (s.length + 1 - f) (fun gk v8 wr => ∃ e : Nat, v8 = .int .i64 (e : Int) ∧ gk + e = s.length + 1 ∧ f ≤ e ∧ e ≤ f + L ∧ Hid (Below w.heap.size w wr) ∧ Hid (Box wr w.heap.size 24 #[.int .i64 0, .slice none 0 0]) ∧ Hid (Box wr (w.heap.size + 1) 24 #[.int .i64 (P : Int), .slice A ts.length c]) ∧ Hid (OwnSl (OwnTranR w1.heap.size) 3 wr w1.heap.size 44 (.slice A ts.length c) ts.length ts))
          case atStart => exact ⟨f, rfl, by omega, Nat.le_refl _, by omega, BR, ZR, NR, OR⟩
          case round =>
            clear BR ZR NR OR
            obtain ⟨e, rfl, hgk2, hfe, hel, BR, ZR, NR, OR⟩ := hrel
            by_cases hlt : e < f + L
            · have hel2 : e < s.length := by have := HL.out; omega
              have hji : (e : Int) < (s.length : Int) := by omega
              obtain ⟨x, hx⟩ : ∃ x, s[e]? = some x := ⟨_, List.getElem?_eq_getElem hel2⟩
              have hget : (⟨s.toArray⟩ : ByteArray)[e]'(show e < s.length from hel2) = x := by rw [List.getElem?_eq_getElem hel2] at hx; injection hx
              have hne : x ≠ 10 := fun h => by have := (LA.out e x hfe hel hx).2 h; omega
              have k1 : ((x.toNat : Int) == 10) = false := by
                simp
                intro h
                exact hne (UInt8.toNat.inj (by simpa using (by omega : x.toNat = 10)))
              have k2 : ¬ (x.toNat : Int) = 10 := by simpa using k1
              have k3 : (x.toNat == 10) = false := beq_eq_false_iff_ne.2 (fun h => hne (UInt8.toNat.inj (by simpa using h)))
              have HG := hide2 (show gk - 1 < gk ∧ (gk - 1) + (e + 1) = s.length + 1 ∧ f ≤ e + 1 ∧ e + 1 ≤ f + L from ⟨by omega, by omega, by omega, by omega⟩)
              have hsb := HS.out
              clear hx hne hgk2
              go_wp2
              go_roundg (gk - 1)
              case measure => exact HG.out.1
              case rel => exact ⟨e + 1, by go_num, HG.out.2.1, HG.out.2.2.1, HG.out.2.2.2, BR, ZR, NR, OR⟩
            · have he : e = s.length := by have := HL.out; omega
              have hd1 : decide ((e : Int) < (s.length : Int)) = false := by rw [decide_eq_false_iff_not]; omega
              have hd2 : ¬ (e : Int) < (s.length : Int) := by omega
              have hd3 : decide (e < s.length) = false := by rw [decide_eq_false_iff_not]; omega
              clear hlt hgk2 he
              have BF := BR; have ZF := ZR
              have FIN := hide2 (show AnsParse w ((wr.setCell ⟨w.heap.size, 0, none⟩ (.int .i64 0)).setCell ⟨w.heap.size, 1, none⟩ (.slice none 0 0)) s (.returned (.tuple #[.agg #[.int .i64 0, .slice none 0 0], .int .i64 (k : Int), .int .i64 1])) from ⟨(BF.out.setCell (p := ⟨w.heap.size, 0, none⟩) (Nat.le_refl _) _).setCell (p := ⟨w.heap.size, 1, none⟩) (Nat.le_refl _) _, none, 0, 0, by rw [← EQ.out, LN.out]; rfl, by rw [← EQ.out, LN.out]; exact transNil _⟩)
              obtain ⟨y0, y1⟩ := Box.two (ZF.out.set2 (.int .i64 0) (.slice none 0 0))
              have f0 := ZF.out.frozen 0
              have f1 := ZF.out.frozen 1
              obtain ⟨c0, c1⟩ := Box.two ZF.out
              go_wp2
              exact bodyPost_ret (v := .tuple #[.agg #[.int .i64 0, .slice none 0 0], .int .i64 (k : Int), .int .i64 1]) (by simp [results, Tryd.results7, go_sem, y0, y1]) rfl FIN.out
      · obtain ⟨L, hL⟩ : ∃ L, L = ((s.drop f).takeWhile ne10).length := ⟨_, rfl⟩
        obtain ⟨l, hl⟩ : ∃ l, l = (s.drop f).takeWhile ne10 := ⟨_, rfl⟩
        have HL := hide2 (show f + L < s.length ∧ s[f + L]? = some 10 by rw [hL]; exact line_lt hf hnl)
        have LA := hide2 (fun (e : Nat) (x : UInt8) (h1 : f ≤ e) (h2 : e ≤ f + L) (hx : s[e]? = some x) => (show (x ≠ 10 → e + 1 ≤ f + L) ∧ (x = 10 → e = f + L) by rw [hL] at h2 ⊢; exact line_at h1 h2 hx))
        have LN := hide2 (show leftT s f k P ts = if 24 < k then noT k else if k = 0 then (match headR l with
            | some p => leftT s (f + L + 1) 1 p ts
            | none => noT k) else (match tranR P l with
            | some t => leftT s (f + L + 1) (k + 1) P (ts ++ [t])
            | none => noT k) by rw [hl, hL]; exact left_yes hnl)
        have LL := hide2 (show l.length = L ∧ (s.drop f).take L = l from ⟨by rw [hl, hL], by
          have e1 := List.takeWhile_append_dropWhile (p := ne10) (l := s.drop f)
          have e2 := congrArg (List.take L) e1
          rw [← hl] at e2
          rw [← e2, hL, ← hl, List.take_left]⟩)
        have hent : (f : Int) < (s.length : Int) := by have := HL.out.1; omega
        have GK := hide2 hgk
        clear hnl hL hl hgk
        go_wp2_with fail
        go_loopg [8] (s.length + 1 - f) (fun gk v8 wr => ∃ e : Nat, v8 = .int .i64 (e : Int) ∧ gk + e = s.length + 1 ∧ f ≤ e ∧ e ≤ f + L ∧ Hid (Below w.heap.size w wr) ∧ Hid (Box wr w.heap.size 24 #[.int .i64 0, .slice none 0 0]) ∧ Hid (Box wr (w.heap.size + 1) 24 #[.int .i64 (P : Int), .slice A ts.length c]) ∧ Hid (OwnSl (OwnTranR w1.heap.size) 3 wr w1.heap.size 44 (.slice A ts.length c) ts.length ts))
        case atStart => exact ⟨f, rfl, by omega, Nat.le_refl _, by omega, BR, ZR, NR, OR⟩
        case round =>
          clear BR ZR NR OR
          obtain ⟨e, rfl, hgk2, hfe, hel, BR, ZR, NR, OR⟩ := hrel
          have hel2 : e < s.length := by have := HL.out.1; omega
          have hji : (e : Int) < (s.length : Int) := by omega
          obtain ⟨x, hx⟩ : ∃ x, s[e]? = some x := ⟨_, List.getElem?_eq_getElem hel2⟩
          have hget : (⟨s.toArray⟩ : ByteArray)[e]'(show e < s.length from hel2) = x := by rw [List.getElem?_eq_getElem hel2] at hx; injection hx
          by_cases hlt : e < f + L
          · have hne : x ≠ 10 := fun h => by have := (LA.out e x hfe hel hx).2 h; omega
            have k1 : ((x.toNat : Int) == 10) = false := by
              simp
              intro h
              exact hne (UInt8.toNat.inj (by simpa using (by omega : x.toNat = 10)))
            have k2 : ¬ (x.toNat : Int) = 10 := by simpa using k1
            have k3 : (x.toNat == 10) = false := beq_eq_false_iff_ne.2 (fun h => hne (UInt8.toNat.inj (by simpa using h)))
            have HG := hide2 (show gk - 1 < gk ∧ (gk - 1) + (e + 1) = s.length + 1 ∧ f ≤ e + 1 ∧ e + 1 ≤ f + L from ⟨by omega, by omega, by omega, by omega⟩)
            have hsb := HS.out
            clear hx hne hgk2
            go_wp2
            go_roundg (gk - 1)
            case measure => exact HG.out.1
            case rel => exact ⟨e + 1, by go_num, HG.out.2.1, HG.out.2.2.1, HG.out.2.2.2, BR, ZR, NR, OR⟩
          · have he : e = f + L := by omega
            have h10 : x = 10 := by
              have h9 := HL.out.2
              rw [← he, hx] at h9
              injection h9
            subst h10
            have HE := hide2 he
            clear hx hlt hgk2 he
            by_cases hk24 : 24 < k
            · have hki : ¬ (k : Int) ≤ 24 := by omega
              have hkd : decide ((k : Int) ≤ 24) = false := by rw [decide_eq_false_iff_not]; exact hki
              have hkd2 : decide (k ≤ 24) = false := by rw [decide_eq_false_iff_not]; omega
              have LN2 := hide2 (show leftT s f k P ts = noT k by rw [LN.out, if_pos hk24])
              clear hk24
              have BF := BR; have ZF := ZR
              have FIN := hide2 (show AnsParse w ((wr.setCell ⟨w.heap.size, 0, none⟩ (.int .i64 0)).setCell ⟨w.heap.size, 1, none⟩ (.slice none 0 0)) s (.returned (.tuple #[.agg #[.int .i64 0, .slice none 0 0], .int .i64 (k : Int), .int .i64 1])) from ⟨(BF.out.setCell (p := ⟨w.heap.size, 0, none⟩) (Nat.le_refl _) _).setCell (p := ⟨w.heap.size, 1, none⟩) (Nat.le_refl _) _, none, 0, 0, by rw [← EQ.out, LN2.out]; rfl, by rw [← EQ.out, LN2.out]; exact transNil _⟩)
              obtain ⟨y0, y1⟩ := Box.two (ZF.out.set2 (.int .i64 0) (.slice none 0 0))
              have f0 := ZF.out.frozen 0
              have f1 := ZF.out.frozen 1
              obtain ⟨c0, c1⟩ := Box.two ZF.out
              go_wp2
              exact bodyPost_ret (v := .tuple #[.agg #[.int .i64 0, .slice none 0 0], .int .i64 (k : Int), .int .i64 1]) (by simp [results, Tryd.results7, go_sem, y0, y1]) rfl FIN.out
            · have hki : (k : Int) ≤ 24 := by omega
              have HK24 := hide2 hk24
              by_cases hk0 : k = 0
              · subst hk0
                obtain ⟨rfl, rfl, rfl, rfl⟩ := HK0.out rfl
                have EQ : Hid (leftT s 0 0 P [] = parseT s) := EQ
                have LN2 := hide2 (show leftT s 0 0 P [] = (match headR l with
                  | some p => leftT s (0 + L + 1) 1 p []
                  | none => noT 0) by rw [LN.out, if_neg (by omega), if_pos rfl])
                rw [Nat.zero_add] at HE
                obtain rfl : e = L := HE.out
                have hex : (⟨s.toArray⟩ : ByteArray).extract 0 e = ⟨l.toArray⟩ := by
                  rw [ext_bytes, Nat.sub_zero]
                  rw [LL.out.2]
                have hle := LL.out.1
                have hl2 : l.length ≤ 1100000 := by have := HS.out; omega
                have he0 : (0 : Int) ≤ (e : Int) := by omega
                have hel : (e : Int) ≤ (s.length : Int) := by omega
                clear HE
                go_upto_region 12 with fail
                have D4 := hide2 (show Below wr.heap.size wr (wr.alloc (.cells #[.string ⟨l.toArray⟩, .int .i64 0] 57)) from (Below.refl _ _).alloc (Nat.le_refl _) _)
                have R4 := hide2 (show RdV (wr.alloc (.cells #[.string ⟨l.toArray⟩, .int .i64 0] 57)) wr.heap.size l 0 from Box.new _ _ _)
                have BX := hide2 (show w.heap.size + 1 < wr.heap.size from Box.lt NR.out)
                generalize wr.alloc (.cells #[.string ⟨l.toArray⟩, .int .i64 0] 57) = w4 at *
                have B4 := hide2 (BR.out.trans (D4.out.mono BR.out.size))
                have Z4 := hide2 (ZR.out.keep D4.out)
                have N4 := hide2 (NR.out.keep D4.out)
                have TB := hide2 (And.intro (TT.out.keep (B4.out.mono TT.out.1)) (show B ≤ wr.heap.size from Nat.le_trans TT.out.1 BR.out.size))
                have SK : Hid (Calls Tryd.prog 22 #[.pointer (some ⟨wr.heap.size, 0, none⟩), .string ⟨#[110, 101, 116, 32]⟩] w4 fun e w' => AnsSkip w4 w' wr.heap.size l [110, 101, 116, 32] 0 e) := skip_calls (p := [110, 101, 116, 32]) R4.out (Nat.zero_le _) (by omega) (by decide)
                obtain ⟨q, hq⟩ : ∃ q, q = [(110 : UInt8), 101, 116, 32].isPrefixOf l := ⟨_, rfl⟩
                have HQ := hide2 hq
                obtain ⟨j, hj⟩ : ∃ j, j = if q = true then 4 else 0 := ⟨_, rfl⟩
                have HJ := hide2 hj
                clear hq hj
                go_upto_region 13 with (go_at_call 22; (with_reducible refine SK.out.mono ?_); rintro e5 w5 ⟨he, r5, g5⟩; rw [List.drop_zero, ← HQ.out] at he r5; subst he; have R5 := hide2 (show RdV w5 wr.heap.size l j by rw [HJ.out]; simpa using r5); have G5 := hide2 g5; have B5 := hide2 (B4.out.grown g5 (by have := Box.lt Z4.out; omega) (fun k hk => by injection hk with hk; have := BX.out; omega)); have Z5 := hide2 (Z4.out.grown g5 (fun e => by injection e; have := BX.out; omega)); have N5 := hide2 (N4.out.grown g5 (fun e => by injection e; have := BX.out; omega)); clear r5 g5 SK)
                have hjl : j ≤ l.length := by
                  rw [HJ.out]
                  split
                  · rename_i hqt
                    have h8 := HQ.out
                    rw [hqt, take_pre] at h8
                    have h9 := congrArg List.length (of_decide_eq_true h8.symm)
                    rw [List.length_take] at h9
                    simp at h9
                    omega
                  · omega
                obtain ⟨pv, ft, hnd⟩ : ∃ n ok, numT ((l.drop j).takeWhile dgt) = (n, ok) := ⟨_, _, rfl⟩
                have EN := hide2 hnd
                obtain ⟨dl, hdl⟩ : ∃ dl, ((l.drop j).takeWhile dgt).length = dl := ⟨_, rfl⟩
                have EDL := hide2 hdl
                have HJD := hide2 (show j + dl ≤ l.length by rw [← hdl]; exact (while_drop l j).2 hjl)
                have T5 := hide2 (show Tabs B w5 from TB.out.1.grown G5.out TB.out.2)
                have NM := hide2 (num_calls R5.out hjl (by omega) T5.out TB.out.2)
                clear hnd hdl
                go_upto_region 14 with (go_at_call 23; (with_reducible refine NM.out.mono ?_); rintro e6 w6 ⟨he, r6, g6⟩; rw [EN.out] at he; rw [EDL.out] at r6; subst he; have R6 := hide2 r6; have B6 := hide2 (B5.out.grown g6 (by have := Box.lt Z5.out; omega) (fun k hk => by injection hk with hk; have := BX.out; omega)); have Z6 := hide2 (Z5.out.grown g6 (fun e => by injection e; have := BX.out; omega)); have N6 := hide2 (N5.out.grown g6 (fun e => by injection e; have := BX.out; omega)); clear r6 g6 NM)
                obtain ⟨s0, s1⟩ := Box.two R6.out
                obtain ⟨n0, n1⟩ := N6.out.two
                have fn := N6.out.frozen 0
                have gN := grownSet w6 (w.heap.size + 1) 0 (.int .i64 pv)
                have BF := hide2 (B6.out.grown gN (by have := Box.lt Z6.out; omega) (fun k hk => by injection hk with hk; omega))
                have ZF := hide2 (Z6.out.grown gN (fun e => by injection e; omega))
                have NF := hide2 (show Box (w6.setCell ⟨w.heap.size + 1, 0, none⟩ (.int .i64 pv)) (w.heap.size + 1) 24 #[.int .i64 pv, .slice none 0 0] from N6.out.set 0 _)
                clear gN
                by_cases hgood : q = true ∧ ft = true ∧ pv ≤ 16 ∧ j + dl = l.length
                · obtain ⟨hq, rfl, h16, hjd⟩ := hgood
                  have hj4 : j = 4 := by rw [HJ.out, if_pos hq]
                  obtain ⟨pn, h1, h2, h3⟩ := head_yes (l := l) (by rw [← HQ.out]; exact hq) (by rw [← hj4, EN.out]) (by rw [← hj4, EN.out]; exact h16) (by rw [← hj4, EDL.out]; exact hjd)
                  rw [← hj4, EN.out] at h2
                  simp only at h2
                  have EQ2 := hide2 (show leftT s (0 + e + 1) 1 pn [] = parseT s by rw [← EQ.out, LN2.out, h1])
                  have hjde : j + dl = e := by omega
                  have hs1 : w6.cell? ⟨wr.heap.size, 1, none⟩ = some (.int .i64 (e : Int)) := by rw [s1, ← hjde]
                  have NG := hide2 (show Box (w6.setCell ⟨w.heap.size + 1, 0, none⟩ (.int .i64 pv)) (w.heap.size + 1) 24 #[.int .i64 (pn : Int), .slice none 0 0] by rw [← h2]; exact NF.out)
                  have OG := hide2 (show OwnSl (OwnTranR w1.heap.size) 3 (w6.setCell ⟨w.heap.size + 1, 0, none⟩ (.int .i64 pv)) w1.heap.size 44 (.slice none 0 0) 0 ([] : List PTran) from OwnSl.nil)
                  have H3 := hide2 h3
                  have G9 := hide2 (show s.length - e < g1 ∧ (s.length - e) + (e + 1) = s.length + 1 ∧ e + 1 ≤ s.length from by have := GK.out; exact ⟨by omega, by omega, by omega⟩)
                  have hsb := HS.out
                  subst hq
                  clear s1 hjde hj4 h1 h2 h3 hjd HJ
                  go_wp2
                  go_roundg (s.length - e)
                  case measure => exact G9.out.1
                  case rel => exact ⟨1, e + 1, pn, none, 0, [], by go_num, by go_num, G9.out.2.1, G9.out.2.2, by omega, H3.out, by simp, fun h => by omega, hide2 (by rw [← EQ2.out, Nat.zero_add]), BF, ZF, NG, OG⟩
                · have LN3 := hide2 (show leftT s 0 0 P [] = noT 0 by
                    rw [LN2.out]
                    cases hh : headR l with
                    | none => rfl
                    | some pn =>
                      obtain ⟨k1, k2, k3, k4⟩ := head_is hh
                      have hq : q = true := by rw [HQ.out]; exact k1
                      have hj4 : j = 4 := by rw [HJ.out, if_pos hq]
                      rw [← hj4, EN.out] at k2 k3
                      rw [← hj4, EDL.out] at k4
                      exact absurd ⟨hq, k2, k3, k4⟩ hgood)
                  have key : q = false ∨ (q = true ∧ ft = false) ∨ (q = true ∧ ft = true ∧ ¬ pv ≤ 16) ∨ (q = true ∧ ft = true ∧ pv ≤ 16 ∧ j + dl ≠ e) := by
                    cases q with
                    | false => exact .inl rfl
                    | true =>
                      cases ft with
                      | false => exact .inr (.inl ⟨rfl, rfl⟩)
                      | true =>
                        by_cases h16 : pv ≤ 16
                        · exact .inr (.inr (.inr ⟨rfl, rfl, h16, fun h => hgood ⟨rfl, rfl, h16, by omega⟩⟩))
                        · exact .inr (.inr (.inl ⟨rfl, rfl, h16⟩))
                  clear hgood
                  obtain ⟨jd, hjd⟩ : ∃ jd, jd = j + dl := ⟨_, rfl⟩
                  rw [← hjd] at s1 key
                  clear hjd
                  rcases key with rfl | ⟨rfl, rfl⟩ | ⟨rfl, rfl, hp16⟩ | ⟨rfl, rfl, hp16, hne⟩
                  · skip
                    have FIN := hide2 (show AnsParse w (((w6.setCell ⟨w.heap.size + 1, 0, none⟩ (.int .i64 pv)).setCell ⟨w.heap.size, 0, none⟩ (.int .i64 0)).setCell ⟨w.heap.size, 1, none⟩ (.slice none 0 0)) s (.returned (.tuple #[.agg #[.int .i64 0, .slice none 0 0], .int .i64 (0 : Int), .int .i64 1])) from ⟨(BF.out.setCell (p := ⟨w.heap.size, 0, none⟩) (Nat.le_refl _) _).setCell (p := ⟨w.heap.size, 1, none⟩) (Nat.le_refl _) _, none, 0, 0, by rw [← EQ.out, LN3.out]; rfl, by rw [← EQ.out, LN3.out]; exact transNil _⟩)
                    obtain ⟨y0, y1⟩ := Box.two (ZF.out.set2 (.int .i64 0) (.slice none 0 0))
                    have f0 := ZF.out.frozen 0
                    have f1 := ZF.out.frozen 1
                    obtain ⟨c0, c1⟩ := Box.two ZF.out
                    go_wp2
                    exact bodyPost_ret (v := .tuple #[.agg #[.int .i64 0, .slice none 0 0], .int .i64 (0 : Int), .int .i64 1]) (by simp [results, Tryd.results7, go_sem, y0, y1]) rfl FIN.out
                  · skip
                    have FIN := hide2 (show AnsParse w (((w6.setCell ⟨w.heap.size + 1, 0, none⟩ (.int .i64 pv)).setCell ⟨w.heap.size, 0, none⟩ (.int .i64 0)).setCell ⟨w.heap.size, 1, none⟩ (.slice none 0 0)) s (.returned (.tuple #[.agg #[.int .i64 0, .slice none 0 0], .int .i64 (0 : Int), .int .i64 1])) from ⟨(BF.out.setCell (p := ⟨w.heap.size, 0, none⟩) (Nat.le_refl _) _).setCell (p := ⟨w.heap.size, 1, none⟩) (Nat.le_refl _) _, none, 0, 0, by rw [← EQ.out, LN3.out]; rfl, by rw [← EQ.out, LN3.out]; exact transNil _⟩)
                    obtain ⟨y0, y1⟩ := Box.two (ZF.out.set2 (.int .i64 0) (.slice none 0 0))
                    have f0 := ZF.out.frozen 0
                    have f1 := ZF.out.frozen 1
                    obtain ⟨c0, c1⟩ := Box.two ZF.out
                    go_wp2
                    exact bodyPost_ret (v := .tuple #[.agg #[.int .i64 0, .slice none 0 0], .int .i64 (0 : Int), .int .i64 1]) (by simp [results, Tryd.results7, go_sem, y0, y1]) rfl FIN.out
                  · skip
                    have hp17 : decide (pv ≤ 16) = false := by simpa using hp16
                    have FIN := hide2 (show AnsParse w (((w6.setCell ⟨w.heap.size + 1, 0, none⟩ (.int .i64 pv)).setCell ⟨w.heap.size, 0, none⟩ (.int .i64 0)).setCell ⟨w.heap.size, 1, none⟩ (.slice none 0 0)) s (.returned (.tuple #[.agg #[.int .i64 0, .slice none 0 0], .int .i64 (0 : Int), .int .i64 1])) from ⟨(BF.out.setCell (p := ⟨w.heap.size, 0, none⟩) (Nat.le_refl _) _).setCell (p := ⟨w.heap.size, 1, none⟩) (Nat.le_refl _) _, none, 0, 0, by rw [← EQ.out, LN3.out]; rfl, by rw [← EQ.out, LN3.out]; exact transNil _⟩)
                    obtain ⟨y0, y1⟩ := Box.two (ZF.out.set2 (.int .i64 0) (.slice none 0 0))
                    have f0 := ZF.out.frozen 0
                    have f1 := ZF.out.frozen 1
                    obtain ⟨c0, c1⟩ := Box.two ZF.out
                    go_wp2
                    exact bodyPost_ret (v := .tuple #[.agg #[.int .i64 0, .slice none 0 0], .int .i64 (0 : Int), .int .i64 1]) (by simp [results, Tryd.results7, go_sem, y0, y1]) rfl FIN.out
                  · have hn1 : ((jd : Int) == (e : Int)) = false := by simp; omega
                    have hn2 : ¬ (jd : Int) = (e : Int) := by omega
                    have hn3 : (jd == e) = false := by simpa using hne
                    have FIN := hide2 (show AnsParse w (((w6.setCell ⟨w.heap.size + 1, 0, none⟩ (.int .i64 pv)).setCell ⟨w.heap.size, 0, none⟩ (.int .i64 0)).setCell ⟨w.heap.size, 1, none⟩ (.slice none 0 0)) s (.returned (.tuple #[.agg #[.int .i64 0, .slice none 0 0], .int .i64 (0 : Int), .int .i64 1])) from ⟨(BF.out.setCell (p := ⟨w.heap.size, 0, none⟩) (Nat.le_refl _) _).setCell (p := ⟨w.heap.size, 1, none⟩) (Nat.le_refl _) _, none, 0, 0, by rw [← EQ.out, LN3.out]; rfl, by rw [← EQ.out, LN3.out]; exact transNil _⟩)
                    obtain ⟨y0, y1⟩ := Box.two (ZF.out.set2 (.int .i64 0) (.slice none 0 0))
                    have f0 := ZF.out.frozen 0
                    have f1 := ZF.out.frozen 1
                    obtain ⟨c0, c1⟩ := Box.two ZF.out
                    go_wp2
                    exact bodyPost_ret (v := .tuple #[.agg #[.int .i64 0, .slice none 0 0], .int .i64 (0 : Int), .int .i64 1]) (by simp [results, Tryd.results7, go_sem, y0, y1]) rfl FIN.out
              · have hkp : 0 < k := by omega
                have hk1 : ((k : Int) == 0) = false := by simp; omega
                have hk2 : ¬ (k : Int) = 0 := by omega
                have hk3 : (k == 0) = false := by simp; omega
                have LN2 := hide2 (show leftT s f k P ts = (match tranR P l with
                    | some t => leftT s (f + L + 1) (k + 1) P (ts ++ [t])
                    | none => noT k) by rw [LN.out, if_neg hk24, if_neg hk0])
                have hex : (⟨s.toArray⟩ : ByteArray).extract f e = ⟨l.toArray⟩ := by
                  rw [ext_bytes, show e - f = L by have := HE.out; omega, LL.out.2]
                have hl2 : l.length ≤ 1100000 := by have := HS.out; have := LL.out.1; have := HL.out.1; omega
                have hf0 : (0 : Int) ≤ (f : Int) := by omega
                have hfe2 : (f : Int) ≤ (e : Int) := by omega
                have hel3 : (e : Int) ≤ (s.length : Int) := by omega
                clear hk0 hk24 hkp
                go_upto_region 18 with fail
                have D4 := hide2 (show Below wr.heap.size wr (wr.alloc (.cells #[.int .i64 0, .slice none 0 0, .slice none 0 0] 44)) from (Below.refl _ _).alloc (Nat.le_refl _) _)
                have X4 := hide2 (Box.new wr #[.int .i64 0, .slice none 0 0, .slice none 0 0] 44)
                have BX := hide2 (show w.heap.size + 1 < wr.heap.size from Box.lt NR.out)
                generalize wr.alloc (.cells #[.int .i64 0, .slice none 0 0, .slice none 0 0] 44) = w4 at *
                have B4 := hide2 (BR.out.trans (D4.out.mono BR.out.size))
                have Z4 := hide2 (ZR.out.keep D4.out)
                have N4 := hide2 (NR.out.keep D4.out)
                have O4 := hide2 (OR.out.keep (OwnTranR.kept _) D4.out)
                have T4 := hide2 (show Tabs B w4.drew from TT.out.keep ((B4.out.drew).mono TT.out.1))
                have SD := hide2 (otran_calls (w := w4.drew) (s := l) (P := P) (by omega) T4.out hP)
                have SX := hide2 (show wr.heap.size < w4.heap.size from Box.lt X4.out)
                have hxn : (w.heap.size + 1 : Nat) ≠ wr.heap.size := by have := BX.out; omega
                obtain ⟨n0, n1⟩ := N4.out.two
                have xc := X4.out.three
                have x0 := xc.1
                have x1 := xc.2.1
                have x2 := xc.2.2
                have fx0 := X4.out.frozen 0
                have fx1 := X4.out.frozen 1
                have fx2 := X4.out.frozen 2
                clear xc
                cases htr : tranR P l with
                | none =>
                  have HTR := hide2 htr
                  have LN3 := hide2 (show leftT s f k P ts = noT k by rw [LN2.out, htr])
                  clear htr
                  go_region_held3 (fun w' => w'.cell? ⟨w.heap.size + 1, 0, none⟩ = some (.int .i64 (P : Int))) (first | go_keep | (first | exact cell_far3 hxn m0)) (first | (go_at_call 24; (with_reducible refine SD.out.mono ?_); rintro e5 w5 ⟨hb, ⟨_, _, _, h1, _⟩ | ⟨_, lq, A3, m3, c3, A4, m4, c4, he⟩⟩; (exact absurd (HTR.out.symm.trans h1) (by intro e; cases e)); subst he; have hb4 : Below w4.heap.size w4 w5 := ⟨hb.os, hb.tape, hb.output, hb.size, hb.block⟩; have D6 := hide2 (D4.out.trans (hb4.mono D4.out.size)); have X6 := hide2 (X4.out.keep hb4); have m0 := keepC hb4 n0; clear hb hb4 SD; have xc := X6.out.three; have x0 := xc.1; have x1 := xc.2.1; have x2 := xc.2.2; have fx0 := X6.out.frozen 0; have fx1 := X6.out.frozen 1; have fx2 := X6.out.frozen 2; clear xc))
                  have D7 := hide2 (show Below wr.heap.size wr (((w5.setCell ⟨wr.heap.size, 0, none⟩ (.int .i64 lq)).setCell ⟨wr.heap.size, 1, none⟩ (.slice A3 m3 c3)).setCell ⟨wr.heap.size, 2, none⟩ (.slice A4 m4 c4)) from ((D6.out.setCell (p := ⟨wr.heap.size, 0, none⟩) (Nat.le_refl _) _).setCell (p := ⟨wr.heap.size, 1, none⟩) (Nat.le_refl _) _).setCell (p := ⟨wr.heap.size, 2, none⟩) (Nat.le_refl _) _)
                  have X7 := hide2 (X6.out.set3 (.int .i64 lq) (.slice A3 m3 c3) (.slice A4 m4 c4))
                  clear m0 n0 n1 x0 x1 x2 fx0 fx1 fx2 X6 D6
                  generalize ((w5.setCell ⟨wr.heap.size, 0, none⟩ (.int .i64 lq)).setCell ⟨wr.heap.size, 1, none⟩ (.slice A3 m3 c3)).setCell ⟨wr.heap.size, 2, none⟩ (.slice A4 m4 c4) = w7 at *
                  have B7 := hide2 (BR.out.trans (D7.out.mono BR.out.size))
                  have Z7 := hide2 (ZR.out.keep D7.out)
                  have N7 := hide2 (NR.out.keep D7.out)
                  have O7 := hide2 (ownAny (OR.out.keep (OwnTranR.kept _) D7.out))
                  have RD7 := hide2 (show Reads (fun (_ : World) (_ : Nat → Value) (_ : PTran) => True) 3 w7 [.int .i64 lq, .slice A3 m3 c3, .slice A4 m4 c4] [⟨0, [], []⟩] from Reads.tran trivial)
                  have S7 := hide2 (show w1.heap.size ≤ w7.heap.size by have := SZ.out; have := BX.out; have := D7.out.size; omega)
                  have hts := HT.out
                  obtain ⟨x0, x1, x2⟩ := X7.out.three
                  obtain ⟨n0, n1⟩ := N7.out.two
                  go_upto_region 20 with (at_builtin; refine wpList_appNew (v := .slice A ts.length c) tyTrans rfl _ _ rfl [⟨0, [], []⟩] #[.int .i64 lq, .slice A3 m3 c3, .slice A4 m4 c4] rfl rfl (by first | rfl | simp) rfl (by simp [Value.oneCell']) O7.out RD7.out rfl (Below.refl w1.heap.size w7) S7.out (by omega) (by omega) (fun _ _ _ _ _ => trivial) ?_; intro vn w8 own8 hg8 hb8; obtain ⟨Cn, cn, hvn, _⟩ := own8.sl (by omega); subst hvn; have B8 := hide2 (B7.out.trans (hb8.mono (by have := SZ.out; omega))); have Z8 := hide2 (Z7.out.keepB hb8 (by have := SZ.out; omega)); have N8 := hide2 (N7.out.keepB hb8 (by have := SZ.out; omega)); clear own8 hg8 hb8 n0 n1 x0 x1 x2; have d1 := N8.out.cell 1; have g1 := N8.out.frozen 1; simp only [List.getElem?_toArray, List.getElem?_cons_succ, List.getElem?_cons_zero] at d1)
                  have gN := grownSet w8 (w.heap.size + 1) 1 (.slice Cn (ts.length + 1) cn)
                  have BF := hide2 (B8.out.grown gN (by have := Box.lt Z8.out; omega) (fun k hk => by injection hk with hk; omega))
                  have ZF := hide2 (Z8.out.grown gN (fun e => by injection e; omega))
                  clear gN d1 g1
                  generalize w8.setCell ⟨w.heap.size + 1, 1, none⟩ (.slice Cn (ts.length + 1) cn) = w9 at *
                  have FIN := hide2 (show AnsParse w ((w9.setCell ⟨w.heap.size, 0, none⟩ (.int .i64 0)).setCell ⟨w.heap.size, 1, none⟩ (.slice none 0 0)) s (.returned (.tuple #[.agg #[.int .i64 0, .slice none 0 0], .int .i64 (k : Int), .int .i64 1])) from ⟨(BF.out.setCell (p := ⟨w.heap.size, 0, none⟩) (Nat.le_refl _) _).setCell (p := ⟨w.heap.size, 1, none⟩) (Nat.le_refl _) _, none, 0, 0, by rw [← EQ.out, LN3.out]; rfl, by rw [← EQ.out, LN3.out]; exact transNil _⟩)
                  obtain ⟨y0, y1⟩ := Box.two (ZF.out.set2 (.int .i64 0) (.slice none 0 0))
                  have f0 := ZF.out.frozen 0
                  have f1 := ZF.out.frozen 1
                  obtain ⟨c0, c1⟩ := Box.two ZF.out
                  go_wp2
                  exact bodyPost_ret (v := .tuple #[.agg #[.int .i64 0, .slice none 0 0], .int .i64 (k : Int), .int .i64 1]) (by simp [results, Tryd.results7, go_sem, y0, y1]) rfl FIN.out
                | some t =>
                  have HTR := hide2 htr
                  have EQ2 := hide2 (show leftT s (f + L + 1) (k + 1) P (ts ++ [t]) = parseT s by rw [← EQ.out, LN2.out, htr])
                  clear htr
                  go_region_held3 (fun w' => w'.cell? ⟨w.heap.size + 1, 0, none⟩ = some (.int .i64 (P : Int))) (first | go_keep | (first | exact cell_far3 hxn m0)) (first | (go_at_call 24; (with_reducible refine SD.out.mono ?_); rintro e5 w5 ⟨hb, ⟨t', A3, A4, h1, he, o3, o4⟩ | ⟨h1, _⟩⟩; rotate_left; (exact absurd (HTR.out.symm.trans h1) (by intro e; cases e)); (have h1 := HTR.out.symm.trans h1); injection h1 with h1; subst h1; subst he; have O3 := hide2 o3; have O4 := hide2 o4; have hb4 : Below w4.heap.size w4 w5 := ⟨hb.os, hb.tape, hb.output, hb.size, hb.block⟩; have D6 := hide2 (D4.out.trans (hb4.mono D4.out.size)); have X6 := hide2 (X4.out.keep hb4); have m0 := keepC hb4 n0; clear hb hb4 SD o3 o4; have xc := X6.out.three; have x0 := xc.1; have x1 := xc.2.1; have x2 := xc.2.2; have fx0 := X6.out.frozen 0; have fx1 := X6.out.frozen 1; have fx2 := X6.out.frozen 2; clear xc))
                  have D7 := hide2 (show Below wr.heap.size wr (((w5.setCell ⟨wr.heap.size, 0, none⟩ (.int .i64 t.label)).setCell ⟨wr.heap.size, 1, none⟩ (.slice (some ⟨A3, 0, none⟩) P P)).setCell ⟨wr.heap.size, 2, none⟩ (.slice (some ⟨A4, 0, none⟩) P P)) from ((D6.out.setCell (p := ⟨wr.heap.size, 0, none⟩) (Nat.le_refl _) _).setCell (p := ⟨wr.heap.size, 1, none⟩) (Nat.le_refl _) _).setCell (p := ⟨wr.heap.size, 2, none⟩) (Nat.le_refl _) _)
                  have X7 := hide2 (X6.out.set3 (.int .i64 t.label) (.slice (some ⟨A3, 0, none⟩) P P) (.slice (some ⟨A4, 0, none⟩) P P))
                  have gX := (grownSet w5 wr.heap.size 0 (.int .i64 t.label)).trans ((grownSet _ wr.heap.size 1 (.slice (some ⟨A3, 0, none⟩) P P)).trans (grownSet _ wr.heap.size 2 (.slice (some ⟨A4, 0, none⟩) P P)))
                  have O3 := hide2 (ownKeepS O3.out gX SX.out)
                  have O4 := hide2 (ownKeepS O4.out gX SX.out)
                  clear m0 n0 n1 x0 x1 x2 fx0 fx1 fx2 X6 D6 gX
                  generalize ((w5.setCell ⟨wr.heap.size, 0, none⟩ (.int .i64 t.label)).setCell ⟨wr.heap.size, 1, none⟩ (.slice (some ⟨A3, 0, none⟩) P P)).setCell ⟨wr.heap.size, 2, none⟩ (.slice (some ⟨A4, 0, none⟩) P P) = w7 at *
                  have B7 := hide2 (BR.out.trans (D7.out.mono BR.out.size))
                  have Z7 := hide2 (ZR.out.keep D7.out)
                  have N7 := hide2 (NR.out.keep D7.out)
                  have O7 := hide2 (OR.out.keep (OwnTranR.kept _) D7.out)
                  have SW := hide2 (show w1.heap.size ≤ w4.drew.heap.size by show w1.heap.size ≤ w4.heap.size; have := SZ.out; have := BX.out; have := SX.out; omega)
                  have RD7 := hide2 (show OwnTranR w1.heap.size w7 (fun j => [Value.int .i64 t.label, .slice (some ⟨A3, 0, none⟩) P P, .slice (some ⟨A4, 0, none⟩) P P].getD j undef) t from ⟨rfl, P, P, OwnSl.base O3.out SW.out, OwnSl.base O4.out SW.out, by omega, by omega⟩)
                  have KP7 := hide2 (keepTran O7.out)
                  have S7 := hide2 (show w1.heap.size ≤ w7.heap.size by have := SZ.out; have := BX.out; have := D7.out.size; omega)
                  have hts := HT.out
                  obtain ⟨x0, x1, x2⟩ := X7.out.three
                  obtain ⟨n0, n1⟩ := N7.out.two
                  clear O3 O4
                  go_upto_region 20 with (at_builtin; refine wpList_appNew (v := .slice A ts.length c) tyTrans rfl _ _ rfl [t] #[.int .i64 t.label, .slice (some ⟨A3, 0, none⟩) P P, .slice (some ⟨A4, 0, none⟩) P P] rfl rfl (by first | rfl | simp) rfl (by simp [Value.oneCell']) O7.out (Reads.tran RD7.out) rfl (Below.refl w1.heap.size w7) S7.out (by omega) (by omega) KP7.out ?_; intro vn w8 own8 hg8 hb8; obtain ⟨Cn, cn, hvn, _⟩ := own8.sl (by omega); subst hvn; have B8 := hide2 (B7.out.trans (hb8.mono (by have := SZ.out; omega))); have Z8 := hide2 (Z7.out.keepB hb8 (by have := SZ.out; omega)); have N8 := hide2 (N7.out.keepB hb8 (by have := SZ.out; omega)); have O8 := hide2 own8; clear own8 hg8 hb8 n0 n1 x0 x1 x2; have d1 := N8.out.cell 1; have g1 := N8.out.frozen 1; simp only [List.getElem?_toArray, List.getElem?_cons_succ, List.getElem?_cons_zero] at d1)
                  have gN := grownSet w8 (w.heap.size + 1) 1 (.slice Cn (ts.length + 1) cn)
                  have BF := hide2 (B8.out.grown gN (by have := Box.lt Z8.out; omega) (fun k hk => by injection hk with hk; omega))
                  have ZF := hide2 (Z8.out.grown gN (fun e => by injection e; omega))
                  have NF := hide2 (show Box (w8.setCell ⟨w.heap.size + 1, 1, none⟩ (.slice Cn (ts.length + 1) cn)) (w.heap.size + 1) 24 #[.int .i64 (P : Int), .slice Cn (ts.length + 1) cn] from N8.out.set 1 _)
                  have OF := (turnedEnd O8.out (g0 := w.heap.size + 1) (by have := SZ.out; omega) (j := 1) (u := .slice Cn (ts.length + 1) cn))
                  clear gN d1 g1
                  generalize w8.setCell ⟨w.heap.size + 1, 1, none⟩ (.slice Cn (ts.length + 1) cn) = w9 at *
                  have NF := hide2 (show Box w9 (w.heap.size + 1) 24 #[.int .i64 (P : Int), .slice Cn (ts ++ [t]).length cn] by rw [List.length_append]; exact NF.out)
                  have OF := hide2 (show OwnSl (OwnTranR w1.heap.size) 3 w9 w1.heap.size 44 (.slice Cn (ts ++ [t]).length cn) (ts ++ [t]).length (ts ++ [t]) by rw [List.length_append]; exact OF.out)
                  have G9 := hide2 (show s.length - (f + L) < g1 ∧ (s.length - (f + L)) + (f + L + 1) = s.length + 1 ∧ f + L + 1 ≤ s.length from by have := GK.out; have := HL.out.1; exact ⟨by omega, by omega, by omega⟩)
                  have hsb := HS.out
                  have HTS := hide2 (show (ts ++ [t]).length ≤ k + 1 by rw [List.length_append]; simp; omega)
                  go_wp2
                  go_roundg (s.length - (f + L))
                  case measure => exact G9.out.1
                  case rel => exact ⟨k + 1, f + L + 1, P, Cn, cn, ts ++ [t], by go_num, (by rw [HE.out]; go_num), G9.out.2.1, G9.out.2.2, by omega, hP, HTS.out, fun h => by omega, EQ2, BF, ZF, NF, OF⟩
end Go.Proofs.YtcgdjpelcfofgaaDoor
