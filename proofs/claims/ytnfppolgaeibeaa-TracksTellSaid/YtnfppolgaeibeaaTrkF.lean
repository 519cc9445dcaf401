/- The contracts of tracks.pair and of sorted at pairs. Conditions: the labels are 1 to 26. -/
import Derived.Test.YtnfppolgaeibeaaTrkE
import Derived.Test.YtnfppolgaeibeaaMarkE
import Derived.Test.YtnfppolgaeibeaaNetD
namespace Go.Proofs.Ytnfppolgaeibeaa
open Go.RowKit Go.Maps
open Go.Sort (flatK get_flatK size_flatK HoldsK)

/-- A pair in memory. -/
def PairR : World → (Nat → Value) → Int × Int → Prop := fun _ vs p => vs 0 = .int .i64 p.1 ∧ vs 1 = .int .i64 p.2
theorem PairR.kept : Kept PairR := fun _ _ _ _ _ h => h
theorem PairR.good : Good PairR 2 where
  kept := PairR.kept
  one := fun w vs x h j hj => by
    match j, hj with
    | 0, _ => rw [h.1]; rfl
    | 1, _ => rw [h.2]; rfl
  pos := by omega
abbrev Pairs (w : World) (A : Option Addr) (n c : Nat) (ps : List (Int × Int)) : Prop := Sl PairR 2 w A n c ps
theorem tyPairs : SlTy 55 137 2 16 := SlTy.mk' (z := .agg #[.int .i64 0, .int .i64 0]) Try.underlying55 (by kernel_rfl) rfl (by decide)
abbrev OwnPairs (w : World) (B : Nat) (v : Value) (n : Nat) (ps : List (Int × Int)) : Prop := OwnSl PairR 2 w B 137 v n ps
theorem Reads.pair {w : World} (p : Int × Int) : Reads PairR 2 w [.int .i64 p.1, .int .i64 p.2] [p] :=
  Reads.one (vs := fun j => match j with | 0 => .int .i64 p.1 | _ => .int .i64 p.2) ⟨rfl, rfl⟩ rfl (fun j hj => by
    match j, hj with
    | 0, _ => rfl
    | 1, _ => rfl)
theorem ints_box2 {w : World} {b ty : Nat} {x y : Int} (h : Box w b ty #[.int .i64 x, .int .i64 y]) : Ints w (some ⟨b, 0, none⟩) 2 2 [x, y] :=
  ⟨rfl, Nat.le_refl _, by simp [maxLen], by omega, fun e => (by cases e), fun _ => ⟨b, 0, rfl, h.lt, fun i z hz => ⟨fun _ => .int .i64 z, fun j hj => by
    obtain rfl : j = 0 := by omega
    match i, hz with
    | 0, hz => simp only [List.getElem?_cons_zero, Option.some.injEq] at hz; subst hz; exact h.cell 0
    | 1, hz => simp only [List.getElem?_cons_succ, List.getElem?_cons_zero, Option.some.injEq] at hz; subst hz; exact h.cell 1
    | i + 2, hz => simp at hz, rfl⟩⟩⟩

set_option maxRecDepth 100000 in
set_option maxHeartbeats 1000000 in
theorem pair_calls (w : World) (a b c d : Int) :
    Calls Try.prog 83 #[.agg #[.int .i64 a, .int .i64 b], .agg #[.int .i64 c, .int .i64 d]] w fun e w' => e = .returned (.int .i64 (cmpL [a, b] [c, d])) ∧
      ∃ q, w' = ((w.alloc (.cells #[.int .i64 a, .int .i64 b] 137)).alloc (.cells #[.int .i64 c, .int .i64 d] 137)).drewN q := by
  generalize hw0 : (w.alloc (.cells #[.int .i64 a, .int .i64 b] 137)).alloc (.cells #[.int .i64 c, .int .i64 d] 137) = w0
  have X0 := hide2 (show Box w0 w.heap.size 137 #[.int .i64 a, .int .i64 b] by rw [← hw0]; exact (Box.new _ _ _).old _)
  have X1 := hide2 (show Box w0 (w.heap.size + 1) 137 #[.int .i64 c, .int .i64 d] by rw [← hw0]; exact Box.newAt (by simp) _ _)
  have CM := hide2 (fun q => compare_calls (ints_box2 (X0.out.drewN q)) (ints_box2 (X1.out.drewN q)))
  obtain ⟨x0, x1⟩ := X0.out.two
  obtain ⟨y0, y1⟩ := X1.out.two
  go_enter Try.func83, Try.ntmps83
  go_upto_region 1 with fail
  clear hw0
  go_quiet ((go_at_call 118; exact quietCall (CM.out _)))
  go_wp2
  go_ret
  exact ⟨rfl, _, rfl⟩

/-! ### sorting -/
abbrev PairH := { p : Int × Int // okP p }
instance : Inhabited PairH := ⟨⟨(1, 1), ⟨by decide, by decide⟩, ⟨by decide, by decide⟩⟩⟩
def encQ (x : PairH) : List Value := [.int .i64 x.1.1, .int .i64 x.1.2]
def cmpQ (x y : PairH) : Int := cmpL [x.1.1, x.1.2] [y.1.1, y.1.2]
theorem swoQ : Sort.SWO (ltOf cmpQ) where
  irrefl := fun x => decide_eq_false (by rw [cmpQ, cmpL_self]; omega)
  trans := fun x y z h g => decide_eq_true (cmpL_trans _ _ _ (of_decide_eq_true h) (of_decide_eq_true g))
  ntrans := fun x y z h g => decide_eq_false (cmpL_ntrans _ _ _ (of_decide_eq_false h) (of_decide_eq_false g))
theorem pair_of_cmp {p q : Int × Int} (h : ¬ cmpL [q.1, q.2] [p.1, p.2] < 0) (hne : p ≠ q) : pairLt p q := by
  unfold pairLt
  simp only [cmpL] at h
  have hne2 : p.1 ≠ q.1 ∨ p.2 ≠ q.2 := by
    by_cases e : p.1 = q.1
    · right
      intro e2
      exact hne (Prod.ext e e2)
    · exact .inl e
  split at h
  · omega
  · split at h
    · omega
    · split at h
      · omega
      · split at h
        · omega
        · omega
section
open Go.Sort
theorem ownsRow_swK {w : World} {base g cap n m size : Nat} {e : TypeId} {os : Array Obj} {cur : Array Value} {ts : List Value} (hl : ts.length = m * size) (hbase : base ≤ g) (hb : w.heap[g]? = some (.cells cur e (0, 0)))
    (h1 : m ≤ cap) (h2 : cap ≤ maxLen) (h3 : cur.size = cap * size) :
    (sortWorld id w g 0 n ts.toArray os).ownsRow base e size (.slice (some ⟨g, 0, none⟩) m cap) m ts := by
  refine ⟨hl, .inr ⟨g, cap, _, rfl, hbase, heap_sw _ hb, h1, h2, by simp [putCells, h3], ?_⟩⟩
  have := take_sw (enc := id) cur ts (by rw [hl, h3]; exact Nat.mul_le_mul_right _ h1)
  rw [hl, List.map_id] at this
  exact this
end
theorem flat_get {d : Array PairH} {i j : Nat} (hi : i < d.size) (hj : j < 2) : (flatK encQ 2 d).toList[i * 2 + j]? = some (encQ d[i])[j]! := by
  have ht : i * 2 + j < d.size * 2 := by omega
  have h1 := get_flatK encQ 2 d (i * 2 + j) ht
  rw [show (i * 2 + j) / 2 = i by omega, show (i * 2 + j) % 2 = j by omega, getElem!_pos d i hi] at h1
  rw [Array.getElem?_toList, ← h1, getElem!_pos _ _ (by simp; omega), Array.getElem?_eq_getElem]
theorem reads_flat (w : World) (d : Array PairH) : Reads PairR 2 w (flatK encQ 2 d).toList (d.toList.map (·.1)) := by
  refine ⟨by simp, fun i x hx => ?_⟩
  rw [List.getElem?_map] at hx
  obtain ⟨z, hz, rfl⟩ := Option.map_eq_some_iff.1 hx
  have hi : i < d.size := by
    have := (List.getElem?_eq_some_iff.1 hz).1
    simpa using this
  have ez : d[i] = z := by
    rw [Array.getElem?_toList, Array.getElem?_eq_getElem hi] at hz
    injection hz
  refine ⟨fun j => (encQ z)[j]!, fun j hj => ?_, rfl, rfl⟩
  rw [flat_get hi hj, ez]

set_option maxHeartbeats 2000000 in
theorem sortPair_calls {w : World} {B n : Nat} {v : Value} {xs : List (Int × Int)} (h : OwnPairs w B v n xs) (hok : ∀ x ∈ xs, okP x) (hn : n ≤ 17592186044416) :
    Calls Try.prog 117 #[v, .func (.func 83) #[] #[]] w fun e w' => e = .returned (.tuple #[]) ∧ ∃ ys, ys.Perm xs ∧ ys.Pairwise (fun p q => ¬ cmpL [q.1, q.2] [p.1, p.2] < 0) ∧ OwnPairs w' B v n ys ∧ w.grownBy w' v.ownBlock := by
  obtain ⟨cells, o1, o2, o3⟩ := h
  rcases o1.2 with ⟨rfl, h0⟩ | ⟨g, cap, cur, rfl, hg, hb, h1, h2, h3, h4⟩
  · obtain rfl : n = 0 := by simpa using h0
    have hx : xs = [] := List.eq_nil_of_length_eq_zero o3
    subst hx
    refine (slices_SortFunc_none_f117 (α := Nat) none 0 _ w).mono ?_
    rintro e w' ⟨rfl, rfl⟩
    exact ⟨rfl, [], .refl _, .nil, ⟨cells, o1, o2, o3⟩, World.grownBy.refl _ _⟩
  · obtain ⟨ds, dl, dp⟩ := pick (α := PairH) (P := fun i x => xs[i]? = some x.1) n (fun i hi => by
      have hx : xs[i]? = some (xs[i]'(by omega)) := List.getElem?_eq_getElem _
      exact ⟨⟨_, hok _ (List.getElem_mem (by omega))⟩, hx⟩)
    have exs : xs = ds.map (·.1) := by
      apply List.ext_getElem?
      intro i
      rw [List.getElem?_map]
      cases hd : ds[i]? with
      | none =>
        have : ds.length ≤ i := by simpa using hd
        rw [List.getElem?_eq_none (by omega)]
        rfl
      | some x => rw [dp i x hd]; rfl
    subst dl
    have ecells : cells = (flatK encQ 2 ds.toArray).toList := by
      apply List.ext_getElem?
      intro t
      by_cases ht : t < ds.length * 2
      · obtain ⟨i, j, rfl, hj⟩ : ∃ i j, t = i * 2 + j ∧ j < 2 := ⟨t / 2, t % 2, by omega, by omega⟩
        have hi : i < ds.length := by omega
        have hx := dp i _ (List.getElem?_eq_getElem hi)
        obtain ⟨vs, a1, a2, a3⟩ := o2.2 i _ hx
        rw [a1 j hj, flat_get (by simpa using hi) hj]
        match j, hj with
        | 0, _ => rw [a2]; rfl
        | 1, _ => rw [a3]; rfl
      · rw [List.getElem?_eq_none (by rw [o1.1]; omega), List.getElem?_eq_none (by simp; omega)]
    have hcmp : CmpLays Try.prog 83 #[] encQ 2 cmpQ g 0 ds.toArray.size w := by
      intro m os dk hdk x y
      refine (pair_calls _ x.1.1 x.1.2 y.1.1 y.1.2).mono ?_
      rintro e w' ⟨rfl, q, rfl⟩
      refine ⟨rfl, q, #[.cells #[.int .i64 x.1.1, .int .i64 x.1.2] 137, .cells #[.int .i64 y.1.1, .int .i64 y.1.2] 137], ?_⟩
      rw [Sort.alloc_eq_grow, Sort.alloc_eq_grow, Sort.grow_grow]
      rfl
    have hH : HoldsK encQ 2 w g 0 ds.toArray := by
      have := holds_sw (enc := (id : Value → Value)) (w := w) (g := g) (ss := (flatK encQ 2 ds.toArray).toList) hb (by rw [← ecells, List.map_id, o1.1]; exact h4)
      rw [show (flatK encQ 2 ds.toArray).toList.toArray = flatK encQ 2 ds.toArray from by simp] at this
      exact this
    refine (slices_SortFunc (α := PairH) 2 (fun w => by kernel_rfl) (fun w => by kernel_rfl) encQ (fun x => rfl) (fun x v hv => by
      rcases List.mem_cons.1 hv with rfl | hv
      · rfl
      · rw [List.mem_singleton.1 hv]; rfl) cmpQ swoQ 83 #[] g 0 cap ds.toArray w (fun args w => by kernel_rfl) hcmp hH (Array.getElem?_eq_some_iff.1 hb).1 (by simp; omega)).mono ?_
    rintro e w' ⟨rfl, d', q, os, hp, hs, rfl⟩
    obtain ⟨hsz, _, hperm⟩ := hp
    have hsz' : d'.size = ds.length := by simpa using hsz
    have hp2 : d'.toList.Perm ds := by
      have e1 : (d'.extract 0 ds.toArray.size).toList = d'.toList := by simp [← hsz']
      have e2 : (ds.toArray.extract 0 ds.toArray.size).toList = ds := by simp
      rw [e1, e2] at hperm
      exact hperm
    refine ⟨rfl, d'.toList.map (·.1), ?_, ?_, ?_, grownBy_sw (enc := (id : Value → Value)) g q (flatK encQ 2 d') os⟩
    · rw [exs]; exact hp2.map _
    · rw [List.pairwise_map, List.pairwise_iff_getElem]
      intro i j hi hj hij
      have := hs i j (Nat.zero_le _) hij (by simp at hj; simp; omega)
      have hi' : i < d'.size := by simpa using hi
      have hj' : j < d'.size := by simpa using hj
      rw [getElem!_pos d' i hi', getElem!_pos d' j hj'] at this
      unfold ltOf cmpQ at this
      have := of_decide_eq_false this
      simpa using this
    · have row := ownsRow_swK (w := w) (n := q) (os := os) (ts := (flatK encQ 2 d').toList) (m := ds.length) (size := 2) (base := B) (by simp [hsz']) hg hb h1 h2 h3
      rw [show (flatK encQ 2 d').toList.toArray = flatK encQ 2 d' from by simp] at row
      exact ⟨_, row, reads_flat _ d', by simp [hsz']⟩

set_option maxRecDepth 100000 in
set_option maxHeartbeats 2000000 in
theorem sortedP_calls {w : World} {b : Nat} {S : List (Int × Int)} (h : SetP w b S) (hl : S.length ≤ 10000) :
    Calls Try.prog 82 #[.map (some b), .func (.func 83) #[] #[]] w fun e w' => ∃ v n xs, e = .returned v ∧ OwnPairs w' w.heap.size v n xs ∧ n ≤ 10000 ∧ (xs.Pairwise pairLt ∧ ∀ x, x ∈ xs ↔ x ∈ S) ∧ Below w.heap.size w w' := by
  obtain ⟨h0, D, m, h1, hm, hs, h2⟩ := h
  have hbl := h1.lt
  have H0 := hide2 h0
  have H2 := hide2 h2
  have SZ := hide2 hs
  clear h0 h2 hs
  go_enter Try.func82, Try.ntmps82
  go_wp2_with (at_range; refine wpList_range_own _ rfl _ 134 rfl 137 _ keyP.law Try.underlying134 unitElem b m D rfl h1 ?_; intro w0 hrg0 hg0 hs0)
  go_frame
  go_loopw [5] (fun u5 wr => ∃ (left : Lit → Bool) (cnt n : Nat) (ss : List (Int × Int)), wr.ranges Try.prog 137 unitElem b w.heap.size m D left cnt ∧ Hid (ss.length + cnt ≤ Maps.size D) ∧ Hid (ColD 137 kkP D left S ss) ∧ Hid (OwnPairs wr w.heap.size u5 n ss) ∧ Hid (Below w.heap.size w wr)) (fun _ wr => wr.rangeLeft b w.heap.size)
  case atStart => exact ⟨_, _, 0, [], hrg0, by show 0 + _ ≤ _; omega, ColD.start D S, OwnSl.nil, (Below.refl _ _).grown hg0 (Nat.le_refl _) (fun j hj => by cases hj)⟩
  case round =>
    obtain ⟨left, cnt, n, ss, hrg, hcs, hC, hO, hB⟩ := hrel
    go_wp2_with (at_next; refine wpList_next_ranges _ rfl _ rfl 137 keyP.law unitElem (fun v => v) (fun v => v) (fun key kl hk => ⟨key, rfl⟩) (fun v y hv => ⟨v, rfl⟩) b w.heap.size m D left cnt rfl hrg ?_ ?_)
    · intro hc0 hl0
      obtain ⟨nd, mem⟩ := hC.out.fin keyP H0.out H2.out hl0
      have ND := hide2 nd
      have ME := hide2 mem
      have hn : n ≤ 10000 := by have := hcs.out; have := SZ.out; rw [← hO.out.len]; omega
      clear nd mem hl0
      go_wp2_with fail
      refine (sortPair_calls hO.out (fun x hx => H0.out x ((ME.out x).1 hx)) (by omega)).mono ?_
      rintro e w' ⟨rfl, ys, hp, hso, own, hg⟩
      have OY := hide2 own
      have BY := hide2 (hB.out.grown hg hB.out.size (fun k e => (hO.out.lt k e).1))
      have FY := hide2 (show ys.Pairwise pairLt ∧ ∀ x, x ∈ ys ↔ x ∈ S from ⟨(List.Pairwise.and hso (hp.nodup_iff.2 ND.out)).imp (fun {a b} ⟨e1, e2⟩ => pair_of_cmp e1 e2), fun x => (hp.mem_iff).trans (ME.out x)⟩)
      clear own hg hp hso
      go_wp2
      go_ret
      exact ⟨_, n, ys, rfl, OY.out, hn, FY.out, BY.out⟩
    · intro x c kl yd yp w2 cnt2 hkey hlk hv hat hrg2 hlt hg2 hs2 hen
      obtain ⟨z, hz, ekl⟩ := (H2.out x kl hkey).1 (has_true_of_atKey hat)
      subst ekl
      have hok := H0.out z hz
      obtain rfl : x = .agg #[.int .i64 z.1, .int .i64 z.2] := keyP.law.inj hkey (keyP.key z hok)
      obtain ⟨rfl, _⟩ := unitElem_inv hv
      have hCn := hide2 (hC.out.step keyP hz hok hlk)
      have hO2 := hide2 (OwnSl.kept hO.out hg2 (by
        have := row_ne_iter (Exists.choose_spec hO.out).1 hrg
        exact .inr (fun e => this e.symm)) (fun _ _ h => h))
      have hB2 := hide2 (hB.out.grown hg2 hB.out.size (fun k e => by cases e; exact Nat.le_refl _))
      have bb := boxBelow w2 (.cells #[.int .i64 z.1, .int .i64 z.2] 137)
      have RG := hide2 (hrg2.alloc (.cells #[.int .i64 z.1, .int .i64 z.2] 137))
      have XB := hide2 (Box.new w2 #[.int .i64 z.1, .int .i64 z.2] 137)
      have O3 := hide2 (OwnSl.keep PairR.kept hO2.out bb)
      have B3 := hide2 (hB2.out.trans (bb.mono hB2.out.size))
      have LTC := hide2 hlt
      have HLE := hide2 hrg.left_eq
      have hn : n ≤ 10000 := by have := hcs.out; have := SZ.out; rw [← hO.out.len]; omega
      clear hs2 hkey hlk hv hat hrg2 hg2 hrg hlt hz bb
      go_upto_region 5 with fail
      generalize w2.alloc (.cells #[.int .i64 z.1, .int .i64 z.2] 137) = w3 at *
      obtain ⟨z0, z1⟩ := XB.out.two
      go_wp2_with (at_builtin; refine wpList_appNew (v := u5) tyPairs rfl _ _ rfl [z] #[.int .i64 z.1, .int .i64 z.2] rfl rfl rfl rfl (by simp [Value.oneCell']) O3.out (Reads.pair z) rfl B3.out B3.out.size (by omega) (by omega) (fun _ _ _ _ h => h) ?_; intro v8 w8 own8 hg8 hb8; have O8 := hide2 own8; have E8 := hide2 hb8; have R8 := hide2 (RG.out.kept hg8 (row_ne_low (Exists.choose_spec O3.out).1 hbl) (row_ne_iter (Exists.choose_spec O3.out).1 RG.out)); clear own8 hg8 hb8)
      go_roundw
      case rel => exact ⟨_, cnt2, n + 1, ss ++ [z], R8.out, by have h1 := hcs.out; have h2 := LTC.out; show (ss ++ [z]).length + cnt2 ≤ _; simp; omega, hCn, O8, E8⟩
      case measure => rw [R8.out.left_eq, HLE.out]; exact LTC.out
end Go.Proofs.Ytnfppolgaeibeaa
