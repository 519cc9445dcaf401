/- The contracts of tracks.number, pair, and of sorted at both types: what is in a set, in order. Conditions: the labels are 1 to 26. -/
import Derived.Test.YtnfppolgaeibeaaTrkD
import Derived.Test.YtnfppolgaeibeaaChoE
namespace Go.Proofs.Ytnfppolgaeibeaa
open Go.RowKit Go.Maps

abbrev NumH := { x : Int // okI x }
instance : Inhabited NumH := ⟨⟨1, by decide, by decide⟩⟩
def encN (x : NumH) : Value := .int .i64 x.1
def cmpN (x y : NumH) : Int := x.1 - y.1
theorem swoN : Sort.SWO (ltOf cmpN) where
  irrefl := fun x => decide_eq_false (by unfold cmpN; omega)
  trans := fun x y z h g => decide_eq_true (by have := of_decide_eq_true h; have := of_decide_eq_true g; unfold cmpN at *; omega)
  ntrans := fun x y z h g => decide_eq_false (by have := of_decide_eq_false h; have := of_decide_eq_false g; unfold cmpN at *; omega)
set_option maxRecDepth 100000 in
theorem number_calls (w : World) (x y : Int) (hx : okI x) (hy : okI y) : Calls Try.prog 81 #[.int .i64 x, .int .i64 y] w fun e w' => e = .returned (.int .i64 (x - y)) ∧ w = w' := by
  have hw : IntKind.i64.wrap (x - y) = x - y := by unfold okI at *; simp [IntKind.wrap, IntKind.bits, IntKind.signed]; omega
  go_enter Try.func81, Try.ntmps81
  go_wp2
  go_ret
  exact ⟨ret_int (by first | rfl | exact hw), rfl⟩
set_option maxHeartbeats 1000000 in
theorem sortNum_calls {w : World} {B n : Nat} {v : Value} {xs : List Int} (h : OwnInts w B v n xs) (hok : ∀ x ∈ xs, okI x) (hn : n ≤ 17592186044416) :
    Calls Try.prog 116 #[v, .func (.func 81) #[] #[]] w fun e w' => e = .returned (.tuple #[]) ∧ ∃ ys, ys.Perm xs ∧ ys.Pairwise (fun a b => ¬ b < a) ∧ OwnInts w' B v n ys ∧ w.grownBy w' v.ownBlock := by
  have hl := h.len
  have o1 := h.row
  rcases o1.2 with ⟨rfl, h0⟩ | ⟨g, cap, cur, rfl, hg, hb, h1, h2, h3, h4⟩
  · obtain rfl : n = 0 := by simpa using h0
    have hx : xs = [] := List.eq_nil_of_length_eq_zero hl
    subst hx
    refine (slices_SortFunc_none_f116 (α := Nat) none 0 _ w).mono ?_
    rintro e w' ⟨rfl, rfl⟩
    exact ⟨rfl, [], .refl _, .nil, h, World.grownBy.refl _ _⟩
  · obtain ⟨ds, dl, dp⟩ := pick (α := NumH) (P := fun i x => xs[i]? = some x.1) n (fun i hi => by
      have hx : xs[i]? = some (xs[i]'(by omega)) := List.getElem?_eq_getElem _
      exact ⟨⟨_, hok _ (List.getElem_mem (by omega))⟩, hx⟩)
    have exs : xs = ds.map (·.1) := by
      apply List.ext_getElem?
      intro i
      rw [List.getElem?_map]
      cases hd : ds[i]? with
      | none =>
        have : ds.length ≤ i := by simpa using hd
        rw [List.getElem?_eq_none (by omega)]
        rfl
      | some x => rw [dp i x hd]; rfl
    subst dl
    have ecells : xs.map (Value.int .i64) = ds.map encN := by rw [exs, List.map_map]; rfl
    have hcmp : CmpLays1 Try.prog 81 #[] encN cmpN g 0 ds.toArray.size w := by
      intro m os dk hdk x y
      refine (number_calls _ x.1 y.1 x.2 y.2).mono ?_
      rintro e w' ⟨rfl, rfl⟩
      exact ⟨rfl, 0, #[], by simp [World.drewN]⟩
    refine (slices_SortFunc_f116 (α := NumH) encN (fun x => rfl) cmpN swoN 81 #[] g 0 cap ds.toArray w (fun args w => by kernel_rfl) hcmp (holds_sw hb (by rw [← ecells]; simpa using h4)) (Array.getElem?_eq_some_iff.1 hb).1 (by simp; omega)).mono ?_
    rintro e w' ⟨rfl, d', q, os, hp, hs, rfl⟩
    obtain ⟨hsz, _, hperm⟩ := hp
    have hsz' : d'.size = ds.length := by simpa using hsz
    have hp2 : d'.toList.Perm ds := by
      have e1 : (d'.extract 0 ds.toArray.size).toList = d'.toList := by simp [← hsz']
      have e2 : (ds.toArray.extract 0 ds.toArray.size).toList = ds := by simp
      rw [e1, e2] at hperm
      exact hperm
    refine ⟨rfl, d'.toList.map (·.1), ?_, ?_, ?_, grownBy_sw _ _ _ _⟩
    · rw [exs]; exact hp2.map _
    · rw [List.pairwise_map, List.pairwise_iff_getElem]
      intro i j hi hj hij
      have := hs i j (Nat.zero_le _) hij (by simp at hj; simp; omega)
      have hi' : i < d'.size := by simpa using hi
      have hj' : j < d'.size := by simpa using hj
      rw [getElem!_pos d' i hi', getElem!_pos d' j hj'] at this
      unfold ltOf cmpN at this
      have := of_decide_eq_false this
      simp only [Array.getElem_toList]
      omega
    · have row := ownsRow_sw (enc := encN) (w := w) (n := q) (os := os) (ts := d'.toList) (m := ds.length) (base := B) (by simp [hsz']) hg hb h1 h2 h3
      rw [show d'.toList.toArray = d' from by simp] at row
      refine OwnInts.of_row ?_
      rw [List.map_map]
      exact row

set_option maxRecDepth 100000 in
set_option maxHeartbeats 2000000 in
theorem sortedI_calls {w : World} {b : Nat} {S : List Int} (h : SetI w b S) (hl : S.length ≤ 10000) :
    Calls Try.prog 80 #[.map (some b), .func (.func 81) #[] #[]] w fun e w' => ∃ v n xs, e = .returned v ∧ OwnInts w' w.heap.size v n xs ∧ n ≤ 10000 ∧ (xs.Pairwise (· < ·) ∧ ∀ x, x ∈ xs ↔ x ∈ S) ∧ Below w.heap.size w w' := by
  obtain ⟨h0, D, m, h1, hm, hs, h2⟩ := h
  have hbl := h1.lt
  have H0 := hide2 h0
  have H2 := hide2 h2
  have SZ := hide2 hs
  clear h0 h2 hs
  go_enter Try.func80, Try.ntmps80
  go_wp2_with (at_range; refine wpList_range_own _ rfl _ 132 rfl 3 _ keyI.law Try.underlying132 unitElem b m D rfl h1 ?_; intro w0 hrg0 hg0 hs0)
  go_frame
  go_loopw [5] (fun u5 wr => ∃ (left : Lit → Bool) (cnt n : Nat) (ss : List Int), wr.ranges Try.prog 3 unitElem b w.heap.size m D left cnt ∧ Hid (ss.length + cnt ≤ Maps.size D) ∧ Hid (ColD 3 kkI D left S ss) ∧ Hid (OwnInts wr w.heap.size u5 n ss) ∧ Hid (Below w.heap.size w wr)) (fun _ wr => wr.rangeLeft b w.heap.size)
  case atStart => exact ⟨_, _, 0, [], hrg0, by show 0 + _ ≤ _; omega, ColD.start D S, OwnSl.nil, (Below.refl _ _).grown hg0 (Nat.le_refl _) (fun j hj => by cases hj)⟩
  case round =>
    obtain ⟨left, cnt, n, ss, hrg, hcs, hC, hO, hB⟩ := hrel
    go_wp2_with (at_next; refine wpList_next_ranges _ rfl _ rfl 3 keyI.law unitElem (fun v => v) (fun v => v) (fun key kl hk => ⟨key, rfl⟩) (fun v y hv => ⟨v, rfl⟩) b w.heap.size m D left cnt rfl hrg ?_ ?_)
    · intro hc0 hl0
      obtain ⟨nd, mem⟩ := hC.out.fin keyI H0.out H2.out hl0
      have ND := hide2 nd
      have ME := hide2 mem
      have hn : n ≤ 10000 := by have := hcs.out; have := SZ.out; rw [← hO.out.len]; omega
      clear nd mem hl0
      go_wp2_with fail
      refine (sortNum_calls hO.out (fun x hx => H0.out x ((ME.out x).1 hx)) (by omega)).mono ?_
      rintro e w' ⟨rfl, ys, hp, hso, own, hg⟩
      have OY := hide2 own
      have BY := hide2 (hB.out.grown hg hB.out.size (fun k e => (hO.out.lt k e).1))
      have FY := hide2 (show ys.Pairwise (· < ·) ∧ ∀ x, x ∈ ys ↔ x ∈ S from ⟨(List.Pairwise.and hso (hp.nodup_iff.2 ND.out)).imp (fun {a b} ⟨e1, e2⟩ => by omega), fun x => (hp.mem_iff).trans (ME.out x)⟩)
      clear own hg hp hso
      go_wp2
      go_ret
      exact ⟨_, n, ys, rfl, OY.out, hn, FY.out, BY.out⟩
    · intro x c kl yd yp w2 cnt2 hkey hlk hv hat hrg2 hlt hg2 hs2 hen
      obtain ⟨z, hz, ekl⟩ := (H2.out x kl hkey).1 (has_true_of_atKey hat)
      subst ekl
      have hok := H0.out z hz
      obtain rfl : x = .int .i64 z := keyI.law.inj hkey (keyI.key z hok)
      obtain ⟨rfl, _⟩ := unitElem_inv hv
      have hCn := hide2 (hC.out.step keyI hz hok hlk)
      have hO2 := hide2 (OwnSl.kept hO.out hg2 (by
        have := row_ne_iter (Exists.choose_spec hO.out).1 hrg
        exact .inr (fun e => this e.symm)) (fun _ _ h => h))
      have hB2 := hide2 (hB.out.grown hg2 hB.out.size (fun k e => by cases e; exact Nat.le_refl _))
      have RG := hide2 hrg2
      have LTC := hide2 hlt
      have HLE := hide2 hrg.left_eq
      have hn : n ≤ 10000 := by have := hcs.out; have := SZ.out; rw [← hO.out.len]; omega
      clear hs2 hkey hlk hv hat hrg2 hg2 hrg hlt hz
      go_wp2_with (at_builtin; refine wpList_appInt rfl _ _ rfl rfl rfl rfl hO2.out hB2.out hB2.out.size (by omega) ?_; intro v8 w8 own8 hg8 hb8; have O8 := hide2 own8; have E8 := hide2 hb8; have R8 := hide2 (RG.out.kept hg8 (row_ne_low (Exists.choose_spec hO2.out).1 hbl) (row_ne_iter (Exists.choose_spec hO2.out).1 RG.out)); clear own8 hg8 hb8)
      go_roundw
      case rel => exact ⟨_, cnt2, n + 1, ss ++ [z], R8.out, by have h1 := hcs.out; have h2 := LTC.out; show (ss ++ [z]).length + cnt2 ≤ _; simp; omega, hCn, O8, E8⟩
      case measure => rw [R8.out.left_eq, HLE.out]; exact LTC.out
end Go.Proofs.Ytnfppolgaeibeaa
