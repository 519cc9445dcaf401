/- slices.DeleteFunc and CompactFunc on rows of lists. Conditions: the row is the call's own, as its lists are. | slices.Grow, Concat and CompactFunc on rows of lists; jset. Conditions: the rows are the call's own, as their lists are. | jset: a row of lists sorted, each once, none too long. Conditions: the row is the call's own, as its lists are. -/
import Derived.Test.YtniolbbhjibobaaDoorBlocksListK33
import Derived.Test.YtniolbbhjibobaaDoorBlocksListK34
import Derived.Test.YtniolbbhjibobaaDoorBlocksListK10
import Derived.Test.YtniolbbhjibobaaDoorBlocksListK07
import Derived.Test.YtniolbbhjibobaaDoorBlocksListK05
import Derived.Deep.DeepCutAuto
import Derived.Test.YtniolbbhjibobaaDoorBlocksListK35
set_option linter.all false
namespace Go.Proofs.YtniolbbhjibobaaDoor
open Go.RowKit

/-- What DeleteFunc and its kin answer on a row of lists of the call's own. -/
def AnsRowG (w0 : World) (B : Nat) (w : World) (g : Nat) (L : List (List Int)) (e : Ending) (w' : World) : Prop := ∃ k c', e = .returned (.slice (some ⟨g, 0, none⟩) k c') ∧ RowL w' B w0.heap.size (.slice (some ⟨g, 0, none⟩) k c') k L ∧ w.grownBy w' (some g)

set_option maxRecDepth 100000 in
set_option maxHeartbeats 4000000 in
theorem deleteL_calls {w0 w : World} {B g n cap : Nat} {L : List (List Int)} {F : FuncId} {cv : Array Value} {p : List Int → Bool} (own : RowL w B w0.heap.size (.slice (some ⟨g, 0, none⟩) n cap) n L) (hn : n ≤ 5864062014805) (hp : IsPredG F cv w g p) :
    Calls Tryd.prog 36 #[.slice (some ⟨g, 0, none⟩) n cap, .func (.func F) #[] cv] w (AnsRowG w0 B w g (L.filter fun a => !p a)) := by
  have henter := hp.enters
  have HP := hide2 hp
  have OW := hide2 own
  have hl := hide2 (show L.length = n from OwnSl.len own)
  clear own hp
  rcases first_orJ p L with h1 | ⟨k, x, hx, hpx, lo⟩
  · have FN := hide2 (filter_noneJ h1)
    have IX := hide2 (show idxFirst p L = -1 from idxFirst_none (fun j hj y hy => h1 j y hy))
    obtain ⟨A1, c1, e1, LS⟩ := OW.out.lists hn
    injection e1 with e1 _ e2
    subst e1 e2
    clear h1
    go_enter Tryd.func36, Tryd.ntmps36
    go_wp2_with (refine (indexLists_calls LS HP.out.toL).mono ?_; rintro e w1 ⟨rfl, b1⟩; rw [IX.out]; have B1 := hide2 b1; clear b1)
    go_ret
    rw [FN.out]
    exact ⟨n, cap, rfl, OW.out.keep B1.out, gnone2 B1.out _⟩
  · have IX := hide2 (show idxFirst p L = (k : Int) from idxFirst_some lo hx hpx)
    have DI := hide2 (DelJ.start hx hpx lo)
    have hkn : k < n := by have := (List.getElem?_eq_some_iff.1 hx).1; have := hl.out; omega
    have hk0 : ((k : Int) == -1) = false := by simp
    obtain ⟨A1, c1, e1, LS⟩ := OW.out.lists hn
    injection e1 with e1 _ e2
    subst e1 e2
    clear lo hx hpx
    go_enter Tryd.func36, Tryd.ntmps36
    go_wp2_with (refine (indexLists_calls LS HP.out.toL).mono ?_; rintro e w1 ⟨rfl, b1⟩; rw [IX.out]; have G1 := hide2 (show w.grownBy w1 (some g) from ⟨b1.os, b1.tape, b1.output, b1.size, fun k hk _ => b1.block k hk⟩); have O1 := hide2 (OW.out.keep b1); clear b1)
    clear OW hk0 LS
    go_loopw [5, 6] (fun u v wr => ∃ i j : Nat, u = .int .i64 i ∧ v = .int .i64 j ∧ i < j ∧ j ≤ n ∧ ∃ M, Hid (RowL wr B w0.heap.size (.slice (some ⟨g, 0, none⟩) n cap) n M) ∧ Hid (DelJ p L M i j) ∧ Hid (w.grownBy wr (some g))) (fun _ v _ => n - (intOf v).toNat)
    case atStart => exact ⟨k, k + 1, rfl, by go_num, by omega, by omega, L, O1, DI, G1⟩
    case round =>
      obtain ⟨i, j, rfl, rfl, hij, hj, M, OL, DL, GR⟩ := hrel
      by_cases hlt : j < n
      · have hji : (j : Int) < (n : Int) := by omega
        have hii : (i : Int) < (n : Int) := by omega
        have hin : i < n := by omega
        have hjl : j < M.length := by have := OL.out.len; omega
        obtain ⟨a, ha⟩ : ∃ a, M[j]? = some a := ⟨_, List.getElem?_eq_getElem hjl⟩
        obtain ⟨AA, am, ac, q0, ia, ham⟩ := OL.out.at ha
        have IA := hide2 ia
        have HM := hide2 ham
        have HA := hide2 (show L[j]? = some a by rw [← DL.out.rest j (Nat.le_refl _)]; exact ha)
        have CL := hide2 (HP.out.calls wr AA am ac a GR.out (RowL.ints ia ham))
        obtain ⟨v, hv⟩ : ∃ v, p a = v := ⟨_, rfl⟩
        have HV := hide2 hv
        rw [hv] at CL
        clear hv ha hjl ia ham
        cases v
        · go_wp2_with (refine CL.out.mono ?_; rintro e u1 ⟨rfl, b1⟩; have G2 := hide2 (GR.out.trans (gnone2 b1 (some g))); have O2 := hide2 (OL.out.keep b1); have IA2 := hide2 (OwnSl.keep IntR.kept IA.out b1); obtain ⟨v0, y0⟩ := Option.isSome_iff_exists.1 (RowL.anyCell O2.out (j := i) (by omega)); have z0 := RowL.frozen O2.out i; clear b1)
          go_roundw
          case rel => exact ⟨i + 1, j + 1, by go_num, by go_num, by omega, by omega, M.set i a, hide2 (RowL.put O2.out i IA2.out HM.out), DL.out.take HA.out HV.out, hide2 (G2.out.trans (grownG _ g i _))⟩
          case measure => simp [intOf]; omega
        · go_wp2_with (refine CL.out.mono ?_; rintro e u1 ⟨rfl, b1⟩; have G2 := hide2 (GR.out.trans (gnone2 b1 (some g))); have O2 := hide2 (OL.out.keep b1); clear b1)
          go_roundw
          case rel => exact ⟨i, j + 1, rfl, by go_num, by omega, by omega, M, O2, DL.out.skip HA.out HV.out, G2⟩
          case measure => simp [intOf]; omega
      · obtain rfl : n = j := by omega
        have hcl := hide2 (fun ty => Lib.run_clear_slice (P := Tryd.prog) wr 25 32 ty (.slice none 0 0) Tryd.underlying25 (fun w => by kernel_rfl) rfl rfl g i (n - i) (cap - i) (by omega) (fun q hq => RowL.anyCell OL.out (by omega)) (fun q hq => RowL.frozen OL.out _))
        obtain ⟨A1, c1, e1, LS⟩ := OL.out.lists hn
        injection e1 with e1 _ e2
        subst e1 e2
        have hcap := LS.le
        have e1 := hcl.out
        have hin1 : (i : Int) ≤ (n : Int) := by omega
        have hin2 : (i : Int) ≤ (cap : Int) := by omega
        have hnc : (n : Int) ≤ (cap : Int) := by omega
        have hc0 : ¬ cap = 0 := by omega
        have hci : ¬ cap = i := by omega
        have hii : i ≤ n := by omega
        have hii2 : i ≤ cap := by omega
        clear LS
        go_wp2
        go_ret
        have FN : M.take i = L.filter fun a => !p a := by
          have := DL.out.kept
          rwa [List.take_of_length_le (l := L) (by rw [hl.out]; exact Nat.le_refl _)] at this
        have := OL.out.cutAt hii (List.replicate (n - i) (.slice none 0 0))
        rw [FN] at this
        exact ⟨i, cap, rfl, this, GR.out.trans (grown_setCells _ _ _ _)⟩
end Go.Proofs.YtniolbbhjibobaaDoor
namespace Go.Proofs.YtniolbbhjibobaaDoor
open Go.RowKit

theorem own_cap {w : World} {B B2 g n cap : Nat} {L : List (List Int)} (h : RowL w B B2 (.slice (some ⟨g, 0, none⟩) n cap) n L) : n ≤ cap := by
  obtain ⟨cells, ⟨h1, h2⟩, _⟩ := h
  rcases h2 with ⟨e, _⟩ | ⟨g', cap', cur, e, hB, hh, hn, _⟩
  · cases e
  · injection e with e1 e2 e3
    omega
theorem infoLst : (Tryd.prog.info? 32).map (fun i => (i.zero, i.size, i.bytes)) = some (some (.slice none 0 0), 1, 24) := by kernel_rfl
def GrowL (n : Nat) (w : World) (e : Ending) (w' : World) : Prop :=
  Below w.heap.size w w' ∧ ((n = 0 ∧ e = .returned (.slice none 0 0)) ∨ ∃ cap, n ≤ cap ∧ e = .returned (.slice (some ⟨w.heap.size, 0, none⟩) 0 cap) ∧ w'.ownsRow w.heap.size 32 1 (.slice (some ⟨w.heap.size, 0, none⟩) 0 cap) 0 [])

set_option maxRecDepth 100000 in
theorem growLists_calls (w : World) (n : Nat) (hn : n ≤ 5864062014805) :
    Calls Tryd.prog 44 #[.slice none 0 0, .int .i64 n] w (GrowL n w) := by
  by_cases h0 : n = 0
  · subst h0
    go_enter Tryd.func44, Tryd.ntmps44
    go_wp2
    go_ret
    exact ⟨Below.refl _ _, .inl ⟨rfl, rfl⟩⟩
  · have hpos : 0 < n := by omega
    obtain ⟨i, hi, hz0, hz1, hz2⟩ := info_parts infoLst
    have hrun := Lib.run_append_nil_zeros (P := Tryd.prog) w 25 3 25 32 i (.slice none 0 0) .i64 .i64 Tryd.underlying25 Tryd.underlying3 hi hz0 n hpos (by omega) (by omega) (by rw [hz2]; omega)
    have hcap := grownCap_ge w n 0 32
    have hcapm := grownCap_le_maxLen w n 0 32 (by simp only [maxLen]; omega)
    obtain ⟨cap, hc⟩ : ∃ cap, grownCap w n 0 32 = cap := ⟨_, rfl⟩
    rw [hc] at hrun hcap hcapm
    obtain ⟨cs, hcs⟩ : ∃ cs, Builtin.zeroCells (Value.slice none 0 0).cells n ++ Builtin.zeroCells (Value.slice none 0 0).cells (cap - n) = cs := ⟨_, rfl⟩
    have hsize : cs.size = cap := by
      rw [← hcs, Array.size_append, zeroCells_size _ rfl, zeroCells_size _ rfl]; omega
    rw [hcs] at hrun
    have HR := hide2 hrun
    have HS := hide2 hsize
    have HM := hide2 hcapm
    clear hrun hc hi hz0 hz1 hz2 hcapm hcs hsize
    go_enter Tryd.func44, Tryd.ntmps44
    go_wp2_with (at_builtin; refine Lib.wpList_append_run _ rfl _ _ _ _ rfl _ _ rfl rfl _ _ HR.out ?_)
    go_ret
    refine ⟨((Below.refl _ _).drew).alloc (Nat.le_refl _) _, .inr ⟨cap, hcap, rfl, ?_⟩⟩
    exact ⟨by simp, .inr ⟨w.heap.size, cap, cs, rfl, Nat.le_refl _, heap_alloc_new w.drew _, Nat.zero_le _, HM.out, by rw [HS.out]; omega, by simp⟩⟩

/-- A new row of lists. -/
def AnsNewL (B n : Nat) (L : List (List Int)) (w : World) (e : Ending) (w' : World) : Prop := ∃ A c, e = .returned (.slice A n c) ∧ RowL w' B w.heap.size (.slice A n c) n L ∧ Below w.heap.size w w'
set_option maxRecDepth 100000 in
set_option maxHeartbeats 1000000 in
theorem concatL_calls {w : World} {g B : Nat} {A1 A2 : Option Addr} {n1 c1 n2 c2 : Nat} {xs ys : List (List Int)} (q0 : w.cell? ⟨g, 0, none⟩ = some (.slice A1 n1 c1)) (q1 : w.cell? ⟨g, 1, none⟩ = some (.slice A2 n2 c2))
    (h1 : Sl (OwnListR B) 1 w A1 n1 c1 xs) (h2 : Sl (OwnListR B) 1 w A2 n2 c2 ys) (hn : n1 + n2 ≤ 5864062014805) :
    Calls Tryd.prog 28 #[.slice (some ⟨g, 0, none⟩) 2 2] w (AnsNewL B (n1 + n2) (xs ++ ys) w) := by
  have hg : g < w.heap.size := World.block_lt_of_cell? w _ q0
  have H1 := hide2 h1
  have H2 := hide2 h2
  clear h1 h2
  go_enter Tryd.func28, Tryd.ntmps28
  go_wp2
  refine wp_loop_rounds 3 ?_
  rw [rounds_succ]
  go_wp2
  rw [rounds_succ]
  go_wp2
  rw [rounds_succ]
  go_wp2_with fail
  rw [show (n1 : Int) + (n2 : Int) = ((n1 + n2 : Nat) : Int) from by omega]
  refine (growLists_calls w (n1 + n2) hn).mono ?_
  rintro e w1 ⟨hb1, ⟨h0, rfl⟩ | ⟨cap, hcap, rfl, own⟩⟩
  · obtain rfl : n1 = 0 := by omega
    obtain rfl : n2 = 0 := by omega
    have e1 := List.eq_nil_of_length_eq_zero H1.out.len
    have e2 := List.eq_nil_of_length_eq_zero H2.out.len
    subst e1 e2
    have q0' := (hb1.cell (p := ⟨g, 0, none⟩) hg).trans q0
    have q1' := (hb1.cell (p := ⟨g, 1, none⟩) hg).trans q1
    rcases A1 with _ | a1 <;> rcases A2 with _ | a2
    all_goals
      go_wp2
      refine wp_loop_rounds 3 ?_
      rw [rounds_succ]
      go_wp2
      rw [rounds_succ]
      go_wp2
      rw [rounds_succ]
      go_wp2
      go_ret
      exact ⟨none, 0, rfl, OwnSl.nil, hb1⟩
  · have q0' := (hb1.cell (p := ⟨g, 0, none⟩) hg).trans q0
    have q1' := (hb1.cell (p := ⟨g, 1, none⟩) hg).trans q1
    have I1 := hide2 (Sl.keep (OwnListR.kept B) H1.out hb1)
    have I2 := hide2 (Sl.keep (OwnListR.kept B) H2.out hb1)
    have HN := hide2 hn
    have HC := hide2 hcap
    have O0 := hide2 (show RowL w1 B w.heap.size (.slice (some ⟨w.heap.size, 0, none⟩) 0 cap) 0 [] from ⟨[], own, Reads.nil, rfl⟩)
    have K0 := hide2 (keepLists O0.out)
    clear own hcap hn
    go_wp2
    refine wp_loop_rounds 3 ?_
    rw [rounds_succ]
    go_wp2_with (at_builtin; refine wpList_appFits tyLists (OwnListR.good B) rfl _ _ rfl rfl rfl O0.out I1.out (by have := HC.out; omega) hb1 hb1.size K0.out ?_; intro w2 own2 hg2 hb2)
    simp only [Nat.zero_add, List.nil_append] at own2
    have hlt : w.heap.size < w1.heap.size := by
      obtain ⟨cells, o, _⟩ := O0.out
      exact (o.lt w.heap.size rfl).2
    have hb12 : ∀ p : Addr, p.block < w.heap.size → w2.cell? p = w1.cell? p := fun p hp => World.cell?_of_block (hg2.block p.block (by omega) (fun e => by injection e with e; omega))
    have q0'' := (hb12 ⟨g, 0, none⟩ hg).trans q0'
    have q1'' := (hb12 ⟨g, 1, none⟩ hg).trans q1'
    have I2' := hide2 (Sl.keep (OwnListR.kept B) H2.out hb2)
    have O1 := hide2 own2
    have K1 := hide2 (keepLists O1.out)
    clear own2 hb12
    go_wp2
    rw [rounds_succ]
    go_wp2_with (at_builtin; refine wpList_appFits tyLists (OwnListR.good B) rfl _ _ rfl rfl rfl O1.out I2'.out (by have := HC.out; omega) hb2 hb2.size K1.out ?_; intro w3 own3 hg3 hb3)
    have O2 := hide2 own3
    clear own3
    go_wp2
    rw [rounds_succ]
    go_wp2
    go_ret
    exact ⟨_, _, rfl, O2.out, hb3⟩

/-! ### CompactFunc -/
/-- k are kept of the first i; what is behind is as it was. -/
structure CompJ (L M : List (List Int)) (k i : Nat) : Prop where
  len : M.length = L.length
  ki : 1 ≤ k ∧ k ≤ i ∧ i ≤ L.length
  asc : Asc (M.take k)
  mem : ∀ w, w ∈ M.take k ↔ w ∈ L.take i
  rest : ∀ q, k ≤ q → M[q]? = L[q]?
section
variable {L M : List (List Int)} {k i : Nat} {x y : List Int}
theorem CompJ.start (h : 1 ≤ L.length) : CompJ L L 1 1 where
  len := rfl
  ki := ⟨Nat.le_refl _, Nat.le_refl _, h⟩
  asc := by
    obtain ⟨a, L', rfl⟩ : ∃ a L', L = a :: L' := by cases L with | nil => simp at h | cons a L' => exact ⟨a, L', rfl⟩
    simp [Asc]
  mem := fun w => Iff.rfl
  rest := fun q _ => rfl
theorem CompJ.same (h : CompJ L M k i) (hx : L[i]? = some x) (hy : L[i - 1]? = some x) : CompJ L M k (i + 1) where
  len := h.len
  ki := ⟨h.ki.1, by have := h.ki; omega, (List.getElem?_eq_some_iff.1 hx).1⟩
  asc := h.asc
  mem := fun w => by
    rw [h.mem, take_snoc hx, List.mem_append, List.mem_singleton]
    refine ⟨.inl, fun hw => hw.elim id (fun e => ?_)⟩
    rw [e]
    exact List.mem_of_getElem? (i := i - 1) (by rw [List.getElem?_take, if_pos (by have := h.ki; omega)]; exact hy)
  rest := h.rest
theorem CompJ.diff (h : CompJ L M k i) (hs : L.Pairwise (fun a b => ¬ cmpW b a < 0)) (hx : L[i]? = some x) (hy : L[i - 1]? = some y) (hne : x ≠ y) : CompJ L (M.set k x) (k + 1) (i + 1) where
  len := by rw [List.length_set]; exact h.len
  ki := ⟨by omega, by have := h.ki; omega, (List.getElem?_eq_some_iff.1 hx).1⟩
  asc := by
    have hi := (List.getElem?_eq_some_iff.1 hx).1
    have hk := h.ki
    rw [take_snoc (x := x) (List.getElem?_set_self (by rw [h.len]; omega)), List.take_set_of_le (Nat.le_refl _)]
    refine List.pairwise_append.2 ⟨h.asc, by simp, fun w hw z hz => ?_⟩
    rw [List.mem_singleton.1 hz]
    obtain ⟨j, hj, ej⟩ := List.getElem_of_mem ((h.mem w).1 hw)
    simp only [List.length_take] at hj
    rw [List.getElem_take] at ej
    have hji : j < i := by omega
    have s1 := List.pairwise_iff_getElem.1 hs j i (by omega) hi hji
    have s2 := List.pairwise_iff_getElem.1 hs (i - 1) i (by omega) hi (by omega)
    rw [(List.getElem?_eq_some_iff.1 hx).2] at s1 s2
    rw [(List.getElem?_eq_some_iff.1 hy).2] at s2
    rw [ej] at s1
    have a1 := cmpW_anti x w
    have a2 := cmpW_anti x y
    have yx : cmpW y x < 0 := by
      have : cmpW x y ≠ 0 := fun e => hne (cmpW_eq e)
      omega
    show cmpW w x < 0
    by_cases e : j = i - 1
    · subst e
      rw [(List.getElem?_eq_some_iff.1 hy).2] at ej
      rw [← ej]; exact yx
    · have s3 := List.pairwise_iff_getElem.1 hs j (i - 1) (by omega) (by omega) (by omega)
      rw [ej, (List.getElem?_eq_some_iff.1 hy).2] at s3
      have a3 := cmpW_anti y w
      by_cases e2 : cmpW w y = 0
      · rw [cmpW_eq e2]; exact yx
      · exact cmpW_trans (by omega) yx
  mem := fun w => by
    have hi := (List.getElem?_eq_some_iff.1 hx).1
    have hk := h.ki
    rw [take_snoc (x := x) (List.getElem?_set_self (by rw [h.len]; omega)), List.take_set_of_le (Nat.le_refl _), take_snoc hx, List.mem_append, List.mem_append, h.mem]
  rest := fun q hq => by
    rw [List.getElem?_set_ne (by omega)]
    exact h.rest q (by omega)
theorem CompJ.keep (h : CompJ L L k k) (hs : L.Pairwise (fun a b => ¬ cmpW b a < 0)) (hx : L[k]? = some x) (hy : L[k - 1]? = some y) (hne : x ≠ y) : CompJ L L (k + 1) (k + 1) := by
  have := h.diff hs hx hy hne
  rwa [show L.set k x = L from by
    apply List.ext_getElem?
    intro j
    rw [List.getElem?_set]
    split
    · rename_i e
      subst e
      split
      · exact hx.symm
      · rename_i h2
        rw [List.getElem?_eq_none (by omega)]
    · rfl] at this
end
/-- Nothing stands behind what is greater. -/
def NdW (L : List (List Int)) : Prop := L.Pairwise (fun a b => ¬ cmpW b a < 0)
/-- Function F tells whether two lists are the same. -/
structure IsEqL (F : FuncId) : Prop where
  enters : ∀ args w, (callFunc F args).run Tryd.prog w = .ok (.enter F args) w
  calls : ∀ (w : World) (A B : Option Addr) (n c m d : Nat) (x y : List Int), Ints w A n c x → Ints w B m d y →
    Calls Tryd.prog F #[.slice A n c, .slice B m d] w fun e w' => e = .returned (.bool (x == y)) ∧ Below w.heap.size w w'

set_option maxRecDepth 100000 in
set_option maxHeartbeats 4000000 in
theorem compactL_calls {w0 w : World} {B g n cap : Nat} {L : List (List Int)} {F : FuncId} (own : RowL w B w0.heap.size (.slice (some ⟨g, 0, none⟩) n cap) n L) (hn : n ≤ 5864062014805) (hs : L.Pairwise (fun a b => ¬ cmpW b a < 0)) (hF : IsEqL F) :
    Calls Tryd.prog 41 #[.slice (some ⟨g, 0, none⟩) n cap, .func (.func F) #[] #[]] w fun e w' => ∃ R, (Asc R ∧ ∀ x, x ∈ R ↔ x ∈ L) ∧ AnsRowG w0 B w g R e w' := by
  have henter := hF.enters
  have HF := hide2 hF
  have OW := hide2 own
  have HS := hide2 (show NdW L from hs)
  have hl := hide2 (show L.length = n from OwnSl.len own)
  clear own hF hs
  have CN := hide2 (own_cap OW.out)
  go_enter Tryd.func41, Tryd.ntmps41
  by_cases h2 : n < 2
  · have h2i : (n : Int) < 2 := by omega
    go_wp2
    go_ret
    refine ⟨L, ⟨?_, fun _ => Iff.rfl⟩, n, cap, rfl, OW.out, World.grownBy.refl _ _⟩
    have := hl.out
    match L, this with
    | [], _ => exact .nil
    | [a], _ => simp [Asc]
    | a :: b :: r, e => simp only [List.length_cons] at e; omega
  · have h2i : ¬ (n : Int) < 2 := by omega
    have C0 := hide2 (CompJ.start (L := L) (by have := hl.out; omega))
    go_wp2
    go_loopw [5] (fun u wr => ∃ k : Nat, u = .int .i64 ((k + 1 : Nat) : Int) ∧ k + 1 ≤ n ∧ Hid (CompJ L L (k + 1) (k + 1)) ∧ Hid (RowL wr B w0.heap.size (.slice (some ⟨g, 0, none⟩) n cap) n L) ∧ Hid (w.grownBy wr (some g))) (fun u _ => n - (intOf u).toNat)
    case atStart => exact ⟨0, by simp, by omega, C0, OW, hide2 (World.grownBy.refl _ _)⟩
    case round =>
      clear C0 OW
      obtain ⟨k, rfl, hk, CJ, OL, GR⟩ := hrel
      by_cases hlt : k + 1 < n
      · have hki : ((k + 1 : Nat) : Int) < (n : Int) := by omega
        have hki0 : ((k : Nat) : Int) < (n : Int) := by omega
        have hw1 : IntKind.i64.wrap (k : Int) = (k : Int) := by simp [IntKind.wrap, IntKind.bits, IntKind.signed]; omega
        have hk01 : 0 ≤ (k : Int) + 1 := by omega
        have hll := hl.out
        obtain ⟨x, hx⟩ : ∃ x, L[k + 1]? = some x := ⟨_, List.getElem?_eq_getElem (by omega)⟩
        obtain ⟨y, hy⟩ : ∃ y, L[k]? = some y := ⟨_, List.getElem?_eq_getElem (by omega)⟩
        have HX := hide2 hx
        have HY := hide2 hy
        have OD := hide2 (OL.out.keep ((Below.refl wr.heap.size wr).drew))
        have GD := hide2 (GR.out.trans (gnone2 ((Below.refl wr.heap.size wr).drew) (some g)))
        obtain ⟨Ax, mx, cx, q1, ix, hmx⟩ := OD.out.at hx
        obtain ⟨Ay, my, cy, q0, iy, hmy⟩ := OD.out.at hy
        have IX := hide2 (RowL.ints ix hmx)
        have IY := hide2 (RowL.ints iy hmy)
        obtain ⟨v, hv⟩ : ∃ v, (x == y) = v := ⟨_, rfl⟩
        have HV := hide2 hv
        have CL := hide2 (HF.out.calls wr.drew Ax Ay mx cx my cy x y IX.out IY.out)
        rw [hv] at CL
        clear hx hy ix iy hmx hmy hv OL GR
        go_upto_region 6 with fail
        refine wp_region_scr 10 (.takes [0, 1, 2, 3, 4, 5, 6, 7, 8, 9] (.fin 10 .done)) (fun w' => w'.cell? ⟨g, k + 1, none⟩ = some (.slice Ax mx cx) ∧ w'.cell? ⟨g, k, none⟩ = some (.slice Ay my cy)) (by kernel_rfl) (by kernel_rfl) (by kernel_rfl) (fun _ _ _ _ _ h => h) ⟨q1, q0⟩ (fun hHeld => ?_)
        simp only [Scr.takes]
        clear q1 q0
        generalize wr.drew = w1 at *
        iterate 10
          refine tkTake (v := ?_) rfl (by rfl) hHeld (fun w' hSw => ?_) ?_
          rotate_left
          · (go_simp; try with_reducible rfl)
          try simp only [Act.put, List.setIfInBounds_toArray, List.set_cons_zero, List.set_cons_succ]
        refine tkEnd rfl (fun Kf hKf => ?_)
        go_simp
        refine CL.out.mono ?_
        rintro e w2 ⟨rfl, hb⟩
        refine hKf.out _ _ ?_
        clear hKf
        try simp only [Act.put, List.setIfInBounds_toArray, List.set_cons_zero, List.set_cons_succ]
        refine tkDone ?_
        have O2 := hide2 (OD.out.keep hb)
        have G2 := hide2 (GD.out.trans (gnone2 hb (some g)))
        clear hb CL OD GD
        cases v
        · have NE := hide2 (show x ≠ y by have := HV.out; simpa using this)
          go_wp2
          go_roundw
          case rel => exact ⟨k + 1, by go_num, by omega, CJ.out.keep HS.out HX.out (by simpa using HY.out) NE.out, O2, G2⟩
          case measure => simp [intOf]; omega
        · have EQ := hide2 (show x = y by have := HV.out; simpa using this)
          have C2 := hide2 (CJ.out.same (x := x) HX.out (by rw [EQ.out]; simpa using HY.out))
          have hcap := CN.out
          have hs1 : ((k + 1 : Nat) : Int) ≤ (n : Int) := by omega
          have hs2 : ((k + 1 : Nat) : Int) ≤ (cap : Int) := by omega
          have hnc : (n : Int) ≤ (cap : Int) := by omega
          clear CJ
          go_wp2
          go_loopw [5, 7] (fun u v wr => ∃ kk q : Nat, u = .int .i64 kk ∧ v = .int .i64 ((q + 1 : Nat) : Int) ∧ k + 1 + (q + 1) ≤ n ∧ kk < k + 1 + (q + 1) ∧ ∃ M, Hid (CompJ L M kk (k + 1 + (q + 1))) ∧ Hid (RowL wr B w0.heap.size (.slice (some ⟨g, 0, none⟩) n cap) n M) ∧ Hid (w.grownBy wr (some g))) (fun _ v _ => n - (intOf v).toNat)
          case atStart => exact ⟨k + 1, 0, rfl, by simp, by omega, by omega, L, C2, O2, G2⟩
          case round =>
            clear C2 O2 G2
            obtain ⟨kk, q, rfl, rfl, hq, hkq, M, CJ, OL, GR⟩ := hrel
            by_cases hlt : k + 1 + (q + 1) < n
            · have hL1 : ((q + 1 : Nat) : Int) < ((n - (k + 1) : Nat) : Int) := by omega
              have hL0 : (q : Int) < ((n - (k + 1) : Nat) : Int) := by omega
              have hw2 : IntKind.i64.wrap (q : Int) = (q : Int) := by simp [IntKind.wrap, IntKind.bits, IntKind.signed]; omega
              have hq01 : 0 ≤ (q : Int) + 1 := by omega
              have hkki : (kk : Int) < (n : Int) := by omega
              have hkkn : kk < n := by omega
              have hll := hl.out
              obtain ⟨x2, hx2⟩ : ∃ x, L[k + 1 + (q + 1)]? = some x := ⟨_, List.getElem?_eq_getElem (by omega)⟩
              obtain ⟨y2, hy2⟩ : ∃ y, L[k + 1 + q]? = some y := ⟨_, List.getElem?_eq_getElem (by omega)⟩
              have HX2 := hide2 hx2
              have HY2 := hide2 hy2
              have hmx2 : M[k + 1 + (q + 1)]? = some x2 := by rw [CJ.out.rest _ (by omega)]; exact hx2
              have hmy2 : M[k + 1 + q]? = some y2 := by rw [CJ.out.rest _ (by omega)]; exact hy2
              have OD := hide2 (OL.out.keep ((Below.refl wr.heap.size wr).drew))
              have GD := hide2 (GR.out.trans (gnone2 ((Below.refl wr.heap.size wr).drew) (some g)))
              obtain ⟨Ax2, mx2, cx2, q1, ix, hmx⟩ := OD.out.at hmx2
              obtain ⟨Ay2, my2, cy2, q0, iy, hmy⟩ := OD.out.at hmy2
              have IX2 := hide2 (RowL.ints ix hmx)
              have IY2 := hide2 (RowL.ints iy hmy)
              have OX2 := hide2 ix
              have HM2 := hide2 hmx
              obtain ⟨v, hv⟩ : ∃ v, (x2 == y2) = v := ⟨_, rfl⟩
              have HV2 := hide2 hv
              have CL := hide2 (HF.out.calls wr.drew Ax2 Ay2 mx2 cx2 my2 cy2 x2 y2 IX2.out IY2.out)
              rw [hv] at CL
              clear hx2 hy2 hmx2 hmy2 ix iy hmx hmy hv OL GR
              go_upto_region 11 with fail
              refine wp_region_scr 10 (.takes [0, 1, 2, 3, 4, 5, 6, 7, 8, 9] (.fin 10 (.fin 11 .done))) (fun w' => w'.cell? ⟨g, k + 1 + (q + 1), none⟩ = some (.slice Ax2 mx2 cx2) ∧ w'.cell? ⟨g, k + 1 + q, none⟩ = some (.slice Ay2 my2 cy2)) (by kernel_rfl) (by kernel_rfl) (by kernel_rfl) (fun _ _ _ _ _ h => h) ⟨q1, q0⟩ (fun hHeld => ?_)
              simp only [Scr.takes]
              clear q1 q0
              generalize wr.drew = w4 at *
              iterate 10
                refine tkTake (v := ?_) rfl (by rfl) hHeld (fun w' hSw => ?_) ?_
                rotate_left
                · (go_simp; try with_reducible rfl)
                try simp only [Act.put, List.setIfInBounds_toArray, List.set_cons_zero, List.set_cons_succ]
              refine tkEnd rfl (fun Kf hKf => ?_)
              go_simp
              refine CL.out.mono ?_
              rintro e w5 ⟨rfl, hb⟩
              refine hKf.out _ _ ?_
              clear hKf
              try simp only [Act.put, List.setIfInBounds_toArray, List.set_cons_zero, List.set_cons_succ]
              refine tkEnd rfl (fun Kf hKf => ?_)
              go_simp
              refine hKf.out _ _ ?_
              clear hKf
              try simp only [Act.put, List.setIfInBounds_toArray, List.set_cons_zero, List.set_cons_succ]
              refine tkDone ?_
              have O5 := hide2 (OD.out.keep hb)
              have G5 := hide2 (GD.out.trans (gnone2 hb (some g)))
              have OX5 := hide2 (OwnSl.keep IntR.kept OX2.out hb)
              have HMX := hide2 (show M[k + 1 + (q + 1)]? = some x2 by rw [CJ.out.rest _ (by omega)]; exact HX2.out)
              obtain ⟨Az, mz, cz, q1, iz, hmz⟩ := O5.out.at HMX.out
              have OZ := hide2 iz
              have HMZ := hide2 hmz
              clear iz hmz hb CL OD GD
              cases v
              · have NE := hide2 (show x2 ≠ y2 by have := HV2.out; simpa using this)
                obtain ⟨v0, y0⟩ := Option.isSome_iff_exists.1 (RowL.anyCell O5.out (j := kk) hkkn)
                have z0 := RowL.frozen O5.out kk
                go_wp2
                go_roundw
                case rel => exact ⟨kk + 1, q + 1, by go_num, by go_num, by omega, by omega, M.set kk x2, CJ.out.diff HS.out HX2.out (by simpa using HY2.out) NE.out, hide2 (RowL.put O5.out kk OZ.out HMZ.out), hide2 (G5.out.trans (grownG _ g kk _))⟩
                case measure => simp [intOf]; omega
              · have EQ2 := hide2 (show x2 = y2 by have := HV2.out; simpa using this)
                go_wp2
                go_roundw
                case rel => exact ⟨kk, q + 1, rfl, by go_num, by omega, by omega, M, CJ.out.same (x := x2) HX2.out (by rw [EQ2.out]; simpa using HY2.out), O5, G5⟩
                case measure => simp [intOf]; omega
            · have hlt2 : ¬ ((q + 1 : Nat) : Int) < ((n - (k + 1) : Nat) : Int) := by omega
              have hcl := hide2 (fun ty => Lib.run_clear_slice (P := Tryd.prog) wr 25 32 ty (.slice none 0 0) Tryd.underlying25 (fun w => by kernel_rfl) rfl rfl g kk (n - kk) (cap - kk) (by omega) (fun q hq => RowL.anyCell OL.out (by omega)) (fun q hq => RowL.frozen OL.out _))
              have e1 := hcl.out
              have hin1 : (kk : Int) ≤ (n : Int) := by omega
              have hin2 : (kk : Int) ≤ (cap : Int) := by omega
              have hc0 : ¬ cap = 0 := by omega
              have hci : ¬ cap = kk := by omega
              have hii : kk ≤ n := by omega
              have hii2 : kk ≤ cap := by omega
              go_wp2
              go_ret
              have := OL.out.cutAt hii (List.replicate (n - kk) (.slice none 0 0))
              have hm := CJ.out.mem
              rw [List.take_of_length_le (l := L) (by rw [hl.out]; omega)] at hm
              exact ⟨M.take kk, ⟨CJ.out.asc, hm⟩, kk, cap, rfl, this, GR.out.trans (grown_setCells _ _ _ _)⟩
      · obtain rfl : n = k + 1 := by omega
        have hki : ¬ ((k + 1 : Nat) : Int) < ((k + 1 : Nat) : Int) := by omega
        go_wp2
        go_ret
        refine ⟨L, ⟨?_, fun _ => Iff.rfl⟩, _, cap, rfl, OL.out, GR.out⟩
        have := CJ.out.asc
        rwa [List.take_of_length_le (by rw [hl.out]; exact Nat.le_refl _)] at this
end Go.Proofs.YtniolbbhjibobaaDoor
namespace Go.Proofs.YtniolbbhjibobaaDoor
open Go.RowKit

/-! ### the three closures -/
theorem long_pred {w : World} {g bt : Nat} {most : Int} (x : Box w bt 3 #[.int .i64 most]) (hne : bt ≠ g) : IsPredG 37 #[.pointer (some ⟨bt, 0, none⟩)] w g (fun y => decide (most < (y.length : Int))) where
  enters := fun args w => by kernel_rfl
  calls := fun wr A n c y hg hi => by
    have x0 := (x.grown hg (by simp; exact fun e => hne e.symm)).cell 0
    simp only [List.getElem?_toArray, List.getElem?_cons_zero] at x0
    have HL := hide2 hi.len
    show Calls Tryd.prog 37 #[.slice A n c, .pointer (some ⟨bt, 0, none⟩)] wr _
    clear hi
    obtain ⟨v, hv⟩ : ∃ v, decide (most < (n : Int)) = v := ⟨_, rfl⟩
    have HV := hide2 hv
    by_cases hm : most < (n : Int)
    · go_enter Tryd.func37, Tryd.ntmps37
      go_wp2
      go_ret
      exact ⟨ret_bool (by rw [HL.out]; simpa using hm), Below.refl _ _⟩
    · go_enter Tryd.func37, Tryd.ntmps37
      go_wp2
      go_ret
      exact ⟨ret_bool (by rw [HL.out]; simpa using hm), Below.refl _ _⟩

set_option maxRecDepth 100000 in
theorem same_eq : IsEqL 42 where
  enters := fun args w => by kernel_rfl
  calls := fun w A B n c m d x y hx hy => by
    obtain ⟨s, hs⟩ : ∃ s, (x == y) = s := ⟨_, rfl⟩
    have HS := hide2 hs
    go_enter Tryd.func42, Tryd.ntmps42
    go_wp2_with (refine (equalInts_calls hx hy).mono ?_; rintro e w1 ⟨rfl, dr⟩; rw [hs]; have B1 := hide2 dr.below; clear dr)
    go_ret
    exact ⟨by rw [HS.out]; rfl, B1.out⟩

/-! ### slices.Compare -/
def cmpJ (x y : Int) : Int := if x < y then -1 else if y < x then 1 else 0
theorem cmpT_cons (x y : Int) (xs ys : List Int) : cmpT (x :: xs) (y :: ys) = if cmpJ x y = 0 then cmpT xs ys else cmpJ x y := by
  rw [cmpT, cmpJ]
  by_cases h1 : x < y
  · rw [if_pos h1, if_pos h1, if_neg (by omega)]
  · rw [if_neg h1, if_neg h1]
    by_cases h2 : y < x
    · rw [if_pos h2, if_pos h2, if_neg (by omega)]
    · rw [if_neg h2, if_neg h2, if_pos rfl]
theorem drop_atT {xs : List Int} {k : Nat} {x : Int} (h : xs[k]? = some x) : xs.drop k = x :: xs.drop (k + 1) := by
  obtain ⟨hk, rfl⟩ := List.getElem?_eq_some_iff.1 h
  exact List.drop_eq_getElem_cons hk
set_option maxRecDepth 100000 in
theorem isNaNT_calls (w : World) (x : Int) : Calls Tryd.prog 66 #[.int .i64 x] w fun e w' => e = .returned (.bool false) ∧ w = w' := by
  go_enter Tryd.func66, Tryd.ntmps66
  go_wp2
  go_ret
  exact ⟨ret_bool (by first | rfl | simp), rfl⟩
set_option maxRecDepth 100000 in
theorem cmpJntT_calls (w : World) (x y : Int) : Calls Tryd.prog 59 #[.int .i64 x, .int .i64 y] w fun e w' => e = .returned (.int .i64 (cmpJ x y)) ∧ w = w' := by
  by_cases h1 : x < y
  · have F := hide2 (show cmpJ x y = -1 by rw [cmpJ, if_pos h1])
    go_enter Tryd.func59, Tryd.ntmps59
    go_wp2_with (first | (refine (isNaNT_calls _ x).mono ?_; rintro e w' ⟨rfl, rfl⟩) | (refine (isNaNT_calls _ y).mono ?_; rintro e w' ⟨rfl, rfl⟩))
    go_ret
    exact ⟨ret_int F.out.symm, rfl⟩
  · by_cases h2 : y < x
    · have F := hide2 (show cmpJ x y = 1 by rw [cmpJ, if_neg h1, if_pos h2])
      go_enter Tryd.func59, Tryd.ntmps59
      go_wp2_with (first | (refine (isNaNT_calls _ x).mono ?_; rintro e w' ⟨rfl, rfl⟩) | (refine (isNaNT_calls _ y).mono ?_; rintro e w' ⟨rfl, rfl⟩))
      go_ret
      exact ⟨ret_int F.out.symm, rfl⟩
    · have F := hide2 (show cmpJ x y = 0 by rw [cmpJ, if_neg h1, if_neg h2])
      go_enter Tryd.func59, Tryd.ntmps59
      go_wp2_with (first | (refine (isNaNT_calls _ x).mono ?_; rintro e w' ⟨rfl, rfl⟩) | (refine (isNaNT_calls _ y).mono ?_; rintro e w' ⟨rfl, rfl⟩))
      go_ret
      exact ⟨ret_int F.out.symm, rfl⟩
set_option maxRecDepth 100000 in
set_option maxHeartbeats 1000000 in
theorem compareT_calls {w : World} {A B : Option Addr} {n c m d : Nat} {xs ys : List Int} (h : Ints w A n c xs) (g : Ints w B m d ys) :
    Calls Tryd.prog 40 #[.slice A n c, .slice B m d] w fun e w' => e = .returned (.int .i64 (cmpT xs ys)) ∧ w = w' := by
  have hn := h.small
  have hm := g.small
  have HL := hide2 h.len
  have GL := hide2 g.len
  have H := hide2 h
  have G := hide2 g
  clear h g
  go_enter Tryd.func40, Tryd.ntmps40
  go_wp2
  go_loop [11] (fun i => ∃ k : Nat, k ≤ n ∧ k ≤ m ∧ i = .int .i64 k ∧ Hid (cmpT xs ys = cmpT (xs.drop k) (ys.drop k))) (fun i => n - (intOf i).toNat)
  case atStart => exact ⟨0, Nat.zero_le _, Nat.zero_le _, rfl, rfl⟩
  case round =>
    obtain ⟨k, hk, hkm, rfl, hlow⟩ := hrel
    by_cases hlt : k < n
    · have hki : (k : Int) < (n : Int) := by omega
      obtain ⟨b, off, x, rfl, hb, hx, hc⟩ := H.out.get hlt
      by_cases hltm : k < m
      · have hkj : (k : Int) < (m : Int) := by omega
        obtain ⟨b', off', y, rfl, hb', hy, hc'⟩ := G.out.get hltm
        have ST := hide2 (show cmpT xs ys = if cmpJ x y = 0 then cmpT (xs.drop (k + 1)) (ys.drop (k + 1)) else cmpJ x y by rw [hlow.out, drop_atT hx.out, drop_atT hy.out, cmpT_cons])
        obtain ⟨z, hz⟩ : ∃ z, cmpJ x y = z := ⟨_, rfl⟩
        have HZ := hide2 hz
        clear hlow hx hy hz
        by_cases hz0 : z = 0
        · subst hz0
          have N1 := hide2 (show cmpT xs ys = cmpT (xs.drop (k + 1)) (ys.drop (k + 1)) by rw [ST.out, if_pos HZ.out])
          go_wp2_with (refine (cmpJntT_calls _ x y).mono ?_; rintro e w' ⟨rfl, rfl⟩; rw [HZ.out])
          go_round
          case rel => exact ⟨k + 1, by omega, by omega, by go_num, N1⟩
          case measure => simp [intOf]; omega
        · have FN := hide2 (show cmpT xs ys = z by rw [ST.out, HZ.out, if_neg hz0])
          have hzb : (z == 0) = false := by simpa using hz0
          go_wp2_with (refine (cmpJntT_calls _ x y).mono ?_; rintro e w' ⟨rfl, rfl⟩; rw [HZ.out])
          go_ret
          exact ⟨ret_int FN.out.symm, rfl⟩
      · obtain rfl : k = m := by omega
        have FN := hide2 (show cmpT xs ys = 1 by rw [hlow.out, drop_atT hx.out, show ys.drop k = [] from List.drop_eq_nil_of_le (by rw [GL.out]; exact Nat.le_refl _)]; rfl)
        clear hlow hx
        go_wp2
        go_ret
        exact ⟨ret_int FN.out.symm, rfl⟩
    · obtain rfl : k = n := by omega
      by_cases hnm : k < m
      · have hki : (k : Int) < (m : Int) := by omega
        obtain ⟨b', off', y, rfl, hb', hy, hc'⟩ := G.out.get hnm
        have FN := hide2 (show cmpT xs ys = -1 by rw [hlow.out, show xs.drop k = [] from List.drop_eq_nil_of_le (by rw [HL.out]; exact Nat.le_refl _), drop_atT hy.out]; rfl)
        clear hlow hy
        go_wp2
        go_ret
        exact ⟨ret_int FN.out.symm, rfl⟩
      · obtain rfl : k = m := by omega
        have FN := hide2 (show cmpT xs ys = 0 by rw [hlow.out, show xs.drop k = [] from List.drop_eq_nil_of_le (by rw [HL.out]; exact Nat.le_refl _), show ys.drop k = [] from List.drop_eq_nil_of_le (by rw [GL.out]; exact Nat.le_refl _)]; rfl)
        clear hlow
        go_wp2
        go_ret
        exact ⟨ret_int FN.out.symm, rfl⟩

set_option maxRecDepth 100000 in
theorem cmpW_calls {w : World} {A B : Option Addr} {n c m d : Nat} {xs ys : List Int} (h : Ints w A n c xs) (g : Ints w B m d ys) (hn : n ≤ 281474976710656) (hm : m ≤ 281474976710656) :
    Calls Tryd.prog 39 #[.slice A n c, .slice B m d] w fun e w' => e = .returned (.int .i64 (cmpW xs ys)) ∧ w = w' := by
  have HL := hide2 h.len
  have GL := hide2 g.len
  have CM := hide2 (compareT_calls h g)
  clear h g
  by_cases hnm : n = m
  · have EQ := hide2 (show cmpW xs ys = cmpT xs ys by unfold cmpW; rw [if_neg (by rw [HL.out, GL.out]; omega)])
    obtain ⟨z, hz⟩ : ∃ z, cmpT xs ys = z := ⟨_, rfl⟩
    have EZ := hide2 (EQ.out.trans hz)
    rw [hz] at CM
    clear hz
    subst hnm
    go_enter Tryd.func39, Tryd.ntmps39
    go_wp2_with (refine CM.out.mono ?_; rintro e w' ⟨rfl, rfl⟩)
    go_ret
    exact ⟨ret_int EZ.out.symm, rfl⟩
  · have EQ := hide2 (show cmpW xs ys = (n : Int) - m by unfold cmpW; rw [HL.out, GL.out, if_pos hnm])
    have hne : ((n : Int) != (m : Int)) = true := by simp; omega
    have hw : IntKind.i64.wrap ((n : Int) - m) = (n : Int) - m := by simp [IntKind.wrap, IntKind.bits, IntKind.signed]; omega
    go_enter Tryd.func39, Tryd.ntmps39
    go_wp2
    go_ret
    exact ⟨ret_int EQ.out.symm, rfl⟩

/-! ### a sorted row, whatever it holds -/
section
open Go.Sort
variable {α : Type} [Inhabited α] {enc : α → Value} {w : World}
theorem grownBy_sw (g n : Nat) (d : Array α) (os : Array Obj) : w.grownBy (sortWorld enc w g 0 n d os) (some g) := by
  refine ⟨rfl, rfl, rfl, by simp [sortWorld], fun k hk hne => ?_⟩
  unfold sortWorld
  rw [heap_grow_old _ _ (by simpa using hk)]
  have : g ≠ k := fun e => hne (by rw [e])
  simp [putRow, mapBlock, Sort.ahead, Array.getElem?_modify, this]
theorem heap_sw {g n : Nat} {os : Array Obj} {cur : Array Value} {e : TypeId} {fr : Nat × Nat} (d : Array α) (hb : w.heap[g]? = some (.cells cur e fr)) :
    (sortWorld enc w g 0 n d os).heap[g]? = some (.cells (putCells enc 0 d cur) e fr) := by
  have hg : g < w.heap.size := (Array.getElem?_eq_some_iff.1 hb).1
  unfold sortWorld
  rw [heap_grow_old _ _ (by simpa using hg)]
  simp [putRow, mapBlock, Sort.ahead, Array.getElem?_modify, hb, onCells]
theorem take_sw (cur : Array Value) (ts : List α) (h : ts.length ≤ cur.size) : (putCells enc 0 ts.toArray cur).toList.take ts.length = ts.map enc := by
  apply List.ext_getElem?
  intro j
  by_cases hj : j < ts.length
  · rw [List.getElem?_take_of_lt hj, Array.getElem?_toList]
    simp [putCells, hj, show j < cur.size by omega]
  · rw [List.getElem?_take_eq_none (by omega), List.getElem?_eq_none (by simp; omega)]
theorem ownsRow_sw {base g cap n m : Nat} {e : TypeId} {os : Array Obj} {cur : Array Value} {ts : List α} (hl : ts.length = m) (hbase : base ≤ g) (hb : w.heap[g]? = some (.cells cur e (0, 0)))
    (h1 : m ≤ cap) (h2 : cap ≤ maxLen) (h3 : cur.size = cap * 1) :
    (sortWorld enc w g 0 n ts.toArray os).ownsRow base e 1 (.slice (some ⟨g, 0, none⟩) m cap) m (ts.map enc) := by
  subst hl
  exact ⟨by simp, .inr ⟨g, cap, _, rfl, hbase, heap_sw _ hb, h1, h2, by simp [putCells, h3], by rw [Nat.mul_one]; exact take_sw cur ts (by omega)⟩⟩
theorem holds_sw {g : Nat} {cur : Array Value} {e : TypeId} {ss : List α} (hb : w.heap[g]? = some (.cells cur e (0, 0))) (ht : cur.toList.take ss.length = ss.map enc) : Holds enc w g 0 ss.toArray := by
  intro j hj
  have hj' : j < ss.length := by simpa using hj
  refine ⟨?_, by simp [World.frozen?, hb]⟩
  have h1 : (cur.toList.take ss.length)[j]? = (ss.map enc)[j]? := by rw [ht]
  rw [List.getElem?_take_of_lt hj'] at h1
  simp only [World.cell?, hb, Nat.zero_add]
  simp only [Option.isSome_none, Bool.false_eq_true, if_false]
  rw [← Array.getElem?_toList, h1]
  simp [hj']
end
/-- One for each. -/
theorem pick {α : Type} {P : Nat → α → Prop} : ∀ (n : Nat), (∀ i, i < n → ∃ x, P i x) → ∃ l : List α, l.length = n ∧ ∀ (i : Nat) (x : α), l[i]? = some x → P i x
  | 0, _ => ⟨[], rfl, fun i x h => by simp at h⟩
  | n + 1, h => by
    obtain ⟨l, hl, hp⟩ := pick n (fun i hi => h i (by omega))
    obtain ⟨x, hx⟩ := h n (by omega)
    refine ⟨l ++ [x], by simp [hl], fun i y hy => ?_⟩
    by_cases hi : i < n
    · rw [List.getElem?_append_left (by omega)] at hy
      exact hp i y hy
    · have hi2 := (List.getElem?_eq_some_iff.1 hy).1
      rw [List.length_append, hl] at hi2
      simp only [List.length_cons, List.length_nil] at hi2
      obtain rfl : i = n := by omega
      rw [List.getElem?_append_right (by omega), hl] at hy
      simp only [Nat.sub_self, List.getElem?_cons_zero, Option.some.injEq] at hy
      rw [← hy]; exact hx

/-! ### rows of lists, sorted -/
/-- A list of the call's own, as it lay in w. -/
abbrev RowH (w : World) (B : Nat) := { x : (Option Addr × Nat × Nat) × List Int // OwnInts w B (.slice x.1.1 x.1.2.1 x.1.2.2) x.1.2.1 x.2 ∧ x.1.2.1 ≤ 17592186043904 }
instance {w : World} {B : Nat} : Inhabited (RowH w B) := ⟨⟨((none, 0, 0), []), OwnSl.nil, Nat.zero_le _⟩⟩
def encR {w : World} {B : Nat} (x : RowH w B) : Value := .slice x.1.1.1 x.1.1.2.1 x.1.1.2.2
def cmpRW {w : World} {B : Nat} (x y : RowH w B) : Int := cmpW x.1.2 y.1.2
theorem swoRW {w : World} {B : Nat} : Sort.SWO (ltOf (cmpRW (w := w) (B := B))) where
  irrefl := fun x => decide_eq_false (by rw [cmpRW, cmpW_self]; omega)
  trans := fun x y z h g => decide_eq_true (cmpW_trans (of_decide_eq_true h) (of_decide_eq_true g))
  ntrans := fun x y z h g => decide_eq_false (cmpW_ntrans (of_decide_eq_false h) (of_decide_eq_false g))

set_option maxHeartbeats 1000000 in
theorem sortW_calls {w : World} {B B2 n : Nat} {v : Value} {L : List (List Int)} (h : RowL w B B2 v n L) (hn : n ≤ 17592186044416) :
    Calls Tryd.prog 38 #[v, .func (.func 39) #[] #[]] w fun e w' => e = .returned (.tuple #[]) ∧
      ∃ M, M.Perm L ∧ M.Pairwise (fun a b => ¬ cmpW b a < 0) ∧ RowL w' B B2 v n M ∧ w.grownBy w' v.ownBlock := by
  obtain ⟨cells, o1, o2, o3⟩ := h
  rcases o1.2 with ⟨rfl, h0⟩ | ⟨g, cap, cur, rfl, hg, hb, h1, h2, h3, h4⟩
  · obtain rfl : n = 0 := by simpa using h0
    have hx : L = [] := List.eq_nil_of_length_eq_zero o3
    subst hx
    refine (slices_SortFunc_none (α := Nat) none 0 _ w).mono ?_
    rintro e w' ⟨rfl, rfl⟩
    exact ⟨rfl, [], .refl _, .nil, ⟨cells, o1, o2, o3⟩, World.grownBy.refl _ _⟩
  · obtain ⟨ds, dl, dp⟩ := pick (α := RowH w B) (P := fun i x => cells[i]? = some (encR x) ∧ L[i]? = some x.1.2) n (fun i hi => by
      have hx : L[i]? = some (L[i]'(by omega)) := List.getElem?_eq_getElem _
      obtain ⟨vs, a1, m, a2, a3⟩ := o2.2 i _ hx
      obtain ⟨A, c, e, _⟩ := a2.sl (by omega)
      have a4 := a1 0 (by omega)
      rw [e] at a2 a4
      rw [Nat.mul_one, Nat.add_zero] at a4
      exact ⟨⟨((A, m, c), _), a2, a3⟩, a4, hx⟩)
    have ecells : cells = ds.map encR := by
      apply List.ext_getElem?
      intro i
      rw [List.getElem?_map]
      cases hd : ds[i]? with
      | none =>
        have : ds.length ≤ i := by simpa using hd
        rw [List.getElem?_eq_none (by have := o1.1; omega)]
        rfl
      | some x => rw [(dp i x hd).1]; rfl
    have eL : L = ds.map (·.1.2) := by
      apply List.ext_getElem?
      intro i
      rw [List.getElem?_map]
      cases hd : ds[i]? with
      | none =>
        have : ds.length ≤ i := by simpa using hd
        rw [List.getElem?_eq_none (by omega)]
        rfl
      | some x => rw [(dp i x hd).2]; rfl
    subst dl
    have hcmp : CmpLays1 Tryd.prog 39 #[] (encR (w := w) (B := B)) cmpRW g 0 ds.toArray.size w := by
      intro m os dk hdk x y
      have hgb := grownBy_sw (enc := encR (w := w) (B := B)) (w := w) g m dk os
      have key : ∀ z : RowH w B, OwnInts (sortWorld encR w g 0 m dk os) B (.slice z.1.1.1 z.1.1.2.1 z.1.1.2.2) z.1.1.2.1 z.1.2 := fun z => by
        obtain ⟨⟨zs, z1, z2, z3⟩, _⟩ := z.2
        refine ⟨zs, z1.kept hgb ?_, z2, z3⟩
        exact own_ne z1 o1 (by decide)
      obtain ⟨A1, c1, e1, i1⟩ := (key x).sl (by have := x.2.2; omega)
      obtain ⟨A2, c2, e2, i2⟩ := (key y).sl (by have := y.2.2; omega)
      injection e1 with f1 _ f2
      injection e2 with f3 _ f4
      rw [← f1, ← f2] at i1
      rw [← f3, ← f4] at i2
      refine (cmpW_calls i1 i2 (by omega) (by omega)).mono ?_
      rintro e w' ⟨rfl, rfl⟩
      exact ⟨rfl, 0, #[], by simp [World.drewN]⟩
    refine (slices_SortFunc (α := RowH w B) encR (fun x => rfl) cmpRW swoRW 39 #[] g 0 cap ds.toArray w (fun args w => by kernel_rfl) hcmp (holds_sw hb (by rw [← ecells]; simpa using h4)) (Array.getElem?_eq_some_iff.1 hb).1 (by simp; omega)).mono ?_
    rintro e w' ⟨rfl, d', q, os, hp, hs, rfl⟩
    obtain ⟨hsz, _, hperm⟩ := hp
    have hsz' : d'.size = ds.length := by simpa using hsz
    have hp2 : d'.toList.Perm ds := by
      have e1 : (d'.extract 0 ds.toArray.size).toList = d'.toList := by simp [← hsz']
      have e2 : (ds.toArray.extract 0 ds.toArray.size).toList = ds := by simp
      rw [e1, e2] at hperm
      exact hperm
    refine ⟨rfl, d'.toList.map (·.1.2), ?_, ?_, ?_, grownBy_sw _ _ _ _⟩
    · rw [eL]; exact hp2.map _
    · rw [List.pairwise_map, List.pairwise_iff_getElem]
      intro i j hi hj hij
      have := hs i j (Nat.zero_le _) hij (by simp at hj; simp; omega)
      have hi' : i < d'.size := by simpa using hi
      have hj' : j < d'.size := by simpa using hj
      rw [getElem!_pos d' i hi', getElem!_pos d' j hj'] at this
      unfold ltOf cmpRW at this
      exact of_decide_eq_false this
    · have row := ownsRow_sw (enc := encR (w := w) (B := B)) (w := w) (n := q) (os := os) (ts := d'.toList) (m := ds.length) (base := B2) (by simp [hsz']) hg hb h1 h2 h3
      have hgb := grownBy_sw (enc := encR (w := w) (B := B)) (w := w) g q d' os
      refine ⟨_, by simpa using row, ⟨by simp, fun i x hx => ?_⟩, by simp [hsz']⟩
      rw [List.getElem?_map] at hx
      obtain ⟨z, hz, rfl⟩ := Option.map_eq_some_iff.1 hx
      obtain ⟨⟨zs, z1, z2, z3⟩, z4⟩ := z.2
      refine ⟨fun _ => encR z, fun j hj => ?_, z.1.1.2.1, ⟨zs, z1.kept hgb (own_ne z1 o1 (by decide)), z2, z3⟩, z4⟩
      obtain rfl : j = 0 := by omega
      rw [Nat.mul_one, Nat.add_zero, List.getElem?_map, hz]; rfl

/-! ### jset -/
set_option maxRecDepth 100000 in
theorem deleteN_calls {w : World} {F : FuncId} {cv : Array Value} {p : List Int → Bool} (hp : IsPredL F cv w p) :
    Calls Tryd.prog 36 #[.slice none 0 0, .func (.func F) #[] cv] w fun e w' => e = .returned (.slice none 0 0) ∧ Below w.heap.size w w' := by
  have henter := hp.enters
  have HP := hide2 hp
  clear hp
  go_enter Tryd.func36, Tryd.ntmps36
  go_wp2_with (refine (indexLists_calls (Sl.nil0 : Lists w none 0 0 []) HP.out).mono ?_; rintro e w1 ⟨rfl, b1⟩; rw [show idxFirst p [] = -1 from rfl]; have B1 := hide2 b1; clear b1)
  go_ret
  exact ⟨rfl, B1.out⟩
set_option maxRecDepth 100000 in
theorem compactN_calls {w : World} {F : FuncId} :
    Calls Tryd.prog 41 #[.slice none 0 0, .func (.func F) #[] #[]] w fun e w' => e = .returned (.slice none 0 0) ∧ w' = w := by
  go_enter Tryd.func41, Tryd.ntmps41
  go_wp2
  go_ret
  exact ⟨rfl, rfl⟩
set_option maxRecDepth 100000 in
set_option maxHeartbeats 1000000 in
theorem jset_calls {w0 w : World} {B g n cap : Nat} {L : List (List Int)} (most : Int) (own : RowL w B w0.heap.size (.slice (some ⟨g, 0, none⟩) n cap) n L) (hn : n ≤ 5864062014805) :
    Calls Tryd.prog 24 #[.slice (some ⟨g, 0, none⟩) n cap, .int .i64 most] w (AnsRowG w0 B w g (jsetL L most)) := by
  have HB := hide2 (boxBelow w (.cells #[.int .i64 most] 3))
  have OW := hide2 (own.keep HB.out)
  have LN := hide2 (show L.length = n from OwnSl.len own)
  have PR := hide2 (long_pred (g := g) (Box.new w #[.int .i64 most] 3) (by have := (OwnSl.lt own g rfl).2; omega))
  clear own
  go_enter Tryd.func24, Tryd.ntmps24
  go_wp2_with fail
  refine (deleteL_calls OW.out (by omega) PR.out).mono ?_
  rintro e w1 ⟨k1, c1, rfl, o1, g1⟩
  have O1 := hide2 o1
  have G1 := hide2 g1
  have K1 := hide2 (show k1 ≤ n by rw [← OwnSl.len o1, ← LN.out]; exact List.length_filter_le _ _)
  clear o1 g1
  go_wp2_with fail
  refine (sortW_calls O1.out (by have := K1.out; omega)).mono ?_
  rintro e w2 ⟨rfl, M, hp, hs, o2, g2⟩
  have O2 := hide2 o2
  have G2 := hide2 (show w1.grownBy w2 (some g) from g2)
  have HPM := hide2 hp
  have HS := hide2 (show NdW M from hs)
  clear o2 g2 hp hs
  go_wp2_with fail
  refine (compactL_calls O2.out (by have := K1.out; omega) HS.out same_eq).mono ?_
  rintro e w3 ⟨R, ⟨ha, hm⟩, k3, c3, rfl, o3, g3⟩
  have O3 := hide2 o3
  have G3 := hide2 ((((gnone2 HB.out (some g)).trans G1.out).trans G2.out).trans g3)
  have EQ := hide2 (show R = jsetL L most from Asc.uniq ha (jsetL_asc _ _) (fun x => by
    rw [hm, HPM.out.mem_iff, jsetL_mem, List.mem_filter]
    simp))
  clear o3 g3 ha hm
  go_wp2
  go_ret
  rw [← EQ.out]
  exact ⟨k3, c3, rfl, O3.out, G3.out⟩
set_option maxRecDepth 100000 in
theorem jsetN_calls (w : World) (most : Int) :
    Calls Tryd.prog 24 #[.slice none 0 0, .int .i64 most] w fun e w' => e = .returned (.slice none 0 0) ∧ Below w.heap.size w w' := by
  have HB := hide2 (boxBelow w (.cells #[.int .i64 most] 3))
  have PR := hide2 (long_pred (g := w.heap.size + 1) (Box.new w #[.int .i64 most] 3) (by omega))
  go_enter Tryd.func24, Tryd.ntmps24
  go_wp2_with fail
  refine (deleteN_calls PR.out.toL).mono ?_
  rintro e w1 ⟨rfl, b1⟩
  have B1 := hide2 (HB.out.trans (b1.mono HB.out.size))
  clear b1
  go_wp2_with fail
  refine (slices_SortFunc_none (α := Nat) none 0 _ w1).mono ?_
  rintro e w2 ⟨rfl, rfl⟩
  go_wp2_with fail
  refine compactN_calls.mono ?_
  rintro e w3 ⟨rfl, rfl⟩
  go_wp2
  go_ret
  exact ⟨rfl, B1.out⟩
/-- What jset answers on any row of lists of the call's own. -/
def AnsJset (w0 : World) (B : Nat) (w : World) (v : Value) (L : List (List Int)) (e : Ending) (w' : World) : Prop := ∃ A k c, e = .returned (.slice A k c) ∧ RowL w' B w0.heap.size (.slice A k c) k L ∧ w.grownBy w' v.ownBlock
theorem jsetA_calls {w0 w : World} {B n : Nat} {v : Value} {L : List (List Int)} (most : Int) (own : RowL w B w0.heap.size v n L) (hn : n ≤ 5864062014805) :
    Calls Tryd.prog 24 #[v, .int .i64 most] w (AnsJset w0 B w v (jsetL L most)) := by
  obtain ⟨cells, o1, o2, o3⟩ := own
  rcases o1.2 with ⟨rfl, h0⟩ | ⟨g, cap, cur, rfl, hg⟩
  · have hx : L = [] := List.eq_nil_of_length_eq_zero (by omega)
    subst hx
    refine (jsetN_calls w most).mono ?_
    rintro e w' ⟨rfl, b⟩
    exact ⟨none, 0, 0, rfl, OwnSl.nil, gnone2 b _⟩
  · refine (jset_calls most ⟨cells, o1, o2, o3⟩ hn).mono ?_
    rintro e w' ⟨k, c, rfl, o, gg⟩
    exact ⟨_, k, c, rfl, o, gg⟩
end Go.Proofs.YtniolbbhjibobaaDoor
