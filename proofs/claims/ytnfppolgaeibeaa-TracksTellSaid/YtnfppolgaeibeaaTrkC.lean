/- The contracts of tracks.Onto and of the reference's VOnto. Conditions: the log and the labels read as lists. -/
import Derived.Test.YtnfppolgaeibeaaTrkA
import Derived.Test.YtnfppolgaeibeaaRowsL
import Derived.Test.YtnfppolgaeibeaaContI
import Derived.Test.YtnfppolgaeibeaaDelF
namespace Go.Proofs.Ytnfppolgaeibeaa
open Go.RowKit

theorem onto_len (log : List (List Int)) (labels : List Int) : (ontoL log labels).length = log.length := by simp [ontoL]

set_option maxRecDepth 100000 in
set_option maxHeartbeats 4000000 in
theorem onto_calls {w : World} {A B : Option Addr} {n c m d : Nat} {log : List (List Int)} {labels : List Int} (h : Lists w A n c log) (g : Ints w B m d labels) (hn : n ≤ 5864062014805) :
    Calls Try.prog 34 #[.slice A n c, .slice B m d] w fun e w' => ∃ v n', e = .returned v ∧ OwnSl (OwnListR w.heap.size) 1 w' w.heap.size 35 v n' (ontoL log labels) ∧ n' ≤ 5864062014805 ∧ Below w.heap.size w w' := by
  have HL := hide2 h.len
  have H := hide2 h
  have G := hide2 g
  clear h g
  go_enter Try.func34, Try.ntmps34
  go_wp2
  go_loopw [5, 13] (fun u5 v wr => ∃ (k m5 : Nat), k ≤ n ∧ v = .int .i64 k ∧ Hid (OwnSl (OwnListR w.heap.size) 1 wr w.heap.size 35 u5 m5 (ontoL (log.take k) labels)) ∧ Hid (Below w.heap.size w wr)) (fun _ v _ => n - (intOf v).toNat)
  case atStart => exact ⟨0, 0, Nat.zero_le _, rfl, OwnSl.nil, Below.refl _ _⟩
  case round =>
    obtain ⟨k, m5, hk, rfl, O5, D⟩ := hrel
    have h5 : m5 ≤ n := by rw [← O5.out.len, onto_len, List.length_take]; omega
    by_cases hlt : k < n
    · have hki : (k : Int) < (n : Int) := by omega
      have h5k : m5 < n := by rw [← O5.out.len, onto_len, List.length_take]; omega
      obtain ⟨b, off, x, A1, n1, c1, rfl, hb, hx, q0, i1, hn1⟩ := Lists.get (Sl.keep ListR.kept H.out D.out) hlt
      have IX := hide2 i1
      have TK := hide2 (show ontoL (log.take (k + 1)) labels = ontoL (log.take k) labels ++ [x.filter fun a => inS labels a] by rw [take_snoc hx.out, ontoL_snoc])
      clear i1 hx
      go_wp2
      obtain ⟨wo, hwo⟩ : ∃ wo : World, wo = wr := ⟨_, rfl⟩
      subst hwo
      go_loopw [8, 19] (fun u8 v wq => ∃ (q m8 : Nat), q ≤ n1 ∧ v = .int .i64 q ∧ Hid (OwnInts wq wo.heap.size u8 m8 ((x.take q).filter fun a => inS labels a)) ∧ Hid (Below wo.heap.size wo wq)) (fun _ v _ => n1 - (intOf v).toNat)
      case atStart => exact ⟨0, 0, Nat.zero_le _, rfl, OwnSl.nil, Below.refl _ _⟩
      case round =>
        obtain ⟨q, m8, hq, rfl, O8, E⟩ := hrel
        have h8 : m8 ≤ q := by
          rw [← O8.out.len]
          refine Nat.le_trans (List.length_filter_le _ _) ?_
          rw [List.length_take]; omega
        have DE := hide2 (D.out.trans (E.out.mono D.out.size))
        by_cases hqn : q < n1
        · have hqi : (q : Int) < (n1 : Int) := by omega
          obtain ⟨b', off', y, rfl, hb', hy, qy⟩ := (IX.out.keep E.out).get hqn
          have F_ := hide2 (show (x.take (q + 1)).filter (fun a => inS labels a) = if inS labels y = true then (x.take q).filter (fun a => inS labels a) ++ [y] else (x.take q).filter (fun a => inS labels a) by
            rw [take_snoc hy.out, List.filter_append]
            cases h : inS labels y <;> simp [h])
          obtain ⟨s, hs⟩ : ∃ s, (labels.any fun z => y == z) = s := ⟨_, rfl⟩
          have HS := hide2 hs
          have HI := hide2 (show inS labels y = s from hs)
          clear hs hy
          go_wp2_with fail
          refine (containsInt_calls y (G.out.keep DE.out)).mono ?_
          rw [HS.out]
          rintro e w' ⟨rfl, rfl⟩
          cases s
          · have F1 := hide2 (show (x.take (q + 1)).filter (fun a => inS labels a) = (x.take q).filter (fun a => inS labels a) by rw [F_.out, HI.out]; rfl)
            go_wp2
            go_roundw
            case rel => exact ⟨q + 1, m8, by omega, by go_num, by rw [F1.out]; exact O8, E⟩
            case measure => simp [intOf]; omega
          · have F1 := hide2 (show (x.take (q + 1)).filter (fun a => inS labels a) = (x.take q).filter (fun a => inS labels a) ++ [y] by rw [F_.out, HI.out]; rfl)
            go_wp2_with (at_builtin; refine wpList_appInt rfl _ _ rfl rfl rfl rfl O8.out E.out E.out.size (by omega) ?_; intro v8 w8 own8 hg8 hb8; have O98 := hide2 own8; have E8 := hide2 hb8; clear own8 hg8 hb8)
            go_roundw
            case rel => exact ⟨q + 1, m8 + 1, by omega, by go_num, by rw [F1.out]; exact O98, E8⟩
            case measure => simp [intOf]; omega
        · obtain rfl : q = n1 := by omega
          have TX : x.take q = x := List.take_of_length_le (by rw [IX.out.len]; exact Nat.le_refl _)
          rw [TX] at O8
          obtain ⟨A8, c8, rfl, _⟩ := O8.out.sl (by omega)
          have O52 := hide2 (OwnSl.keep (OwnListR.kept _) O5.out E.out)
          have RX := hide2 (show OwnListR w.heap.size wr (fun _ => .slice A8 m8 c8) (x.filter fun a => inS labels a) from ⟨m8, O8.out.base D.out.size, by omega⟩)
          have KL := hide2 (keepLists O52.out)
          go_wp2_with (at_builtin; refine wpList_appNew (v := u5) tyLists rfl _ _ rfl [x.filter fun a => inS labels a] #[.slice A8 m8 c8] rfl rfl rfl rfl (by simp [Value.oneCell']) O52.out (Reads.list1 RX.out) rfl DE.out DE.out.size (by omega) (by omega) KL.out ?_; intro v9 w9 own9 hg9 hb9; have O9 := hide2 own9; have E9 := hide2 hb9; clear own9 hg9 hb9)
          go_roundw
          case rel => exact ⟨k + 1, m5 + 1, by omega, by go_num, by rw [TK.out]; exact O9, E9⟩
          case measure => simp [intOf]; omega
    · obtain rfl : k = n := by omega
      have TA : log.take k = log := List.take_of_length_le (by rw [HL.out]; exact Nat.le_refl _)
      rw [TA] at O5
      go_wp2
      go_ret
      exact ⟨_, m5, rfl, O5.out, by omega, D.out⟩

theorem not_in_pred {w : World} {bl m d : Nat} {B : Option Addr} {labels xs : List Int} (cl : Box w bl 35 #[.slice B m d]) (g : Ints w B m d labels) : IsPredB 98 #[.pointer (some ⟨bl, 0, none⟩)] w xs (fun a => !inS labels a) where
  enters := fun args w => by kernel_rfl
  calls := fun wr x hb hm => by
    have G := hide2 (g.keep hb)
    have c0 := (cl.keep hb).cell 0
    simp only [List.getElem?_toArray, List.getElem?_cons_zero] at c0
    have HI := hide2 (show inS labels x = labels.any fun z => x == z from rfl)
    obtain ⟨s, hs⟩ : ∃ s, (labels.any fun z => x == z) = s := ⟨_, rfl⟩
    have HS := hide2 hs
    clear g hb cl hm hs
    show Calls Try.prog 98 #[.int .i64 x, .pointer (some ⟨bl, 0, none⟩)] wr _
    rw [HI.out, HS.out]
    go_enter Try.func98, Try.ntmps98
    go_wp2_with (refine (containsInt_calls x G.out).mono ?_; rintro e w' ⟨rfl, rfl⟩; rw [HS.out])
    go_ret
    exact ⟨rfl, Below.refl _ _⟩
set_option maxRecDepth 100000 in
set_option maxHeartbeats 4000000 in
theorem vonto_calls {w : World} {A B : Option Addr} {n c m d : Nat} {log : List (List Int)} {labels : List Int} (h : Lists w A n c log) (g : Ints w B m d labels) (hn : n ≤ 5864062014805) :
    Calls Try.prog 35 #[.slice A n c, .slice B m d] w fun e w' => ∃ v n', e = .returned v ∧ OwnSl (OwnListR w.heap.size) 1 w' w.heap.size 35 v n' (ontoL log labels) ∧ n' ≤ 5864062014805 ∧ Below w.heap.size w w' := by
  have HL := hide2 h.len
  have X0 := hide2 (Box.new w #[.slice B m d] 35)
  have B0 := hide2 (boxBelow w (.cells #[.slice B m d] 35))
  have H := hide2 h
  have G := hide2 g
  clear h g
  go_enter Try.func35, Try.ntmps35
  go_upto_region 1 with fail
  generalize w.alloc (.cells #[.slice B m d] 35) = w0 at *
  go_wp2
  go_loopw [5, 10] (fun u5 v wr => ∃ (k m5 : Nat), k ≤ n ∧ v = .int .i64 k ∧ Hid (OwnSl (OwnListR w.heap.size) 1 wr w0.heap.size 35 u5 m5 (ontoL (log.take k) labels)) ∧ Hid (Below w0.heap.size w0 wr)) (fun _ v _ => n - (intOf v).toNat)
  case atStart => exact ⟨0, 0, Nat.zero_le _, rfl, OwnSl.nil, Below.refl _ _⟩
  case round =>
    obtain ⟨k, m5, hk, rfl, O5, D⟩ := hrel
    have h5 : m5 ≤ n := by rw [← O5.out.len, onto_len, List.length_take]; omega
    have BR := hide2 (B0.out.trans (D.out.mono B0.out.size))
    by_cases hlt : k < n
    · have hki : (k : Int) < (n : Int) := by omega
      have h5k : m5 < n := by rw [← O5.out.len, onto_len, List.length_take]; omega
      obtain ⟨b, off, x, A1, n1, c1, rfl, hb, hx, q0, i1, hn1⟩ := Lists.get (Sl.keep ListR.kept H.out BR.out) hlt
      have IX := hide2 i1
      have LX := hide2 i1.len
      have TK := hide2 (show ontoL (log.take (k + 1)) labels = ontoL (log.take k) labels ++ [x.filter fun a => !!inS labels a] by rw [take_snoc hx.out, ontoL_snoc]; simp)
      have PR := hide2 (not_in_pred (xs := x) (X0.out.keep D.out) (G.out.keep BR.out))
      clear i1 hx
      go_wp2_with fail
      refine (cloneInts_calls IX.out (by omega)).mono ?_
      rintro e w5 ⟨v5, rfl, own5, hb5⟩
      have O6 := hide2 own5
      have B6 := hide2 hb5
      clear own5 hb5
      go_wp2_with fail
      refine (deleteB_own O6.out (by omega) B6.out PR.out).mono ?_
      rintro e w7 ⟨A8, m8, c8, rfl, o8, hb7⟩
      have h8 : m8 ≤ n1 := by
        rw [← o8.len, ← LX.out]
        exact List.length_filter_le _ _
      have D7 := hide2 (D.out.trans (hb7.mono D.out.size))
      have O52 := hide2 (OwnSl.keep (OwnListR.kept _) O5.out hb7)
      have RX := hide2 (show OwnListR w.heap.size w7 (fun _ => .slice A8 m8 c8) (x.filter fun a => !!inS labels a) from ⟨m8, o8.base BR.out.size, by omega⟩)
      have KL := hide2 (keepLists O52.out)
      clear hb7 o8
      go_wp2_with (at_builtin; refine wpList_appNew (v := u5) tyLists rfl _ _ rfl [x.filter fun a => !!inS labels a] #[.slice A8 m8 c8] rfl rfl rfl rfl (by simp [Value.oneCell']) O52.out (Reads.list1 RX.out) rfl D7.out D7.out.size (by omega) (by omega) KL.out ?_; intro v9 w9 own9 hg9 hb9; have O9 := hide2 own9; have E9 := hide2 hb9; clear own9 hg9 hb9)
      go_roundw
      case rel => exact ⟨k + 1, m5 + 1, by omega, by go_num, by rw [TK.out]; exact O9, E9⟩
      case measure => simp [intOf]; omega
    · obtain rfl : k = n := by omega
      have TA : log.take k = log := List.take_of_length_le (by rw [HL.out]; exact Nat.le_refl _)
      rw [TA] at O5
      go_wp2
      go_ret
      exact ⟨_, m5, rfl, O5.out.base B0.out.size, by omega, BR.out⟩
end Go.Proofs.Ytnfppolgaeibeaa
