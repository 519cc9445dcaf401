/- The contracts of journal.Write and RWrite. Conditions: none. -/
import Derived.Test.YtpagenlealddhaaJourA
namespace Go.Proofs.Ytpagenlealddhaa
open Go.RowKit

theorem Box.five {w : World} {b ty : Nat} {u0 u1 u2 u3 u4 : Value} (h : Box w b ty #[u0, u1, u2, u3, u4]) : w.cell? ⟨b, 0, none⟩ = some u0 ∧ w.cell? ⟨b, 1, none⟩ = some u1 ∧ w.cell? ⟨b, 2, none⟩ = some u2 ∧ w.cell? ⟨b, 3, none⟩ = some u3 ∧ w.cell? ⟨b, 4, none⟩ = some u4 := ⟨h.cell 0, h.cell 1, h.cell 2, h.cell 3, h.cell 4⟩
def AnsBE (p : List Nat × Int) (w : World) (e : Ending) (w' : World) : Prop :=
  ∃ A n c, e = .returned (.tuple #[.slice A n c, .int .i64 p.2]) ∧ Bts w' A n c p.1 ∧ Below w.heap.size w w'
theorem AnsBE.no {e : Int} {w w' : World} (hb : Below w.heap.size w w') : AnsBE ([], e) w (.returned (.tuple #[.slice none 0 0, .int .i64 e])) w' := ⟨none, 0, 0, rfl, Sl.nil0, hb⟩
/-- A new row, all of it used. -/
theorem OwnSl.row {α : Type} {R : World → (Nat → Value) → α → Prop} {sz : Nat} {w : World} {B e n : Nat} {us : Array Value} {xs : List α} (hB : B ≤ w.heap.size) (hus : us.size = n * sz) (hn : n ≤ maxLen) (hr : Reads R sz (w.alloc (.cells us e)) us.toList xs) (hl : xs.length = n) :
    OwnSl R sz (w.alloc (.cells us e)) B e (.slice (some ⟨w.heap.size, 0, none⟩) n n) n xs :=
  ⟨us.toList, ⟨by simpa using hus, .inr ⟨w.heap.size, n, us, rfl, hB, heap_alloc_new w _, Nat.le_refl _, hn, hus, by rw [List.take_of_length_le (by simp [hus])]⟩⟩, hr, hl⟩
theorem OwnSl.arr {α : Type} {R : World → (Nat → Value) → α → Prop} {sz : Nat} {w : World} {B e n c : Nat} {a : Addr} {xs : List α} (h : OwnSl R sz w B e (.slice (some a) n c) n xs) (hn : n ≤ 281474976710656) : Sl R sz w (some a) n c xs := by
  obtain ⟨A, k, hv, s⟩ := h.sl hn
  injection hv with h1 h2 h3
  subst h1 h3
  exact s
abbrev OwnBytes (w : World) (B : Nat) (v : Value) (n : Nat) (bs : List Nat) : Prop := OwnSl ByteR 1 w B 5 v n bs
theorem Reads.bytes {w : World} {us : List Value} {bs : List Nat} (h : us = bs.map fun b : Nat => Value.int .u8 (b : Int)) (hb : ∀ b ∈ bs, b < 256) : Reads ByteR 1 w us bs := by
  subst h
  refine ⟨by simp, fun i x hx => ⟨fun _ => .int .u8 (x : Int), fun j hj => ?_, rfl, hb x (List.mem_of_getElem? hx)⟩⟩
  obtain rfl : j = 0 := by omega
  simp [hx]
theorem wpList_appBytes {ops : Array Oper} {rest : List Oper} {o : Oper} {a : Act} {Q : Exit → Act → World → Prop} (hgd : o.guard = none) (s x : Operand)
    (ho : o.op = .call { callee := .builtin .append, args := #[s, x], argTypes := #[24, 24] })
    {w0 w : World} {B : Nat} {v : Value} {n m : Nat} {xs ys : List Nat} {us : Array Value} {H : Nat} (hs : a.eval s = v) (hx : a.eval x = .slice (some ⟨H, 0, none⟩) m m) (hH : H = w.heap.size) (hus : us.toList = ys.map fun b : Nat => Value.int .u8 (b : Int)) (hy : ys.length = m) (hlt : ∀ b ∈ ys, b < 256)
    (own : OwnBytes w B v n xs) (hb : Below B w0 w) (hB : B ≤ w.heap.size) (hn : n + m ≤ 1000)
    (K : ∀ v' w', OwnBytes w' B v' (n + m) (xs ++ ys) → w.grownBy w' v.ownBlock → Below B w0 w' → wpList Try.prog ops Q rest (a.put o.dst v') w') :
    wpList Try.prog ops Q (o :: rest) a (w.alloc (.cells us 5)) :=
  wpList_appNew tyBytes hgd s x ho ys us hs hx hH (by rw [← Array.length_toList, hus, List.length_map, hy, Nat.mul_one]) (by rw [hus]; intro u hu; obtain ⟨b, _, rfl⟩ := List.mem_map.1 hu; rfl) own (Reads.bytes hus hlt) hy hb hB (by omega) (by omega) (fun _ _ _ _ h => h) K
theorem opNat {o : POp} (h : opOk o = true) : ∃ K U T I D : Nat, o = ⟨K, U, T, I, D⟩ ∧ K < 256 ∧ U < 256 ∧ T < 256 ∧ D < 256 ∧ I < 65536 := by
  rw [opOk_iff] at h
  obtain ⟨k, u, t, i, d⟩ := o
  simp only at h
  exact ⟨k.toNat, u.toNat, t.toNat, i.toNat, d.toNat, by simp only [POp.mk.injEq]; omega, by omega, by omega, by omega, by omega, by omega⟩

set_option maxRecDepth 100000 in
theorem write_bad {w : World} (o : POp) (h : ¬ opOk o = true) : Calls Try.prog 11 #[.agg #[.int .i64 o.kind, .int .i64 o.user, .int .i64 o.tran, .int .i64 o.item, .int .i64 o.to_]] w (AnsBE (writeL o) w) := by
  have FN := hide2 (show writeL o = ([], 2) by unfold writeL; rw [if_neg h])
  have HB := hide2 (newBelow w (.cells #[.int .i64 o.kind, .int .i64 o.user, .int .i64 o.tran, .int .i64 o.item, .int .i64 o.to_] 23))
  rw [FN.out]
  obtain ⟨k, u, t, i, d⟩ := o
  simp only at HB ⊢
  simp only [opOk, Bool.and_eq_true, itemI_iff, not_and, and_imp] at h
  have HH := hide2 h
  clear h FN
  obtain ⟨v1, h1⟩ : ∃ v, smallI k = v := ⟨_, rfl⟩
  obtain ⟨v2, h2⟩ : ∃ v, smallI u = v := ⟨_, rfl⟩
  obtain ⟨v3, h3⟩ : ∃ v, smallI t = v := ⟨_, rfl⟩
  obtain ⟨v4, h4⟩ : ∃ v, smallI d = v := ⟨_, rfl⟩
  have H1 := hide2 h1
  have H2 := hide2 h2
  have H3 := hide2 h3
  have H4 := hide2 h4
  clear h1 h2 h3 h4
  cases v1
  · go_enter Try.func11, Try.ntmps11
    go_upto_region 1 with fail
    obtain ⟨c0, c1, c2, c3, c4⟩ := (Box.new w #[.int .i64 k, .int .i64 u, .int .i64 t, .int .i64 i, .int .i64 d] 23).five
    generalize w.alloc (.cells #[.int .i64 k, .int .i64 u, .int .i64 t, .int .i64 i, .int .i64 d] 23) = w0 at *
    go_wp2_with (refine (small_calls _).mono ?_; rintro e w' ⟨rfl, rfl⟩; first | rw [H1.out] | rw [H2.out] | rw [H3.out] | rw [H4.out])
    go_ret2
    exact AnsBE.no HB.out
  ·
    cases v2
    · go_enter Try.func11, Try.ntmps11
      go_upto_region 1 with fail
      obtain ⟨c0, c1, c2, c3, c4⟩ := (Box.new w #[.int .i64 k, .int .i64 u, .int .i64 t, .int .i64 i, .int .i64 d] 23).five
      generalize w.alloc (.cells #[.int .i64 k, .int .i64 u, .int .i64 t, .int .i64 i, .int .i64 d] 23) = w0 at *
      go_wp2_with (refine (small_calls _).mono ?_; rintro e w' ⟨rfl, rfl⟩; first | rw [H1.out] | rw [H2.out] | rw [H3.out] | rw [H4.out])
      go_ret2
      exact AnsBE.no HB.out
    ·
      cases v3
      · go_enter Try.func11, Try.ntmps11
        go_upto_region 1 with fail
        obtain ⟨c0, c1, c2, c3, c4⟩ := (Box.new w #[.int .i64 k, .int .i64 u, .int .i64 t, .int .i64 i, .int .i64 d] 23).five
        generalize w.alloc (.cells #[.int .i64 k, .int .i64 u, .int .i64 t, .int .i64 i, .int .i64 d] 23) = w0 at *
        go_wp2_with (refine (small_calls _).mono ?_; rintro e w' ⟨rfl, rfl⟩; first | rw [H1.out] | rw [H2.out] | rw [H3.out] | rw [H4.out])
        go_ret2
        exact AnsBE.no HB.out
      ·
        cases v4
        · go_enter Try.func11, Try.ntmps11
          go_upto_region 1 with fail
          obtain ⟨c0, c1, c2, c3, c4⟩ := (Box.new w #[.int .i64 k, .int .i64 u, .int .i64 t, .int .i64 i, .int .i64 d] 23).five
          generalize w.alloc (.cells #[.int .i64 k, .int .i64 u, .int .i64 t, .int .i64 i, .int .i64 d] 23) = w0 at *
          go_wp2_with (refine (small_calls _).mono ?_; rintro e w' ⟨rfl, rfl⟩; first | rw [H1.out] | rw [H2.out] | rw [H3.out] | rw [H4.out])
          go_ret2
          exact AnsBE.no HB.out
        · by_cases h5 : i < 0
          · go_enter Try.func11, Try.ntmps11
            go_upto_region 1 with fail
            obtain ⟨c0, c1, c2, c3, c4⟩ := (Box.new w #[.int .i64 k, .int .i64 u, .int .i64 t, .int .i64 i, .int .i64 d] 23).five
            generalize w.alloc (.cells #[.int .i64 k, .int .i64 u, .int .i64 t, .int .i64 i, .int .i64 d] 23) = w0 at *
            go_wp2_with (refine (small_calls _).mono ?_; rintro e w' ⟨rfl, rfl⟩; first | rw [H1.out] | rw [H2.out] | rw [H3.out] | rw [H4.out])
            go_ret2
            exact AnsBE.no HB.out
          · have h6 : 65535 < i := by have := HH.out H1.out H2.out H3.out H4.out; omega
            go_enter Try.func11, Try.ntmps11
            go_upto_region 1 with fail
            obtain ⟨c0, c1, c2, c3, c4⟩ := (Box.new w #[.int .i64 k, .int .i64 u, .int .i64 t, .int .i64 i, .int .i64 d] 23).five
            generalize w.alloc (.cells #[.int .i64 k, .int .i64 u, .int .i64 t, .int .i64 i, .int .i64 d] 23) = w0 at *
            go_wp2_with (refine (small_calls _).mono ?_; rintro e w' ⟨rfl, rfl⟩; first | rw [H1.out] | rw [H2.out] | rw [H3.out] | rw [H4.out])
            go_ret2
            exact AnsBE.no HB.out

set_option maxRecDepth 100000 in
set_option maxHeartbeats 2000000 in
theorem write_good {w : World} (o : POp) (h : opOk o = true) : Calls Try.prog 11 #[.agg #[.int .i64 o.kind, .int .i64 o.user, .int .i64 o.tran, .int .i64 o.item, .int .i64 o.to_]] w (AnsBE (writeL o) w) := by
  have FN := hide2 (show writeL o = (sixB o ++ [sumF (sixB o)], 0) by unfold writeL; rw [if_pos h])
  have LT := hide2 (sixB_lt h)
  obtain ⟨k, u, t, i, d, rfl, hk, hu, ht, hd, hi⟩ := opNat h
  rw [FN.out]
  have H1 := hide2 (show smallI (k : Int) = true by rw [smallI_iff]; omega)
  have H2 := hide2 (show smallI (u : Int) = true by rw [smallI_iff]; omega)
  have H3 := hide2 (show smallI (t : Int) = true by rw [smallI_iff]; omega)
  have H4 := hide2 (show smallI (d : Int) = true by rw [smallI_iff]; omega)
  have HB := hide2 (newBelow w (.cells #[.int .i64 (k : Int), .int .i64 (u : Int), .int .i64 (t : Int), .int .i64 (i : Int), .int .i64 (d : Int)] 23))
  have SX := hide2 (show sixB ⟨k, u, t, i, d⟩ = [k, u, t, d, i / 256, i % 256] by simp [sixB])
  clear h FN
  show Calls Try.prog 11 #[.agg #[.int .i64 (k : Int), .int .i64 (u : Int), .int .i64 (t : Int), .int .i64 (i : Int), .int .i64 (d : Int)]] w _
  rw [SX.out] at LT ⊢
  clear SX
  go_enter Try.func11, Try.ntmps11
  go_upto_region 1 with fail
  obtain ⟨c0, c1, c2, c3, c4⟩ := (Box.new w #[.int .i64 (k : Int), .int .i64 (u : Int), .int .i64 (t : Int), .int .i64 (i : Int), .int .i64 (d : Int)] 23).five
  generalize w.alloc (.cells #[.int .i64 (k : Int), .int .i64 (u : Int), .int .i64 (t : Int), .int .i64 (i : Int), .int .i64 (d : Int)] 23) = w0 at *
  have OW := hide2 (OwnSl.row (R := ByteR) (sz := 1) (w := w0) (B := w.heap.size) (e := 5) (n := 6) (us := #[.int .u8 (k : Int), .int .u8 (u : Int), .int .u8 (t : Int), .int .u8 (d : Int), .int .u8 ((i : Int) / 256), .int .u8 ((i : Int) % 256)]) (xs := [k, u, t, d, i / 256, i % 256]) HB.out.size rfl (by decide) (Reads.bytes (by simp) LT.out) rfl)
  have S1 := hide2 (OW.out.arr (by omega))
  have LS := hide2 (show ∀ b ∈ [sumF [k, u, t, d, i / 256, i % 256]], b < 256 from fun b hb => by rw [List.mem_singleton.1 hb]; exact sumF_lt LT.out)
  have B1 := hide2 (HB.out.trans ((newBelow w0 (.cells #[.int .u8 (k : Int), .int .u8 (u : Int), .int .u8 (t : Int), .int .u8 (d : Int), .int .u8 ((i : Int) / 256), .int .u8 ((i : Int) % 256)] 5)).mono HB.out.size))
  go_wp2_with (first
    | ((with_reducible refine (small_calls _).mono ?_); rintro e w' ⟨rfl, rfl⟩; first | rw [H1.out] | rw [H2.out] | rw [H3.out] | rw [H4.out])
    | ((with_reducible refine (byteSum_calls S1.out (by omega)).mono ?_); rintro e w' ⟨rfl, rfl⟩; clear c0 c1 c2 c3 c4; generalize w0.alloc (.cells #[.int .u8 (k : Int), .int .u8 (u : Int), .int .u8 (t : Int), .int .u8 (d : Int), .int .u8 ((i : Int) / 256), .int .u8 ((i : Int) % 256)] 5) = w1 at *; generalize w0.heap.size = g at *; generalize hy : sumF [k, u, t, d, i / 256, i % 256] = y at *)
    | (at_builtin; refine wpList_appBytes rfl _ _ rfl (m := 1) (ys := [y]) rfl rfl (by first | rfl | simp) (by first | rfl | simp) rfl LS.out OW.out B1.out B1.out.size (by omega) ?_; intro v2 w2 own2 hg2 hb2))
  obtain ⟨A2, c2, hv2, s2⟩ := own2.sl (by omega)
  subst hv2
  go_ret2
  exact ⟨A2, 7, c2, rfl, s2, hb2⟩
theorem write_calls {w : World} (o : POp) : Calls Try.prog 11 #[.agg #[.int .i64 o.kind, .int .i64 o.user, .int .i64 o.tran, .int .i64 o.item, .int .i64 o.to_]] w (AnsBE (writeL o) w) := by
  by_cases h : opOk o = true
  · exact write_good o h
  · exact write_bad o h
end Go.Proofs.Ytpagenlealddhaa
