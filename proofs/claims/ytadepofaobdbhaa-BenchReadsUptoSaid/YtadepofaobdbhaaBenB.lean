/- The contracts of bench.write and Print. Conditions: the block reads as a tree. -/
import Derived.Test.YtadepofaobdbhaaBenA
import Derived.Test.YtadepofaobdbhaaLayJ
import Derived.Test.YtadepofaobdbhaaBlkB
import Derived.Test.YtadepofaobdbhaaOwnC
namespace Go.Proofs.Ytadepofaobdbhaa
open Go.RowKit

def StrR : World → (Nat → Value) → List UInt8 → Prop := fun _ vs x => vs 0 = .string ⟨x.toArray⟩
theorem tyStrs : SlTy 157 9 1 16 := SlTy.mk' (z := .string ⟨#[]⟩) Try.underlying157 (by kernel_rfl) rfl (by decide)
theorem app2 (a b : List UInt8) : (⟨a.toArray⟩ : ByteArray) ++ ⟨b.toArray⟩ = ⟨(a ++ b).toArray⟩ := by
  apply ByteArray.ext
  simp [ByteArray.data_append]
/-- An owned row of strings, cell by cell. -/
theorem strs_cell {w : World} {B g n cap : Nat} {xs : List (List UInt8)} (h : OwnSl StrR 1 w B 9 (.slice (some ⟨g, 0, none⟩) n cap) n xs) : ∀ (j : Nat) (x : ByteArray), (xs.map fun l => (⟨l.toArray⟩ : ByteArray))[j]? = some x → w.cell? ⟨g, 0 + j, none⟩ = some (.string x) := by
  intro j x hx
  obtain ⟨cells, o, r, hl⟩ := h
  rw [List.getElem?_map] at hx
  obtain ⟨l, hl', rfl⟩ := Option.map_eq_some_iff.1 hx
  obtain ⟨vs, a, e⟩ := r.2 j l hl'
  have hj : j < n * 1 := by rw [Nat.mul_one, ← hl]; exact (List.getElem?_eq_some_iff.1 hl').1
  rw [Nat.zero_add, o.cellAt j hj]
  have := a 0 (by omega)
  rw [Nat.mul_one, Nat.add_zero] at this
  rw [this]
  exact congrArg some e

set_option maxRecDepth 100000 in
theorem sign_calls (w : World) (k : Int) (h3 : 3 ≤ k) (h6 : k ≤ 6) :
    Calls Try.prog 123 #[.int .i64 k] w (fun e w' => e = .returned (.string ⟨[signB k].toArray⟩) ∧ w' = w) := by
  have : k = 3 ∨ k = 4 ∨ k = 5 ∨ k = 6 := by omega
  rcases this with rfl | rfl | rfl | rfl
  all_goals
    go_enter Try.func123, Try.ntmps123
    go_wp2
    go_ret
    exact ⟨by rfl, rfl⟩

theorem foldC_len {f : Nat} : ∀ (l : List PBlk) (a h' : Nat), l.foldl (stepC (chkB f)) (a, 0) = (h', 0) → a + l.length ≤ h'
  | [], a, h', h => by simp at h; simp [h]
  | k :: l, a, h', h => by
    rw [List.foldl_cons, stepC, if_pos rfl] at h
    have e0 : (chkB f k a).2 = 0 := by
      apply Classical.byContradiction
      intro hne
      rw [stepC_stay hne] at h
      rw [h] at hne
      exact hne rfl
    have h1 := (chkB_ok f k a e0).1
    obtain ⟨b, hb⟩ : ∃ b, chkB f k a = (b, 0) := ⟨_, Prod.ext rfl e0⟩
    rw [hb] at h h1
    have := foldC_len l b h' h
    rw [List.length_cons]
    simp only at h1
    omega
theorem OwnSl.formS {w : World} {B e : Nat} {v : Value} {n : Nat} {xs : List (List UInt8)} (h : OwnSl StrR 1 w B e v n xs) (hn : 0 < n) : ∃ g cap, v = .slice (some ⟨g, 0, none⟩) n cap ∧ g < w.heap.size ∧ n ≤ cap := by
  obtain ⟨cells, o, r, hl⟩ := h
  rcases o.2 with ⟨_, e0⟩ | ⟨g, cap, cur, rfl, hg, hh, hnc, _⟩
  · omega
  · exact ⟨g, cap, rfl, (Array.getElem?_eq_some_iff.1 hh).1, hnc⟩
theorem join_calls {w : World} {B : Nat} {v : Value} {n : Nat} {xs : List (List UInt8)} (h : OwnSl StrR 1 w B 9 v n xs) (h0 : 0 < n) (hn : n ≤ 1000) (hl : (Lib.join xs [44]).length ≤ 1000) :
    Calls Try.prog 124 #[v, .string ⟨#[44]⟩] w (fun e w' => e = .returned (.string ⟨(Lib.join xs [44]).toArray⟩) ∧ Below w.heap.size w w') := by
  obtain ⟨g, cap, rfl, hg, hc⟩ := h.formS h0
  have hcell := strs_cell h
  obtain rfl := h.len
  have e1 : (xs.map fun l => (⟨l.toArray⟩ : ByteArray)).map (fun x => x.data.toList) = xs := by
    rw [List.map_map]
    exact (List.map_congr_left (fun x _ => by simp)).trans (List.map_id _)
  have e2 : (⟨#[44]⟩ : ByteArray).data.toList = [44] := rfl
  have := strings_Join g 0 cap (xs.map fun l => (⟨l.toArray⟩ : ByteArray)) ⟨#[44]⟩ w hcell hg (by rw [List.length_map]; omega) (by rw [List.length_map]; exact hc) (by rw [e1, e2]; omega)
  rw [List.length_map] at this
  rw [e1, e2] at this
  exact this
theorem utf1 (lb : Int) (h1 : 1 ≤ lb) (h2 : lb ≤ 26) : Utf8.encode (97 + lb - 1) = ⟨#[UInt8.ofNat (96 + lb.toNat)]⟩ := by
  have key : ∀ k : Fin 26, Utf8.encode (97 + ((k.val : Int) + 1) - 1) = ⟨#[UInt8.ofNat (96 + ((k.val : Int) + 1).toNat)]⟩ := by decide
  have := key ⟨(lb - 1).toNat, by omega⟩
  have e : (((lb - 1).toNat : Int)) + 1 = lb := by omega
  rw [show (((⟨(lb - 1).toNat, by omega⟩ : Fin 26).val : Nat) : Int) + 1 = lb from e] at this
  exact this

set_option maxRecDepth 100000 in
set_option maxHeartbeats 8000000 in
theorem write_calls : ∀ (f d : Nat) (kd lb : Int) (A : Option Addr) (n c : Nat) (ks : List PBlk) (w : World) (had : Nat), Blks d w A n c ks → (chkB f (.mk kd lb ks) had).2 = 0 →
    Calls Try.prog 50 #[.agg #[.int .i64 kd, .int .i64 lb, .slice A n c]] w (fun e w' => e = .returned (.string ⟨(txtB f (.mk kd lb ks)).toArray⟩) ∧ Below w.heap.size w w')
  | 0, d, kd, lb, A, n, c, ks, w, had, h, hc => by rw [chkB] at hc; cases hc
  | f + 1, d, kd, lb, A, n, c, ks, w, had, h, hc => by
    have HTL := hide2 (txt_len (f + 1) _ had hc)
    have HOK := hide2 (chkB_ok (f + 1) _ had hc)
    obtain ⟨h1, h2, h', h3, h4⟩ := chkB_inv hc
    have IH := hide2 (write_calls f)
    have H := hide2 h
    have HL := hide2 h.len
    have HF := hide2 h4
    simp only [PBlk.kind, PBlk.label, PBlk.kids] at h2 HF
    have hn : ks.length = n := h.len
    have hd : 1 ≤ kd ∧ kd ≤ 6 ∧ (kd = 2 → 1 ≤ lb ∧ lb ≤ 26) ∧ (3 ≤ kd → 0 < n) := by
      unfold headB at h2
      rw [hn] at h2
      split at h2
      · cases h2
      · split at h2
        · cases h2
        · split at h2
          · cases h2
          · omega
    obtain ⟨k1, k6, k2, kn⟩ := hd
    rw [h3] at HOK HTL
    have n40 : n ≤ 40 := by
      have a1 := foldC_len ks (had + 1) h' HF.out
      have a2 := HOK.out.2
      simp only at a2
      omega
    have X0 := hide2 (Box.new w #[.int .i64 kd, .int .i64 lb, .slice A n c] 33)
    have B0 := hide2 (boxBelow w (.cells #[.int .i64 kd, .int .i64 lb, .slice A n c] 33))
    have H0 := hide2 (h.keep B0.out)
    clear h hc h2 h3 h4 hn
    generalize hw0 : w.alloc (.cells #[.int .i64 kd, .int .i64 lb, .slice A n c] 33) = w0 at *
    obtain ⟨c0, c1, c2⟩ := X0.out.three
    by_cases e1 : kd = 1
    · subst e1
      go_enter Try.func50, Try.ntmps50
      go_wp2
      go_ret
      exact ⟨by rw [txtB_1]; rfl, B0.out⟩
    · by_cases e2 : kd = 2
      · subst e2
        have hlb := k2 rfl
        have hb1 := hlb.1
        have hb2 := hlb.2
        clear hlb k2
        go_enter Try.func50, Try.ntmps50
        go_wp2
        rw [utf1 lb hb1 hb2]
        go_ret
        exact ⟨by rw [txtB_2]; rfl, B0.out⟩
      · have k3 : 3 ≤ kd := by omega
        have e1' : (kd == 1) = false := by simpa using e1
        have e2' : (kd == 2) = false := by simpa using e2
        have hn0 := kn k3
        have CS := hide2 (fun w => sign_calls w kd k3 k6)
        have HJ := hide2 (show (signB kd :: 40 :: (Lib.join (ks.map (txtB f)) [44] ++ [41])).length + 1 ≤ 4 * (h' - had) by have := HTL.out; rw [txtB_3 k3] at this; exact this)
        have hjl : (Lib.join (ks.map (txtB f)) [44]).length ≤ 1000 := by
          have a1 := HJ.out
          have a2 := HOK.out.2
          simp only [List.length_cons, List.length_append, List.length_nil] at a1 a2
          omega
        clear HTL HJ
        clear k2 kn e1 e2
        go_enter Try.func50, Try.ntmps50
        go_upto_region 8 with fail
        clear c0 c1 c2
        go_loopw [3, 21] (fun sv v wr => ∃ i : Nat, i ≤ n ∧ v = .int .i64 i ∧ Hid (OwnSl StrR 1 wr w0.heap.size 9 sv i ((ks.take i).map (txtB f))) ∧ Hid (Below w0.heap.size w0 wr)) (fun _ v _ => n - (intOf v).toNat)
        case atStart => exact ⟨0, Nat.zero_le _, rfl, OwnSl.nil, Below.refl _ _⟩
        case round =>
          obtain ⟨i, hi, rfl, OW, X2⟩ := hrel
          by_cases hlt : i < n
          · have hki : (i : Int) < (n : Int) := by omega
            obtain ⟨bl, off, kd', lb', ks', B', m', e', d', rfl, rfl, hbl, hx, q0, q1, q2, K'⟩ := (H0.out.keep X2.out).get hlt
            obtain ⟨hd0, e0⟩ := pre_okC HF.out i
            obtain ⟨hd', e1, _⟩ := next_okC HF.out hx.out e0
            have bb2 := boxBelow wr (.cells #[.int .i64 kd', .int .i64 lb', .slice B' m' e'] 33)
            have X3 := hide2 (X2.out.trans (bb2.mono X2.out.size))
            have OW3 := hide2 (OW.out.keep (fun _ _ _ _ _ h => h) bb2)
            have CI := hide2 (IH.out d' kd' lb' B' m' e' ks' (wr.alloc (.cells #[.int .i64 kd', .int .i64 lb', .slice B' m' e'] 33)) hd0 (K'.out.keep bb2) (by rw [e1]))
            have HT := hide2 (show (ks.take (i + 1)).map (txtB f) = (ks.take i).map (txtB f) ++ [txtB f (.mk kd' lb' ks')] by rw [List.take_add_one, hx.out]; simp)
            clear e0 e1 hx bb2
            go_wp2_with (first
              | (go_at_call 50; (with_reducible refine CI.out.mono ?_); rintro e w4 ⟨rfl, hb4⟩; have X4 := hide2 (X3.out.trans (hb4.mono X3.out.size)); have OW4 := hide2 (OW3.out.keep (fun _ _ _ _ _ h => h) hb4); clear hb4)
              | (at_builtin; refine wpList_appNew tyStrs rfl _ _ rfl [txtB f (.mk kd' lb' ks')] #[.string ⟨(txtB f (.mk kd' lb' ks')).toArray⟩] rfl rfl (by first | rfl | simp) rfl (by simp [Value.oneCell']) OW4.out (Reads.one (vs := fun _ => .string ⟨(txtB f (.mk kd' lb' ks')).toArray⟩) rfl rfl (fun j hj => (by obtain rfl : j = 0 := (by omega); rfl))) rfl X4.out X4.out.size (by omega) (by omega) (fun _ _ _ _ h => h) ?_; intro v1 w1 own1 hg1 hb1; have OW5 := hide2 own1; have X5 := hide2 hb1; clear own1 hg1 hb1))
            go_roundw
            case rel => exact ⟨i + 1, by omega, by go_num, by rw [HT.out]; exact OW5, X5⟩
            case measure => simp [intOf]; omega
          · obtain rfl : i = n := by omega
            have OWF := hide2 (show OwnSl StrR 1 wr w0.heap.size 9 u3 i (ks.map (txtB f)) by have := OW.out; rwa [List.take_of_length_le (by rw [HL.out]; exact Nat.le_refl _)] at this)
            have XJ := hide2 (join_calls OWF.out hn0 (by omega) hjl)
            clear OW
            have c0 : wr.cell? ⟨w.heap.size, 0, none⟩ = some (.int .i64 kd) := ((X0.out.keep X2.out).three).1
            go_wp2_with (first
              | (go_at_call 123; (with_reducible refine (CS.out _).mono ?_); rintro e w4 ⟨rfl, rfl⟩)
              | (go_at_call 124; (with_reducible refine XJ.out.mono ?_); rintro e w5 ⟨rfl, hb5⟩; have X6 := hide2 (X2.out.trans (hb5.mono X2.out.size)); clear hb5))
            go_ret
            exact ⟨by rw [txtB_3 k3]; simp [app2], (B0.out.trans (X6.out.mono B0.out.size))⟩
end Go.Proofs.Ytadepofaobdbhaa
