/- The contract of xtext, the reference of bench.write. Conditions: the block reads as a tree and has no fault. -/
import Derived.Test.YtadepofaobdbhaaBenB
import Derived.Test.YtadepofaobdbhaaHeldB
namespace Go.Proofs.Ytadepofaobdbhaa
open Go.RowKit

def xpre (s : UInt8) (l : List (List UInt8)) : List UInt8 := s :: (if l = [] then [] else 40 :: Lib.join l [44])
theorem xpre_0 (s : UInt8) (x : List UInt8) : xpre s [] ++ (40 :: x) = xpre s [x] := by simp [xpre, Lib.join_cons, Lib.joinTail]
theorem joinTail_app (x : List UInt8) : ∀ l : List (List UInt8), Lib.joinTail [44] (l ++ [x]) = Lib.joinTail [44] l ++ (44 :: x)
  | [] => by simp [Lib.joinTail]
  | a :: l => by simp [Lib.joinTail]
theorem xpre_s (s : UInt8) (x : List UInt8) (l : List (List UInt8)) (h : l ≠ []) : xpre s l ++ (44 :: x) = xpre s (l ++ [x]) := by
  cases l with
  | nil => exact absurd rfl h
  | cons a l =>
    unfold xpre
    rw [if_neg (by simp), if_neg (by simp), show (a :: l) ++ [x] = a :: (l ++ [x]) from rfl, Lib.join_cons, Lib.join_cons, joinTail_app]
    simp
theorem xpre_end {f : Nat} {kd lb : Int} {ks : List PBlk} (h : 3 ≤ kd) (hk : 0 < ks.length) : xpre (signB kd) (ks.map (txtB f)) ++ [41] = txtB (f + 1) (.mk kd lb ks) := by
  rw [txtB_3 h]
  unfold xpre
  rw [if_neg (by intro e; have := congrArg List.length e; rw [List.length_map] at this; simp only [List.length_nil] at this; omega)]
  rfl
theorem joinTail_take : ∀ (r : List (List UInt8)) (i : Nat), (Lib.joinTail [44] (r.take i)).length ≤ (Lib.joinTail [44] r).length
  | [], i => by simp
  | a :: r, 0 => by simp [Lib.joinTail]
  | a :: r, i + 1 => by
    have := joinTail_take r i
    have e : ∀ (x : List UInt8) (q : List (List UInt8)), (Lib.joinTail [44] (x :: q)).length = 1 + x.length + (Lib.joinTail [44] q).length := fun x q => by simp [Lib.joinTail]; omega
    rw [List.take_succ_cons, e, e]
    omega
theorem xpre_take (s : UInt8) (l : List (List UInt8)) (i : Nat) : (xpre s (l.take i)).length ≤ (xpre s l).length := by
  cases l with
  | nil => simp
  | cons a r =>
    cases i with
    | zero => simp [xpre]
    | succ i =>
      have := joinTail_take r i
      unfold xpre
      rw [List.take_succ_cons, if_neg (by simp), if_neg (by simp), Lib.join_cons, Lib.join_cons]
      simp only [List.length_cons, List.length_append]
      omega
theorem box4S {wr : World} {ty : Nat} {b : Nat} {u0 u1 u2 u3 : Value} (h : Box wr b ty #[u0, u1, u2, u3]) : wr.cell? ⟨b, 0, none⟩ = some u0 ∧ wr.cell? ⟨b, 1, none⟩ = some u1 ∧ wr.cell? ⟨b, 2, none⟩ = some u2 ∧ wr.cell? ⟨b, 3, none⟩ = some u3 := ⟨h.cell 0, h.cell 1, h.cell 2, h.cell 3⟩
theorem cut1 (lb : Int) (h1 : 1 ≤ lb) (h2 : lb ≤ 26) : (⟨#[45, 97, 98, 99, 100, 101, 102, 103, 104, 105, 106, 107, 108, 109, 110, 111, 112, 113, 114, 115, 116, 117, 118, 119, 120, 121, 122]⟩ : ByteArray).extract lb.toNat (lb + 1).toNat = ⟨#[UInt8.ofNat (96 + lb.toNat)]⟩ := by
  have key : ∀ k : Fin 26, ((⟨#[45, 97, 98, 99, 100, 101, 102, 103, 104, 105, 106, 107, 108, 109, 110, 111, 112, 113, 114, 115, 116, 117, 118, 119, 120, 121, 122]⟩ : ByteArray).extract (k.val + 1) (k.val + 2)).data.toList = [UInt8.ofNat (96 + (k.val + 1))] := by decide
  have := key ⟨lb.toNat - 1, by omega⟩
  simp only at this
  rw [show lb.toNat - 1 + 1 = lb.toNat by omega, show lb.toNat - 1 + 2 = (lb + 1).toNat by omega] at this
  apply ByteArray.ext
  apply Array.ext'
  exact this

set_option maxRecDepth 100000 in
set_option maxHeartbeats 16000000 in
theorem xtext_calls : ∀ (f d : Nat) (kd lb : Int) (A : Option Addr) (n c : Nat) (ks : List PBlk) (w : World) (had : Nat), Blks d w A n c ks → (chkB f (.mk kd lb ks) had).2 = 0 →
    Calls Try.prog 52 #[.agg #[.int .i64 kd, .int .i64 lb, .slice A n c]] w (fun e w' => e = .returned (.string ⟨(txtB f (.mk kd lb ks)).toArray⟩) ∧ Below w.heap.size w w')
  | 0, d, kd, lb, A, n, c, ks, w, had, h, hc => by rw [chkB] at hc; cases hc
  | f + 1, d, kd, lb, A, n, c, ks, w, had, h, hc => by
    have HTL := hide2 (txt_len (f + 1) _ had hc)
    have HOK := hide2 (chkB_ok (f + 1) _ had hc)
    obtain ⟨h1, h2, h', h3, h4⟩ := chkB_inv hc
    rw [h3] at HTL HOK
    have IH := hide2 (xtext_calls f)
    have H := hide2 h
    have HL := hide2 h.len
    have HF := hide2 h4
    simp only [PBlk.kind, PBlk.label, PBlk.kids] at h2 HF
    have hn : ks.length = n := h.len
    have hns := h.small
    have hd : 1 ≤ kd ∧ kd ≤ 6 ∧ (kd = 2 → 1 ≤ lb ∧ lb ≤ 26) ∧ (3 ≤ kd → 0 < n) := by
      unfold headB at h2
      rw [hn] at h2
      split at h2
      · cases h2
      · split at h2
        · cases h2
        · split at h2
          · cases h2
          · omega
    obtain ⟨k1, k6, k2, kn⟩ := hd
    have X0 := hide2 (Box.new w #[.int .i64 kd, .int .i64 lb, .slice A n c] 33)
    have B0 := hide2 (boxBelow w (.cells #[.int .i64 kd, .int .i64 lb, .slice A n c] 33))
    have H0 := hide2 (h.keep B0.out)
    clear h hc h2 h3 h4 hn
    generalize hw0 : w.alloc (.cells #[.int .i64 kd, .int .i64 lb, .slice A n c] 33) = w0 at *
    obtain ⟨c0, c1, c2⟩ := X0.out.three
    by_cases e1 : kd = 1
    · subst e1
      go_enter Try.func52, Try.ntmps52
      go_wp2
      go_ret
      exact ⟨by rw [txtB_1]; rfl, B0.out⟩
    · by_cases e2 : kd = 2
      · subst e2
        have hlb := k2 rfl
        have hb1 := hlb.1
        have hb2 := hlb.2
        clear hlb k2
        go_enter Try.func52, Try.ntmps52
        go_wp2
        rw [cut1 lb hb1 hb2]
        go_ret
        exact ⟨by rw [txtB_2]; rfl, B0.out⟩
      · have k3 : 3 ≤ kd := by omega
        have hn0 := kn k3
        have HE := hide2 (xpre_end (f := f) (lb := lb) k3 (by rw [HL.out]; exact hn0))
        have hw1 : (w0.alloc (.cells #[.string ⟨#[62]⟩, .string ⟨#[63]⟩, .string ⟨#[38]⟩, .string ⟨#[42]⟩] 9)).cell? ⟨w.heap.size, 0, none⟩ = some (.int .i64 kd) := (X0.out.old _).cell 0
        have hw2 : (w0.alloc (.cells #[.string ⟨#[62]⟩, .string ⟨#[63]⟩, .string ⟨#[38]⟩, .string ⟨#[42]⟩] 9)).cell? ⟨w.heap.size, 2, none⟩ = some (.slice A n c) := (X0.out.old _).cell 2
        obtain ⟨z0, z1, z2, z3⟩ := box4S (Box.new w0 #[.string ⟨#[62]⟩, .string ⟨#[63]⟩, .string ⟨#[38]⟩, .string ⟨#[42]⟩] 9)
        have B1 := hide2 (show Below w.heap.size w (w0.alloc (.cells #[.string ⟨#[62]⟩, .string ⟨#[63]⟩, .string ⟨#[38]⟩, .string ⟨#[42]⟩] 9)) from B0.out.alloc B0.out.size _)
        obtain ⟨k, rfl⟩ : ∃ k : Nat, kd = 3 + (k : Int) := ⟨(kd - 3).toNat, by omega⟩
        have hk4 : (k : Int) < 4 := by omega
        have hk3 : ¬ 3 + (k : Int) < 3 := by omega
        clear k2 kn e1 e2 X0
        obtain ⟨sg, hsg⟩ : ∃ s, signB (3 + (k : Int)) = s := ⟨_, rfl⟩
        rw [hsg] at HE
        have zk : (w0.alloc (.cells #[.string ⟨#[62]⟩, .string ⟨#[63]⟩, .string ⟨#[38]⟩, .string ⟨#[42]⟩] 9)).cell? ⟨w0.heap.size, k, none⟩ = some (.string ⟨#[sg]⟩) := by
          have : k = 0 ∨ k = 1 ∨ k = 2 ∨ k = 3 := by omega
          rcases this with rfl | rfl | rfl | rfl
          all_goals (rw [← hsg]; first | exact z0 | exact z1 | exact z2 | exact z3)
        clear z0 z1 z2 z3 c0 c1 c2
        have HSG := hide2 hsg
        have HXL := hide2 (show ∀ i, (xpre sg ((ks.map (txtB f)).take i)).length ≤ 1000 from fun i => by
          have a1 := xpre_take sg (ks.map (txtB f)) i
          have a2 := congrArg List.length HE.out
          rw [List.length_append] at a2
          have a3 := HTL.out
          have a4 := HOK.out
          simp only at a3 a4
          omega)
        clear HTL HOK
        clear hsg
        go_enter Try.func52, Try.ntmps52
        have c0 : w0.cell? ⟨w.heap.size, 0, none⟩ = some (.int .i64 (3 + (k : Int))) := by rw [← hw0]; exact (Box.new w #[.int .i64 (3 + (k : Int)), .int .i64 lb, .slice A n c] 33).cell 0
        go_upto_region 5 with fail
        generalize w0.alloc (.cells #[.string ⟨#[62]⟩, .string ⟨#[63]⟩, .string ⟨#[38]⟩, .string ⟨#[42]⟩] 9) = w1 at *
        clear hw0 hw1 hw2 zk c0 B0
        go_loopw [3, 32] (fun sv v wr => ∃ i : Nat, i ≤ n ∧ v = .int .i64 i ∧ sv = .string ⟨(xpre sg ((ks.map (txtB f)).take i)).toArray⟩ ∧ Hid (Below w.heap.size w wr)) (fun _ v _ => n - (intOf v).toNat)
        case atStart => exact ⟨0, Nat.zero_le _, rfl, rfl, B1⟩
        case round =>
          obtain ⟨i, hi, rfl, rfl, X2⟩ := hrel
          by_cases hlt : i < n
          · skip
            have hki : (i : Int) < (n : Int) := by omega
            obtain ⟨bl, off, kd', lb', ks', B', m', e', d', rfl, rfl, hbl, hx, q0, q1, q2, K'⟩ := (H.out.keep X2.out).get hlt
            obtain ⟨hd0, e0⟩ := pre_okC HF.out i
            obtain ⟨hd', e1, _⟩ := next_okC HF.out hx.out e0
            have HX := hide2 (show (ks.map (txtB f)).take (i + 1) = (ks.map (txtB f)).take i ++ [txtB f (.mk kd' lb' ks')] by rw [List.take_add_one, List.getElem?_map, hx.out]; simp)
            go_upto_region 7 with fail
            generalize hw5 : wr.alloc (.cells #[.int .i64 kd', .int .i64 lb', .slice B' m' e'] 33) = w5 at *
            have D5r := hide2 (show Below wr.heap.size wr w5 by rw [← hw5]; exact boxBelow _ _)
            have B5 := hide2 (show Box w5 wr.heap.size 33 #[.int .i64 kd', .int .i64 lb', .slice B' m' e'] by rw [← hw5]; exact Box.new _ _ _)
            have X5 := hide2 (X2.out.trans (D5r.out.mono X2.out.size))
            have D5 := hide2 (show Below w5.heap.size w5 w5.drew from (Below.refl _ _).drew)
            have CI := hide2 (show ∀ w', Below w5.heap.size w5 w' → _ from fun w' hb => IH.out d' kd' lb' B' m' e' ks' w' hd0 ((K'.out.keep D5r.out).keep hb) (by rw [e1]))
            have hl1 : (txtB f (.mk kd' lb' ks')).length ≤ 1000 := by
              have a1 := txt_len f (.mk kd' lb' ks') hd0 (by rw [e1])
              have a2 := chkB_ok f (.mk kd' lb' ks') hd0 (by rw [e1])
              rw [e1] at a1 a2
              simp only at a1 a2
              omega
            clear e0 e1 hx hw5 q0 q1 q2 K'
            by_cases hi0 : i = 0
            · subst hi0
              have hmn : min (0 : Int) 1 = 0 := rfl
              have hl2 : (xpre sg []).length ≤ 1000 := HXL.out 0
              have HT := hide2 (show (⟨(xpre sg []).toArray⟩ : ByteArray) ++ (⟨#[40]⟩ ++ ⟨(txtB f (.mk kd' lb' ks')).toArray⟩) = ⟨(xpre sg ((ks.map (txtB f)).take (0 + 1))).toArray⟩ by rw [HX.out, app2, app2]; exact congrArg (fun l : List UInt8 => (⟨l.toArray⟩ : ByteArray)) (xpre_0 _ _))
              go_upto_region 7 with fail
              refine wp_region_scr 9 (.takes [0, 2, 3, 6] (.two 1 (.take 4 (.two 5 (.one 7 (.one 8 (.fins [9, 10] .done))) 7 (.one 5 (.one 8 (.fins [9, 10] .done))))) 7 (.one 1 (.take 4 (.one 5 (.one 8 (.fins [9, 10] .done))))))) (fun w' => w'.cell? ⟨wr.heap.size, 0, none⟩ = some (.int .i64 kd') ∧ w'.cell? ⟨wr.heap.size, 1, none⟩ = some (.int .i64 lb') ∧ w'.cell? ⟨wr.heap.size, 2, none⟩ = some (.slice B' m' e')) (by kernel_rfl) (by kernel_rfl) (by kernel_rfl) (fun _ _ _ _ _ h => h) B5.out.three (fun hHeld => ?_)
              simp only [Scr.takes, Scr.fins]
              obtain ⟨v0, v1, v2⟩ := hHeld
              have hHeld : w5.drew.cell? ⟨wr.heap.size, 0, none⟩ = some (.int .i64 kd') ∧ w5.drew.cell? ⟨wr.heap.size, 1, none⟩ = some (.int .i64 lb') ∧ w5.drew.cell? ⟨wr.heap.size, 2, none⟩ = some (.slice B' m' e') := ⟨v0, v1, v2⟩
              have B5 := hide2 (show Box w5.drew wr.heap.size 33 #[.int .i64 kd', .int .i64 lb', .slice B' m' e'] from B5.out.keep D5.out)
              clear v0 v1 v2
              generalize w5.drew = w6 at *
              iterate 4
                refine tkTake (v := ?_) rfl (by rfl) hHeld (fun w' hSw => ?_) ?_
                rotate_left
                · (obtain ⟨s0, s1, s2⟩ := hSw; go_simp; try with_reducible rfl)
                try simp only [Act.put, List.setIfInBounds_toArray, List.set_cons_zero, List.set_cons_succ]
              refine tkTwo rfl rfl (fun K hK => ?_) (fun K hK => ?_)
              · skip
                go_simp
                generalize hwn : w6.alloc (.cells #[.string ⟨#[40]⟩, .string ⟨#[44]⟩] 9) = w7
                have BN := hide2 (show Box w7 w6.heap.size 9 #[.string ⟨#[40]⟩, .string ⟨#[44]⟩] by rw [← hwn]; exact Box.new _ _ _)
                have BB := hide2 (show Below w6.heap.size w6 w7 by rw [← hwn]; exact boxBelow _ _)
                have BXw7 := hide2 (B5.out.keep BB.out)
                obtain ⟨g0, g1⟩ := BN.out.two
                refine hK.out _ _ (BXw7.out.three) (fun hHeld => ?_)
                clear hK hwn
                try simp only [Act.put, List.setIfInBounds_toArray, List.set_cons_zero, List.set_cons_succ]
                have X7 := hide2 (D5.out.trans (BB.out.mono D5.out.size))
                refine tkTake (v := .pointer (some ⟨w6.heap.size, 0, none⟩)) rfl (by rfl) hHeld (fun w' hSw => ?_) ?_
                · (go_simp; try with_reducible rfl)
                try simp only [Act.put, List.setIfInBounds_toArray, List.set_cons_zero, List.set_cons_succ]
                refine tkTwo rfl rfl (fun K hK => ?_) (fun K hK => ?_)
                · skip
                  go_simp
                  refine hK.out _ _ hHeld (fun hHeld => ?_)
                  clear hK
                  try simp only [Act.put, List.setIfInBounds_toArray, List.set_cons_zero, List.set_cons_succ]
                  refine tkOne rfl (fun K hK => ?_)
                  go_simp; go_at_call 52
                  (with_reducible refine (CI.out w7 X7.out).mono ?_)
                  rintro e w8 ⟨rfl, hb⟩
                  have BC := hide2 hb
                  refine hK.out _ _ ((BXw7.out.keep BC.out).three) (fun hHeld => ?_)
                  clear hK hb
                  try simp only [Act.put, List.setIfInBounds_toArray, List.set_cons_zero, List.set_cons_succ]
                  refine tkOne rfl (fun K hK => ?_)
                  go_simp
                  rw [if_neg (by omega)]
                  go_simp
                  refine hK.out _ _ hHeld (fun hHeld => ?_)
                  clear hK
                  try simp only [Act.put, List.setIfInBounds_toArray, List.set_cons_zero, List.set_cons_succ]
                  refine tkEnd rfl (fun K hK => ?_)
                  go_simp
                  rw [if_neg (by omega)]
                  rw [HT.out]
                  go_simp
                  refine hK.out _ _ ?_
                  clear hK
                  try simp only [Act.put, List.setIfInBounds_toArray, List.set_cons_zero, List.set_cons_succ]
                  refine tkEnd rfl (fun K hK => ?_)
                  go_simp
                  refine hK.out _ _ ?_
                  clear hK
                  try simp only [Act.put, List.setIfInBounds_toArray, List.set_cons_zero, List.set_cons_succ]
                  refine tkDone ?_
                  go_wp2
                  go_roundw
                  case rel => exact ⟨0 + 1, by omega, by go_num, rfl, (by exact X5.out.trans ((X7.out.trans (BC.out.mono X7.out.size)).mono X5.out.size))⟩
                  case measure => simp [intOf]; omega
                · skip
                  go_simp; go_at_call 52
                  (with_reducible refine (CI.out w7 X7.out).mono ?_)
                  rintro e w8 ⟨rfl, hb⟩
                  have BC := hide2 hb
                  refine hK.out _ _ ((BXw7.out.keep BC.out).three) (fun hHeld => ?_)
                  clear hK hb
                  try simp only [Act.put, List.setIfInBounds_toArray, List.set_cons_zero, List.set_cons_succ]
                  obtain ⟨g0, g1⟩ := (BN.out.keep BC.out).two
                  refine tkOne rfl (fun K hK => ?_)
                  go_simp
                  refine hK.out _ _ hHeld (fun hHeld => ?_)
                  clear hK
                  try simp only [Act.put, List.setIfInBounds_toArray, List.set_cons_zero, List.set_cons_succ]
                  refine tkOne rfl (fun K hK => ?_)
                  go_simp
                  rw [if_neg (by omega)]
                  go_simp
                  refine hK.out _ _ hHeld (fun hHeld => ?_)
                  clear hK
                  try simp only [Act.put, List.setIfInBounds_toArray, List.set_cons_zero, List.set_cons_succ]
                  refine tkEnd rfl (fun K hK => ?_)
                  go_simp
                  rw [if_neg (by omega)]
                  rw [HT.out]
                  go_simp
                  refine hK.out _ _ ?_
                  clear hK
                  try simp only [Act.put, List.setIfInBounds_toArray, List.set_cons_zero, List.set_cons_succ]
                  refine tkEnd rfl (fun K hK => ?_)
                  go_simp
                  refine hK.out _ _ ?_
                  clear hK
                  try simp only [Act.put, List.setIfInBounds_toArray, List.set_cons_zero, List.set_cons_succ]
                  refine tkDone ?_
                  go_wp2
                  go_roundw
                  case rel => exact ⟨0 + 1, by omega, by go_num, rfl, (by exact X5.out.trans ((X7.out.trans (BC.out.mono X7.out.size)).mono X5.out.size))⟩
                  case measure => simp [intOf]; omega
              · skip
                go_simp; go_at_call 52
                (with_reducible refine (CI.out w6 D5.out).mono ?_)
                rintro e w7 ⟨rfl, hb⟩
                have BC := hide2 hb
                refine hK.out _ _ ((B5.out.keep BC.out).three) (fun hHeld => ?_)
                clear hK hb
                try simp only [Act.put, List.setIfInBounds_toArray, List.set_cons_zero, List.set_cons_succ]
                have X7 := hide2 (D5.out.trans (BC.out.mono D5.out.size))
                have B5 := hide2 (B5.out.keep BC.out)
                refine tkOne rfl (fun K hK => ?_)
                go_simp
                generalize hwn : w7.alloc (.cells #[.string ⟨#[40]⟩, .string ⟨#[44]⟩] 9) = w8
                have BN := hide2 (show Box w8 w7.heap.size 9 #[.string ⟨#[40]⟩, .string ⟨#[44]⟩] by rw [← hwn]; exact Box.new _ _ _)
                have BB := hide2 (show Below w7.heap.size w7 w8 by rw [← hwn]; exact boxBelow _ _)
                have BXw8 := hide2 (B5.out.keep BB.out)
                obtain ⟨g0, g1⟩ := BN.out.two
                refine hK.out _ _ (BXw8.out.three) (fun hHeld => ?_)
                clear hK hwn
                try simp only [Act.put, List.setIfInBounds_toArray, List.set_cons_zero, List.set_cons_succ]
                refine tkTake (v := .pointer (some ⟨w7.heap.size, 0, none⟩)) rfl (by rfl) hHeld (fun w' hSw => ?_) ?_
                · (go_simp; try with_reducible rfl)
                try simp only [Act.put, List.setIfInBounds_toArray, List.set_cons_zero, List.set_cons_succ]
                refine tkOne rfl (fun K hK => ?_)
                go_simp
                refine hK.out _ _ hHeld (fun hHeld => ?_)
                clear hK
                try simp only [Act.put, List.setIfInBounds_toArray, List.set_cons_zero, List.set_cons_succ]
                refine tkOne rfl (fun K hK => ?_)
                go_simp
                rw [if_neg (by omega)]
                go_simp
                refine hK.out _ _ hHeld (fun hHeld => ?_)
                clear hK
                try simp only [Act.put, List.setIfInBounds_toArray, List.set_cons_zero, List.set_cons_succ]
                refine tkEnd rfl (fun K hK => ?_)
                go_simp
                rw [if_neg (by omega)]
                rw [HT.out]
                go_simp
                refine hK.out _ _ ?_
                clear hK
                try simp only [Act.put, List.setIfInBounds_toArray, List.set_cons_zero, List.set_cons_succ]
                refine tkEnd rfl (fun K hK => ?_)
                go_simp
                refine hK.out _ _ ?_
                clear hK
                try simp only [Act.put, List.setIfInBounds_toArray, List.set_cons_zero, List.set_cons_succ]
                refine tkDone ?_
                go_wp2
                go_roundw
                case rel => exact ⟨0 + 1, by omega, by go_num, rfl, (by exact X5.out.trans ((X7.out.trans (BB.out.mono X7.out.size)).mono X5.out.size))⟩
                case measure => simp [intOf]; omega
            · skip
              have HT := hide2 (show (⟨(xpre sg ((ks.map (txtB f)).take i)).toArray⟩ : ByteArray) ++ (⟨#[44]⟩ ++ ⟨(txtB f (.mk kd' lb' ks')).toArray⟩) = ⟨(xpre sg ((ks.map (txtB f)).take (i + 1))).toArray⟩ by rw [HX.out, app2, app2]; exact congrArg (fun l : List UInt8 => (⟨l.toArray⟩ : ByteArray)) (xpre_s _ _ _ (by intro e; have := congrArg List.length e; rw [List.length_take, List.length_map] at this; rw [HL.out] at this; simp only [List.length_nil] at this; omega)))
              have hmn : min (i : Int) 1 = 1 := by omega
              have hl2 := HXL.out i
              go_upto_region 7 with fail
              refine wp_region_scr 9 (.takes [0, 2, 3, 6] (.two 1 (.take 4 (.two 5 (.one 7 (.one 8 (.fins [9, 10] .done))) 7 (.one 5 (.one 8 (.fins [9, 10] .done))))) 7 (.one 1 (.take 4 (.one 5 (.one 8 (.fins [9, 10] .done))))))) (fun w' => w'.cell? ⟨wr.heap.size, 0, none⟩ = some (.int .i64 kd') ∧ w'.cell? ⟨wr.heap.size, 1, none⟩ = some (.int .i64 lb') ∧ w'.cell? ⟨wr.heap.size, 2, none⟩ = some (.slice B' m' e')) (by kernel_rfl) (by kernel_rfl) (by kernel_rfl) (fun _ _ _ _ _ h => h) B5.out.three (fun hHeld => ?_)
              simp only [Scr.takes, Scr.fins]
              obtain ⟨v0, v1, v2⟩ := hHeld
              have hHeld : w5.drew.cell? ⟨wr.heap.size, 0, none⟩ = some (.int .i64 kd') ∧ w5.drew.cell? ⟨wr.heap.size, 1, none⟩ = some (.int .i64 lb') ∧ w5.drew.cell? ⟨wr.heap.size, 2, none⟩ = some (.slice B' m' e') := ⟨v0, v1, v2⟩
              have B5 := hide2 (show Box w5.drew wr.heap.size 33 #[.int .i64 kd', .int .i64 lb', .slice B' m' e'] from B5.out.keep D5.out)
              clear v0 v1 v2
              generalize w5.drew = w6 at *
              iterate 4
                refine tkTake (v := ?_) rfl (by rfl) hHeld (fun w' hSw => ?_) ?_
                rotate_left
                · (obtain ⟨s0, s1, s2⟩ := hSw; go_simp; try with_reducible rfl)
                try simp only [Act.put, List.setIfInBounds_toArray, List.set_cons_zero, List.set_cons_succ]
              refine tkTwo rfl rfl (fun K hK => ?_) (fun K hK => ?_)
              · skip
                go_simp
                generalize hwn : w6.alloc (.cells #[.string ⟨#[40]⟩, .string ⟨#[44]⟩] 9) = w7
                have BN := hide2 (show Box w7 w6.heap.size 9 #[.string ⟨#[40]⟩, .string ⟨#[44]⟩] by rw [← hwn]; exact Box.new _ _ _)
                have BB := hide2 (show Below w6.heap.size w6 w7 by rw [← hwn]; exact boxBelow _ _)
                have BXw7 := hide2 (B5.out.keep BB.out)
                obtain ⟨g0, g1⟩ := BN.out.two
                refine hK.out _ _ (BXw7.out.three) (fun hHeld => ?_)
                clear hK hwn
                try simp only [Act.put, List.setIfInBounds_toArray, List.set_cons_zero, List.set_cons_succ]
                have X7 := hide2 (D5.out.trans (BB.out.mono D5.out.size))
                refine tkTake (v := .pointer (some ⟨w6.heap.size, 1, none⟩)) rfl (by rfl) hHeld (fun w' hSw => ?_) ?_
                · (go_simp; try with_reducible rfl)
                try simp only [Act.put, List.setIfInBounds_toArray, List.set_cons_zero, List.set_cons_succ]
                refine tkTwo rfl rfl (fun K hK => ?_) (fun K hK => ?_)
                · skip
                  go_simp
                  refine hK.out _ _ hHeld (fun hHeld => ?_)
                  clear hK
                  try simp only [Act.put, List.setIfInBounds_toArray, List.set_cons_zero, List.set_cons_succ]
                  refine tkOne rfl (fun K hK => ?_)
                  go_simp; go_at_call 52
                  (with_reducible refine (CI.out w7 X7.out).mono ?_)
                  rintro e w8 ⟨rfl, hb⟩
                  have BC := hide2 hb
                  refine hK.out _ _ ((BXw7.out.keep BC.out).three) (fun hHeld => ?_)
                  clear hK hb
                  try simp only [Act.put, List.setIfInBounds_toArray, List.set_cons_zero, List.set_cons_succ]
                  refine tkOne rfl (fun K hK => ?_)
                  go_simp
                  rw [if_neg (by omega)]
                  go_simp
                  refine hK.out _ _ hHeld (fun hHeld => ?_)
                  clear hK
                  try simp only [Act.put, List.setIfInBounds_toArray, List.set_cons_zero, List.set_cons_succ]
                  refine tkEnd rfl (fun K hK => ?_)
                  go_simp
                  rw [if_neg (by omega)]
                  rw [HT.out]
                  go_simp
                  refine hK.out _ _ ?_
                  clear hK
                  try simp only [Act.put, List.setIfInBounds_toArray, List.set_cons_zero, List.set_cons_succ]
                  refine tkEnd rfl (fun K hK => ?_)
                  go_simp
                  refine hK.out _ _ ?_
                  clear hK
                  try simp only [Act.put, List.setIfInBounds_toArray, List.set_cons_zero, List.set_cons_succ]
                  refine tkDone ?_
                  go_wp2
                  go_roundw
                  case rel => exact ⟨i + 1, by omega, by go_num, rfl, (by exact X5.out.trans ((X7.out.trans (BC.out.mono X7.out.size)).mono X5.out.size))⟩
                  case measure => simp [intOf]; omega
                · skip
                  go_simp; go_at_call 52
                  (with_reducible refine (CI.out w7 X7.out).mono ?_)
                  rintro e w8 ⟨rfl, hb⟩
                  have BC := hide2 hb
                  refine hK.out _ _ ((BXw7.out.keep BC.out).three) (fun hHeld => ?_)
                  clear hK hb
                  try simp only [Act.put, List.setIfInBounds_toArray, List.set_cons_zero, List.set_cons_succ]
                  obtain ⟨g0, g1⟩ := (BN.out.keep BC.out).two
                  refine tkOne rfl (fun K hK => ?_)
                  go_simp
                  refine hK.out _ _ hHeld (fun hHeld => ?_)
                  clear hK
                  try simp only [Act.put, List.setIfInBounds_toArray, List.set_cons_zero, List.set_cons_succ]
                  refine tkOne rfl (fun K hK => ?_)
                  go_simp
                  rw [if_neg (by omega)]
                  go_simp
                  refine hK.out _ _ hHeld (fun hHeld => ?_)
                  clear hK
                  try simp only [Act.put, List.setIfInBounds_toArray, List.set_cons_zero, List.set_cons_succ]
                  refine tkEnd rfl (fun K hK => ?_)
                  go_simp
                  rw [if_neg (by omega)]
                  rw [HT.out]
                  go_simp
                  refine hK.out _ _ ?_
                  clear hK
                  try simp only [Act.put, List.setIfInBounds_toArray, List.set_cons_zero, List.set_cons_succ]
                  refine tkEnd rfl (fun K hK => ?_)
                  go_simp
                  refine hK.out _ _ ?_
                  clear hK
                  try simp only [Act.put, List.setIfInBounds_toArray, List.set_cons_zero, List.set_cons_succ]
                  refine tkDone ?_
                  go_wp2
                  go_roundw
                  case rel => exact ⟨i + 1, by omega, by go_num, rfl, (by exact X5.out.trans ((X7.out.trans (BC.out.mono X7.out.size)).mono X5.out.size))⟩
                  case measure => simp [intOf]; omega
              · skip
                go_simp; go_at_call 52
                (with_reducible refine (CI.out w6 D5.out).mono ?_)
                rintro e w7 ⟨rfl, hb⟩
                have BC := hide2 hb
                refine hK.out _ _ ((B5.out.keep BC.out).three) (fun hHeld => ?_)
                clear hK hb
                try simp only [Act.put, List.setIfInBounds_toArray, List.set_cons_zero, List.set_cons_succ]
                have X7 := hide2 (D5.out.trans (BC.out.mono D5.out.size))
                have B5 := hide2 (B5.out.keep BC.out)
                refine tkOne rfl (fun K hK => ?_)
                go_simp
                generalize hwn : w7.alloc (.cells #[.string ⟨#[40]⟩, .string ⟨#[44]⟩] 9) = w8
                have BN := hide2 (show Box w8 w7.heap.size 9 #[.string ⟨#[40]⟩, .string ⟨#[44]⟩] by rw [← hwn]; exact Box.new _ _ _)
                have BB := hide2 (show Below w7.heap.size w7 w8 by rw [← hwn]; exact boxBelow _ _)
                have BXw8 := hide2 (B5.out.keep BB.out)
                obtain ⟨g0, g1⟩ := BN.out.two
                refine hK.out _ _ (BXw8.out.three) (fun hHeld => ?_)
                clear hK hwn
                try simp only [Act.put, List.setIfInBounds_toArray, List.set_cons_zero, List.set_cons_succ]
                refine tkTake (v := .pointer (some ⟨w7.heap.size, 1, none⟩)) rfl (by rfl) hHeld (fun w' hSw => ?_) ?_
                · (go_simp; try with_reducible rfl)
                try simp only [Act.put, List.setIfInBounds_toArray, List.set_cons_zero, List.set_cons_succ]
                refine tkOne rfl (fun K hK => ?_)
                go_simp
                refine hK.out _ _ hHeld (fun hHeld => ?_)
                clear hK
                try simp only [Act.put, List.setIfInBounds_toArray, List.set_cons_zero, List.set_cons_succ]
                refine tkOne rfl (fun K hK => ?_)
                go_simp
                rw [if_neg (by omega)]
                go_simp
                refine hK.out _ _ hHeld (fun hHeld => ?_)
                clear hK
                try simp only [Act.put, List.setIfInBounds_toArray, List.set_cons_zero, List.set_cons_succ]
                refine tkEnd rfl (fun K hK => ?_)
                go_simp
                rw [if_neg (by omega)]
                rw [HT.out]
                go_simp
                refine hK.out _ _ ?_
                clear hK
                try simp only [Act.put, List.setIfInBounds_toArray, List.set_cons_zero, List.set_cons_succ]
                refine tkEnd rfl (fun K hK => ?_)
                go_simp
                refine hK.out _ _ ?_
                clear hK
                try simp only [Act.put, List.setIfInBounds_toArray, List.set_cons_zero, List.set_cons_succ]
                refine tkDone ?_
                go_wp2
                go_roundw
                case rel => exact ⟨i + 1, by omega, by go_num, rfl, (by exact X5.out.trans ((X7.out.trans (BB.out.mono X7.out.size)).mono X5.out.size))⟩
                case measure => simp [intOf]; omega
          · obtain rfl : i = n := by omega
            have E9 := hide2 (show (ks.map (txtB f)).take i = ks.map (txtB f) from List.take_of_length_le (by rw [List.length_map, HL.out]; exact Nat.le_refl _))
            have hl2 := HXL.out i
            rw [E9.out] at hl2 ⊢
            have hl3 : ¬ 9223372036854775807 < (xpre sg (ks.map (txtB f))).length + 1 := by omega
            go_wp2
            go_ret
            exact ⟨by rw [app2, HE.out]; rfl, X2.out⟩
end Go.Proofs.Ytadepofaobdbhaa
