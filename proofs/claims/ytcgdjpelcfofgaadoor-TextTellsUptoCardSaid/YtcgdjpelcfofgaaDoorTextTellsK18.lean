/- The contract of the writing of a line: the reference's. Conditions: weights of at most nine, at most sixteen places, a label of at most twenty-six. -/
import Derived.Test.YtcgdjpelcfofgaaDoorTextTellsK15
import Derived.Test.YtcgdjpelcfofgaaDoorTextTellsK17
set_option linter.all false
namespace Go.Proofs.YtcgdjpelcfofgaaDoor
open Go.RowKit

theorem cutLab (l : Int) (h1 : 1 ≤ l) (h2 : l ≤ 26) : (⟨#[97, 98, 99, 100, 101, 102, 103, 104, 105, 106, 107, 108, 109, 110, 111, 112, 113, 114, 115, 116, 117, 118, 119, 120, 121, 122]⟩ : ByteArray).extract (l.toNat - 1) l.toNat = ⟨(labT l).toArray⟩ := by
  have key : ∀ k : Fin 26, ((⟨#[97, 98, 99, 100, 101, 102, 103, 104, 105, 106, 107, 108, 109, 110, 111, 112, 113, 114, 115, 116, 117, 118, 119, 120, 121, 122]⟩ : ByteArray).extract k.val (k.val + 1)).data.toList = labT ((k.val : Int) + 1) := by decide +kernel
  have := key ⟨l.toNat - 1, by omega⟩
  simp only at this
  rw [show ((l.toNat - 1 : Nat) : Int) + 1 = l by omega, show l.toNat - 1 + 1 = l.toNat by omega] at this
  apply ByteArray.ext
  apply Array.ext'
  exact this
def partL (t : PTran) (k : Nat) : List UInt8 := labT t.label ++ (if 1 ≤ k then 32 :: 58 :: sideT 0 t.pre else []) ++ (if 2 ≤ k then 32 :: 62 :: sideT 0 t.post else [])
theorem partL_2 (t : PTran) : partL t 2 = lineT t := by unfold partL lineT; simp

set_option maxRecDepth 100000 in
set_option maxHeartbeats 16000000 in
theorem oline_calls {w : World} {l : Int} {A1 A2 : Option Addr} {n1 c1 n2 c2 : Nat} {pre post : List Int} (h1 : Ints w A1 n1 c1 pre) (h2 : Ints w A2 n2 c2 post) (hn1 : n1 ≤ 16) (hn2 : n2 ≤ 16) (ho1 : ∀ x ∈ pre, 0 ≤ x ∧ x ≤ 9) (ho2 : ∀ x ∈ post, 0 ≤ x ∧ x ≤ 9) (l0 : 0 ≤ l) (l1 : l ≤ 26) :
    Calls Tryd.prog 15 #[.agg #[.int .i64 l, .slice A1 n1 c1, .slice A2 n2 c2]] w fun e w' => e = .returned (.string ⟨(lineT ⟨l, pre, post⟩ ++ [10]).toArray⟩) ∧ Below w.heap.size w w' := by
  have H1 := hide2 (And.intro h1 (And.intro hn1 ho1))
  have H2 := hide2 (And.intro h2 (And.intro hn2 ho2))
  have L1 := hide2 (show (sideT 0 pre).length ≤ 100 by have := sideT_len pre 0 (by rw [Sl.len h1]; omega) (fun x hx => (ho1 x hx).2); rw [Sl.len h1] at this; omega)
  have L2 := hide2 (show (sideT 0 post).length ≤ 100 by have := sideT_len post 0 (by rw [Sl.len h2]; omega) (fun x hx => (ho2 x hx).2); rw [Sl.len h2] at this; omega)
  have S1 := hide2 (Sl.len h1)
  have S2 := hide2 (Sl.len h2)
  obtain ⟨cl, hcl, _⟩ := labT_is l0 l1
  have L0 := hide2 (show (labT l).length = 1 by rw [hcl]; rfl)
  clear h1 h2 hn1 hn2 ho1 ho2 hcl
  go_enter Tryd.func15, Tryd.ntmps15
  go_upto_region 2 with fail
  have B1 := hide2 (show Below w.heap.size w (w.alloc (.cells #[.int .i64 l, .slice A1 n1 c1, .slice A2 n2 c2] 44)) from (Below.refl _ _).alloc (Nat.le_refl _) _)
  have X1 := hide2 (Box.new w #[.int .i64 l, .slice A1 n1 c1, .slice A2 n2 c2] 44)
  generalize w.alloc (.cells #[.int .i64 l, .slice A1 n1 c1, .slice A2 n2 c2] 44) = w1 at *
  obtain ⟨z0, z1, z2⟩ := X1.out.three
  go_upto_if 10 with fail
  go_cut [3] (fun v wx => v = .string ⟨(partL ⟨l, pre, post⟩ 0).toArray⟩ ∧ wx = w1)
  case first =>
    have P0 := hide2 (show partL ⟨l, pre, post⟩ 0 = labT l by unfold partL; simp)
    by_cases hl : l = 0
    · subst hl
      go_wp2
      go_meet
      exact ⟨by rw [P0.out]; rfl, rfl⟩
    · have hli : 0 < l := by omega
      have h26 : l ≤ 26 := l1
      go_wp2
      go_meet
      exact ⟨by rw [cutLab l (by omega) l1, P0.out], rfl⟩
  case rest =>
    obtain ⟨rfl, rfl⟩ := hcut
    go_upto_region 5 with fail
    have B2 := hide2 (show Below w.heap.size w (wc.alloc (.cells #[.slice A1 n1 c1, .slice A2 n2 c2] 42)) from B1.out.alloc B1.out.size _)
    have X2 := hide2 (Box.new wc #[.slice A1 n1 c1, .slice A2 n2 c2] 42)
    generalize wc.alloc (.cells #[.slice A1 n1 c1, .slice A2 n2 c2] 42) = w2 at *
    clear z0 z1 z2
    go_loopg [3, 23] 3 (fun gk v3 v23 wr => ∃ k : Nat, v23 = .int .i64 (k : Int) ∧ gk + k = 3 ∧ k ≤ 2 ∧ v3 = .string ⟨(partL ⟨l, pre, post⟩ k).toArray⟩ ∧ Hid (Below w.heap.size w wr) ∧ Hid (Box wr wc.heap.size 42 #[.slice A1 n1 c1, .slice A2 n2 c2]))
    case atStart => exact ⟨0, rfl, rfl, by omega, rfl, B2, X2⟩
    case round =>
      clear B2 X2
      obtain ⟨k, rfl, hgk, hk2, rfl, BR, XR⟩ := hrel
      obtain ⟨x0, x1⟩ := XR.out.two
      rcases (show k = 0 ∨ k = 1 ∨ k = 2 by omega) with rfl | rfl | rfl
      · obtain rfl : gk = 3 := by omega
        have PL := hide2 (show (partL ⟨l, pre, post⟩ 0).length ≤ 110 by unfold partL; simp only [List.length_append]; have h0 := L0.out; have h1 := L1.out; simp; omega)
        obtain ⟨q0, hq0⟩ : ∃ q0, q0 = partL ⟨l, pre, post⟩ 0 := ⟨_, rfl⟩
        have Q0 := hide2 hq0
        rw [← hq0] at PL ⊢
        obtain ⟨q, hq⟩ : ∃ q, q = q0 ++ [32, 58] := ⟨_, rfl⟩
        have QL := hide2 (show q.length ≤ 112 by rw [hq, List.length_append]; have := PL.out; simp; omega)
        have QE := hide2 (show q ++ sideT 0 pre = partL ⟨l, pre, post⟩ 1 by rw [hq, hq0]; unfold partL; simp)
        have pl := PL.out
        have a0 : ∀ wx : World, (Op.stringOp .add ⟨q0.toArray⟩ ⟨#[32, 58]⟩).run Tryd.prog wx = .ok (.string ⟨q.toArray⟩) wx := fun wx => by rw [hq]; exact run_string_add_lists wx q0 [32, 58] (by omega) (by decide)
        clear hq hq0 hgk
        go_upto_region 8 with fail
        have D5 := hide2 (show Below wr.heap.size wr (wr.alloc (.cells #[.string ⟨#[32, 58]⟩, .string ⟨#[32, 62]⟩] 9)) from (Below.refl _ _).alloc (Nat.le_refl _) _)
        generalize wr.alloc (.cells #[.string ⟨#[32, 58]⟩, .string ⟨#[32, 62]⟩] 9) = w5 at *
        have B5 := hide2 (BR.out.trans (D5.out.mono BR.out.size))
        have X5 := hide2 (XR.out.keep D5.out)
        clear a0 x0 x1 pl PL
        go_wp2_with fail
        go_loopg [3, 36] (n1 + 1) (fun gk v3 v36 wz => ∃ i : Nat, v36 = .int .i64 (i : Int) ∧ gk + i = n1 + 1 ∧ i ≤ n1 ∧ v3 = .string ⟨(q ++ sideT 0 (pre.take i)).toArray⟩ ∧ Hid (Below w.heap.size w wz) ∧ Hid (Box wz wc.heap.size 42 #[.slice A1 n1 c1, .slice A2 n2 c2]))
        case atStart => exact ⟨0, rfl, rfl, Nat.zero_le _, by rw [List.take_zero]; simp [sideT], B5, X5⟩
        case round =>
          clear B5 X5
          obtain ⟨i, rfl, hgk, hi, rfl, BZ, XZ⟩ := hrel
          have HSL := hide2 (show (q ++ sideT 0 (pre.take i)).length ≤ 220 by
            have h1 := sideT_len (pre.take i) 0 (by rw [List.length_take]; have := S1.out; have := H1.out.2.1; omega) (fun y hy => (H1.out.2.2 y (List.mem_of_mem_take hy)).2)
            have h2 := QL.out
            have h3 := H1.out.2.1
            rw [List.length_take] at h1
            rw [List.length_append]
            omega)
          by_cases hlt : i < n1
          · have hji : (i : Int) < (n1 : Int) := by omega
            obtain ⟨b, off, x, rfl, hb, hx, cx⟩ := Ints.get (H1.out.1.keep BZ.out) hlt
            obtain ⟨xa, xb⟩ := H1.out.2.2 x (List.mem_of_getElem? hx.out)
            have HS := hide2 (sideT_snoc hx.out)
            have hi100 : i < 100 := by have := H1.out.2.1; omega
            clear hx
            obtain ⟨m, rfl⟩ : ∃ m : Nat, x = (m : Int) := ⟨x.toNat, by omega⟩
            have hm100 : m < 100 := by omega
            have dl1 := dec_len hi100
            have dl2 := dec_len hm100
            have IP := hide2 (fun (wx : World) => itoaS' (w := wx) hi100)
            have sl := HSL.out
            have hgm : gk = (gk - 1) + 1 := by omega
            by_cases hm0 : m = 0
            · subst hm0
              have SE := hide2 (show q ++ sideT 0 (pre.take (i + 1)) = q ++ sideT 0 (pre.take i) by rw [HS.out]; unfold oneT; rw [if_pos (show ((0 : Nat) : Int) = 0 from rfl), List.append_nil])
              go_wp2
              go_roundg (gk - 1)
              case measure => omega
              case rel => exact ⟨i + 1, by go_num, by omega, by omega, by rw [SE.out], BZ, XZ⟩
            · have hmi : (0 : Int) < (m : Int) := by omega
              obtain ⟨S, hS⟩ : ∃ S, S = q ++ sideT 0 (pre.take i) := ⟨_, rfl⟩
              rw [← hS] at sl ⊢
              obtain ⟨S1', hS1⟩ : ∃ S1, S1 = S ++ [32] := ⟨_, rfl⟩
              have n1' : S1'.length ≤ 230 := by rw [hS1, List.length_append]; simp; omega
              have a1 : ∀ wx : World, (Op.stringOp .add ⟨S.toArray⟩ ⟨#[32]⟩).run Tryd.prog wx = .ok (.string ⟨S1'.toArray⟩) wx := fun wx => by rw [hS1]; exact run_string_add_lists wx S [32] (by omega) (by decide)
              by_cases hm : 1 < m
              · have hmj : (1 : Int) < (m : Int) := by omega
                have KP := hide2 (fun (wx : World) => itoaS' (w := wx) hm100)
                obtain ⟨D, hD⟩ : ∃ D, D = Lib.decDigits m ++ [42] := ⟨_, rfl⟩
                obtain ⟨S2', hS2⟩ : ∃ S2, S2 = S1' ++ D := ⟨_, rfl⟩
                obtain ⟨S3', hS3⟩ : ∃ S3, S3 = S2' ++ Lib.decDigits i := ⟨_, rfl⟩
                have n2' : D.length ≤ 10 := by rw [hD, List.length_append]; simp; omega
                have n3' : S2'.length ≤ 240 := by rw [hS2, List.length_append]; omega
                have a2 : ∀ wx : World, (Op.stringOp .add ⟨(Lib.decDigits m).toArray⟩ ⟨#[42]⟩).run Tryd.prog wx = .ok (.string ⟨D.toArray⟩) wx := fun wx => by rw [hD]; exact run_string_add_lists wx (Lib.decDigits m) [42] (by omega) (by decide)
                have a3 : ∀ wx : World, (Op.stringOp .add ⟨S1'.toArray⟩ ⟨D.toArray⟩).run Tryd.prog wx = .ok (.string ⟨S2'.toArray⟩) wx := fun wx => by rw [hS2]; exact run_string_add_lists wx S1' D (by omega) (by omega)
                have a4 : ∀ wx : World, (Op.stringOp .add ⟨S2'.toArray⟩ ⟨(Lib.decDigits i).toArray⟩).run Tryd.prog wx = .ok (.string ⟨S3'.toArray⟩) wx := fun wx => by rw [hS3]; exact run_string_add_lists wx S2' (Lib.decDigits i) (by omega) (by omega)
                have SE := hide2 (show S3' = q ++ sideT 0 (pre.take (i + 1)) by
                  rw [hS3, hS2, hD, hS1, hS, HS.out]
                  unfold oneT
                  rw [if_neg (by omega), if_pos hmj, Int.toNat_natCast]
                  simp)
                clear hS hS1 hD hS2 hS3 n1' n2' n3' hm hm0
                go_wp2_with (go_at_call 11; first | ((with_reducible refine (KP.out _).mono ?_); rintro e wy ⟨rfl, rfl⟩) | ((with_reducible refine (IP.out _).mono ?_); rintro e wy ⟨rfl, rfl⟩))
                go_roundg (gk - 1)
                case measure => omega
                case rel => exact ⟨i + 1, by go_num, by omega, by omega, by rw [SE.out], BZ, XZ⟩
              · have hm1 : m = 1 := by omega
                subst hm1
                obtain ⟨S3', hS3⟩ : ∃ S3, S3 = S1' ++ Lib.decDigits i := ⟨_, rfl⟩
                have a4 : ∀ wx : World, (Op.stringOp .add ⟨S1'.toArray⟩ ⟨(Lib.decDigits i).toArray⟩).run Tryd.prog wx = .ok (.string ⟨S3'.toArray⟩) wx := fun wx => by rw [hS3]; exact run_string_add_lists wx S1' (Lib.decDigits i) (by omega) (by omega)
                have SE := hide2 (show S3' = q ++ sideT 0 (pre.take (i + 1)) by
                  rw [hS3, hS1, hS, HS.out]
                  unfold oneT
                  rw [if_neg (by decide), if_neg (by decide)]
                  simp)
                clear hS hS1 hS3 n1' hm hm0
                go_wp2_with (go_at_call 11; (with_reducible refine (IP.out _).mono ?_); rintro e wy ⟨rfl, rfl⟩)
                go_roundg (gk - 1)
                case measure => omega
                case rel => exact ⟨i + 1, by go_num, by omega, by omega, by rw [SE.out], BZ, XZ⟩
          · obtain rfl : i = n1 := by omega
            have SE := hide2 (show q ++ sideT 0 (pre.take i) = partL ⟨l, pre, post⟩ 1 by rw [List.take_of_length_le (by rw [S1.out]; exact Nat.le_refl _), QE.out])
            clear hlt hgk
            go_wp2
            go_roundg 2
            case measure => omega
            case rel => exact ⟨1, by rfl, by omega, by omega, by rw [SE.out], BZ, XZ⟩
      · obtain rfl : gk = 2 := by omega
        have PL := hide2 (show (partL ⟨l, pre, post⟩ 1).length ≤ 110 by unfold partL; simp only [List.length_append]; have h0 := L0.out; have h1 := L1.out; simp; omega)
        obtain ⟨q0, hq0⟩ : ∃ q0, q0 = partL ⟨l, pre, post⟩ 1 := ⟨_, rfl⟩
        have Q0 := hide2 hq0
        rw [← hq0] at PL ⊢
        obtain ⟨q, hq⟩ : ∃ q, q = q0 ++ [32, 62] := ⟨_, rfl⟩
        have QL := hide2 (show q.length ≤ 112 by rw [hq, List.length_append]; have := PL.out; simp; omega)
        have QE := hide2 (show q ++ sideT 0 post = partL ⟨l, pre, post⟩ 2 by rw [hq, hq0]; unfold partL; simp)
        have pl := PL.out
        have a0 : ∀ wx : World, (Op.stringOp .add ⟨q0.toArray⟩ ⟨#[32, 62]⟩).run Tryd.prog wx = .ok (.string ⟨q.toArray⟩) wx := fun wx => by rw [hq]; exact run_string_add_lists wx q0 [32, 62] (by omega) (by decide)
        clear hq hq0 hgk
        go_upto_region 8 with fail
        have D5 := hide2 (show Below wr.heap.size wr (wr.alloc (.cells #[.string ⟨#[32, 58]⟩, .string ⟨#[32, 62]⟩] 9)) from (Below.refl _ _).alloc (Nat.le_refl _) _)
        generalize wr.alloc (.cells #[.string ⟨#[32, 58]⟩, .string ⟨#[32, 62]⟩] 9) = w5 at *
        have B5 := hide2 (BR.out.trans (D5.out.mono BR.out.size))
        have X5 := hide2 (XR.out.keep D5.out)
        clear a0 x0 x1 pl PL
        go_wp2_with fail
        go_loopg [3, 36] (n2 + 1) (fun gk v3 v36 wz => ∃ i : Nat, v36 = .int .i64 (i : Int) ∧ gk + i = n2 + 1 ∧ i ≤ n2 ∧ v3 = .string ⟨(q ++ sideT 0 (post.take i)).toArray⟩ ∧ Hid (Below w.heap.size w wz) ∧ Hid (Box wz wc.heap.size 42 #[.slice A1 n1 c1, .slice A2 n2 c2]))
        case atStart => exact ⟨0, rfl, rfl, Nat.zero_le _, by rw [List.take_zero]; simp [sideT], B5, X5⟩
        case round =>
          clear B5 X5
          obtain ⟨i, rfl, hgk, hi, rfl, BZ, XZ⟩ := hrel
          have HSL := hide2 (show (q ++ sideT 0 (post.take i)).length ≤ 220 by
            have h1 := sideT_len (post.take i) 0 (by rw [List.length_take]; have := S2.out; have := H2.out.2.1; omega) (fun y hy => (H2.out.2.2 y (List.mem_of_mem_take hy)).2)
            have h2 := QL.out
            have h3 := H2.out.2.1
            rw [List.length_take] at h1
            rw [List.length_append]
            omega)
          by_cases hlt : i < n2
          · have hji : (i : Int) < (n2 : Int) := by omega
            obtain ⟨b, off, x, rfl, hb, hx, cx⟩ := Ints.get (H2.out.1.keep BZ.out) hlt
            obtain ⟨xa, xb⟩ := H2.out.2.2 x (List.mem_of_getElem? hx.out)
            have HS := hide2 (sideT_snoc hx.out)
            have hi100 : i < 100 := by have := H2.out.2.1; omega
            clear hx
            obtain ⟨m, rfl⟩ : ∃ m : Nat, x = (m : Int) := ⟨x.toNat, by omega⟩
            have hm100 : m < 100 := by omega
            have dl1 := dec_len hi100
            have dl2 := dec_len hm100
            have IP := hide2 (fun (wx : World) => itoaS' (w := wx) hi100)
            have sl := HSL.out
            have hgm : gk = (gk - 1) + 1 := by omega
            by_cases hm0 : m = 0
            · subst hm0
              have SE := hide2 (show q ++ sideT 0 (post.take (i + 1)) = q ++ sideT 0 (post.take i) by rw [HS.out]; unfold oneT; rw [if_pos (show ((0 : Nat) : Int) = 0 from rfl), List.append_nil])
              go_wp2
              go_roundg (gk - 1)
              case measure => omega
              case rel => exact ⟨i + 1, by go_num, by omega, by omega, by rw [SE.out], BZ, XZ⟩
            · have hmi : (0 : Int) < (m : Int) := by omega
              obtain ⟨S, hS⟩ : ∃ S, S = q ++ sideT 0 (post.take i) := ⟨_, rfl⟩
              rw [← hS] at sl ⊢
              obtain ⟨S1', hS1⟩ : ∃ S1, S1 = S ++ [32] := ⟨_, rfl⟩
              have n1' : S1'.length ≤ 230 := by rw [hS1, List.length_append]; simp; omega
              have a1 : ∀ wx : World, (Op.stringOp .add ⟨S.toArray⟩ ⟨#[32]⟩).run Tryd.prog wx = .ok (.string ⟨S1'.toArray⟩) wx := fun wx => by rw [hS1]; exact run_string_add_lists wx S [32] (by omega) (by decide)
              by_cases hm : 1 < m
              · have hmj : (1 : Int) < (m : Int) := by omega
                have KP := hide2 (fun (wx : World) => itoaS' (w := wx) hm100)
                obtain ⟨D, hD⟩ : ∃ D, D = Lib.decDigits m ++ [42] := ⟨_, rfl⟩
                obtain ⟨S2', hS2⟩ : ∃ S2, S2 = S1' ++ D := ⟨_, rfl⟩
                obtain ⟨S3', hS3⟩ : ∃ S3, S3 = S2' ++ Lib.decDigits i := ⟨_, rfl⟩
                have n2' : D.length ≤ 10 := by rw [hD, List.length_append]; simp; omega
                have n3' : S2'.length ≤ 240 := by rw [hS2, List.length_append]; omega
                have a2 : ∀ wx : World, (Op.stringOp .add ⟨(Lib.decDigits m).toArray⟩ ⟨#[42]⟩).run Tryd.prog wx = .ok (.string ⟨D.toArray⟩) wx := fun wx => by rw [hD]; exact run_string_add_lists wx (Lib.decDigits m) [42] (by omega) (by decide)
                have a3 : ∀ wx : World, (Op.stringOp .add ⟨S1'.toArray⟩ ⟨D.toArray⟩).run Tryd.prog wx = .ok (.string ⟨S2'.toArray⟩) wx := fun wx => by rw [hS2]; exact run_string_add_lists wx S1' D (by omega) (by omega)
                have a4 : ∀ wx : World, (Op.stringOp .add ⟨S2'.toArray⟩ ⟨(Lib.decDigits i).toArray⟩).run Tryd.prog wx = .ok (.string ⟨S3'.toArray⟩) wx := fun wx => by rw [hS3]; exact run_string_add_lists wx S2' (Lib.decDigits i) (by omega) (by omega)
                have SE := hide2 (show S3' = q ++ sideT 0 (post.take (i + 1)) by
                  rw [hS3, hS2, hD, hS1, hS, HS.out]
                  unfold oneT
                  rw [if_neg (by omega), if_pos hmj, Int.toNat_natCast]
                  simp)
                clear hS hS1 hD hS2 hS3 n1' n2' n3' hm hm0
                go_wp2_with (go_at_call 11; first | ((with_reducible refine (KP.out _).mono ?_); rintro e wy ⟨rfl, rfl⟩) | ((with_reducible refine (IP.out _).mono ?_); rintro e wy ⟨rfl, rfl⟩))
                go_roundg (gk - 1)
                case measure => omega
                case rel => exact ⟨i + 1, by go_num, by omega, by omega, by rw [SE.out], BZ, XZ⟩
              · have hm1 : m = 1 := by omega
                subst hm1
                obtain ⟨S3', hS3⟩ : ∃ S3, S3 = S1' ++ Lib.decDigits i := ⟨_, rfl⟩
                have a4 : ∀ wx : World, (Op.stringOp .add ⟨S1'.toArray⟩ ⟨(Lib.decDigits i).toArray⟩).run Tryd.prog wx = .ok (.string ⟨S3'.toArray⟩) wx := fun wx => by rw [hS3]; exact run_string_add_lists wx S1' (Lib.decDigits i) (by omega) (by omega)
                have SE := hide2 (show S3' = q ++ sideT 0 (post.take (i + 1)) by
                  rw [hS3, hS1, hS, HS.out]
                  unfold oneT
                  rw [if_neg (by decide), if_neg (by decide)]
                  simp)
                clear hS hS1 hS3 n1' hm hm0
                go_wp2_with (go_at_call 11; (with_reducible refine (IP.out _).mono ?_); rintro e wy ⟨rfl, rfl⟩)
                go_roundg (gk - 1)
                case measure => omega
                case rel => exact ⟨i + 1, by go_num, by omega, by omega, by rw [SE.out], BZ, XZ⟩
          · obtain rfl : i = n2 := by omega
            have SE := hide2 (show q ++ sideT 0 (post.take i) = partL ⟨l, pre, post⟩ 2 by rw [List.take_of_length_le (by rw [S2.out]; exact Nat.le_refl _), QE.out])
            clear hlt hgk
            go_wp2
            go_roundg 1
            case measure => omega
            case rel => exact ⟨2, by rfl, by omega, by omega, by rw [SE.out], BZ, XZ⟩
      · obtain rfl : gk = 1 := by omega
        obtain ⟨q0, hq0⟩ : ∃ q0, q0 = partL ⟨l, pre, post⟩ 2 := ⟨_, rfl⟩
        have PL : q0.length ≤ 250 := by rw [hq0]; unfold partL; simp only [List.length_append]; have h0 := L0.out; have h1 := L1.out; have h2 := L2.out; simp; omega
        have QE := hide2 (show q0 ++ [10] = lineT ⟨l, pre, post⟩ ++ [10] by rw [hq0, partL_2])
        rw [← hq0]
        have a0 : ∀ wx : World, (Op.stringOp .add ⟨q0.toArray⟩ ⟨#[10]⟩).run Tryd.prog wx = .ok (.string ⟨(q0 ++ [10]).toArray⟩) wx := fun wx => run_string_add_lists wx q0 [10] (by omega) (by decide)
        clear hq0
        go_wp2
        have FIN := hide2 (show (Ending.returned (.string ⟨(q0 ++ [10]).toArray⟩) = .returned (.string ⟨(lineT ⟨l, pre, post⟩ ++ [10]).toArray⟩)) ∧ Below w.heap.size w wr from ⟨by rw [QE.out], BR.out⟩)
        exact bodyPost_ret (v := .string ⟨(q0 ++ [10]).toArray⟩) (by simp [results, Tryd.results15, go_sem]) rfl FIN.out
end Go.Proofs.YtcgdjpelcfofgaaDoor
