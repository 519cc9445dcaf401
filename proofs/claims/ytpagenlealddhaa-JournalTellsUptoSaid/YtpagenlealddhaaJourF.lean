/- The law JournalTells as a call: it returns true. Conditions: the bytes read as a list, of bounded length. -/
import Derived.Test.YtpagenlealddhaaJourE
namespace Go.Proofs.Ytpagenlealddhaa
open Go.RowKit

theorem DOps.get {w : World} {A : Option Addr} {n c k : Nat} {os : List POp} (h : DOps w A n c os) (hk : k < n) :
    ∃ b off o, A = some ⟨b, off, none⟩ ∧ b < w.heap.size ∧ Hid (os[k]? = some o) ∧ w.cell? ⟨b, off + k * 5, none⟩ = some (.int .i64 o.kind) ∧ w.cell? ⟨b, off + k * 5 + 1, none⟩ = some (.int .i64 o.user) ∧
      w.cell? ⟨b, off + k * 5 + 2, none⟩ = some (.int .i64 o.tran) ∧ w.cell? ⟨b, off + k * 5 + 3, none⟩ = some (.int .i64 o.item) ∧ w.cell? ⟨b, off + k * 5 + 4, none⟩ = some (.int .i64 o.to_) := by
  obtain ⟨b, off, o, vs, h1, h2, h3, h4, e0, e1, e2, e3, e4⟩ := Sl.get h hk
  refine ⟨b, off, o, h1, h2, h3, ?_, ?_, ?_, ?_, ?_⟩
  · rw [← e0]; exact h4 0 (by omega)
  · rw [← e1]; exact h4 1 (by omega)
  · rw [← e2]; exact h4 2 (by omega)
  · rw [← e3]; exact h4 3 (by omega)
  · rw [← e4]; exact h4 4 (by omega)
set_option maxRecDepth 100000 in
theorem equalDOps_same {w : World} {A B : Option Addr} {n c m d : Nat} {os : List POp} (h : DOps w A n c os) (g : DOps w B m d os) :
    Calls Try.prog 15 #[.slice A n c, .slice B m d] w fun e w' => e = .returned (.bool true) ∧ Below w.heap.size w w' := by
  have hn := h.small
  obtain rfl : n = m := by rw [← h.len, ← g.len]
  go_enter Try.func15, Try.ntmps15
  go_wp2
  go_loopw [13] (fun i wr => ∃ k : Nat, k ≤ n ∧ i = .int .i64 k ∧ ∃ q, wr = w.drewN q) (fun i _ => n - (intOf i).toNat)
  case atStart => exact ⟨0, Nat.zero_le _, rfl, 0, rfl⟩
  case round =>
    obtain ⟨k, hk, rfl, q, rfl⟩ := hrel
    by_cases hlt : k < n
    · obtain ⟨b, off, x, rfl, hb, hx, x0, x1, x2, x3, x4⟩ := DOps.get h hlt
      obtain ⟨b', off', y, rfl, hb', hy, y0, y1, y2, y3, y4⟩ := DOps.get g hlt
      obtain rfl : x = y := by have h1 := hx.out; rw [hy.out] at h1; injection h1 with h1; exact h1.symm
      clear h g hx hy
      have hi : (k : Int) < (n : Int) := by omega
      go_wp2
      go_quiet (fail)
      go_wp2
      go_roundw
      case rel => exact ⟨k + 1, by omega, by go_num, _, rfl⟩
      case measure => simp [intOf]; omega
    · clear h g
      go_wp2
      go_ret
      exact ⟨rfl, belowN _ _⟩

set_option maxRecDepth 100000 in
set_option maxHeartbeats 1000000 in
theorem journalTells_walk {w : World} (o : POp) {A : Option Addr} {n c : Nat} {bs : List Nat} (h : Bts w A n c bs) (hn : n ≤ 1048576) :
    Calls Try.prog 3 #[.agg #[.int .i64 o.kind, .int .i64 o.user, .int .i64 o.tran, .int .i64 o.item, .int .i64 o.to_], .slice A n c] w fun e w' => e = .returned (.bool true) ∧ Below w.heap.size w w' := by
  have HB := hide2 (newBelow w (.cells #[.int .i64 o.kind, .int .i64 o.user, .int .i64 o.tran, .int .i64 o.item, .int .i64 o.to_] 23))
  have X0 := hide2 (Box.new w #[.int .i64 o.kind, .int .i64 o.user, .int .i64 o.tran, .int .i64 o.item, .int .i64 o.to_] 23)
  obtain ⟨p, hp⟩ : ∃ p, writeL o = p := ⟨_, rfl⟩
  obtain ⟨r, hr⟩ : ∃ r, readL bs = r := ⟨_, rfl⟩
  have C1 := hide2 (fun (w' : World) => write_calls (w := w') o)
  have C2 := hide2 (fun (w' : World) => refWrite_calls (w := w') o)
  have C3 := hide2 (fun (w' : World) (hb : Below w.heap.size w w') => read_calls (Sl.keep ByteR.kept h hb) hn)
  have C4 := hide2 (fun (w' : World) (hb : Below w.heap.size w w') => refRead_calls n (Sl.keep ByteR.kept h hb) (Nat.le_refl _) hn)
  simp only [hp, hr] at C1 C2 C3 C4
  clear h hp hr
  go_enter Try.func3, Try.ntmps3
  go_upto_region 1 with fail
  generalize w.alloc (.cells #[.int .i64 o.kind, .int .i64 o.user, .int .i64 o.tran, .int .i64 o.item, .int .i64 o.to_] 23) = w0 at *
  obtain ⟨c0, c1, c2, c3, c4⟩ := X0.out.five
  go_wp2_with (first
    | (go_at_call 11; (with_reducible refine (C1.out _).mono ?_); rintro e w1 ⟨A1, n1, k1, rfl, s1, hb⟩; have S1 := hide2 s1; have B1 := hide2 (HB.out.trans (hb.mono HB.out.size)); clear s1 c0 c1 c2 c3 c4; obtain ⟨c0, c1, c2, c3, c4⟩ := (X0.out.keep hb).five; have X1 := hide2 (X0.out.keep hb); clear hb)
    | (go_at_call 12; (with_reducible refine (C2.out _).mono ?_); rintro e w2 ⟨A2, n2, k2, rfl, s2, hb⟩; have S2 := hide2 s2; have B2 := hide2 (B1.out.trans (hb.mono B1.out.size)); have Z1 := hide2 (Sl.keep ByteR.kept S1.out hb); clear s2 c0 c1 c2 c3 c4 hb)
    | (go_at_call 13; (with_reducible refine (C3.out _ B2.out).mono ?_); rintro e w3 ⟨A3, n3, k3, rfl, s3, hb⟩; have S3 := hide2 s3; have B3 := hide2 (B2.out.trans (hb.mono B2.out.size)); have Z2 := hide2 (Sl.keep ByteR.kept Z1.out hb); have Y2 := hide2 (Sl.keep ByteR.kept S2.out hb); clear s3 hb)
    | (go_at_call 14; (with_reducible refine (C4.out _ B3.out).mono ?_); rintro e w4 ⟨A4, n4, k4, rfl, s4, hb⟩; have S4 := hide2 s4; have B4 := hide2 (B3.out.trans (hb.mono B3.out.size)); have V3 := hide2 (Sl.keep DOpR.kept S3.out hb); have hz := Bts.str (Sl.keep ByteR.kept Z2.out hb); have hy := Bts.str (Sl.keep ByteR.kept Y2.out hb); clear s4 hb)
    | (go_at_call 15; (with_reducible refine (equalDOps_same V3.out S4.out).mono ?_); rintro e w5 ⟨rfl, hb⟩; have B5 := hide2 (B4.out.trans (hb.mono B4.out.size)); clear hb))
  go_ret
  exact ⟨by first | rfl | simp, B5.out⟩
end Go.Proofs.Ytpagenlealddhaa
