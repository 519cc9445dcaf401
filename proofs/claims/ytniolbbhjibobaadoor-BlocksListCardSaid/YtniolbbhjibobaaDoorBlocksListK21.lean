/- The contract of blocks' afterSeq, given after's. Conditions: the blocks read as some and are right; what they hold lies below M; their size bears an int. -/
import Derived.Test.YtniolbbhjibobaaDoorBlocksListK20
set_option linter.all false
namespace Go.Proofs.YtniolbbhjibobaaDoor
open Go.RowKit

/-- Blocks that a call hands back: what they hold lies below M or is new. -/
def AnsL (S : Nat → Prop) (M : Nat) (l : List PBlk) (w : World) (e : Ending) (w' : World) : Prop := ∃ A n c, e = .returned (.slice A n c) ∧ BX (fun k => (k < M ∧ S k) ∨ w.heap.size ≤ k) w' A n c l ∧ Below w.heap.size w w'
def AftA (S : Nat → Prop) (f : Nat) : Prop := ∀ (k l : Int) (A : Option Addr) (n c : Nat) (ks : List PBlk) (a : Int) (w : World) (M : Nat), szB (.mk k l ks) ≤ f → f ≤ 100000 → wfB (.mk k l ks) → M ≤ w.heap.size → BX (fun q => q < M ∧ S q) w A n c ks →
  Calls Tryd.prog 21 #[.agg #[.int .i64 k, .int .i64 l, .slice A n c], .int .i64 a] w (AnsL S M (afterB (.mk k l ks) a) w)
def AftS (S : Nat → Prop) (f : Nat) : Prop := ∀ (A : Option Addr) (n c : Nat) (ks : List PBlk) (a : Int) (w : World) (M : Nat), szK ks ≤ f → f ≤ 100000 → wfK ks → M ≤ w.heap.size → BX (fun q => q < M ∧ S q) w A n c ks →
  Calls Tryd.prog 32 #[.slice A n c, .int .i64 a] w (AnsL S M (afterS ks a) w)
/-- What lies behind the first one. -/
theorem BX.tail {S : Nat → Prop} {w : World} {bl off m c : Nat} {b : PBlk} {bs : List PBlk} (h : BX S w (some ⟨bl, off, none⟩) (m + 1) c (b :: bs)) : BX S w (if c = 1 then some ⟨bl, off, none⟩ else some ⟨bl, off + 3, none⟩) m (c - 1) bs := by
  have h1 := h.2.le
  have h2 := h.2.cap
  have h3 := h.2.small
  refine ⟨fun _ a ha => ?_, by have := h.2.len; simpa using this, by omega, by omega, by omega, (fun e => by split at e <;> cases e), fun hn => ?_⟩
  · have := h.1 (by omega) _ rfl
    split at ha <;> (injection ha with ha; subst ha; exact this)
  · rw [if_neg (by omega)]
    obtain ⟨b', off', e, hb, hc⟩ := h.2.cells (by omega)
    injection e with e
    injection e with e1 e2
    subst e1 e2
    refine ⟨bl, off + 3, rfl, hb, fun i x hx => ?_⟩
    obtain ⟨vs, a, r⟩ := hc (i + 1) x (by simpa using hx)
    refine ⟨vs, fun j hj => ?_, r⟩
    rw [← a j hj]
    congr 2
    omega
theorem BX.empty {S T : Nat → Prop} {w w' : World} {A : Option Addr} {n c : Nat} (h : BX S w A n c []) : BX T w' A n c [] := by
  have hn : n = 0 := h.2.len.symm
  exact ⟨fun h => absurd h (by omega), ⟨h.2.len, h.2.le, h.2.cap, h.2.small, h.2.nul, fun h => absurd h (by omega)⟩⟩
theorem PBlk.eta (b : PBlk) : .mk b.kind b.label b.kids = b := by cases b; rfl
def restS (bs : List PBlk) : PBlk := if bs.isEmpty then silB else .mk 3 0 bs
theorem map_take_get {α β : Type} {f : α → β} {l : List α} {i : Nat} {x : α} (h : l[i]? = some x) : (l.take (i + 1)).map f = (l.take i).map f ++ [f x] := by rw [List.take_add_one, h]; simp
set_option maxRecDepth 100000 in
set_option maxHeartbeats 4000000 in
theorem aftS_of {S : Nat → Prop} {f : Nat} (hA : AftA S f) (hS : ∀ g, g < f → AftS S g) : AftS S f := by
  intro A n c ks a w M hz hf hw hM h
  have HL := hide2 (show ks.length = n from h.2.len)
  have hns := h.2.small
  have HA := hide2 hA
  have HS := hide2 hS
  have H := hide2 h
  have W := hide2 hw
  clear hA hS h hw
  match ks with
  | [] =>
    obtain rfl : n = 0 := HL.out.symm
    go_enter Tryd.func32, Tryd.ntmps32
    go_wp2
    go_ret
    exact ⟨none, 0, 0, rfl, BX.nil, Below.refl _ _⟩
  | b :: bs =>
    obtain ⟨m, rfl⟩ : ∃ m, n = m + 1 := ⟨bs.length, HL.out.symm⟩
    have hn0 : ¬ ((m + 1 : Nat) : Int) = 0 := by omega
    obtain ⟨bl, off, kd, lb, ks, B, q, e, rfl, hbl, hbM, hx, q0, q1, q2, K'⟩ := H.out.get (k := 0) (by omega)
    have HT := hide2 H.out.tail
    obtain ⟨C, hC⟩ : ∃ C, (if c = 1 then some (⟨bl, off, none⟩ : Addr) else some ⟨bl, off + 3, none⟩) = C := ⟨_, rfl⟩
    have HC := hide2 hC
    rw [hC] at HT
    have hb1 := boxBelow w (.cells #[.int .i64 3, .int .i64 0, .slice C m (c - 1)] 24)
    have B1 := hide2 hb1
    have X1 := hide2 (Box.new w #[.int .i64 3, .int .i64 0, .slice C m (c - 1)] 24)
    clear hb1
    go_enter Tryd.func32, Tryd.ntmps32
    go_upto_region 4 with fail
    clear hC
    go_upto_if 17 with fail
    generalize w.alloc (.cells #[.int .i64 3, .int .i64 0, .slice C m (c - 1)] 24) = w1 at *
    go_cut [] (fun wx => ∃ (kd2 lb2 : Int) (C2 : Option Addr) (m2 c2 : Nat) (ks2 : List PBlk), Hid (Box wx w.heap.size 24 #[.int .i64 kd2, .int .i64 lb2, .slice C2 m2 c2]) ∧ Hid (BX (fun q => q < M ∧ S q) wx C2 m2 c2 ks2) ∧ Hid (restS bs = .mk kd2 lb2 ks2) ∧ Hid (Below w.heap.size w wx))
    case first =>
      by_cases h1 : m = 0
      · subst h1
        obtain rfl : bs = [] := by have := HL.out; simpa using this
        go_wp2_with (go_at_call 31; (with_reducible refine (bwSil_calls (fun q => q < M ∧ S q) w1).mono ?_); rintro e w2 ⟨A2, n2, c2, rfl, hs, hb2⟩; have X2 := hide2 (X1.out.keep hb2); obtain ⟨z0, z1, z2⟩ := X2.out.three; have fz := X2.out.frozen; have S2 := hide2 hs; have D2 := hide2 (B1.out.trans (hb2.mono B1.out.size)); clear hs hb2)
        go_meet
        case rel =>
          exact ⟨silB.kind, silB.label, A2, n2, c2, [], hide2 (X2.out.set3 _ _ _), hide2 (BX.empty S2.out), hide2 rfl, hide2 (below_set3 D2.out (Nat.le_refl _) _ _ _)⟩
      · have hm1 : ((m : Int) + 1 == 1) = false := by simp; omega
        have hbs : bs ≠ [] := by rintro rfl; have := HL.out; simp at this; omega
        go_wp2
        go_meet
        case rel =>
          exact ⟨3, 0, C, m, c - 1, bs, X1, hide2 (HT.out.keep B1.out), hide2 (by cases bs with | nil => exact absurd rfl hbs | cons _ _ => rfl), B1⟩
    case rest =>
      obtain ⟨kd2, lb2, C2, m2, c2, ks2, X2, T2, E2, B2⟩ := hcut
      clear X1 B1
      have K2 := hide2 (K'.keep B2.out)
      have wb := W.out.1
      have hsz : szB (.mk kd lb ks) + szK bs ≤ f := by have := hz; rw [szK_cons] at this; injection hx.out with hx; subst hx; exact this
      have r0 := (World.cell?_of_block (a := ⟨bl, off + 0 * 3, none⟩) (B2.out.block bl hbl)).trans q0
      have r1 := (World.cell?_of_block (a := ⟨bl, off + 0 * 3 + 1, none⟩) (B2.out.block bl hbl)).trans q1
      have r2 := (World.cell?_of_block (a := ⟨bl, off + 0 * 3 + 2, none⟩) (B2.out.block bl hbl)).trans q2
      simp only [Nat.zero_mul, Nat.add_zero] at r0 r1 r2
      have CA := hide2 (HA.out kd lb B q e ks a wc M (by omega) hf (by injection hx.out with hx; rw [← hx]; exact wb) (Nat.le_trans hM B2.out.size) K2.out)
      obtain ⟨L1, hL1⟩ : ∃ L1, afterB (.mk kd lb ks) a = L1 := ⟨_, rfl⟩
      have N1 := hide2 (show L1.length ≤ 100000 by have := aft_len a (.mk kd lb ks) (by injection hx.out with hx; rw [← hx]; exact wb); rw [← hL1]; omega)
      rw [hL1] at CA
      clear wb
      go_wp2_with (go_at_call 21; go_loud ( (with_reducible refine CA.out.mono ?_); rintro e w3 ⟨A1, n1, c1, rfl, hs3, hb3⟩; have S3 := hide2 hs3; have B3 := hide2 (B2.out.trans (hb3.mono B2.out.size)); have D3 := hide2 hb3; have hn1 : n1 ≤ 100000 := (by have := hs3.2.len; have := N1.out; omega); clear hs3 hb3))
      have Q0 := hide2 (And.intro q0 (And.intro q1 q2))
      clear r0 r1 r2 q0 q1 q2 CA
      obtain ⟨wd, hwd⟩ : ∃ wd : World, wd = w3 := ⟨_, rfl⟩
      subst hwd
      have U3 := hide2 (S3.out.mono (T := fun k => (k < M ∧ S k) ∨ w.heap.size ≤ k ∧ k < wd.heap.size) (fun k hk h => h.elim .inl (fun h => .inr ⟨by have := B2.out.size; omega, hk⟩)))
      have V3 := hide2 (((T2.out.keep D3.out).mono (T := fun k => (k < M ∧ S k) ∨ w.heap.size ≤ k ∧ k < wd.heap.size) (fun k _ h => .inl h)))
      have X3 := hide2 (X2.out.keepB D3.out X2.out.lt)
      have M3 := hide2 (show M ≤ wd.heap.size ∧ w.heap.size ≤ wd.heap.size from ⟨Nat.le_trans hM B3.out.size, B3.out.size⟩)
      go_loopw [6, 25] (fun s6 v wr => ∃ (sv : Value) (i : Nat), sv = s6 ∧ i ≤ n1 ∧ v = .int .i64 i ∧ Hid (OwnB (fun k => (k < M ∧ S k) ∨ w.heap.size ≤ k) wr wd.heap.size sv i ((L1.take i).map fun x => thnB x (.mk kd2 lb2 ks2))) ∧ Hid (Below wd.heap.size wd wr)) (fun _ v _ => n1 - (intOf v).toNat)
      case atStart => exact ⟨_, 0, rfl, Nat.zero_le _, rfl, hide2 OwnB.nil, hide2 (Below.refl _ _)⟩
      case round =>
        obtain ⟨sv, i, rfl, hi, rfl, OB, BR⟩ := hrel
        by_cases hlt : i < n1
        · have hki : (i : Int) < (n1 : Int) := by omega
          obtain ⟨b4, off4, kd4, lb4, ks4, A4, n4, c4, rfl, hb4, _, hx4, q0, q1, q2, K4⟩ := (U3.out.keep BR.out).get hlt
          obtain ⟨z0, z1, z2⟩ := ((X3.out.keep BR.out).old (.cells #[.int .i64 kd4, .int .i64 lb4, .slice A4 n4 c4] 24)).three
          have bb4 := boxBelow wr (.cells #[.int .i64 kd4, .int .i64 lb4, .slice A4 n4 c4] 24)
          have CT := hide2 (bwThn_calls (k := kd4) (l := lb4) (k2 := kd2) (l2 := lb2) (K4.keep bb4) ((V3.out.keep BR.out).keep bb4))
          have BT := hide2 (BR.out.trans (bb4.mono BR.out.size))
          have OT := hide2 (OB.out.keep bb4)
          clear bb4 K4 hb4
          go_wp2_with fail
          refine CT.out.mono ?_
          rintro e w5 ⟨A5, n5, c5, rfl, hs5, hb5⟩
          have S5 := hide2 hs5
          have B5 := hide2 (BT.out.trans (hb5.mono BT.out.size))
          have O5 := hide2 (OT.out.keep hb5)
          have HT5 := hide2 (show ∀ q, q < w5.heap.size → (((q < M ∧ S q) ∨ w.heap.size ≤ q ∧ q < wd.heap.size) ∨ (wr.alloc (.cells #[.int .i64 kd4, .int .i64 lb4, .slice A4 n4 c4] 24)).heap.size ≤ q) → ((q < M ∧ S q) ∨ w.heap.size ≤ q) ∧ sv.ownBlock ≠ some q from fun q hq hT => by
            have hM3 := M3.out
            have hBR := BR.out.size
            refine ⟨by simp at hT; rcases hT with (h | h) | h; exact .inl h; exact .inr (by omega); exact .inr (by omega), fun e => ?_⟩
            have := OB.out.lt q e
            simp at hT
            omega)
          clear hs5 hb5
          go_wp2_with (at_builtin; go_loud (refine wpList_appB1 rfl _ _ rfl rfl rfl rfl O5.out S5.out HT5.out B5.out B5.out.size (by omega) ?_; intro v8 w8 own8 hg8 hb8 hv8; have O8 := hide2 own8; have B8 := hide2 hb8; clear own8 hg8 hb8 hv8))
          rw [PBlk.eta] at O8
          go_roundw
          case rel => exact ⟨v8, i + 1, rfl, by omega, by go_num, hide2 (by rw [map_take_get hx4.out]; exact O8.out), B8⟩
          case measure => simp [intOf]; omega
        · obtain rfl : i = n1 := by omega
          have OF := hide2 (show OwnB (fun k => (k < M ∧ S k) ∨ w.heap.size ≤ k) wr wd.heap.size sv i (L1.map fun x => thnB x (.mk kd2 lb2 ks2)) by have := OB.out; rwa [List.take_of_length_le (by rw [U3.out.2.len]; exact Nat.le_refl _)] at this)
          have BW := hide2 (B3.out.trans (BR.out.mono B3.out.size))
          have r0 := (World.cell?_of_block (a := ⟨bl, off + 0 * 3, none⟩) (BW.out.block bl hbl)).trans Q0.out.1
          have r1 := (World.cell?_of_block (a := ⟨bl, off + 0 * 3 + 1, none⟩) (BW.out.block bl hbl)).trans Q0.out.2.1
          have r2 := (World.cell?_of_block (a := ⟨bl, off + 0 * 3 + 2, none⟩) (BW.out.block bl hbl)).trans Q0.out.2.2
          simp only [Nat.zero_mul, Nat.add_zero] at r0 r1 r2
          obtain rfl : b = .mk kd lb ks := by injection hx.out
          have CL := hide2 (bwLeast_calls f kd lb B q e ks wr (by omega) (by omega) W.out.1 (K'.keep BW.out))
          have EQ := hide2 (show afterS (.mk kd lb ks :: bs) a = (afterB (.mk kd lb ks) a).map (fun x => thnB x (restS bs)) ++ (if leastB (.mk kd lb ks) = 0 then afterS bs a else []) from rfl)
          rw [hL1, E2.out] at EQ
          have hsz2 : szK bs < f := by have := szB_pos (.mk kd lb ks); omega
          obtain ⟨mm, hmm⟩ : ∃ mm, leastB (.mk kd lb ks) = mm := ⟨_, rfl⟩
          rw [hmm] at CL EQ
          have hi5 : i ≤ 100000 := hn1
          clear hmm OB
          by_cases h0 : mm = 0
          · subst h0
            rw [if_pos rfl] at EQ
            go_wp2_with fail
            refine CL.out.mono ?_
            rintro e w6 ⟨rfl, hb6⟩
            have B6 := hide2 (BR.out.trans (hb6.mono BR.out.size))
            have O6 := hide2 (OF.out.keep hb6)
            have W6 := hide2 (BW.out.trans (hb6.mono BW.out.size))
            have CS := hide2 (HS.out _ hsz2 C m (c - 1) bs a w6 M (Nat.le_refl _) (by omega) W.out.2 (Nat.le_trans hM W6.out.size) (HT.out.keep W6.out))
            have hC := HC.out
            obtain ⟨L2, hL2⟩ : ∃ L2, afterS bs a = L2 := ⟨_, rfl⟩
            have N2 := hide2 (show L2.length ≤ 100001 by
              by_cases hbs : bs = []
              · subst hbs; rw [← hL2]; simp [afterS]
              · have := aft_len a (.mk 3 0 bs) (Shp.wf (.seq 0 bs hbs W.out.2))
                rw [afterB, if_neg (by decide), if_pos rfl, szB_mk, hL2] at this
                omega)
            rw [hL2] at CS EQ
            clear hb6 hL2
            go_wp2_with fail
            refine CS.out.mono ?_
            rintro e w7 ⟨A7, n7, c7, rfl, hs7, hb7⟩
            have S7 := hide2 hs7
            have B7 := hide2 (B6.out.trans (hb7.mono B6.out.size))
            have O7 := hide2 (O6.out.keep hb7)
            have hn7 : n7 ≤ 100001 := by have := hs7.2.len; have := N2.out; omega
            have HT7 := hide2 (show ∀ q, q < w7.heap.size → ((q < M ∧ S q) ∨ w6.heap.size ≤ q) → ((q < M ∧ S q) ∨ w.heap.size ≤ q) ∧ sv.ownBlock ≠ some q from fun q hq hT => by
              have hM3 := M3.out
              have hBR := B6.out.size
              refine ⟨by rcases hT with h | h; exact .inl h; exact .inr (by omega), fun e => ?_⟩
              have := O6.out.lt q e
              omega)
            clear hs7 hb7
            go_wp2_with (at_builtin; go_loud (refine wpList_appB rfl _ _ rfl rfl rfl O7.out S7.out HT7.out B7.out B7.out.size (by omega) ?_; intro v8 w8 own8 hg8 hb8; obtain ⟨A8, c8, rfl, hs8⟩ := own8.bx (by omega) (fun q hq => .inr (Nat.le_trans M3.out.2 hq)); have O8 := hide2 hs8; have B8 := hide2 (B3.out.trans (hb8.mono B3.out.size)); clear own8 hg8 hb8))
            go_ret
            rw [EQ.out]
            exact ⟨A8, _, c8, rfl, O8.out, B8.out⟩
          · rw [if_neg h0, List.append_nil] at EQ
            have hmz : ((mm : Int) == 0) = false := by simp; omega
            obtain ⟨A8, c8, rfl, hs8⟩ := OF.out.bx (by omega) (fun q hq => .inr (Nat.le_trans M3.out.2 hq))
            have O8 := hide2 hs8
            clear hs8
            go_wp2_with fail
            refine CL.out.mono ?_
            rintro e w6 ⟨rfl, hb6⟩
            have W6 := hide2 (BW.out.trans (hb6.mono BW.out.size))
            have O9 := hide2 (O8.out.keep hb6)
            clear hb6
            go_wp2_with fail
            go_ret
            rw [EQ.out]
            exact ⟨A8, _, c8, rfl, O9.out, W6.out⟩
end Go.Proofs.YtniolbbhjibobaaDoor
