/- The contract of hways: which places and which transitions are behind a place. Conditions: the net is right; the place is one of it. -/
import Derived.Test.YtmhcinmadelaeaaShapeE
namespace Go.Proofs.Ytmhcinmadelaeaa
open Go.RowKit

/-- Block b holds just these truths. -/
def BoxB (w : World) (b : Nat) (bs : List Bool) : Prop := Box w b 4 (bs.map Value.bool).toArray
section
variable {w w' : World} {b : Nat} {bs : List Bool}
theorem BoxB.at (h : BoxB w b bs) {j : Nat} (hj : j < bs.length) : w.cell? ⟨b, j, none⟩ = some (.bool (bs.getD j false)) := by
  rw [Box.cell h]; simp [hj]
theorem BoxB.put (h : BoxB w b bs) (j : Nat) (v : Bool) : BoxB (w.setCell ⟨b, j, none⟩ (.bool v)) b (bs.set j v) := by
  have := Box.set h j (.bool v)
  unfold BoxB
  simpa [List.map_set] using this
theorem BoxB.of_row {B m : Nat} (h : w.ownsRow B 4 1 (.slice (some ⟨b, 0, none⟩) m m) m (List.replicate m (.bool false))) : BoxB w b (List.replicate m false) := by
  rcases h.2 with ⟨hv, _⟩ | ⟨g, cap, cur, hv, _, hh, _, _, hs, ht⟩
  · cases hv
  · injection hv with h1 h2 h3
    injection h1 with h1
    injection h1 with h1
    subst h1 h3
    have e : cur = (List.replicate m (Value.bool false)).toArray := by
      apply Array.toList_inj.1
      rw [← ht, List.take_of_length_le (by simp; omega)]
    unfold BoxB Box
    rw [List.map_replicate, ← e]; exact hh
end
/-- What hways answers. -/
def AnsW (s : Ways) (w : World) (e : Ending) (w' : World) : Prop :=
  ∃ bp bt, e = .returned (.tuple #[.slice (some ⟨bp, 0, none⟩) s.ps.length s.ps.length, .slice (some ⟨bt, 0, none⟩) s.ts.length s.ts.length]) ∧ BoxB w' bp s.ps ∧ BoxB w' bt s.ts ∧ Below w.heap.size w w'

theorem set_getD_self (l : List Bool) (k : Nat) : l.set k (l.getD k false) = l := by
  apply List.ext_getElem?
  intro i
  rw [List.getElem?_set]
  by_cases h : k = i
  · subst h
    by_cases hk : k < l.length
    · simp [hk]
    · simp [hk]
  · rw [if_neg h]
theorem ways_lens (N : PNet) (i r : Nat) : (rounds N.trans r (ways0 N i)).ps.length = N.places.toNat ∧ (rounds N.trans r (ways0 N i)).ts.length = N.trans.length := by
  have := rounds_lens N.trans (ways0 N i) r
  simpa [ways0] using this
theorem wayN_lens (ts : List PTran) (s : Ways) (k : Nat) : (wayN ts k s).ps.length = s.ps.length ∧ (wayN ts k s).ts.length = s.ts.length := by
  have := wayN_le ts s k
  exact ⟨this.1.symm, this.2.1.symm⟩

set_option maxRecDepth 100000 in
set_option maxHeartbeats 4000000 in
theorem hways_calls {w : World} {p : Nat} {A : Option Addr} {n c : Nat} {ts : List PTran} {i : Nat} (h : Trans w A n c ts) (hok : netOk ⟨(p : Int), ts⟩ = true) (hi : i < p) :
    Calls Try.prog 82 #[.agg #[.int .i64 p, .slice A n c], .int .i64 i] w (AnsW (waysL ⟨(p : Int), ts⟩ i) w) := by
  have hp16 : p ≤ 16 := by have := ((netOk_iff _).1 hok).2.1; simp only [] at this; omega
  have hn24 : n ≤ 24 := by have := ((netOk_iff _).1 hok).2.2.1; rw [h.len] at this; exact this
  have hpi : (i : Int) < (p : Int) := by omega
  have HL := hide2 h.len
  have H := hide2 h
  have HO := hide2 hok
  clear h hok
  generalize hw0 : w.alloc (.cells #[.int .i64 p, .slice A n c] 38) = w0
  have D0 := hide2 (show Below w.heap.size w w0 by rw [← hw0]; exact boxBelow _ _)
  have X0 := hide2 (show Box w0 w.heap.size 38 #[.int .i64 p, .slice A n c] by rw [← hw0]; exact Box.new _ _ _)
  go_enter Try.func82, Try.ntmps82
  go_upto_region 1 with fail
  clear hw0
  obtain ⟨c0, c1⟩ := X0.out.two
  refine wp_region_scr 8 (.takes [0, 1, 3, 4, 5] (.two 2 (.take 7 (.one 6 (.fin 8 .done))) 6 (.one 2 (.take 7 (.fin 8 .done))))) (fun w' => w'.cell? ⟨w.heap.size, 0, none⟩ = some (.int .i64 p) ∧ w'.cell? ⟨w.heap.size, 1, none⟩ = some (.slice A n c)) (by kernel_rfl) (by kernel_rfl) (by kernel_rfl) (fun _ _ _ _ _ h => h) ⟨c0, c1⟩ (fun hHeld => ?_)
  simp only [Scr.takes]
  iterate 5
    refine tkTake (v := ?_) rfl (by rfl) hHeld (fun w' hSw => ?_) ?_
    rotate_left
    · (go_simp; try with_reducible rfl)
    simp only [Act.put, List.setIfInBounds_toArray, List.set_cons_zero, List.set_cons_succ]
  have XX0 := hide2 X0.out.drew
  have DD0 := hide2 D0.out.drew
  refine scrEnd (.fin 8 .done) (fun a0 a' w' => ∃ bp bt, a' = (((a0.put (some 14) (.slice (some ⟨bp, 0, none⟩) p p)).put (some 18) (.slice (some ⟨bt, 0, none⟩) n n)).put (some 6) (.slice (some ⟨bp, 0, none⟩) p p)) ∧ Hid (BoxB w' bp (List.replicate p false)) ∧ Hid (BoxB w' bt (List.replicate n false)) ∧ (w.heap.size < bp ∧ w.heap.size < bt ∧ bp ≠ bt) ∧ Hid (Box w' w.heap.size 38 #[.int .i64 p, .slice A n c]) ∧ Hid (Below w.heap.size w w')) ?_ (fun EN => ?_)
  · rintro a' wm ⟨bp, bt, rfl, RP, RT, ⟨hp0, ht0, hne⟩, XM, DM⟩ hS
    simp only [Act.put, List.setIfInBounds_toArray, List.set_cons_zero, List.set_cons_succ]
    refine tkEnd rfl (fun K hK => ?_)
    go_simp
    refine hK.out _ _ ?_
    clear hK hS hHeld XX0 DD0 X0 D0 c0 c1
    try simp only [Act.put, List.setIfInBounds_toArray, List.set_cons_zero, List.set_cons_succ]
    refine tkDone ?_
    have q1 := BoxB.at RP.out (j := i) (by simpa using hi)
    have f1 := Box.frozen RP.out i
    obtain ⟨x0, x1⟩ := XM.out.two
    simp only [List.getD_eq_getElem?_getD, List.getElem?_replicate, hi, if_true, Option.getD_some] at q1
    go_upto_region 3 with fail
    generalize hw1 : wm.setCell ⟨bp, i, none⟩ (.bool true) = w1
    have hbs : Beside bp wm w1 := by rw [← hw1]; exact Beside.set _ _ _ _
    obtain ⟨W0, hW0⟩ : ∃ s, ways0 ⟨(p : Int), ts⟩ i = s := ⟨_, rfl⟩
    have HW := hide2 (show waysL ⟨(p : Int), ts⟩ i = rounds ts (p + n) W0 by rw [waysL, hW0, HL.out]; rfl)
    have WL := hide2 (show W0.ps.length = p ∧ W0.ts.length = n by rw [← hW0, ← HL.out]; simp [ways0])
    have Y1 := hide2 (show BoxB w1 bp W0.ps by rw [← hw1, ← hW0]; exact BoxB.put RP.out i true)
    have Y2 := hide2 (show BoxB w1 bt W0.ts by rw [← hW0]; simp only [ways0]; rw [HL.out]; exact hbs.box RT.out hne.symm)
    have Y0 := hide2 (hbs.box XM.out (by omega))
    have D1 := hide2 (show Below w.heap.size w w1 by rw [← hw1]; exact DM.out.setCell (show w.heap.size ≤ bp by omega) _)
    clear hw1 hbs hW0 RP RT XM DM q1 f1 x0 x1
    obtain ⟨x0, x1⟩ := Y0.out.two
    go_wp2
    go_loopw [28] (fun r wr => ∃ k : Nat, k ≤ p + n ∧ r = .int .i64 k ∧ Hid (BoxB wr bp (rounds ts k W0).ps) ∧ Hid (BoxB wr bt (rounds ts k W0).ts) ∧ Hid (Box wr w.heap.size 38 #[.int .i64 p, .slice A n c]) ∧ Hid (Below w.heap.size w wr)) (fun r _ => p + n - (intOf r).toNat)
    case atStart => exact ⟨0, Nat.zero_le _, rfl, Y1, Y2, Y0, D1⟩
    case round =>
      obtain ⟨k, hk, rfl, V1, V2, V0, BV⟩ := hrel
      clear x0 x1
      obtain ⟨x0, x1⟩ := V0.out.two
      by_cases hlk : k < p + n
      · have hki : (k : Int) < (p : Int) + (n : Int) := by omega
        obtain ⟨S, hS⟩ : ∃ s, rounds ts k W0 = s := ⟨_, rfl⟩
        rw [hS] at V1 V2
        have HS := hide2 hS
        have SL := hide2 (show S.ps.length = p ∧ S.ts.length = n by have := rounds_lens ts W0 k; rw [hS] at this; have := WL.out; omega)
        clear hS
        obtain ⟨wo, hwo⟩ : ∃ wo : World, wo = wr := ⟨_, rfl⟩
        subst hwo
        go_wp2
        go_loopw [33] (fun r wr => ∃ k2 : Nat, k2 ≤ n ∧ r = .int .i64 k2 ∧ Hid (BoxB wr bp (wayN ts k2 S).ps) ∧ Hid (BoxB wr bt (wayN ts k2 S).ts) ∧ Hid (Box wr w.heap.size 38 #[.int .i64 p, .slice A n c]) ∧ Hid (Below w.heap.size w wr)) (fun r _ => n - (intOf r).toNat)
        case atStart => exact ⟨0, Nat.zero_le _, rfl, V1, V2, V0, BV⟩
        case round =>
          clear V1 V2 V0 BV x0 x1
          obtain ⟨k2, hk2, rfl, V1, V2, V0, BV⟩ := hrel
          obtain ⟨x0, x1⟩ := V0.out.two
          by_cases hlt : k2 < n
          · have hk2i : (k2 : Int) < (n : Int) := by omega
            obtain ⟨bl, off, t, A1, n1, c1, A2, n2, c2, rfl, hbl, ht, q0', q1', q2', i1, i2, m1, m2⟩ := Trans.get H.out hlt
            have q0 := (BV.out.cell (p := ⟨bl, off + k2 * 3, none⟩) hbl).trans q0'
            have q1 := (BV.out.cell (p := ⟨bl, off + k2 * 3 + 1, none⟩) hbl).trans q1'
            have q2 := (BV.out.cell (p := ⟨bl, off + k2 * 3 + 2, none⟩) hbl).trans q2'
            have hT := netOk_tran HO.out ht.out
            have e1 : n1 = p := by have := hT.2.2.1; rw [i1.len] at this; simp only [] at this; omega
            have e2 : n2 = p := by have := hT.2.2.2.1; rw [i2.len] at this; simp only [] at this; omega
            have hn1 : p ≤ n1 := by omega
            have hn2 : p ≤ n2 := by omega
            have I1 := hide2 i1
            have I2 := hide2 i2
            clear hT e1 e2 i1 i2 q0' q1' q2'
            obtain ⟨T, hT⟩ : ∃ s, wayN ts k2 S = s := ⟨_, rfl⟩
            rw [hT] at V1 V2
            have HT := hide2 hT
            have TL := hide2 (show T.ps.length = p ∧ T.ts.length = n by have := wayN_lens ts S k2; rw [hT] at this; have := SL.out; omega)
            obtain ⟨tk, htk⟩ : ∃ b, T.ts.getD k2 false = b := ⟨_, rfl⟩
            have TK := hide2 htk
            clear hT htk
            go_upto_region 8 with fail
            generalize hw2 : wr.alloc (.cells #[.int .i64 t.label, .slice A1 n1 c1, .slice A2 n2 c2] 107) = w2
            have bb2 : Below wr.heap.size wr w2 := by rw [← hw2]; exact boxBelow _ _
            have U0 := hide2 (V0.out.keep bb2)
            have U1 := hide2 (show BoxB w2 bp T.ps from Box.keep V1.out bb2)
            have U2 := hide2 (show BoxB w2 bt T.ts from Box.keep V2.out bb2)
            have U4 := hide2 (show Box w2 wr.heap.size 107 #[.int .i64 t.label, .slice A1 n1 c1, .slice A2 n2 c2] by rw [← hw2]; exact Box.new _ _ _)
            have BU := hide2 (BV.out.trans (bb2.mono BV.out.size))
            have hbp : bp < wr.heap.size := Box.lt V1.out
            have hbt : bt < wr.heap.size := Box.lt V2.out
            have hbw : w.heap.size ≤ wr.heap.size := BV.out.size
            clear hw2 bb2 V0 V1 V2 BV q0 q1 q2 x0 x1
            generalize wr.heap.size = bx at *
            obtain ⟨u0, u1⟩ := U0.out.two
            obtain ⟨y0, y1, y2⟩ := U4.out.three
            go_wp2
            go_loopw [40] (fun r wr => ∃ j : Nat, j ≤ p ∧ r = .int .i64 j ∧ Hid (BoxB wr bp T.ps) ∧ Hid (BoxB wr bt (T.ts.set k2 (orT T.ps t.pre tk j))) ∧ Hid (Box wr w.heap.size 38 #[.int .i64 p, .slice (some ⟨bl, off, none⟩) n c]) ∧ Hid (Box wr bx 107 #[.int .i64 t.label, .slice A1 n1 c1, .slice A2 n2 c2]) ∧ Hid (Below w.heap.size w wr)) (fun r _ => p - (intOf r).toNat)
            case atStart => exact ⟨0, Nat.zero_le _, rfl, U1, by rw [show T.ts.set k2 (orT T.ps t.pre tk 0) = T.ts by rw [show orT T.ps t.pre tk 0 = tk by simp [orT], ← TK.out]; exact set_getD_self _ _]; exact U2, U0, U4, BU⟩
            case round =>
              obtain ⟨j, hj, rfl, V1, V2, V0, V4, BV⟩ := hrel
              clear u0 u1 y0 y1 y2
              by_cases hlj : j < p
              · have hji : (j : Int) < (p : Int) := by omega
                have hjn : (j : Int) < (n1 : Int) := by omega
                obtain ⟨b1, o1, v, rfl, hb1, hv, qv⟩ := Ints.get (Ints.keep I1.out BV.out) (k := j) (by omega)
                obtain ⟨y0, y1, y2⟩ := V4.out.three
                have q1 := BoxB.at V1.out (j := j) (by have := TL.out.1; omega)
                have q2 := BoxB.at V2.out (j := k2) (by have := TL.out.2; simp; omega)
                have f2 := Box.frozen V2.out k2
                rw [show (T.ts.set k2 (orT T.ps t.pre tk j)).getD k2 false = orT T.ps t.pre tk j by have := TL.out.2; rw [List.getD_eq_getElem?_getD, List.getElem?_set_self (by omega)]; rfl] at q2
                have OR := hide2 (orT_succ T.ps t.pre tk j)
                rw [atL_some hv.out] at OR
                obtain ⟨bb, hbb⟩ : ∃ b, orT T.ps t.pre tk j = b := ⟨_, rfl⟩
                obtain ⟨qq, hqq⟩ : ∃ b, T.ps.getD j false = b := ⟨_, rfl⟩
                rw [hbb] at q2 OR V2
                rw [hqq] at q1 OR
                have KP := hide2 (fun v => show BoxB (wr.setCell ⟨bt, k2, none⟩ (.bool v)) bp T.ps ∧ BoxB (wr.setCell ⟨bt, k2, none⟩ (.bool v)) bt (T.ts.set k2 v) ∧ Box (wr.setCell ⟨bt, k2, none⟩ (.bool v)) w.heap.size 38 #[.int .i64 p, .slice (some ⟨bl, off, none⟩) n c] ∧ Box (wr.setCell ⟨bt, k2, none⟩ (.bool v)) bx 107 #[.int .i64 t.label, .slice (some ⟨b1, o1, none⟩) n1 c1, .slice A2 n2 c2] ∧ Below w.heap.size w (wr.setCell ⟨bt, k2, none⟩ (.bool v)) by
                  have hbs := Beside.set wr bt k2 (.bool v)
                  have := BoxB.put V2.out k2 v
                  rw [List.set_set] at this
                  exact ⟨hbs.box V1.out hne, this, hbs.box V0.out (by omega), hbs.box V4.out (by omega), BV.out.setCell (show w.heap.size ≤ bt by omega) _⟩)
                clear hbb hqq V1 V2 V0 V4 BV
                cases bb
                · cases qq
                  · have OR' := hide2 (show orT T.ps t.pre tk (j + 1) = false from OR.out)
                    go_wp2
                    go_roundw
                    case rel => exact ⟨j + 1, by omega, by go_num, (KP.out _).1, by rw [OR'.out]; exact (KP.out _).2.1, (KP.out _).2.2.1, (KP.out _).2.2.2.1, (KP.out _).2.2.2.2⟩
                    case measure => simp [intOf]; omega
                  · by_cases hpos : 0 < v
                    · have OR' := hide2 (show orT T.ps t.pre tk (j + 1) = true by rw [OR.out]; simp [hpos])
                      go_wp2
                      go_roundw
                      case rel => exact ⟨j + 1, by omega, by go_num, (KP.out _).1, by rw [OR'.out]; exact (KP.out _).2.1, (KP.out _).2.2.1, (KP.out _).2.2.2.1, (KP.out _).2.2.2.2⟩
                      case measure => simp [intOf]; omega
                    · have OR' := hide2 (show orT T.ps t.pre tk (j + 1) = false by rw [OR.out]; simp; omega)
                      go_wp2
                      go_roundw
                      case rel => exact ⟨j + 1, by omega, by go_num, (KP.out _).1, by rw [OR'.out]; exact (KP.out _).2.1, (KP.out _).2.2.1, (KP.out _).2.2.2.1, (KP.out _).2.2.2.2⟩
                      case measure => simp [intOf]; omega
                · have OR' := hide2 (show orT T.ps t.pre tk (j + 1) = true by rw [OR.out]; rfl)
                  go_wp2
                  go_roundw
                  case rel => exact ⟨j + 1, by omega, by go_num, (KP.out _).1, by rw [OR'.out]; exact (KP.out _).2.1, (KP.out _).2.2.1, (KP.out _).2.2.2.1, (KP.out _).2.2.2.2⟩
                  case measure => simp [intOf]; omega
              · obtain rfl : j = p := by omega
                obtain ⟨UU, hUU⟩ : ∃ b, orT T.ps t.pre tk j = b := ⟨_, rfl⟩
                rw [hUU] at V2
                have HU := hide2 hUU
                clear hUU hlj hj
                obtain ⟨wo, hwo⟩ : ∃ wo : World, wo = wr := ⟨_, rfl⟩
                subst hwo
                go_wp2
                go_loopw [67] (fun r wr => ∃ q : Nat, q ≤ j ∧ r = .int .i64 q ∧ Hid (BoxB wr bp (orP T.ps UU t.post q)) ∧ Hid (BoxB wr bt (T.ts.set k2 UU)) ∧ Hid (Box wr w.heap.size 38 #[.int .i64 j, .slice (some ⟨bl, off, none⟩) n c]) ∧ Hid (Box wr bx 107 #[.int .i64 t.label, .slice A1 n1 c1, .slice A2 n2 c2]) ∧ Hid (Below w.heap.size w wr)) (fun r _ => j - (intOf r).toNat)
                case atStart => exact ⟨0, Nat.zero_le _, rfl, by rw [orP_zero]; exact V1, V2, V0, V4, BV⟩
                case round =>
                  obtain ⟨q, hq, rfl, P1, P2, P0, P4, BP⟩ := hrel
                  by_cases hlq : q < j
                  · have hqi : (q : Int) < (j : Int) := by omega
                    have hqn : (q : Int) < (n2 : Int) := by omega
                    obtain ⟨b2, o2, v, rfl, hb2, hv, qv⟩ := Ints.get (Ints.keep I2.out BP.out) (k := q) (by omega)
                    obtain ⟨y0, y1, y2⟩ := P4.out.three
                    have q1 := BoxB.at P1.out (j := q) (by have := TL.out.1; rw [orP_length]; omega)
                    have q2 := BoxB.at P2.out (j := k2) (by have := TL.out.2; simp; omega)
                    have f1 := Box.frozen P1.out q
                    rw [show (T.ts.set k2 UU).getD k2 false = UU by have := TL.out.2; rw [List.getD_eq_getElem?_getD, List.getElem?_set_self (by omega)]; rfl] at q2
                    have OR := hide2 (orP_succ T.ps UU t.post q (by have := TL.out.1; omega))
                    rw [atL_some hv.out] at OR
                    obtain ⟨bb, hbb⟩ : ∃ b, (orP T.ps UU t.post q).getD q false = b := ⟨_, rfl⟩
                    rw [hbb] at q1 OR
                    have KP := hide2 (fun v => show BoxB (wr.setCell ⟨bp, q, none⟩ (.bool v)) bp ((orP T.ps UU t.post q).set q v) ∧ BoxB (wr.setCell ⟨bp, q, none⟩ (.bool v)) bt (T.ts.set k2 UU) ∧ Box (wr.setCell ⟨bp, q, none⟩ (.bool v)) w.heap.size 38 #[.int .i64 j, .slice (some ⟨bl, off, none⟩) n c] ∧ Box (wr.setCell ⟨bp, q, none⟩ (.bool v)) bx 107 #[.int .i64 t.label, .slice A1 n1 c1, .slice (some ⟨b2, o2, none⟩) n2 c2] ∧ Below w.heap.size w (wr.setCell ⟨bp, q, none⟩ (.bool v)) by
                      have hbs := Beside.set wr bp q (.bool v)
                      exact ⟨BoxB.put P1.out q v, hbs.box P2.out hne.symm, hbs.box P0.out (by omega), hbs.box P4.out (by omega), BP.out.setCell (show w.heap.size ≤ bp by omega) _⟩)
                    have HUU := hide2 (Eq.refl UU)
                    clear hbb P1 P2 P0 P4 BP
                    cases bb
                    · cases UU
                      · have OR' := hide2 (show (orP T.ps false t.post q).set q false = orP T.ps false t.post (q + 1) from OR.out)
                        go_wp2
                        go_roundw
                        case rel => exact ⟨q + 1, by omega, by go_num, by rw [← OR'.out]; exact (KP.out _).1, (KP.out _).2.1, (KP.out _).2.2.1, (KP.out _).2.2.2.1, (KP.out _).2.2.2.2⟩
                        case measure => simp [intOf]; omega
                      · by_cases hpos : 0 < v
                        · have OR' := hide2 (show (orP T.ps true t.post q).set q true = orP T.ps true t.post (q + 1) by rw [← OR.out]; simp [hpos])
                          go_wp2
                          go_roundw
                          case rel => exact ⟨q + 1, by omega, by go_num, by rw [← OR'.out]; exact (KP.out _).1, (KP.out _).2.1, (KP.out _).2.2.1, (KP.out _).2.2.2.1, (KP.out _).2.2.2.2⟩
                          case measure => simp [intOf]; omega
                        · have OR' := hide2 (show (orP T.ps true t.post q).set q false = orP T.ps true t.post (q + 1) by rw [← OR.out]; congr 1; simp; omega)
                          go_wp2
                          go_roundw
                          case rel => exact ⟨q + 1, by omega, by go_num, by rw [← OR'.out]; exact (KP.out _).1, (KP.out _).2.1, (KP.out _).2.2.1, (KP.out _).2.2.2.1, (KP.out _).2.2.2.2⟩
                          case measure => simp [intOf]; omega
                    · have OR' := hide2 (show (orP T.ps UU t.post q).set q true = orP T.ps UU t.post (q + 1) by rw [← OR.out]; simp)
                      go_wp2
                      go_roundw
                      case rel => exact ⟨q + 1, by omega, by go_num, by rw [← OR'.out]; exact (KP.out _).1, (KP.out _).2.1, (KP.out _).2.2.1, (KP.out _).2.2.2.1, (KP.out _).2.2.2.2⟩
                      case measure => simp [intOf]; omega
                  · obtain rfl : q = j := by omega
                    have NX := hide2 (show wayN ts (k2 + 1) S = ⟨orP T.ps UU t.post q, T.ts.set k2 UU⟩ by
                      rw [wayN_succ _ _ _ ht.out, HT.out, wayT, TL.out.1, TK.out, HU.out])
                    go_wp2
                    go_roundw
                    case rel => exact ⟨k2 + 1, by omega, by go_num, by rw [NX.out]; exact P1, by rw [NX.out]; exact P2, P0, BP⟩
                    case measure => simp [intOf]; omega
          · obtain rfl : k2 = n := by omega
            have NX := hide2 (show rounds ts (k + 1) W0 = wayN ts k2 S by rw [rounds, HS.out, HL.out])
            go_wp2
            go_roundw
            case rel => exact ⟨k + 1, by omega, by go_num, by rw [NX.out]; exact V1, by rw [NX.out]; exact V2, V0, BV⟩
            case measure => simp [intOf]; omega
      · obtain rfl : k = p + n := by omega
        have RL := rounds_lens ts W0 (p + n)
        rw [WL.out.1, WL.out.2] at RL
        have HRL := hide2 RL
        clear RL
        go_wp2
        refine bodyPost_ret (v := .tuple #[.slice (some ⟨bp, 0, none⟩) p p, .slice (some ⟨bt, 0, none⟩) n n]) (by simp [results, Try.results82, go_sem]) rfl ?_
        rw [HW.out]
        exact ⟨bp, bt, by rw [HRL.out.1, HRL.out.2], V1.out, V2.out, BV.out⟩
  refine tkTwo rfl rfl (fun K hK => ?_) (fun K hK => ?_)
  · refine step_mk Try.underlying125 infoBool rfl rfl _ _ rfl p rfl rfl rfl rfl (by omega) (by omega) (Below.refl w0.drew.heap.size w0.drew) (Nat.le_refl _) ?_
    intro wa own hg hb
    have RP0 := hide2 (BoxB.of_row own)
    have XX1 := hide2 (XX0.out.keep hb)
    have DD1 := hide2 (DD0.out.trans (hb.mono DD0.out.size))
    obtain ⟨x0, x1⟩ := XX1.out.two
    refine hK.out _ _ ⟨x0, x1⟩ (fun hHeld => ?_)
    clear own hg hb hK
    simp only [Act.put, List.setIfInBounds_toArray, List.set_cons_zero, List.set_cons_succ]
    refine tkTake (v := ?_) rfl (by rfl) hHeld (fun w' hSw => ?_) ?_
    rotate_left
    · (go_simp; try with_reducible rfl)
    simp only [Act.put, List.setIfInBounds_toArray, List.set_cons_zero, List.set_cons_succ]
    refine tkOne rfl (fun K hK => ?_)
    refine step_mk Try.underlying125 infoBool rfl rfl _ _ rfl n rfl rfl rfl rfl (by omega) (by omega) (Below.refl wa.heap.size wa) (Nat.le_refl _) ?_
    intro wb own hg hb
    have RT := hide2 (BoxB.of_row own)
    have XX2 := hide2 (XX1.out.keep hb)
    have DD2 := hide2 (DD1.out.trans (hb.mono DD1.out.size))
    obtain ⟨x0, x1⟩ := XX2.out.two
    refine hK.out _ _ ⟨x0, x1⟩ (fun hHeld => ?_)
    have RP := hide2 (show BoxB wb w0.drew.heap.size (List.replicate p false) from Box.keep RP0.out hb)
    have hlt : w0.drew.heap.size < wa.heap.size := Box.lt RP0.out
    clear own hg hb hK
    simp only [Act.put, List.setIfInBounds_toArray, List.set_cons_zero, List.set_cons_succ]
    exact EN.out _ _ ⟨_, _, rfl, RP, RT, ⟨XX0.out.lt, Nat.lt_of_lt_of_le XX0.out.lt (Nat.le_of_lt hlt), by have e : w0.drew.heap.size = w0.heap.size := rfl; omega⟩, XX2, DD2⟩ hHeld
  · refine step_mk Try.underlying125 infoBool rfl rfl _ _ rfl n rfl rfl rfl rfl (by omega) (by omega) (Below.refl w0.drew.heap.size w0.drew) (Nat.le_refl _) ?_
    intro wa own hg hb
    have RT0 := hide2 (BoxB.of_row own)
    have XX1 := hide2 (XX0.out.keep hb)
    have DD1 := hide2 (DD0.out.trans (hb.mono DD0.out.size))
    obtain ⟨x0, x1⟩ := XX1.out.two
    refine hK.out _ _ ⟨x0, x1⟩ (fun hHeld => ?_)
    clear own hg hb hK
    simp only [Act.put, List.setIfInBounds_toArray, List.set_cons_zero, List.set_cons_succ]
    refine tkOne rfl (fun K hK => ?_)
    refine step_mk Try.underlying125 infoBool rfl rfl _ _ rfl p rfl rfl rfl rfl (by omega) (by omega) (Below.refl wa.heap.size wa) (Nat.le_refl _) ?_
    intro wb own hg hb
    have RP := hide2 (BoxB.of_row own)
    have XX2 := hide2 (XX1.out.keep hb)
    have DD2 := hide2 (DD1.out.trans (hb.mono DD1.out.size))
    obtain ⟨x0, x1⟩ := XX2.out.two
    refine hK.out _ _ ⟨x0, x1⟩ (fun hHeld => ?_)
    have RT := hide2 (show BoxB wb w0.drew.heap.size (List.replicate n false) from Box.keep RT0.out hb)
    have hlt : w0.drew.heap.size < wa.heap.size := Box.lt RT0.out
    clear own hg hb hK
    simp only [Act.put, List.setIfInBounds_toArray, List.set_cons_zero, List.set_cons_succ]
    refine tkTake (v := ?_) rfl (by rfl) hHeld (fun w' hSw => ?_) ?_
    rotate_left
    · (go_simp; try with_reducible rfl)
    simp only [Act.put, List.setIfInBounds_toArray, List.set_cons_zero, List.set_cons_succ]
    exact EN.out _ _ ⟨_, _, rfl, RP, RT, ⟨Nat.lt_of_lt_of_le XX0.out.lt (Nat.le_of_lt hlt), XX0.out.lt, by have e : w0.drew.heap.size = w0.heap.size := rfl; omega⟩, XX2, DD2⟩ hHeld
end Go.Proofs.Ytmhcinmadelaeaa
