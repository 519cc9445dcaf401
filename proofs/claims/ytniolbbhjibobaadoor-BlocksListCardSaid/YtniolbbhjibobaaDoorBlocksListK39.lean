/- The contract of jmix. Conditions: the words read as lists; they have at most sixteen letters together. -/
import Derived.Test.YtniolbbhjibobaaDoorBlocksListK38
set_option linter.all false
namespace Go.Proofs.YtniolbbhjibobaaDoor
open Go.RowKit

theorem ints_tail {w : World} {b off n c : Nat} {x : Int} {xs : List Int} (h : Ints w (some ⟨b, off, none⟩) (n + 1) c (x :: xs)) : Ints w (if c = 1 then some ⟨b, off, none⟩ else some ⟨b, off + 1, none⟩) n (c - 1) xs := by
  have h1 := h.le
  have h2 := h.cap
  have h3 := h.small
  refine ⟨by have := h.len; simpa using this, by omega, by omega, by omega, (fun e => by split at e <;> cases e), fun hn => ?_⟩
  rw [if_neg (by omega)]
  obtain ⟨b', off', e, hb, hc⟩ := h.cells (by omega)
  injection e with e
  injection e with e1 e2
  subst e1 e2
  refine ⟨b, off + 1, rfl, hb, fun i y hy => ?_⟩
  obtain ⟨vs, a, r⟩ := hc (i + 1) y (by simpa using hy)
  refine ⟨vs, fun j hj => ?_, r⟩
  rw [← a j hj]
  congr 2
  omega
set_option maxRecDepth 100000 in
set_option maxHeartbeats 16000000 in
theorem jmix_calls : ∀ (f : Nat) (w : World) (A B : Option Addr) (n c m d : Nat) (x y : List Int), n + m ≤ f → f ≤ 16 → Ints w A n c x → Ints w B m d y →
    Calls Tryd.prog 27 #[.slice A n c, .slice B m d] w (AnsRow (jmixL x y) w) := by
  intro f
  induction f with
  | zero =>
    intro w A B n c m d x y hf _ h g
    obtain rfl : n = 0 := by omega
    obtain rfl : m = 0 := by omega
    have ex := List.eq_nil_of_length_eq_zero h.len
    have ey := List.eq_nil_of_length_eq_zero g.len
    subst ex ey
    have CJ := hide2 (jjoin_calls h g (by omega))
    go_enter Tryd.func27, Tryd.ntmps27
    go_wp2_with fail
    refine CJ.out.mono ?_
    rintro e w2 ⟨C, k, q, rfl, o2, hb2⟩
    have O2 := hide2 o2
    have B2 := hide2 hb2
    clear o2 hb2
    go_wp2_with fail
    go_ret
    exact ⟨C, k, q, rfl, by rw [mix_nil]; exact O2.out, B2.out⟩
  | succ f ih =>
    intro w A B n c m d x y hf hf16 h g
    have hn := h.len
    have hm := g.len
    match x, y with
    | [], y =>
      obtain rfl : n = 0 := hn.symm
      have CJ := hide2 (jjoin_calls h g (by omega))
      clear h g
      go_enter Tryd.func27, Tryd.ntmps27
      go_wp2_with fail
      refine CJ.out.mono ?_
      rintro e w2 ⟨C, k, q, rfl, o2, hb2⟩
      have O2 := hide2 o2
      have B2 := hide2 hb2
      clear o2 hb2
      go_wp2_with fail
      go_ret
      exact ⟨C, k, q, rfl, by rw [mix_nil]; exact O2.out, B2.out⟩
    | a :: x, [] =>
      obtain rfl : m = 0 := hm.symm
      have hn0 : ((n : Int) == 0) = false := by simp at hn ⊢; omega
      have CJ := hide2 (jjoin_calls h g (by omega))
      clear h g
      go_enter Tryd.func27, Tryd.ntmps27
      go_wp2_with fail
      refine CJ.out.mono ?_
      rintro e w2 ⟨C, k, q, rfl, o2, hb2⟩
      have O2 := hide2 o2
      have B2 := hide2 hb2
      clear o2 hb2
      go_wp2_with fail
      go_ret
      exact ⟨C, k, q, rfl, by rw [mix_nil']; have := O2.out; unfold joinL at this; rwa [List.append_nil] at this, B2.out⟩
    | a :: x, b :: y =>
      obtain ⟨n, rfl⟩ : ∃ n', n = n' + 1 := ⟨x.length, hn.symm⟩
      obtain ⟨m, rfl⟩ : ∃ m', m = m' + 1 := ⟨y.length, hm.symm⟩
      have H := hide2 h
      have G := hide2 g
      have IH := hide2 ih
      have MIXE := hide2 (mix_cons a b x y)
      have LX := hide2 (show x.length = n by simpa using hn)
      have LY := hide2 (show y.length = m by simpa using hm)
      clear ih hn hm
      obtain ⟨bA, oA, a', rfl, hbA, ha, qa⟩ := Ints.get h (k := 0) (by omega)
      obtain rfl : a = a' := by injection ha.out
      obtain ⟨bB, oB, b', rfl, hbB, hb, qb⟩ := Ints.get g (k := 0) (by omega)
      obtain rfl : b = b' := by injection hb.out
      simp only [Nat.add_zero] at qa qb
      have TA := hide2 (ints_tail h)
      have TB := hide2 (ints_tail g)
      obtain ⟨CA, hCA⟩ : ∃ C, (if c = 1 then some (⟨bA, oA, none⟩ : Addr) else some ⟨bA, oA + 1, none⟩) = C := ⟨_, rfl⟩
      obtain ⟨CB, hCB⟩ : ∃ C, (if d = 1 then some (⟨bB, oB, none⟩ : Addr) else some ⟨bB, oB + 1, none⟩) = C := ⟨_, rfl⟩
      rw [hCA] at TA
      rw [hCB] at TB
      have HCB := hide2 hCB
      have hnb : ((n : Int) + 1 == 0) = false := by simp; omega
      have hmb : ((m : Int) + 1 == 0) = false := by simp; omega
      have CX := hide2 (IH.out w CA (some ⟨bB, oB, none⟩) n (c - 1) (m + 1) d x (b :: y) (by omega) (by omega) TA.out G.out)
      clear h g ha hb hCB
      go_enter Tryd.func27, Tryd.ntmps27
      go_wp2_with fail
      obtain ⟨Z1, hZ1⟩ : ∃ Z, jmixL x (b :: y) = Z := ⟨_, rfl⟩
      obtain ⟨Z2, hZ2⟩ : ∃ Z, jmixL (a :: x) y = Z := ⟨_, rfl⟩
      have N1 := hide2 (show Z1.length ≤ 65536 by rw [← hZ1]; exact mix_small (by have := LX.out; have := LY.out; simp only [List.length_cons]; omega))
      have N2 := hide2 (show Z2.length ≤ 65536 by rw [← hZ2]; exact mix_small (by have := LX.out; have := LY.out; simp only [List.length_cons]; omega))
      have CY := hide2 (fun (w' : World) (hb : Below w.heap.size w w') => show Calls Tryd.prog 27 #[.slice (some ⟨bA, oA, none⟩) (n + 1) c, .slice CB m (d - 1)] w' (AnsRow Z2 w') by rw [← hZ2]; exact IH.out w' (some ⟨bA, oA, none⟩) CB (n + 1) c m (d - 1) (a :: x) y (by omega) (by omega) (Ints.keep H.out hb) (Ints.keep TB.out hb))
      rw [hZ1] at CX MIXE
      rw [hZ2] at MIXE
      have ZL1 := hide2 (show ∀ z ∈ Z1, z.length ≤ 15 from fun z hz => by rw [← hZ1] at hz; have := ((mix_mem _ _ _).1 hz).len; have := LX.out; have := LY.out; simp only [List.length_cons] at *; omega)
      have ZL2 := hide2 (show ∀ z ∈ Z2, z.length ≤ 15 from fun z hz => by rw [← hZ2] at hz; have := ((mix_mem _ _ _).1 hz).len; have := LX.out; have := LY.out; simp only [List.length_cons] at *; omega)
      have QQ := hide2 (fun (w' : World) (hb : Below w.heap.size w w') => show w'.cell? ⟨bA, oA, none⟩ = some (.int .i64 a) ∧ w'.cell? ⟨bB, oB, none⟩ = some (.int .i64 b) from ⟨(hb.cell (p := ⟨bA, oA, none⟩) hbA).trans qa, (hb.cell (p := ⟨bB, oB, none⟩) hbB).trans qb⟩)
      clear hZ1 hZ2 qa qb hCA
      refine CX.out.mono ?_
      rintro e wd ⟨A1, n1, c1, rfl, o1, hb1⟩
      have hn1 : n1 ≤ 65536 := by have := OwnSl.len o1; have := N1.out; omega
      have R1 := hide2 o1
      have B1 := hide2 hb1
      clear o1 hb1 CX
      go_wp2_with fail
      go_loopw [5, 26] (fun s5 v wr => ∃ (sv : Value) (i : Nat), sv = s5 ∧ i ≤ n1 ∧ v = .int .i64 i ∧ Hid (RowL wr w.heap.size wd.heap.size sv i ((Z1.take i).map fun z => a :: z)) ∧ Hid (Below wd.heap.size wd wr)) (fun _ v _ => n1 - (intOf v).toNat)
      case atStart => exact ⟨_, 0, rfl, Nat.zero_le _, rfl, hide2 OwnSl.nil, hide2 (Below.refl _ _)⟩
      case round =>
        obtain ⟨sv, i, rfl, hi, rfl, OB, BR⟩ := hrel
        have BW := hide2 (B1.out.trans (BR.out.mono B1.out.size))
        by_cases hlt : i < n1
        · have hki : (i : Int) < (n1 : Int) := by omega
          obtain ⟨Ag, cg, eg, LS⟩ := (RowL.keep R1.out BR.out).lists (by omega)
          injection eg with e1 _ e2
          subst e1 e2
          obtain ⟨b4, off4, z, A4, n4, c4, rfl, hb4, hz, q0, iz, hn4⟩ := Lists.get LS hlt
          obtain ⟨ya, yb⟩ := QQ.out wr BW.out
          have HZ := hide2 hz.out
          have IZ := hide2 (Ints.keep iz (boxBelow wr (.cells #[.int .i64 a] 3)))
          have O1 := hide2 (ownInt_one (l := a) (Nat.le_refl wr.heap.size))
          have BZ := hide2 (boxBelow wr (.cells #[.int .i64 a] 3))
          have LZ := hide2 (show n4 ≤ 16 by
            have h1 := iz.len
            have h2 : z ∈ Z1 := List.mem_of_getElem? HZ.out
            have := ZL1.out z h2
            omega)
          have hn4' : n4 ≤ 16 := LZ.out
          clear iz hz LS hb4
          go_wp2_with (first
            | (at_builtin; refine wpList_appAny tyInts IntR.good rfl _ _ rfl rfl rfl O1.out IZ.out BZ.out (by simp) (by omega) (by omega) (fun w' _ => ints_move _ w') ?_; intro v8 w8 own8 hg8 hb8; obtain ⟨A8, c8, rfl, _⟩ := OwnSl.sl own8 (by omega); have O8 := hide2 (OwnSl.base own8 BW.out.size); have B8 := hide2 (BR.out.trans (hb8.mono BR.out.size)); have Z8 := hide2 hb8.size; have U8 := hide2 (RowL.keep OB.out hb8);  have RD8 := hide2 (Reads.list1 (v := .slice A8 (1 + n4) c8) (show OwnListR w.heap.size w8 (fun _ => .slice A8 (1 + n4) c8) ([a] ++ z) from ⟨_, O8.out, by omega⟩)); have KP8 := hide2 (keepLists U8.out); clear own8 hg8 hb8)
            | (at_builtin; refine wpList_appNewAtW (v := sv) tyLists rfl _ _ rfl [[a] ++ z] #[.slice A8 (1 + n4) c8] rfl rfl (by first | rfl | simp) rfl (by simp [Value.oneCell']) U8.out RD8.out rfl B8.out.size (by omega) (by omega) KP8.out ?_; intro v9 w9 own9 hg9 hat9; have O9 := hide2 own9; have B9 := hide2 (B8.out.grown hg9 B8.out.size (fun kk e => (OwnSl.lt U8.out kk e).1)); have G9 := hide2 hg9; have F9 := hide2 (show ∀ kk, v9.ownBlock = some kk → sv.ownBlock = some kk ∨ w8.heap.size ≤ kk from fun kk hk => hat9.elim (fun e => .inl (e ▸ hk)) (fun e => .inr (by rw [e] at hk; injection hk with hk; omega))); clear own9 hg9 hat9))
          go_roundw
          case rel => exact ⟨v9, i + 1, rfl, by omega, by go_num, hide2 (by rw [map_take_get HZ.out]; exact O9.out), B9⟩
          case measure => simp [intOf]; omega
        · obtain rfl : i = n1 := by omega
          have OF := hide2 (show RowL wr w.heap.size wd.heap.size sv i (Z1.map fun z => a :: z) by have := OB.out; rwa [List.take_of_length_le (by rw [OwnSl.len R1.out]; exact Nat.le_refl _)] at this)
          have hCB := HCB.out
          have CZ := hide2 (CY.out wr BW.out)
          clear OB
          go_wp2_with fail
          refine CZ.out.mono ?_
          rintro e we ⟨A2, n2, c2, rfl, o2, hb2⟩
          have hn2 : n2 ≤ 65536 := by have := OwnSl.len o2; have := N2.out; omega
          have R2 := hide2 o2
          have U2 := hide2 (RowL.keep OF.out hb2)
          have B2 := hide2 (BR.out.trans (hb2.mono BR.out.size))
          have OL := hide2 (OwnSl.lt OF.out)
          have Z2L := hide2 (OwnSl.len o2)
          have Z2B := hide2 (OwnSl.lt o2)
          clear o2 hb2 hCB CZ
          obtain ⟨wx, hwx⟩ : ∃ wx : World, wx = wr := ⟨_, rfl⟩
          subst hwx
          go_wp2_with fail
          go_loopw [5, 45] (fun s5 v wr => ∃ (sv : Value) (j : Nat), sv = s5 ∧ j ≤ n2 ∧ v = .int .i64 j ∧ Hid (RowL wr w.heap.size wd.heap.size sv (i + j) ((Z1.map fun z => a :: z) ++ (Z2.take j).map fun z => b :: z)) ∧ Hid (∀ kk, sv.ownBlock = some kk → kk < wx.heap.size ∨ we.heap.size ≤ kk) ∧ Hid (RowL wr wx.heap.size wx.heap.size (.slice A2 n2 c2) n2 Z2) ∧ Hid (we.heap.size ≤ wr.heap.size) ∧ Hid (Below wd.heap.size wd wr)) (fun _ v _ => n2 - (intOf v).toNat)
          case atStart => exact ⟨_, 0, rfl, Nat.zero_le _, rfl, hide2 (by simpa using U2.out), hide2 (fun kk e => .inl (OL.out kk e).2), R2, hide2 (Nat.le_refl _), B2⟩
          case round =>
            obtain ⟨sv, j, rfl, hj, rfl, OB, VB, SI, BI, BO⟩ := hrel
            have BW := hide2 (B1.out.trans (BO.out.mono B1.out.size))
            by_cases hlj : j < n2
            · have hkj : (j : Int) < (n2 : Int) := by omega
              obtain ⟨Ag, cg, eg, LS⟩ := RowL.lists SI.out (by omega)
              injection eg with e1 _ e2
              subst e1 e2
              obtain ⟨b4, off4, z, A4, n4, c4, eA, hb4, hz, q0, iz, hn4⟩ := Lists.get LS hlj
              subst eA
              obtain ⟨ya, yb⟩ := QQ.out wr BW.out
              have HZ := hide2 hz.out
              have IZ := hide2 (Ints.keep iz (boxBelow wr (.cells #[.int .i64 b] 3)))
              have O1 := hide2 (ownInt_one (l := b) (Nat.le_refl wr.heap.size))
              have BZ := hide2 (boxBelow wr (.cells #[.int .i64 b] 3))
              have hn4' : n4 ≤ 16 := by
                have h1 := iz.len
                have h2 : z ∈ Z2 := List.mem_of_getElem? HZ.out
                have := ZL2.out z h2
                omega
              clear iz hz LS hb4
              go_wp2_with (first
                | (at_builtin; refine wpList_appAny tyInts IntR.good rfl _ _ rfl rfl rfl O1.out IZ.out BZ.out (by simp) (by omega) (by omega) (fun w' _ => ints_move _ w') ?_; intro v8 w8 own8 hg8 hb8; obtain ⟨A8, c8, rfl, _⟩ := OwnSl.sl own8 (by omega); have O8 := hide2 (OwnSl.base own8 BW.out.size); have B8 := hide2 (BO.out.trans (hb8.mono BO.out.size)); have Z8 := hide2 hb8.size; have U8 := hide2 (RowL.keep OB.out hb8); have SJ := hide2 (RowL.keep SI.out hb8); have RD8 := hide2 (Reads.list1 (v := .slice A8 (1 + n4) c8) (show OwnListR w.heap.size w8 (fun _ => .slice A8 (1 + n4) c8) ([b] ++ z) from ⟨_, O8.out, by omega⟩)); have KP8 := hide2 (keepLists U8.out); clear own8 hg8 hb8)
                | (at_builtin; refine wpList_appNewAtW (v := sv) tyLists rfl _ _ rfl [[b] ++ z] #[.slice A8 (1 + n4) c8] rfl rfl (by first | rfl | simp) rfl (by simp [Value.oneCell']) U8.out RD8.out rfl (Nat.le_trans BO.out.size Z8.out) (by omega) (by omega) KP8.out ?_; intro v9 w9 own9 hg9 hat9; have O9 := hide2 own9; have B9 := hide2 (B8.out.grown hg9 B8.out.size (fun kk e => (OwnSl.lt U8.out kk e).1)); have G9 := hide2 hg9; have F9 := hide2 (show ∀ kk, v9.ownBlock = some kk → sv.ownBlock = some kk ∨ w8.heap.size ≤ kk from fun kk hk => hat9.elim (fun e => .inl (e ▸ hk)) (fun e => .inr (by rw [e] at hk; injection hk with hk; omega))); clear own9 hg9 hat9))
              have SK := hide2 (rowL_beside SJ.out U8.out (fun kk e e2 => by
                have z1 := Z2B.out kk e
                have v1 := VB.out kk e2
                omega) G9.out)
              go_roundw
              case rel => exact ⟨v9, j + 1, rfl, by omega, by go_num, hide2 (by rw [map_take_get HZ.out, ← List.append_assoc]; exact O9.out), hide2 (fun kk e => (F9.out kk e).elim (VB.out kk) (fun h => .inr (by have := BI.out; have := Z8.out; omega))), SK, hide2 (by have := BI.out; have := Z8.out; have := G9.out.size; omega), B9⟩
              case measure => simp [intOf]; omega
            · obtain rfl : j = n2 := by omega
              have EF := hide2 (show Z2.take j = Z2 from List.take_of_length_le (by rw [Z2L.out]; exact Nat.le_refl _))
              have OF2 := hide2 OB.out
              rw [EF.out, ← MIXE.out] at OF2
              obtain ⟨A8, c8, rfl, _⟩ := OwnSl.sl OF2.out (by omega)
              go_wp2
              go_ret
              exact ⟨A8, _, c8, rfl, rowL_base OF2.out (Nat.le_refl _) B1.out.size, BW.out⟩
end Go.Proofs.YtniolbbhjibobaaDoor
