/- The contract of XLog. Conditions: the text is not too long. -/
import Derived.Test.YtadepofaobdbhaaBenF
namespace Go.Proofs.Ytadepofaobdbhaa
open Go.RowKit

theorem logR_step {s : List UInt8} {i : Nat} {x : UInt8} (hx : s[i]? = some x) (out : List (List Int)) (now : List Int) :
    logR (s.drop i) out now = if x = 10 then logR (s.drop (i + 1)) (out ++ [now]) [] else if letB x = true then logR (s.drop (i + 1)) out (now ++ [numB x]) else ([], (out.length : Int), 1) := by
  obtain ⟨hlt, rfl⟩ := List.getElem?_eq_some_iff.1 hx
  rw [List.drop_eq_getElem_cons hlt, logR]

set_option maxRecDepth 100000 in
set_option maxHeartbeats 8000000 in
theorem xlog_calls (s : List UInt8) (hs : s.length ≤ 1048576) (w : World) :
    Calls Try.prog 15 #[.string ⟨s.toArray⟩] w (AnsLog s w) := by
  obtain ⟨cc, w1, hconv, hbt, hb1⟩ := conv_run s w
  have BT1 := hide2 hbt
  have B1 := hide2 hb1
  clear hbt hb1
  go_enter Try.func15, Try.ntmps15
  go_upto_region 4 with fail
  clear hconv
  go_loopw [5, 6, 12] (fun u5 u6 u12 wr => ∃ (i : Nat) (out : List (List Int)) (now : List Int) (wn : World), u12 = .int .i64 (i : Int) ∧ i ≤ s.length ∧ now.length ≤ i ∧ out.length ≤ i ∧ Hid (logR (s.drop i) out now = logL s) ∧ Hid ((i = 0 ∧ now = []) ∨ ∃ x, 0 < i ∧ s[i - 1]? = some x ∧ (x = 10 ↔ now = [])) ∧
    Hid (OwnSl (OwnListR w.heap.size) 1 wn w.heap.size 41 u5 out.length out) ∧ Hid (OwnInts wr wn.heap.size u6 now.length now) ∧ Hid (BtRow wr w.heap.size s) ∧ Hid (Below w.heap.size w wn) ∧ Hid (Below wn.heap.size wn wr)) (fun _ _ v _ => s.length - (intOf v).toNat)
  case atStart => exact ⟨0, [], [], w1, rfl, Nat.zero_le _, Nat.le_refl _, Nat.le_refl _, rfl, .inl ⟨rfl, rfl⟩, OwnSl.nil, OwnSl.nil, BT1, B1, Below.refl _ _⟩
  case round =>
    clear BT1 B1
    obtain ⟨i, out, now, wn, rfl, hi, hnl, hol, HL, HE, OW, OI, BT, BN, BR⟩ := hrel
    by_cases hlt : i < s.length
    · have hji : (i : Int) < (s.length : Int) := by omega
      obtain ⟨x, hx⟩ : ∃ x, s[i]? = some x := ⟨_, List.getElem?_eq_getElem hlt⟩
      have c0 := BT.out.cell hx
      have HX := hide2 hx
      have hx0 : x.toNat < 256 := x.toNat_lt
      have HS := hide2 (logR_step hx out now)
      rw [HL.out] at HS
      clear hx
      have OWr := hide2 (OW.out.keep (OwnListR.kept _) BR.out)
      have XR := hide2 (BN.out.trans (BR.out.mono BN.out.size))
      by_cases h10 : x = 10
      · subst h10
        rw [if_pos rfl] at HS
        obtain ⟨A, m, rfl, _⟩ := OI.out.sl (by omega)
        have OI' := hide2 (show OwnInts wr w.heap.size (.slice A now.length m) now.length now from OI.out.base BN.out.size)
        have RD := hide2 (show Reads (OwnListR w.heap.size) 1 wr [.slice A now.length m] [now] from Reads.list1 ⟨now.length, OI'.out, by omega⟩)
        have KP := hide2 (keepLists OWr.out)
        go_wp2_with (at_builtin; refine wpList_appNew (v := u5) tyLists rfl _ _ rfl [now] #[.slice A now.length m] rfl rfl (by first | rfl | simp) rfl (by simp [Value.oneCell']) OWr.out RD.out rfl XR.out XR.out.size (by omega) (by omega) KP.out ?_; intro v1 w2 own1 hg1 hb1; have O2 := hide2 own1; have BT2 := hide2 (BT.out.grown (by decide) OWr.out hg1); have X2 := hide2 hb1; clear own1 hg1 hb1)
        go_roundw
        case rel => exact ⟨i + 1, out ++ [now], [], w2, by go_num, by omega, by simp, by simp; omega, HS.out.symm, .inr ⟨10, by omega, by simpa using HX.out, by simp⟩, hide2 (by simpa using O2.out), OwnSl.nil, BT2, X2, Below.refl _ _⟩
        case measure => simp [intOf]; omega
      · rw [if_neg h10] at HS
        have h10n : ((x.toNat : Int) == 10) = false := by
          simp
          intro e
          exact h10 (UInt8.toNat.inj (by simpa using (by omega : x.toNat = 10)))
        have h10m : ¬ (x.toNat : Int) = 10 := by simpa using h10n
        by_cases hlet : letB x = true
        · rw [if_pos hlet] at HS
          obtain ⟨n1, n2, n3, n4, n5⟩ := num_wrap' x hlet
          go_wp2_with (at_builtin; refine wpList_appInt (y := numB x) rfl _ _ rfl rfl rfl (by first | rfl | simp) OI.out BR.out BR.out.size (by omega) ?_; intro v2 w2 own2 hg2 hb2; have O2 := hide2 own2; have BT2 := hide2 (BT.out.grown (by decide) OI.out hg2); have BI2 := hide2 hb2; clear own2 hg2 hb2)
          go_roundw
          case rel => exact ⟨i + 1, out, now ++ [numB x], wn, by go_num, by omega, by simp; omega, by omega, HS.out.symm, .inr ⟨x, by omega, by simpa using HX.out, by simp [h10]⟩, OW, hide2 (by simpa using O2.out), BT2, BN, BI2⟩
          case measure => simp [intOf]; omega
        · rw [if_neg hlet] at HS
          obtain ⟨A, m, rfl, _⟩ := OWr.out.sl (by omega)
          by_cases h97 : (x.toNat : Int) < 97
          · go_wp2
            go_ret3
            exact ⟨none, 0, 0, by rw [HS.out]; rfl, by rw [HS.out]; exact OwnSl.nil, XR.out⟩
          · have h122 : 122 < (x.toNat : Int) := by
              have : ¬ (97 ≤ x.toNat ∧ x.toNat ≤ 122) := fun hh => hlet (by unfold letB; simp [hh.1, hh.2])
              omega
            go_wp2
            go_ret3
            exact ⟨none, 0, 0, by rw [HS.out]; rfl, by rw [HS.out]; exact OwnSl.nil, XR.out⟩
    · obtain rfl : i = s.length := by omega
      have HF := hide2 (show logL s = if now = [] then (out, 0, 0) else ([], (out.length : Int), 1) by rw [← HL.out, List.drop_length, logR])
      have OWr := hide2 (OW.out.keep (OwnListR.kept _) BR.out)
      have XR := hide2 (BN.out.trans (BR.out.mono BN.out.size))
      obtain ⟨A, m, rfl, _⟩ := OWr.out.sl (by omega)
      rcases HE.out with ⟨h0, rfl⟩ | ⟨x, h0, hx, hxn⟩
      · rw [if_pos rfl] at HF
        have hs0 : (s.length : Int) = 0 := by omega
        go_wp2
        go_ret3
        exact ⟨A, out.length, m, by rw [HF.out]; rfl, by rw [HF.out]; exact OWr.out, XR.out⟩
      · have hs0 : (0 : Int) < (s.length : Int) := by omega
        have hg : ∀ h, ((⟨s.toArray⟩ : ByteArray)[s.length - 1]'h) = x := fun h => by
          obtain ⟨hl, e⟩ := List.getElem?_eq_some_iff.1 hx
          exact e
        by_cases e10 : x = 10
        · rw [if_pos (hxn.1 e10)] at HF
          have hq : ((x.toNat : Int) != 10) = false := by rw [e10]; rfl
          go_wp2
          go_ret3
          exact ⟨A, out.length, m, by rw [HF.out]; rfl, by rw [HF.out]; exact OWr.out, XR.out⟩
        · rw [if_neg (fun h => e10 (hxn.2 h))] at HF
          have hq : ((x.toNat : Int) != 10) = true := by
            simp only [bne_iff_ne, ne_eq]
            intro e
            exact e10 (UInt8.toNat.inj (by simpa using (by omega : x.toNat = 10)))
          go_wp2
          go_ret3
          exact ⟨none, 0, 0, by rw [HF.out]; rfl, by rw [HF.out]; exact OwnSl.nil, XR.out⟩
end Go.Proofs.Ytadepofaobdbhaa
