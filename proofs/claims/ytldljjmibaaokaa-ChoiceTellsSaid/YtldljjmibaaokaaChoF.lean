/- The contract of choice.Clusters. Conditions: the net reads as a list. -/
import Derived.Test.YtldljjmibaaokaaChoC
import Derived.Test.YtldljjmibaaokaaChoE
import Derived.Test.YtldljjmibaaokaaDelF
import Derived.Test.YtldljjmibaaokaaSortI
namespace Go.Proofs.Ytldljjmibaaokaa
open Go.RowKit

def shS (ts : List PTran) (i j : Nat) : Bool := shareT (ts.getD i default) (ts.getD j default)
theorem shS_symm (ts : List PTran) (i j : Nat) : shS ts i j = shS ts j i := shareT_symm _ _
theorem tranD {ts : List PTran} {i : Nat} {t : PTran} (h : ts[i]? = some t) : ts.getD i default = t := by rw [List.getD_eq_getElem?_getD, h]; rfl

set_option maxRecDepth 100000 in
set_option maxHeartbeats 2000000 in
theorem touch_pred {w : World} {bt bn : Nat} {P lb : Int} {A A1 A2 : Option Addr} {n c n1 c1 n2 c2 k : Nat} {ts : List PTran} {t : PTran} {xs : List Int} (ct : Box w bt 79 #[.int .i64 lb, .slice A1 n1 c1, .slice A2 n2 c2]) (cn : Box w bn 24 #[.int .i64 P, .slice A n c])
    (ht : Trans w A n c ts) (h1 : Ints w A1 n1 c1 t.pre) (hk : ts[k]? = some t) (hp : ∀ u ∈ ts, u.pre.length = n1) (hx : ∀ x ∈ xs, 0 ≤ x ∧ x < (n : Int)) :
    IsPredB 79 #[.pointer (some ⟨bt, 0, none⟩), .pointer (some ⟨bn, 0, none⟩)] w xs (fun j => shS ts k j.toNat) where
  enters := fun args w => by kernel_rfl
  calls := fun wr x hb hm => by
    obtain ⟨h0, hn⟩ := hx x hm
    obtain ⟨q, rfl⟩ : ∃ q : Nat, x = (q : Int) := ⟨x.toNat, by omega⟩
    have hqn : q < n := by omega
    have DR := hide2 (hb.trans ((Below.refl wr.heap.size wr).drew.mono hb.size))
    have DW := hide2 (Below.refl wr.heap.size wr).drew
    obtain ⟨bl, off, u, A3, n3, c3, A4, n4, c4, rfl, hbl, hu, q0, q1, q2, i3, i4, _, _⟩ := Trans.get (ht.keep DR.out) hqn
    obtain rfl : n3 = n1 := by rw [← i3.len]; exact hp u (List.mem_of_getElem? hu.out)
    have XT := hide2 (ct.keep DR.out)
    have XN := hide2 (cn.keep DR.out)
    have J1 := hide2 (h1.keep DR.out)
    have J3 := hide2 i3
    obtain ⟨t0, t1, t2⟩ := XT.out.three
    obtain ⟨d0, d1⟩ := XN.out.two
    have FN := hide2 (show shS ts k (q : Int).toNat = shareT t u by rw [Int.toNat_natCast, shS, tranD hk, tranD hu.out])
    have hqi : (q : Int) < (n : Int) := by omega
    have KEEP := hide2 (show ∀ w', Below wr.drew.heap.size wr.drew w' → w'.cell? ⟨bt, 0, none⟩ = some (.int .i64 lb) ∧ w'.cell? ⟨bt, 1, none⟩ = some (.slice A1 n3 c1) ∧ w'.cell? ⟨bt, 2, none⟩ = some (.slice A2 n2 c2) ∧ w'.cell? ⟨bn, 1, none⟩ = some (.slice (some ⟨bl, off, none⟩) n c) ∧ w'.cell? ⟨bl, off + q * 3, none⟩ = some (.int .i64 u.label) ∧ w'.cell? ⟨bl, off + q * 3 + 1, none⟩ = some (.slice A3 n3 c3) ∧ w'.cell? ⟨bl, off + q * 3 + 2, none⟩ = some (.slice A4 n4 c4) from fun w' hb2 => by
      obtain ⟨x0, x1, x2⟩ := (XT.out.keep hb2).three
      obtain ⟨x3, x4⟩ := (XN.out.keep hb2).two
      exact ⟨x0, x1, x2, x4, (hb2.cell (p := ⟨bl, _, none⟩) hbl).trans q0, (hb2.cell (p := ⟨bl, _, none⟩) hbl).trans q1, (hb2.cell (p := ⟨bl, _, none⟩) hbl).trans q2⟩)
    clear hb hm ht h1 hk hp hx i3 i4 hu ct cn h0 hn
    show Calls Try.prog 79 #[.int .i64 (q : Int), .pointer (some ⟨bt, 0, none⟩), .pointer (some ⟨bn, 0, none⟩)] wr _
    rw [FN.out]
    go_enter Try.func79, Try.ntmps79
    go_wp2_with fail
    go_region_held3 (fun w' => w'.cell? ⟨bt, 0, none⟩ = some (.int .i64 lb) ∧ w'.cell? ⟨bt, 1, none⟩ = some (.slice A1 n3 c1) ∧ w'.cell? ⟨bt, 2, none⟩ = some (.slice A2 n2 c2) ∧ w'.cell? ⟨bn, 1, none⟩ = some (.slice (some ⟨bl, off, none⟩) n c) ∧ w'.cell? ⟨bl, off + q * 3, none⟩ = some (.int .i64 u.label) ∧ w'.cell? ⟨bl, off + q * 3 + 1, none⟩ = some (.slice A3 n3 c3) ∧ w'.cell? ⟨bl, off + q * 3 + 2, none⟩ = some (.slice A4 n4 c4))
      (first | go_keep)
      (first
        | (go_at_call 76; (with_reducible refine (shares_calls (a := t) (b := u) J1.out J3.out).mono ?_); rintro e w5 ⟨rfl, hb5⟩; have F5 := hide2 hb5; clear hb5 t0 t1 t2 d0 d1 q0 q1 q2; obtain ⟨t0, t1, t2, d1, q0, q1, q2⟩ := KEEP.out w5 F5.out))
    all_goals
      go_wp2
      go_ret
      exact ⟨rfl, DW.out.trans (F5.out.mono DW.out.size)⟩

/-- A list of the call's own, read in a world that is past: nothing of it has turned since. -/
def OwnListR0 (w0 : World) (B : Nat) : World → (Nat → Value) → List Int → Prop := fun _ vs xs => OwnListR B w0 vs xs
theorem OwnListR0.kept (w0 : World) (B : Nat) : Kept (OwnListR0 w0 B) := fun _ _ _ _ _ h => h
def AnsOwnLists (L : List (List Int)) (w : World) (e : Ending) (w' : World) : Prop := ∃ v n, e = .returned v ∧ OwnSl (OwnListR w.heap.size) 1 w' w.heap.size 25 v n L ∧ n ≤ 24 ∧ Below w.heap.size w w'
def ClustP (N : PNet) (L : List (List Int)) : Prop := if netOk N = true then IsCl (shS N.trans) N.trans.length L else L = []
theorem ClustP.uniq {N : PNet} {L M : List (List Int)} (h : ClustP N L) (g : ClustP N M) : L = M := by
  unfold ClustP at h g
  split at h
  · rename_i hw
    rw [if_pos hw] at g
    exact h.uniq g
  · rename_i hw
    rw [if_neg hw] at g
    rw [h, g]
theorem mineL_nil (sh : Nat → Nat → Bool) (k : Nat) : mineL sh k [] = [(k : Int)] := rfl
theorem mineL_snoc (sh : Nat → Nat → Bool) (k : Nat) (L : List (List Int)) (l : List Int) : mineL sh k (L ++ [l]) = if touch sh k l = true then mineL sh k L ++ l else mineL sh k L := by
  unfold mineL
  rw [List.filter_append, List.flatten_append]
  cases h : touch sh k l
  · simp [h]
  · simp [h]
theorem restL_snoc (sh : Nat → Nat → Bool) (k : Nat) (L : List (List Int)) (l : List Int) : restL sh k (L ++ [l]) = if touch sh k l = true then restL sh k L else restL sh k L ++ [l] := by
  unfold restL
  rw [List.filter_append]
  cases h : touch sh k l <;> simp [h]
theorem own_one (w : World) (x : Int) : OwnInts (w.alloc (.cells #[.int .i64 x] 3)) w.heap.size (.slice (some ⟨w.heap.size, 0, none⟩) 1 1) 1 [x] :=
  OwnInts.of_row ⟨by simp, .inr ⟨w.heap.size, 1, _, rfl, Nat.le_refl _, heap_alloc_new w _, Nat.le_refl _, by simp [maxLen], rfl, rfl⟩⟩
/-- Row k of lists of the call's own. -/
theorem ownLists_get {w : World} {B : Nat} {A : Option Addr} {n c k : Nat} {L : List (List Int)} (h : Sl (OwnListR B) 1 w A n c L) (hk : k < n) :
    ∃ b off x Al nl cl, A = some ⟨b, off, none⟩ ∧ b < w.heap.size ∧ Hid (L[k]? = some x) ∧ w.cell? ⟨b, off + k, none⟩ = some (.slice Al nl cl) ∧ OwnInts w B (.slice Al nl cl) nl x ∧ Ints w Al nl cl x ∧ nl ≤ 17592186043904 := by
  obtain ⟨b, off, x, vs, h1, h2, h3, h4, m, o, l⟩ := Sl.get h hk
  obtain ⟨A2, c2, e, i⟩ := o.sl (by omega)
  rw [e] at o
  refine ⟨b, off, x, A2, m, c2, h1, h2, h3, ?_, o, i, l⟩
  have := h4 0 (by omega)
  rw [e] at this
  simpa using this
theorem flat_len : ∀ (L : List (List Int)) (m : Nat), (∀ l ∈ L, l.length ≤ m) → L.flatten.length ≤ L.length * m
  | [], _, _ => by simp
  | a :: L, m, h => by
    rw [List.flatten_cons, List.length_append, List.length_cons, Nat.add_mul, Nat.one_mul]
    have := flat_len L m (fun l hl => h l (by simp [hl]))
    have := h a (by simp)
    omega
theorem PI.len {sh : Nat → Nat → Bool} {n k : Nat} {L : List (List Int)} (h : PI sh n k L) : L.length ≤ k ∧ ∀ l ∈ L, l.length ≤ k := by
  refine ⟨?_, fun l hl => asc_len (P := k) (h.asc l hl) (h.rng l hl)⟩
  have nd := nodup_flat h.asc h.dis
  have : ∀ M : List (List Int), (∀ l ∈ M, l ≠ []) → M.length ≤ M.flatten.length := by
    intro M
    induction M with
    | nil => intro _; simp
    | cons a M ih =>
      intro hM
      have := ih (fun l hl => hM l (by simp [hl]))
      have h1 := List.length_pos_iff.2 (hM a (by simp))
      rw [List.flatten_cons, List.length_append, List.length_cons]
      omega
  have h1 := this L h.ne
  have h2 : L.flatten.length ≤ k := by
    have := asc_len (P := k) (xs := sortL L.flatten) (sortL_asc nd) (fun x hx => by
      obtain ⟨l, hl, hxl⟩ := List.mem_flatten.1 ((sortL_mem _ _).1 hx)
      exact h.rng l hl x hxl)
    rwa [sortL_len] at this
  omega

set_option maxRecDepth 100000 in
set_option maxHeartbeats 8000000 in
theorem clusters_calls {w : World} {P : Int} {A : Option Addr} {n c : Nat} {ts : List PTran} (h : Trans w A n c ts) :
    Calls Try.prog 27 #[.agg #[.int .i64 P, .slice A n c]] w fun e w' => ∃ L, ClustP ⟨P, ts⟩ L ∧ AnsOwnLists L w e w' := by
  have X0 := hide2 (Box.new w #[.int .i64 P, .slice A n c] 24)
  have B0 := hide2 (boxBelow w (.cells #[.int .i64 P, .slice A n c] 24))
  have hns := h.small
  have HL := hide2 h.len
  have H := hide2 h
  clear h
  obtain ⟨r, hr⟩ : ∃ r, netOk ⟨P, ts⟩ = r := ⟨_, rfl⟩
  have HR := hide2 hr
  cases r
  · have W0 := hide2 (wrongNet_not hr)
    clear hr
    go_enter Try.func27, Try.ntmps27
    go_upto_region 1 with fail
    generalize w.alloc (.cells #[.int .i64 P, .slice A n c] 24) = w0 at *
    obtain ⟨c0, c1⟩ := X0.out.two
    go_wp2_with fail
    refine (netWrong_calls _ P A n c ts (H.out.keep B0.out)).mono ?_
    rw [W0.out]
    rintro e w1 ⟨rfl, hb⟩
    have B1 := hide2 (B0.out.trans (hb.mono B0.out.size))
    clear hb
    go_wp2
    go_ret
    exact ⟨[], by rw [ClustP, HR.out]; rfl, _, 0, rfl, OwnSl.nil, by omega, B1.out⟩
  · have W0 := hide2 (wrongNet_ok hr)
    have hn24 : n ≤ 24 := by have := ((netOk_iff _).1 hr).2.2.1; rw [HL.out] at this; exact this
    clear hr
    go_enter Try.func27, Try.ntmps27
    go_upto_region 1 with fail
    generalize w.alloc (.cells #[.int .i64 P, .slice A n c] 24) = w0 at *
    obtain ⟨c0, c1⟩ := X0.out.two
    go_wp2_with fail
    refine (netWrong_calls _ P A n c ts (H.out.keep B0.out)).mono ?_
    rw [W0.out]
    rintro e w1 ⟨rfl, hb⟩
    have X1 := hide2 (X0.out.keep hb)
    have B1 := hide2 (B0.out.trans (hb.mono B0.out.size))
    clear hb c0 c1 X0
    obtain ⟨c0, c1⟩ := X1.out.two
    go_wp2
    clear c0 c1
    go_loopw [3, 16] (fun u3 v wr => ∃ (k m : Nat) (L : List (List Int)), k ≤ n ∧ v = .int .i64 k ∧ Hid (PI (shS ts) ts.length k L) ∧ Hid (OwnSl (OwnListR w.heap.size) 1 wr w.heap.size 25 u3 m L) ∧ Hid (Below w1.heap.size w1 wr)) (fun _ v _ => n - (intOf v).toNat)
    case atStart => exact ⟨0, 0, [], Nat.zero_le _, rfl, PI.nil, OwnSl.nil, Below.refl _ _⟩
    case round =>
      obtain ⟨k, m, L, hk, rfl, PL, OL, D⟩ := hrel
      have BR := hide2 (B1.out.trans (D.out.mono B1.out.size))
      have ML := hide2 OL.out.len
      have hm24 : m ≤ 24 := by have := PL.out.len.1; rw [ML.out] at this; omega
      by_cases hlt : k < n
      · have hki : (k : Int) < (n : Int) := by omega
        obtain ⟨b, off, t, A1, n1, d1, A2, n2, d2, rfl, hb, ht, q0, q1, q2, i1, i2, _, _⟩ := Trans.get (H.out.keep BR.out) hlt
        have HT := hide2 ht.out
        have PLEN := hide2 (show ∀ u ∈ ts, u.pre.length = n1 from fun u hu => by
          have h1 := (netOk_tran HR.out ht.out).2.2.1
          obtain ⟨j, hj⟩ := List.mem_iff_getElem?.1 hu
          have h2 := (netOk_tran HR.out hj).2.2.1
          have h3 := i1.len
          simp only [] at h1 h2
          omega)
        have bb := boxBelow wr (.cells #[.int .i64 t.label, .slice A1 n1 d1, .slice A2 n2 d2] 79)
        have XT := hide2 (Box.new wr #[.int .i64 t.label, .slice A1 n1 d1, .slice A2 n2 d2] 79)
        have J1 := hide2 (Ints.keep i1 bb)
        have D2 := hide2 (D.out.trans (bb.mono D.out.size))
        have BR2 := hide2 (BR.out.trans (bb.mono BR.out.size))
        have X2 := hide2 (X1.out.keep D2.out)
        have O2 := hide2 (OL.out.keep (OwnListR.kept _) bb)
        clear i1 i2 bb ht OL
        go_upto_region 7 with fail
        clear q0 q1 q2
        generalize wr.alloc (.cells #[.int .i64 t.label, .slice A1 n1 d1, .slice A2 n2 d2] 79) = w3 at *
        generalize wr.heap.size = bt at *
        have bb := boxBelow w3 (.cells #[.int .i64 (k : Int)] 3)
        have MINE := hide2 (show OwnInts (w3.alloc (.cells #[.int .i64 (k : Int)] 3)) w3.heap.size (.slice (some ⟨w3.heap.size, 0, none⟩) 1 1) 1 [(k : Int)] from own_one w3 k)
        have BB := hide2 bb
        clear bb
        obtain ⟨A3, c3, rfl, S3⟩ := O2.out.sl (by omega)
        have S3 := hide2 S3
        have LG := hide2 (show ∀ q, (mineL (shS ts) k (L.take q)).length ≤ 1000 ∧ (restL (shS ts) k (L.take q)).length ≤ 24 from fun q => by
          have h1 := PL.out.len
          have h2 : (L.take q).length ≤ 24 := by rw [List.length_take]; omega
          unfold mineL restL
          refine ⟨?_, Nat.le_trans (List.length_filter_le _ _) h2⟩
          rw [List.length_cons]
          have h3 := flat_len ((L.take q).filter (touch (shS ts) k)) 24 (fun l hl => by
            have := h1.2 l (List.mem_of_mem_take (List.mem_filter.1 hl).1)
            omega)
          have h4 := List.length_filter_le (touch (shS ts) k) (L.take q)
          have h5 := Nat.mul_le_mul_right 24 (Nat.le_trans h4 h2)
          omega)
        go_wp2
        go_loopw [6, 7, 25] (fun u6 u7 v wq => ∃ (q m6 m7 : Nat), q ≤ m ∧ v = .int .i64 q ∧ Hid (OwnInts wq w3.heap.size u6 m6 (mineL (shS ts) k (L.take q))) ∧ Hid (OwnSl (OwnListR0 w3 w.heap.size) 1 wq w3.heap.size 25 u7 m7 (restL (shS ts) k (L.take q))) ∧ Hid (Below w3.heap.size w3 wq)) (fun _ _ v _ => m - (intOf v).toNat)
        case atStart => exact ⟨0, 1, 0, Nat.zero_le _, rfl, MINE, OwnSl.nil, BB⟩
        case round =>
          obtain ⟨q, m6, m7, hq, rfl, O6, O7, E⟩ := hrel
          have h6 : m6 ≤ 1000 := by rw [← O6.out.len]; exact (LG.out q).1
          have h7 : m7 ≤ 24 := by rw [← O7.out.len]; exact (LG.out q).2
          by_cases hqm : q < m
          · have hqi : (q : Int) < (m : Int) := by omega
            obtain ⟨b2, off2, x, Al, nl, cl, rfl, hb2, hx, hc0, ox, ix, hnl⟩ := ownLists_get S3.out hqm
            have hc := (E.out.cell (p := ⟨b2, _, none⟩) hb2).trans hc0
            have IX := hide2 (Ints.keep ix E.out)
            have RX := hide2 (show OwnListR w.heap.size w3 (fun _ => .slice Al nl cl) x from ⟨nl, ox, hnl⟩)
            have HX := hide2 hx.out
            have TK := hide2 (take_snoc hx.out)
            have XR := hide2 (PL.out.rng x (List.mem_of_getElem? hx.out))
            have XNE := hide2 (PL.out.ne x (List.mem_of_getElem? hx.out))
            have XLE := hide2 (PL.out.len.2 x (List.mem_of_getElem? hx.out))
            have PR := hide2 (touch_pred (k := k) (xs := x) (XT.out.keep E.out) (X2.out.keep E.out) (H.out.keep (BR2.out.trans (E.out.mono BR2.out.size))) (Ints.keep J1.out E.out) HT.out PLEN.out (fun y hy => by have := XR.out y hy; omega))
            obtain ⟨s, hs⟩ : ∃ s, x.any (fun j => shS ts k j.toNat) = s := ⟨_, rfl⟩
            have TS := hide2 (show touch (shS ts) k x = s from hs)
            have HS := hide2 hs
            clear hs hx ox ix hc0
            go_wp2_with fail
            refine (containsB_calls IX.out PR.out).mono ?_
            rw [HS.out]
            rintro e w5 ⟨rfl, hb5⟩
            have E5 := hide2 (E.out.trans (hb5.mono E.out.size))
            have O65 := hide2 (O6.out.keep IntR.kept hb5)
            have O75 := hide2 (O7.out.keep (OwnListR0.kept _ _) hb5)
            have IX5 := hide2 (IX.out.keep hb5)
            clear hb5 hc
            cases s
            · have HM := hide2 (show mineL (shS ts) k (L.take (q + 1)) = mineL (shS ts) k (L.take q) by rw [TK.out, mineL_snoc, TS.out]; rfl)
              have HRS := hide2 (show restL (shS ts) k (L.take (q + 1)) = restL (shS ts) k (L.take q) ++ [x] by rw [TK.out, restL_snoc, TS.out]; rfl)
              go_wp2_with (at_builtin; refine wpList_appNew tyLists rfl _ _ rfl [x] #[.slice Al nl cl] rfl rfl rfl rfl (by simp [Value.oneCell']) O75.out (Reads.list1 (R := OwnListR0 w3 w.heap.size) RX.out) rfl E5.out E5.out.size (by omega) (by omega) (fun _ _ _ _ h => h) ?_; intro v8 w8 own8 hg8 hb8; have O78 := hide2 own8; have E8 := hide2 hb8; have O68 := hide2 (OwnSl.kept O65.out hg8 (own_ne (OwnInts.row O65.out) (Exists.choose_spec O75.out).1 (by decide)) (fun _ _ h => h)); clear own8 hg8 hb8)
              go_roundw
              case rel => exact ⟨q + 1, m6, m7 + 1, by omega, by go_num, by rw [HM.out]; exact O68, by rw [HRS.out]; exact O78, E8⟩
              case measure => simp [intOf]; omega
            · have HM := hide2 (show mineL (shS ts) k (L.take (q + 1)) = mineL (shS ts) k (L.take q) ++ x by rw [TK.out, mineL_snoc, TS.out]; rfl)
              have HRS := hide2 (show restL (shS ts) k (L.take (q + 1)) = restL (shS ts) k (L.take q) by rw [TK.out, restL_snoc, TS.out]; rfl)
              obtain ⟨ad, rfl⟩ : ∃ ad, Al = some ad := by
                have h1 := List.length_pos_iff.2 XNE.out
                obtain ⟨b3, off3, e3, _⟩ := IX5.out.cells (by rw [← IX5.out.len]; exact h1)
                exact ⟨_, e3⟩
              have hnl24 : nl ≤ 24 := by rw [← IX5.out.len]; have := XLE.out; omega
              go_wp2_with (at_builtin; refine wpList_appSl tyInts IntR.good rfl _ _ rfl rfl rfl O65.out IX5.out E5.out E5.out.size (by omega) (by omega) (fun _ _ _ _ h => h) ?_; intro v8 w8 own8 hg8 hb8; have O68 := hide2 own8; have E8 := hide2 hb8; have O78 := hide2 (OwnSl.kept O75.out hg8 (own_ne (Exists.choose_spec O75.out).1 (OwnInts.row O65.out) (by decide)) (fun _ _ h => h)); clear own8 hg8 hb8)
              go_roundw
              case rel => exact ⟨q + 1, m6 + nl, m7, by omega, by go_num, by rw [HM.out]; exact O68, by rw [HRS.out]; exact O78, E8⟩
              case measure => simp [intOf]; omega
          · obtain rfl : q = m := by omega
            have TA : L.take q = L := List.take_of_length_le (by rw [ML.out]; exact Nat.le_refl _)
            rw [TA] at O6 O7
            have HT0 := hide2 E.out.size
            go_wp2_with fail
            refine (sortOwn_calls O6.out (by omega)).mono ?_
            rintro e wS ⟨rfl, os, hgS⟩
            have OS := hide2 os
            have RS := hide2 (OwnSl.kept O7.out hgS (own_ne (Exists.choose_spec O7.out).1 (OwnInts.row O6.out) (by decide)) (fun _ _ h => h))
            have ES := hide2 (E.out.grown hgS E.out.size (fun b e => (O6.out.lt b e).1))
            clear os hgS
            have R2 := hide2 (show OwnSl (OwnListR0 wS w.heap.size) 1 wS w3.heap.size 25 u7 m7 (restL (shS ts) k L) from by
              obtain ⟨cs, a1, a2, a3⟩ := RS.out
              exact ⟨cs, a1, ⟨a2.1, fun i x hx => by obtain ⟨vs, a, b⟩ := a2.2 i x hx; exact ⟨vs, a, OwnListR.kept _ _ _ _ _ ES.out b⟩⟩, a3⟩)
            obtain ⟨A6, c6, rfl, _⟩ := OS.out.sl (by omega)
            have RX := hide2 (show OwnListR w.heap.size wS (fun _ => .slice A6 m6 c6) (sortL (mineL (shS ts) k L)) from ⟨m6, OS.out.base (Nat.le_trans BR2.out.size (Nat.le_refl _)), by omega⟩)
            go_wp2_with (at_builtin; refine wpList_appNew tyLists rfl _ _ rfl [sortL (mineL (shS ts) k L)] #[.slice A6 m6 c6] rfl rfl rfl rfl (by simp [Value.oneCell']) R2.out (Reads.list1 (R := OwnListR0 wS w.heap.size) RX.out) rfl ES.out ES.out.size (by omega) (by omega) (fun _ _ _ _ h => h) ?_; intro v8 w8 own8 hg8 hb8; have O8 := hide2 own8; have G8 := hide2 hg8; have E8 := hide2 hb8; clear own8 hg8 hb8)
            go_roundw
            case rel =>
              refine ⟨k + 1, m7 + 1, stepCl (shS ts) k L, by omega, by go_num, PL.out.step (shS_symm ts) (by rw [HL.out]; exact hlt), ?_, D2.out.trans (E8.out.mono D2.out.size)⟩
              obtain ⟨cs, a1, a2, a3⟩ := O8.out.base BR2.out.size
              exact ⟨cs, a1, ⟨a2.1, fun i x hx => by obtain ⟨vs, a, b⟩ := a2.2 i x hx; exact ⟨vs, a, OwnListR.grown (Exists.choose_spec R2.out).1 (by decide) G8.out b⟩⟩, a3⟩
            case measure => simp [intOf]; omega
      · obtain rfl : k = n := by omega
        obtain ⟨A3, c3, rfl, _⟩ := OL.out.sl (by omega)
        go_wp2_with fail
        refine (sortLists_calls OL.out (by omega)).mono ?_
        rintro e wS ⟨rfl, M, hp, hs, os, hg⟩
        have OS := hide2 os
        have CL := hide2 (show IsCl (shS ts) ts.length M by
          have := PL.out
          rw [← HL.out] at this
          exact this.sorted hp hs)
        have BS := hide2 (BR.out.grown hg BR.out.size (fun b e => (OL.out.lt b e).1))
        clear os hp hs hg
        go_wp2
        go_ret
        exact ⟨M, by rw [ClustP, HR.out]; exact CL.out, _, m, rfl, OS.out, hm24, BS.out⟩
end Go.Proofs.Ytldljjmibaaokaa
