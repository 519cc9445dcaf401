/- What desks and items of work read as; who may do what. Conditions: the slices read as lists. | Append to a list that has no room left: the old one stays as it is. Conditions: the lengths stay below what memory bears. -/
import Derived.Test.YtmnacahoamkokaaBoxC
import Derived.Test.YtmnacahoamkokaaJourD
import Derived.Test.YtmnacahoamkokaaListW
import Derived.Test.YtmnacahoamkokaaPlainL
import Derived.Test.YtmnacahoamkokaaContI
import Derived.Deep.QuietTactic
import Derived.Maps.AppendAt
namespace Go.Proofs.Ytmnacahoamkokaa
open Go.RowKit

def ItemR : World → (Nat → Value) → PItem → Prop := fun _ vs x => vs 0 = .int .i64 x.user ∧ vs 1 = .int .i64 x.tran ∧ vs 2 = .bool x.open_
theorem ItemR.kept : Kept ItemR := fun _ _ _ _ _ h => h
theorem ItemR.good : Good ItemR 3 where
  kept := ItemR.kept
  one := fun w vs x h j hj => by
    obtain ⟨h0, h1, h2⟩ := h
    match j, hj with
    | 0, _ => rw [h0]; rfl
    | 1, _ => rw [h1]; rfl
    | 2, _ => rw [h2]; rfl
  pos := by omega
abbrev Items (w : World) (A : Option Addr) (n c : Nat) (xs : List PItem) : Prop := Sl ItemR 3 w A n c xs
abbrev OwnItems (w : World) (B : Nat) (v : Value) (n : Nat) (xs : List PItem) : Prop := OwnSl ItemR 3 w B 201 v n xs
theorem Items.get {w : World} {A : Option Addr} {n c k : Nat} {xs : List PItem} (h : Items w A n c xs) (hk : k < n) :
    ∃ b off x, A = some ⟨b, off, none⟩ ∧ b < w.heap.size ∧ Hid (xs[k]? = some x) ∧ w.cell? ⟨b, off + k * 3, none⟩ = some (.int .i64 x.user) ∧ w.cell? ⟨b, off + k * 3 + 1, none⟩ = some (.int .i64 x.tran) ∧ w.cell? ⟨b, off + k * 3 + 2, none⟩ = some (.bool x.open_) := by
  obtain ⟨b, off, x, vs, h1, h2, h3, h4, e0, e1, e2⟩ := Sl.get h hk
  refine ⟨b, off, x, h1, h2, h3, ?_, ?_, ?_⟩
  · rw [← e0]; exact h4 0 (by omega)
  · rw [← e1]; exact h4 1 (by omega)
  · rw [← e2]; exact h4 2 (by omega)
theorem tyItems : SlTy 76 201 3 24 := SlTy.mk' (z := .agg #[.int .i64 0, .int .i64 0, .bool false]) Try.underlying76 (by kernel_rfl) rfl (by decide)
theorem Reads.item {w : World} {x : PItem} : Reads ItemR 3 w [.int .i64 x.user, .int .i64 x.tran, .bool x.open_] [x] :=
  Reads.one (vs := fun j => [Value.int .i64 x.user, .int .i64 x.tran, .bool x.open_].getD j undef) ⟨rfl, rfl, rfl⟩ rfl (fun j hj => by
    match j, hj with
    | 0, _ => rfl
    | 1, _ => rfl
    | 2, _ => rfl)
theorem mayL_neg {roles : List (List Int)} {u l : Int} (h : u < 0) : mayL roles u l = false := by
  unfold mayL
  rw [decide_eq_false (by omega)]; rfl
theorem mayL_out {roles : List (List Int)} {u : Nat} {l : Int} (h : ¬ (u < roles.length ∧ u < 8)) : mayL roles (u : Int) l = false := by
  unfold mayL
  by_cases h8 : u < 8
  · have : roles.length ≤ u := by omega
    simp [List.getD_eq_getElem?_getD, List.getElem?_eq_none this]
  · rw [decide_eq_false (p := (u : Int) < 8) (by omega)]; simp
theorem mayL_in {roles : List (List Int)} {u : Nat} {l : Int} {x : List Int} (hx : roles[u]? = some x) (h8 : u < 8) : mayL roles (u : Int) l = x.any fun y => l == y := by
  unfold mayL
  rw [decide_eq_true (by omega), decide_eq_true (by omega)]
  simp [List.getD_eq_getElem?_getD, hx]

set_option maxRecDepth 100000 in
theorem may_calls {w : World} {P : Int} {A R : Option Addr} {n c r q : Nat} {roles : List (List Int)} (u l : Int) (h : Lists w R r q roles) :
    Calls Try.prog 216 #[.agg #[.int .i64 P, .slice A n c, .slice R r q], .int .i64 u, .int .i64 l] w fun e w' => e = .returned (.bool (mayL roles u l)) ∧ Below w.heap.size w w' := by
  have HB := hide2 (newBelow w (.cells #[.int .i64 P, .slice A n c, .slice R r q] 283))
  have X0 := hide2 (Box.new w #[.int .i64 P, .slice A n c, .slice R r q] 283)
  have H := hide2 (Sl.keep ListR.kept h HB.out)
  have HL := hide2 h.len
  have hsm := h.small
  clear h
  by_cases hu : u < 0
  · have FN := hide2 (mayL_neg (roles := roles) (l := l) hu)
    rw [FN.out]
    go_enter Try.func216, Try.ntmps216
    go_wp2
    go_ret
    exact ⟨rfl, HB.out⟩
  · obtain ⟨v, rfl⟩ : ∃ v : Nat, u = (v : Int) := ⟨u.toNat, by omega⟩
    clear hu
    obtain ⟨M, hM⟩ : ∃ M : Nat, min r 8 = M := ⟨_, rfl⟩
    have hmn : min (r : Int) 8 = (M : Int) := by omega
    have hM1 : M ≤ r := by omega
    have hM8 : M ≤ 8 := by omega
    by_cases hv : v < M
    · have hvi : (v : Int) < (M : Int) := by omega
      obtain ⟨b, off, x, B, m, d, rfl, hb, hx, hc, ix, hmx⟩ := Lists.get H.out (k := v) (by omega)
      have FN := hide2 (mayL_in (l := l) hx.out (by omega))
      have IX := hide2 ix
      rw [FN.out]
      clear ix hM
      have hvr : v < r := by omega
      go_enter Try.func216, Try.ntmps216
      go_upto_region 1 with fail
      obtain ⟨c0, c1, c2⟩ := X0.out.three
      generalize w.alloc (.cells #[.int .i64 P, .slice A n c, .slice (some ⟨b, off, none⟩) r q] 283) = w0 at *
      go_wp2_with (go_at_call 190; (with_reducible refine (containsInt_calls l IX.out).mono ?_); rintro e w' ⟨rfl, rfl⟩)
      go_ret
      exact ⟨rfl, HB.out⟩
    · have FN := hide2 (mayL_out (roles := roles) (u := v) (l := l) (by have := HL.out; omega))
      rw [FN.out]
      have hvi : (M : Int) ≤ (v : Int) := by omega
      clear hM
      go_enter Try.func216, Try.ntmps216
      go_wp2
      go_ret
      exact ⟨rfl, HB.out⟩

set_option maxRecDepth 100000 in
theorem qmay_calls {w : World} {R : Option Addr} {r q : Nat} {roles : List (List Int)} (u l : Int) (h : Lists w R r q roles) :
    Calls Try.prog 164 #[.slice R r q, .int .i64 u, .int .i64 l] w fun e w' => e = .returned (.bool (mayL roles u l)) ∧ w = w' := by
  have H := hide2 h
  have HL := hide2 h.len
  have hsm := h.small
  clear h
  go_enter Try.func164, Try.ntmps164
  go_wp2
  go_loop [11] (fun v => ∃ k : Nat, k ≤ r ∧ v = .int .i64 k ∧ Hid (u = -1 ∨ ∀ j : Nat, j < k → (j : Int) = u → mayL roles u l = false)) (fun v => r - (intOf v).toNat)
  case atStart => exact ⟨0, Nat.zero_le _, rfl, .inr fun j hj => absurd hj (by omega)⟩
  case round =>
    obtain ⟨k, hk, rfl, lo⟩ := hrel
    by_cases hlt : k < r
    · have hki : (k : Int) < (r : Int) := by omega
      obtain ⟨b, off, x, B, m, d, rfl, hb, hx, hc, ix, hmx⟩ := Lists.get H.out hlt
      have IX := hide2 ix
      clear ix
      by_cases hu : (k : Int) = u
      · subst hu
        by_cases h8 : k < 8
        · have FN := hide2 (mayL_in (l := l) hx.out h8)
          obtain ⟨z, hz⟩ : ∃ z, (x.any fun y => l == y) = z := ⟨_, rfl⟩
          rw [hz] at FN
          have CZ := hide2 (containsInt_calls l IX.out)
          rw [hz] at CZ
          clear hz
          have hk8 : (k : Int) < 8 := by omega
          cases z
          · go_wp2_with (go_at_call 190; (with_reducible refine CZ.out.mono ?_); rintro e w' ⟨rfl, rfl⟩)
            go_round
            case rel => exact ⟨k + 1, by omega, by go_num, .inr fun j hj hje => FN.out⟩
            case measure => simp [intOf]; omega
          · go_wp2_with (go_at_call 190; (with_reducible refine CZ.out.mono ?_); rintro e w' ⟨rfl, rfl⟩)
            go_ret
            exact ⟨ret_bool FN.out.symm, rfl⟩
        · have FN := hide2 (mayL_out (roles := roles) (u := k) (l := l) (fun h => h8 h.2))
          have hk8 : ¬ (k : Int) < 8 := by omega
          clear h8
          go_wp2
          go_round
          case rel => exact ⟨k + 1, by omega, by go_num, .inr fun j hj hje => FN.out⟩
          case measure => simp [intOf]; omega
      · have hu2 : ((k : Int) == u) = false := by simpa using hu
        have HU := hide2 hu
        clear hu
        go_wp2
        go_round
        case rel => exact ⟨k + 1, by omega, by go_num, lo.out.imp id fun lo j hj hje => (by
          by_cases hjk : j = k
          · subst hjk; exact absurd hje HU.out
          · exact lo j (by omega) hje)⟩
        case measure => simp [intOf]; omega
    · obtain rfl : k = r := by omega
      have FN := hide2 (show mayL roles u l = false by
        rcases lo.out with h | h
        · exact mayL_neg (by omega)
        · by_cases hu : u < 0
          · exact mayL_neg hu
          · obtain ⟨v, rfl⟩ : ∃ v : Nat, u = (v : Int) := ⟨u.toNat, by omega⟩
            by_cases hv : v < k
            · exact h v hv rfl
            · exact mayL_out (by have := HL.out; omega))
      go_wp2
      go_ret
      exact ⟨ret_bool FN.out.symm, rfl⟩
structure DeskW (w : World) (B : Option Addr) (m d : Nat) (D : Option Addr) (l e : Nat) (I : Option Addr) (n c : Nat) (k : PDesk) : Prop where
  mark : Ints w B m d k.case_.mark
  busy : Ints w D l e k.case_.busy
  items : Items w I n c k.items
theorem DeskW.keep {w w' : World} {B D I : Option Addr} {m d l e n c : Nat} {k : PDesk} (h : DeskW w B m d D l e I n c k) (hb : Below w.heap.size w w') : DeskW w' B m d D l e I n c k :=
  ⟨h.mark.keep hb, h.busy.keep hb, Sl.keep ItemR.kept h.items hb⟩
/-- What desk.item answers. -/
def itemV (k : PDesk) (o : POp) : PItem := if itemL k o = 0 then itemAt k o else ⟨0, 0, false⟩
def AnsItem (k : PDesk) (o : POp) (w : World) (e : Ending) (w' : World) : Prop :=
  e = .returned (.tuple #[.agg #[.int .i64 (itemV k o).user, .int .i64 (itemV k o).tran, .bool (itemV k o).open_], .int .i64 (itemL k o)]) ∧ Below w.heap.size w w'
theorem AnsItem.no {k : PDesk} {o : POp} {w w' : World} {x : Int} (hx : itemL k o = x) (h0 : x ≠ 0) (hb : Below w.heap.size w w') :
    AnsItem k o w (.returned (.tuple #[.agg #[.int .i64 0, .int .i64 0, .bool false], .int .i64 x])) w' := by
  unfold AnsItem itemV
  rw [hx, if_neg h0]
  exact ⟨rfl, hb⟩
theorem itemL_out {k : PDesk} {o : POp} (h : ¬ (0 ≤ o.item ∧ o.item < (k.items.length : Int))) : itemL k o = 3 := by
  unfold itemL
  rw [if_neg (fun e => h ⟨e.1, e.2.1⟩)]
theorem itemL_in {k : PDesk} {o : POp} {i : Nat} {x : PItem} (hi : o.item = (i : Int)) (hx : k.items[i]? = some x) : itemL k o = (if x.open_ = true then (if x.user = o.user then 0 else 7) else 3) ∧ itemAt k o = x := by
  have hlt := (List.getElem?_eq_some_iff.1 hx).1
  have hd : k.items.getD o.item.toNat default = x := by rw [hi]; simp [List.getD_eq_getElem?_getD, hx]
  refine ⟨?_, hd⟩
  unfold itemL
  rw [hd]
  by_cases ho : x.open_ = true
  · rw [if_pos ⟨by omega, by omega, ho⟩, if_pos ho]
  · rw [if_neg (fun e => ho e.2.2), if_neg ho]

set_option maxRecDepth 100000 in
set_option maxHeartbeats 1000000 in
theorem item_calls {w : World} {B D I : Option Addr} {m d l e n c : Nat} {k : PDesk} (o : POp) (h : DeskW w B m d D l e I n c k) :
    Calls Try.prog 218 #[.agg #[.slice B m d, .slice D l e, .slice I n c], .agg #[.int .i64 o.kind, .int .i64 o.user, .int .i64 o.tran, .int .i64 o.item, .int .i64 o.to_]] w (AnsItem k o w) := by
  generalize hw : ((w.alloc (.cells #[.slice B m d, .slice D l e, .slice I n c] 78)).alloc (.cells #[.int .i64 o.kind, .int .i64 o.user, .int .i64 o.tran, .int .i64 o.item, .int .i64 o.to_] 187)).alloc (.cells #[.int .i64 0, .int .i64 0, .bool false] 201) = w0
  have HB := hide2 (show Below w.heap.size w w0 by rw [← hw]; exact (((Below.refl _ _).alloc (Nat.le_refl _) _).alloc (by simp) _).alloc (by simp; omega) _)
  have X0 := hide2 (show Box w0 w.heap.size 78 #[.slice B m d, .slice D l e, .slice I n c] by rw [← hw]; exact ((Box.new _ _ _).old _).old _)
  have X1 := hide2 (show Box w0 (w.heap.size + 1) 187 #[.int .i64 o.kind, .int .i64 o.user, .int .i64 o.tran, .int .i64 o.item, .int .i64 o.to_] by rw [← hw]; exact (Box.newAt (by simp) _ _).old _)
  have X2 := hide2 (show Box w0 (w.heap.size + 1 + 1) 201 #[.int .i64 0, .int .i64 0, .bool false] by rw [← hw]; exact Box.newAt (by simp) _ _)
  have H := hide2 (Sl.keep ItemR.kept h.items HB.out)
  have HL := hide2 h.items.len
  have hsm := h.items.small
  clear h
  obtain ⟨it, hit⟩ : ∃ it, o.item = it := ⟨_, rfl⟩
  obtain ⟨ou, hou⟩ : ∃ it, o.user = it := ⟨_, rfl⟩
  have HIT := hide2 hit
  have HOU := hide2 hou
  rw [hit, hou] at hw X1
  go_enter Try.func218, Try.ntmps218
  rw [hit, hou]
  clear hit hou
  go_upto_region 1 with fail
  clear hw
  obtain ⟨c0, c1, c2⟩ := X0.out.three
  obtain ⟨y0, y1, y2, y3, y4⟩ := X1.out.five
  obtain ⟨z0, z1, z2⟩ := X2.out.three
  have f0 := X2.out.frozen 0
  have f1 := X2.out.frozen 1
  have f2 := X2.out.frozen 2
  by_cases hr : 0 ≤ it ∧ it < (n : Int)
  · obtain ⟨j, rfl⟩ : ∃ j : Nat, it = (j : Int) := ⟨it.toNat, by omega⟩
    have hjn : j < n := by omega
    obtain ⟨b, off, x, rfl, hb, hx, q0, q1, q2⟩ := Items.get H.out hjn
    have II := hide2 (itemL_in HIT.out hx.out)
    have hji : (j : Int) < (n : Int) := by omega
    clear hr
    cases ho : x.open_
    · have FN := hide2 (show itemL k o = 3 by rw [II.out.1, if_neg (by rw [ho]; decide)])
      rw [ho] at q2
      clear ho
      go_wp2
      obtain ⟨r0, r1, r2⟩ := (X2.out.set3 (.int .i64 0) (.int .i64 0) (.bool false)).three
      exact bodyPost_ret (v := .tuple #[.agg #[.int .i64 0, .int .i64 0, .bool false], .int .i64 3]) (by simp [results, Try.results218, go_sem, r0, r1, r2]) rfl (AnsItem.no (FN.out) (by decide) (below_set3 HB.out (by omega) _ _ _))
    · rw [ho] at q2
      by_cases hu : x.user = ou
      · have FN := hide2 (show itemL k o = 0 by rw [II.out.1, if_pos ho, if_pos (by rw [HOU.out]; exact hu)])
        have hne : (x.user != ou) = false := by simpa using hu
        have VN := hide2 (show itemV k o = x by unfold itemV; rw [if_pos FN.out, II.out.2])
        have HO := hide2 ho
        clear ho
        go_wp2
        go_quiet (fail)
        go_wp2
        have XQ := hide2 (X2.out.keep (belowN w0 nq))
        have BQ := hide2 (HB.out.trans ((belowN w0 nq).mono HB.out.size))
        obtain ⟨r0, r1, r2⟩ := (XQ.out.set3 (.int .i64 ou) (.int .i64 x.tran) (.bool true)).three
        exact bodyPost_ret (v := .tuple #[.agg #[.int .i64 ou, .int .i64 x.tran, .bool true], .int .i64 0]) (by simp [results, Try.results218, go_sem, r0, r1, r2]) rfl (by unfold AnsItem; rw [VN.out, FN.out, HO.out, hu]; exact ⟨rfl, below_set3 BQ.out (by omega) _ _ _⟩)
      · have FN := hide2 (show itemL k o = 7 by rw [II.out.1, if_pos ho, if_neg (by rw [HOU.out]; exact hu)])
        have hne : (x.user != ou) = true := by simpa using hu
        clear ho hu
        go_wp2
        go_quiet (fail)
        go_wp2
        have XQ := hide2 (X2.out.keep (belowN w0 nq))
        have BQ := hide2 (HB.out.trans ((belowN w0 nq).mono HB.out.size))
        obtain ⟨r0, r1, r2⟩ := (XQ.out.set3 (.int .i64 0) (.int .i64 0) (.bool false)).three
        exact bodyPost_ret (v := .tuple #[.agg #[.int .i64 0, .int .i64 0, .bool false], .int .i64 7]) (by simp [results, Try.results218, go_sem, r0, r1, r2]) rfl (AnsItem.no FN.out (by decide) (below_set3 BQ.out (by omega) _ _ _))
  · have FN := hide2 (show itemL k o = 3 from itemL_out (by rw [HIT.out, HL.out]; exact hr))
    by_cases h0 : it < 0
    · clear hr
      go_wp2
      obtain ⟨r0, r1, r2⟩ := (X2.out.set3 (.int .i64 0) (.int .i64 0) (.bool false)).three
      exact bodyPost_ret (v := .tuple #[.agg #[.int .i64 0, .int .i64 0, .bool false], .int .i64 3]) (by simp [results, Try.results218, go_sem, r0, r1, r2]) rfl (AnsItem.no (FN.out) (by decide) (below_set3 HB.out (by omega) _ _ _))
    · have h1 : (n : Int) ≤ it := by omega
      clear hr
      go_wp2
      obtain ⟨r0, r1, r2⟩ := (X2.out.set3 (.int .i64 0) (.int .i64 0) (.bool false)).three
      exact bodyPost_ret (v := .tuple #[.agg #[.int .i64 0, .int .i64 0, .bool false], .int .i64 3]) (by simp [results, Try.results218, go_sem, r0, r1, r2]) rfl (AnsItem.no (FN.out) (by decide) (below_set3 HB.out (by omega) _ _ _))
end Go.Proofs.Ytmnacahoamkokaa
namespace Go.Proofs.Ytmnacahoamkokaa
open Go.RowKit

theorem run_append_clip {P : Program} {w : World} (t ty e : TypeId) (i : TypeInfo) (z : Value) (size bytes : Nat) (ht : P.underlying t = some (.slice e)) (hi : P.info? e = some i) (hz : i.zero = some z)
    (hsize : i.size = size) (hby : i.bytes = bytes) (hzs : z.cells.size = size) (hsz : 0 < size)
    (A : Option Addr) (n : Nat) (xs : List Value) (hx : xs.length = n * size) (hnone : A = none → n = 0) (hcell : ∀ ad, A = some ad → ∀ j u, xs[j]? = some u → w.cell? (ad.add j) = some u)
    (a : Addr) (m c : Nat) (news : List Value) (hl : news.length = m * size) (hm : 0 < m) (hnews : ∀ j u, news[j]? = some u → w.cell? (a.add j) = some u) (h1 : ∀ u ∈ news, u.oneCell' = true)
    (h63 : n + m ≤ maxLen) (hbytes : (n + m) * bytes ≤ 140737488355328) :
    ∃ v' w', (Builtin.append_ #[t, t] ty #[.slice A n n, .slice (some a) m c]).run P w = .ok v' w' ∧ w'.ownsRow w.heap.size e size v' (n + m) (xs ++ news) ∧ w.grownBy w' none := by
  cases hA : A with
  | none =>
    have hn := hnone hA
    subst hn
    have hx0 : xs = [] := List.eq_nil_of_length_eq_zero (by simpa using hx)
    subst hx0
    obtain ⟨v', w', r1, r2, r3, _⟩ := run_append_own_at (P := P) w w.heap.size t ty e i z size bytes ht hi hz hsize hby hzs hsz (.slice none 0 0) 0 [] (World.ownsRow_nil _ _ _ _) a m c news hl hnews h1 h63 hbytes (Nat.le_refl _)
    exact ⟨v', w', r1, r2, r3⟩
  | some ad =>
    subst hsize hby
    have hsmall : n + m ≤ 9223372036854775807 := by simp only [maxLen] at h63; omega
    have hlen : (xs ++ news).length = (n + m) * i.size := by rw [List.length_append, hx, hl, Nat.add_mul]
    have hr := run_append_grow (P := P) w t ty e i z ht hi hz ad n n xs hx (hcell ad hA) a m c news hl hnews (by omega) (by omega) (growslice_fits (by omega) hbytes)
    have hge := grownCap_ge w (n + m) n e
    have hcm : grownCap w (n + m) n e ≤ maxLen := grownCap_le_maxLen w (n + m) n e h63
    refine ⟨_, _, hr, ⟨hlen, .inr ⟨w.heap.size, _, _, rfl, Nat.le_refl _, heap_alloc_new w.drew _, hge, hcm, ?_, ?_⟩⟩, ⟨rfl, rfl, rfl, by simp, fun k hk _ => heap_alloc_old w.drew _ hk⟩⟩
    · simp only [Array.size_append, List.size_toArray, size_zeroCells, hzs, hx, hl, ← Nat.add_mul]
      congr 1
      omega
    · simp only [Array.toList_append, List.append_assoc]
      rw [← List.append_assoc, ← hlen]
      exact List.take_left

theorem step_appClip {α : Type} {R : World → (Nat → Value) → α → Prop} {t e size bytes : Nat} (T : SlTy t e size bytes) (G : Good R size) {ops : Array Oper} {o : Oper} {a : Act} {K : Act → World → Prop} {Q : Exit → Act → World → Prop} {E : Prop} (hgd : o.guard = none) (s x : Operand)
    (ho : o.op = .call { callee := .builtin .append, args := #[s, x], argTypes := #[t, t] })
    {w0 w W : World} {B : Nat} {A : Option Addr} {n m : Nat} {xs : List α} (ys : List α) (us : Array Value) {H : Nat} (hs : a.eval s = .slice A n n) (hx : a.eval x = .slice (some ⟨H, 0, none⟩) m m) (hH : H = w.heap.size) (hW : W = w.alloc (.cells us e)) (hus : us.size = m * size) (hm : 0 < m) (one : ∀ u ∈ us.toList, u.oneCell' = true)
    (src : Sl R size w A n n xs) (hread : Reads R size w us.toList ys) (hy : ys.length = m) (hb : Below B w0 w) (hB : B ≤ w.heap.size) (h63 : n + m ≤ 281474976710656) (hn : (n + m) * bytes ≤ 140737488355328)
    (hK : ∀ g cap w', OwnSl R size w' B e (.slice (some ⟨g, 0, none⟩) (n + m) cap) (n + m) (xs ++ ys) → Below B w0 w' → K (a.put o.dst (.slice (some ⟨g, 0, none⟩) (n + m) cap)) w') :
    if Region.wanted o (yielded ops a.tmps) = true then Oper.wp Try.prog o a W K Q else E := by
  subst hH hW
  rw [if_pos (by simp [Region.wanted, hgd])]
  obtain ⟨i, z, h1, h2, h3, h4, h5⟩ := T.info
  have na : Below w.heap.size w (w.alloc (.cells us e)) := newBelow _ _
  have src' := src.keep G.kept na
  obtain ⟨ds, d1, d2, d3, d4, d5⟩ := src'.flat G
  obtain ⟨v', w', hr, r1, r2⟩ := run_append_clip (P := Try.prog) (w := w.alloc (.cells us e)) t o.type e i z size bytes T.und h1 h2 h3 h4 h5 T.pos A n ds d1 (fun e => (d2 e).1) d3 ⟨w.heap.size, 0, none⟩ m m us.toList (by simpa using hus) hm (fun j u hj => by
    have hz : ((⟨w.heap.size, 0, none⟩ : Addr).add j) = ⟨w.heap.size, j, none⟩ := by unfold Addr.add; split <;> simp_all
    rw [hz]
    have : (w.alloc (.cells us e)).cell? ⟨w.heap.size, j, none⟩ = us[j]? := cell_of_row _ _ _ _ _ (0, 0) (heap_alloc_new w _)
    rw [this]
    simpa using hj) one (by simp only [maxLen]; omega) hn
  obtain ⟨g, cap, hv, hBg, hgl⟩ : ∃ g cap, v' = .slice (some ⟨g, 0, none⟩) (n + m) cap ∧ (w.alloc (.cells us e)).heap.size ≤ g ∧ g < w'.heap.size := r1.form (by omega)
  subst hv
  have hb2 : Below (w.alloc (.cells us e)).heap.size (w.alloc (.cells us e)) w' := (Below.refl _ _).grown r2 (Nat.le_refl _) (fun k hk => by cases hk)
  have hb3 : Below w.heap.size w w' := na.trans (hb2.mono na.size)
  have ap := d5.append (hread.keep G.kept na)
  have own2 : OwnSl R size w' (w.alloc (.cells us e)).heap.size e (.slice (some ⟨g, 0, none⟩) (n + m) cap) (n + m) (xs ++ ys) :=
    ⟨_, r1, ap.keep G.kept hb2, by rw [List.length_append, src.len, hy]⟩
  have h := hK g cap w' (own2.base (Nat.le_trans hB na.size)) (hb.trans (hb3.mono hB))
  unfold Oper.wp execOp
  simp only [ho, resolve, invoke, builtin, Sem.run_bind, Sem.run_pure, Result.andThen_ok, List.map_toArray, List.map_cons, List.map_nil, hs, hx, hr]
  exact h
end Go.Proofs.Ytmnacahoamkokaa
