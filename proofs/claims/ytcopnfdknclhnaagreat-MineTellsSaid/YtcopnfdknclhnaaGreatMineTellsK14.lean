/- Texts melted into one: The contracts of slices.Sort on integers, laid at this program. Conditions: the cells hold the elements. | The contracts of tracks.Wrong and of the reference's VWrong. Conditions: the log reads as lists. | Sets of integers and of pairs as maps: made, added to. Conditions: the labels are 1 to 26. -/
import Derived.Shelf.Sort.Plain
import Derived.Test.YtcopnfdknclhnaaGreatProg
import Derived.Test.YtcopnfdknclhnaaGreatMineTellsK11
import Derived.Test.YtcopnfdknclhnaaGreatMineTellsK02
import Derived.Test.YtcopnfdknclhnaaGreatMineTellsK04
import Derived.Test.YtcopnfdknclhnaaGreatMineTellsK01
import Derived.Maps.OwnSet
import Derived.Maps.OwnOps
import Derived.Maps.RangeWalk
import Derived.WideKeyEntry
import Derived.DeepKeys4
import Derived.Sort.OwnSorted
namespace Go.Proofs.YtcopnfdknclhnaaGreat
open Go.Shelf
def lays189_ren : Go.Shelf.Ren := ⟨fun | 189 => 79 | 125 => 87 | 257 => 86 | 128 => 102 | 129 => 103 | 294 => 93 | 295 => 94 | 296 => 95 | 297 => 96 | 298 => 97 | 299 => 98 | 216 => 99 | 300 => 100 | 301 => 101 | 328 => 122 | 329 => 123 | 330 => 124 | 331 => 125 | 332 => 126 | 215 => 121 | 343 => 134 | n => n, fun | 28 => 35 | 3 => 3 | 46 => 99 | 0 => 0 | 51 => 112 | 53 => 114 | 4 => 4 | 183 => 106 | 182 => 105 | 131 => 109 | 5 => 5 | 9 => 9 | 218 => 125 | 222 => 129 | 228 => 135 | 229 => 136 | n => n, fun | n => n⟩
theorem lays189 : Go.Proofs.Lays.n189 Tryz.prog lays189_ren := {
  mixed := by kernel_rfl
  f125 := Tryz.func87.trans (congrArg some (by kernel_rfl))
  f128 := Tryz.func102.trans (congrArg some (by kernel_rfl))
  f129 := Tryz.func103.trans (congrArg some (by kernel_rfl))
  f189 := Tryz.func79.trans (congrArg some (by kernel_rfl))
  f215 := Tryz.func121.trans (congrArg some (by kernel_rfl))
  f216 := Tryz.func99.trans (congrArg some (by kernel_rfl))
  f257 := Tryz.func86.trans (congrArg some (by kernel_rfl))
  f294 := Tryz.func93.trans (congrArg some (by kernel_rfl))
  f295 := Tryz.func94.trans (congrArg some (by kernel_rfl))
  f296 := Tryz.func95.trans (congrArg some (by kernel_rfl))
  f297 := Tryz.func96.trans (congrArg some (by kernel_rfl))
  f298 := Tryz.func97.trans (congrArg some (by kernel_rfl))
  f299 := Tryz.func98.trans (congrArg some (by kernel_rfl))
  f300 := Tryz.func100.trans (congrArg some (by kernel_rfl))
  f301 := Tryz.func101.trans (congrArg some (by kernel_rfl))
  f328 := Tryz.func122.trans (congrArg some (by kernel_rfl))
  f329 := Tryz.func123.trans (congrArg some (by kernel_rfl))
  f330 := Tryz.func124.trans (congrArg some (by kernel_rfl))
  f331 := Tryz.func125.trans (congrArg some (by kernel_rfl))
  f332 := Tryz.func126.trans (congrArg some (by kernel_rfl))
  f343 := Tryz.func134.trans (congrArg some (by kernel_rfl))
  t0 := Tryz.underlying0
  a0 := Tryz.isAgg0
  z0 := Tryz.sizeOf0
  v0 := Tryz.zeroValue0
  t3 := Tryz.underlying3
  a3 := Tryz.isAgg3
  z3 := Tryz.sizeOf3
  v3 := Tryz.zeroValue3
  t4 := Tryz.underlying4
  a4 := Tryz.isAgg4
  z4 := Tryz.sizeOf4
  v4 := Tryz.zeroValue4
  t5 := Tryz.underlying5
  a5 := Tryz.isAgg5
  z5 := Tryz.sizeOf5
  v5 := Tryz.zeroValue5
  t9 := Tryz.underlying9
  a9 := Tryz.isAgg9
  z9 := Tryz.sizeOf9
  v9 := Tryz.zeroValue9
  t28 := Tryz.underlying35
  a28 := Tryz.isAgg35
  z28 := Tryz.sizeOf35
  v28 := Tryz.zeroValue35
  t46 := Tryz.underlying99
  a46 := Tryz.isAgg99
  z46 := Tryz.sizeOf99
  v46 := Tryz.zeroValue99
  t51 := Tryz.underlying112
  a51 := Tryz.isAgg112
  z51 := Tryz.sizeOf112
  v51 := Tryz.zeroValue112
  t53 := Tryz.underlying114
  a53 := Tryz.isAgg114
  z53 := Tryz.sizeOf114
  v53 := Tryz.zeroValue114
  t131 := Tryz.underlying109
  a131 := Tryz.isAgg109
  z131 := Tryz.sizeOf109
  v131 := Tryz.zeroValue109
  t182 := Tryz.underlying105
  a182 := Tryz.isAgg105
  z182 := Tryz.sizeOf105
  v182 := Tryz.zeroValue105
  t183 := Tryz.underlying106
  a183 := Tryz.isAgg106
  z183 := Tryz.sizeOf106
  v183 := Tryz.zeroValue106
  t218 := Tryz.underlying125
  a218 := Tryz.isAgg125
  z218 := Tryz.sizeOf125
  v218 := Tryz.zeroValue125
  t222 := Tryz.underlying129
  a222 := Tryz.isAgg129
  z222 := Tryz.sizeOf129
  v222 := Tryz.zeroValue129
  t228 := Tryz.underlying135
  a228 := Tryz.isAgg135
  z228 := Tryz.sizeOf135
  v228 := Tryz.zeroValue135
  t229 := Tryz.underlying136
  a229 := Tryz.isAgg136
  z229 := Tryz.sizeOf136
  v229 := Tryz.zeroValue136 }
open Go.Sort Go.RowKit in
theorem slices_Sort_int (blk off cap : Nat) (zs : List Int) (w : World) (hH : Holds (Value.int .i64) w blk off zs.toArray) (hblk : blk < w.heap.size) (hsz : zs.length < 4611686018427387904) :
    Calls Tryz.prog 79 #[.slice (some ⟨blk, off, none⟩) zs.length cap] w fun e w' =>
      e = .returned (.tuple #[]) ∧ ∃ n os, w' = grow (putRow (Value.int .i64) (Sort.ahead w n) blk off (zs.mergeSort fun x y => decide (x ≤ y)).toArray) os := Any.slices_Sort_int lays189 blk off cap zs w hH hblk hsz
end Go.Proofs.YtcopnfdknclhnaaGreat
namespace Go.Proofs.YtcopnfdknclhnaaGreat
open Go.RowKit

theorem badL_pred (w : World) : IsPred 15 #[] w badL where
  enters := fun args w => by kernel_rfl
  calls := fun x => by
    go_enter Tryz.func15, Tryz.ntmps15
    go_wp2
    all_goals
      go_ret
      exact ⟨ret_bool (by simp [badL]; try omega), rfl⟩

set_option maxRecDepth 100000 in
set_option maxHeartbeats 1000000 in
theorem tracksWrong_calls {w : World} {A : Option Addr} {n c : Nat} {log : List (List Int)} (h : Lists w A n c log) :
    Calls Tryz.prog 7 #[.slice A n c] w fun e w' => e = .returned (.int .i64 (wrongV log)) ∧ w = w' := by
  have hn := h.small
  have HL := hide2 h.len
  have H := hide2 h
  clear h
  by_cases h60 : 60 < n
  · have FN := hide2 (wrongV_full (log := log) (by rw [HL.out]; exact h60))
    have h60i : (60 : Int) < (n : Int) := by omega
    go_enter Tryz.func7, Tryz.ntmps7
    go_wp2
    go_ret
    exact ⟨ret_int FN.out.symm, rfl⟩
  · have NL := hide2 (show ¬ 60 < log.length by rw [HL.out]; exact h60)
    have h60i : ¬ (60 : Int) < (n : Int) := by omega
    go_enter Tryz.func7, Tryz.ntmps7
    go_wp2
    go_loop [10] (fun i => ∃ k : Nat, k ≤ n ∧ i = .int .i64 k ∧ Hid (∀ (j : Nat) (t : List Int), j < k → log[j]? = some t → badTr t = false)) (fun i => n - (intOf i).toNat)
    case atStart => exact ⟨0, Nat.zero_le _, rfl, fun j t hj => absurd hj (by omega)⟩
    case round =>
      obtain ⟨k, hk, rfl, hlow⟩ := hrel
      by_cases hlt : k < n
      · have hki : (k : Int) < (n : Int) := by omega
        obtain ⟨b, off, x, A1, n1, c1, rfl, hb, hx, q0, i1, hn1⟩ := Lists.get H.out hlt
        have IX := hide2 i1
        have BT := hide2 (show badTr x = (decide (60 < n1) || x.any badL) by rw [badTr, i1.len])
        have NX := hide2 (show badTr x = false → ∀ (j : Nat) (t : List Int), j < k + 1 → log[j]? = some t → badTr t = false from fun hf j t hj ht => by
          by_cases e : j = k
          · subst e
            have := hx.out
            rw [ht] at this
            injection this with this
            rw [this]; exact hf
          · exact hlow.out j t (by omega) ht)
        have FB := hide2 (fun hb => wrongV_bad NL.out (List.mem_of_getElem? hx.out) hb)
        clear i1 hlow hx
        by_cases h1 : 60 < n1
        · have FN := hide2 (FB.out (by rw [BT.out]; simp [h1]))
          have h1i : (60 : Int) < (n1 : Int) := by omega
          go_wp2
          go_ret
          exact ⟨ret_int FN.out.symm, rfl⟩
        · have h1i : ¬ (60 : Int) < (n1 : Int) := by omega
          obtain ⟨s, hs⟩ : ∃ s, x.any badL = s := ⟨_, rfl⟩
          have HS := hide2 hs
          clear hs
          cases s
          · have N1 := hide2 (NX.out (by rw [BT.out, HS.out]; simp [h1]))
            go_wp2_with (refine (containsFuncInts IX.out (badL_pred _)).mono ?_; rintro e w' ⟨rfl, rfl⟩; rw [HS.out])
            go_round
            case rel => exact ⟨k + 1, by omega, by go_num, N1⟩
            case measure => simp [intOf]; omega
          · have FN := hide2 (FB.out (by rw [BT.out, HS.out]; simp))
            go_wp2_with (refine (containsFuncInts IX.out (badL_pred _)).mono ?_; rintro e w' ⟨rfl, rfl⟩; rw [HS.out])
            go_ret
            exact ⟨ret_int FN.out.symm, rfl⟩
      · obtain rfl : k = n := by omega
        have FN := hide2 (wrongV_ok NL.out (fun j t hj ht => hlow.out j t (by rw [← HL.out]; exact hj) ht))
        clear hlow
        go_wp2
        go_ret
        exact ⟨ret_int FN.out.symm, rfl⟩

set_option maxRecDepth 100000 in
set_option maxHeartbeats 2000000 in
theorem vwrong_calls {w : World} {A : Option Addr} {n c : Nat} {log : List (List Int)} (h : Lists w A n c log) :
    Calls Tryz.prog 10 #[.slice A n c] w fun e w' => e = .returned (.int .i64 (wrongV log)) ∧ w = w' := by
  have hn := h.small
  have HL := hide2 h.len
  have H := hide2 h
  clear h
  by_cases h60 : 60 < n
  · have FN := hide2 (wrongV_full (log := log) (by rw [HL.out]; exact h60))
    have h60i : (60 : Int) < (n : Int) := by omega
    go_enter Tryz.func10, Tryz.ntmps10
    go_wp2
    go_ret
    exact ⟨ret_int FN.out.symm, rfl⟩
  · have NL := hide2 (show ¬ 60 < log.length by rw [HL.out]; exact h60)
    have h60i : ¬ (60 : Int) < (n : Int) := by omega
    go_enter Tryz.func10, Tryz.ntmps10
    go_wp2
    go_loop [12] (fun i => ∃ k : Nat, k ≤ n ∧ i = .int .i64 k ∧ Hid (∀ (j : Nat) (t : List Int), j < k → log[j]? = some t → badTr t = false)) (fun i => n - (intOf i).toNat)
    case atStart => exact ⟨0, Nat.zero_le _, rfl, fun j t hj => absurd hj (by omega)⟩
    case round =>
      obtain ⟨k, hk, rfl, hlow⟩ := hrel
      by_cases hlt : k < n
      · have hki : (k : Int) < (n : Int) := by omega
        obtain ⟨b, off, x, A1, n1, c1, rfl, hb, hx, q0, i1, hn1⟩ := Lists.get H.out hlt
        have IX := hide2 i1
        have LX := hide2 i1.len
        have NX := hide2 (show badTr x = false → ∀ (j : Nat) (t : List Int), j < k + 1 → log[j]? = some t → badTr t = false from fun hf j t hj ht => by
          by_cases e : j = k
          · subst e
            have := hx.out
            rw [ht] at this
            injection this with this
            rw [this]; exact hf
          · exact hlow.out j t (by omega) ht)
        have FB := hide2 (fun hb => wrongV_bad NL.out (List.mem_of_getElem? hx.out) hb)
        clear i1 hlow hx
        go_wp2
        go_loop [18] (fun i => ∃ q : Nat, q ≤ n1 ∧ i = .int .i64 q ∧ Hid (∀ (j : Nat) (y : Int), j < q → x[j]? = some y → badL y = false ∧ j < 60)) (fun i => n1 - (intOf i).toNat)
        case atStart => exact ⟨0, Nat.zero_le _, rfl, fun j y hj => absurd hj (by omega)⟩
        case round =>
          obtain ⟨q, hq, rfl, hlo2⟩ := hrel
          by_cases hqn : q < n1
          · have hqi : (q : Int) < (n1 : Int) := by omega
            obtain ⟨b', off', y, rfl, hb', hy, qy⟩ := IX.out.get hqn
            have FY := hide2 (fun hb => FB.out (badTr_at hy.out hb))
            have NY := hide2 (show badL y = false → q < 60 → ∀ (j : Nat) (z : Int), j < q + 1 → x[j]? = some z → badL z = false ∧ j < 60 from fun hf h6 j z hj hz => by
              by_cases e : j = q
              · subst e
                have := hy.out
                rw [hz] at this
                injection this with this
                rw [this]; exact ⟨hf, h6⟩
              · exact hlo2.out j z (by omega) hz)
            clear hlo2 hy
            by_cases h1 : y < 1
            · have FN := hide2 (FY.out (.inl (by simp [badL, h1])))
              go_wp2
              go_ret
              exact ⟨ret_int FN.out.symm, rfl⟩
            · by_cases h2 : 26 < y
              · have FN := hide2 (FY.out (.inl (by simp [badL, h2])))
                go_wp2
                go_ret
                exact ⟨ret_int FN.out.symm, rfl⟩
              · by_cases h3 : 60 ≤ q
                · have FN := hide2 (FY.out (.inr h3))
                  have h3i : (60 : Int) ≤ (q : Int) := by omega
                  go_wp2
                  go_ret
                  exact ⟨ret_int FN.out.symm, rfl⟩
                · have N1 := hide2 (NY.out (by simp [badL]; omega) (by omega))
                  have h3i : ¬ (60 : Int) ≤ (q : Int) := by omega
                  go_wp2
                  go_round
                  case rel => exact ⟨q + 1, by omega, by go_num, N1⟩
                  case measure => simp [intOf]; omega
          · obtain rfl : q = n1 := by omega
            have N1 := hide2 (NX.out (badTr_not (fun j y hj hy => hlo2.out j y (by rw [← LX.out]; exact hj) hy)))
            clear hlo2
            go_wp2
            go_round
            case rel => exact ⟨k + 1, by omega, by go_num, N1⟩
            case measure => simp [intOf]; omega
      · obtain rfl : k = n := by omega
        have FN := hide2 (wrongV_ok NL.out (fun j t hj ht => hlow.out j t (by rw [← HL.out]; exact hj) ht))
        clear hlow
        go_wp2
        go_ret
        exact ⟨ret_int FN.out.symm, rfl⟩
end Go.Proofs.YtcopnfdknclhnaaGreat
namespace Go.Proofs.YtcopnfdknclhnaaGreat
open Go.RowKit Go.Maps

/-- What the keys of a set are. -/
structure KeyD {α : Type} (k : TypeId) (ok : α → Prop) (kv : α → Value) (kk : α → Lit) : Prop where
  law : Keyed Tryz.prog k
  key : ∀ x, ok x → keyOf Tryz.prog k (kv x) = some (kk x)
  back : ∀ x y, ok x → ok y → kk x = kk y → x = y
/-- Block b is a map whose keys are just these. -/
def SetD {α : Type} (k : TypeId) (ok : α → Prop) (kk : α → Lit) (w : World) (b : Nat) (S : List α) : Prop :=
  (∀ x ∈ S, ok x) ∧ ∃ (D : DataW Unit) (m : Nat), w.ownsMap Tryz.prog k unitElem b m D ∧ m ≤ S.length ∧ Maps.size D ≤ S.length ∧ ∀ key kl, keyOf Tryz.prog k key = some kl → (Maps.has D kl = true ↔ ∃ x ∈ S, kl = kk x)
section
variable {α : Type} {k : TypeId} {ok : α → Prop} {kv : α → Value} {kk : α → Lit} {w w' : World} {b : Nat} {S : List α}
theorem mapOf_block {H : Type} {P : Program} {R : Value → Option (DataW H × List MemPlace)} {n : Nat} {D : DataW H} (h : w.ownsMap P k R b n D) (hb : w'.heap[b]? = w.heap[b]?) : w'.ownsMap P k R b n D := by
  obtain ⟨es, clock, h1, h2⟩ := h
  exact ⟨es, clock, hb.trans h1, h2⟩
theorem SetD.made (k : TypeId) (ok : α → Prop) (kk : α → Lit) (w : World) : SetD k ok kk (w.alloc (.map #[] 0)) w.heap.size [] :=
  ⟨fun x h => (by cases h), .map [], 0, World.ownsMap_made _ _ _ _, Nat.le_refl _, Nat.zero_le _, fun key kl _ => ⟨fun h => by simp [Maps.has] at h, fun ⟨x, hx, _⟩ => (by cases hx)⟩⟩
theorem SetD.of_block (h : SetD k ok kk w b S) (hb : w'.heap[b]? = w.heap[b]?) : SetD k ok kk w' b S := by
  obtain ⟨h0, D, m, h1, h2⟩ := h
  exact ⟨h0, D, m, mapOf_block h1 hb, h2⟩
theorem SetD.lt (h : SetD k ok kk w b S) : b < w.heap.size := by
  obtain ⟨_, D, m, h1, _⟩ := h
  exact h1.lt
theorem SetD.keep (h : SetD k ok kk w b S) (hb : Below w.heap.size w w') : SetD k ok kk w' b S := h.of_block (hb.block b h.lt)
theorem SetD.alloc (h : SetD k ok kk w b S) (o : Obj) : SetD k ok kk (w.alloc o) b S := h.of_block (heap_alloc_old w o h.lt)
theorem SetD.beside {row : Option Nat} (h : SetD k ok kk w b S) (hg : w.grownBy w' row) (hne : some b ≠ row) : SetD k ok kk w' b S := h.of_block (hg.block b h.lt hne)
theorem SetD.put (K : KeyD k ok kv kk) {D : DataW Unit} {m : Nat} (h0 : ∀ x ∈ S, ok x) (h1 : w.ownsMap Tryz.prog k unitElem b m D) (hm : m ≤ S.length) (hs : Maps.size D ≤ S.length) (h2 : ∀ key kl, keyOf Tryz.prog k key = some kl → (Maps.has D kl = true ↔ ∃ x ∈ S, kl = kk x))
    {x : α} (hx : ok x) (h3 : w'.ownsMap Tryz.prog k unitElem b (m + 1) (D.put (kk x) (.agg []))) : SetD k ok kk w' b (x :: S) := by
  refine ⟨fun y hy => ?_, _, m + 1, h3, by simpa using hm, ?_, fun key kl hk => ?_⟩
  · rcases List.mem_cons.1 hy with rfl | hy
    · exact hx
    · exact h0 y hy
  · rw [Maps.size_put (h1.tidy K.law), List.length_cons]
    split <;> omega
  · by_cases e : kl = kk x
    · subst e
      rw [Maps.has_put_same (h1.tidy K.law).isMap (K.law.key hk)]
      exact ⟨fun _ => ⟨x, by simp, rfl⟩, fun _ => rfl⟩
    · rw [Maps.has_put_other e, h2 key kl hk]
      constructor
      · rintro ⟨y, hy, e2⟩
        exact ⟨y, by simp [hy], e2⟩
      · rintro ⟨y, hy, e2⟩
        rcases List.mem_cons.1 hy with rfl | hy
        · exact absurd e2 e
        · exact ⟨y, hy, e2⟩
/-- What has come so far, while a set is ranged over. -/
def ColD (k : TypeId) (kk : α → Lit) (D : DataW Unit) (left : Lit → Bool) (S ss : List α) : Prop :=
  ss.Nodup ∧ (∀ x ∈ ss, x ∈ S) ∧ ∀ key kl, keyOf Tryz.prog k key = some kl → (left kl = true ↔ Maps.has D kl = true ∧ ∀ x ∈ ss, kl ≠ kk x)
theorem ColD.start (D : DataW Unit) (S : List α) : ColD k kk D (Maps.has D) S [] := ⟨List.nodup_nil, fun x h => (by cases h), fun key kl _ => ⟨fun h => ⟨h, fun x hx => (by cases hx)⟩, fun h => h.1⟩⟩
theorem ColD.step (K : KeyD k ok kv kk) {D : DataW Unit} {left : Lit → Bool} {ss : List α} (h : ColD k kk D left S ss) {x : α} (hx : x ∈ S) (hk : ok x) (hlk : left (kk x) = true) : ColD k kk D (fun z => left z && !z.sameKey (kk x)) S (ss ++ [x]) := by
  obtain ⟨h1, h2, h3⟩ := h
  have hkx := K.key x hk
  have hl := (h3 _ _ hkx).1 hlk
  refine ⟨List.nodup_append.2 ⟨h1, by simp, fun a ha c hc e => ?_⟩, fun y hy => ?_, fun key kl hkl => ?_⟩
  · rw [List.mem_singleton] at hc
    subst hc
    exact hl.2 a ha (by rw [e])
  · rcases List.mem_append.1 hy with hy | hy
    · exact h2 y hy
    · rw [List.mem_singleton.1 hy]; exact hx
  · simp only [Bool.and_eq_true, Bool.not_eq_true']
    rw [h3 key kl hkl]
    have hiff := WideAt.sameKey_iff (a := kl) (K.law.key hkx)
    constructor
    · rintro ⟨⟨g1, g2⟩, g3⟩
      refine ⟨g1, fun y hy => ?_⟩
      rcases List.mem_append.1 hy with hy | hy
      · exact g2 y hy
      · rw [List.mem_singleton.1 hy]
        intro e
        rw [hiff.2 e] at g3
        cases g3
    · rintro ⟨g1, g2⟩
      refine ⟨⟨g1, fun y hy => g2 y (by simp [hy])⟩, ?_⟩
      cases hs : kl.sameKey (kk x)
      · rfl
      · exact absurd (hiff.1 hs) (g2 x (by simp))
theorem ColD.fin (K : KeyD k ok kv kk) {D : DataW Unit} {left : Lit → Bool} {ss : List α} (h : ColD k kk D left S ss) (h0 : ∀ x ∈ S, ok x) (hD : ∀ key kl, keyOf Tryz.prog k key = some kl → (Maps.has D kl = true ↔ ∃ x ∈ S, kl = kk x)) (hl : ∀ kl, left kl = false) : ss.Nodup ∧ ∀ x, x ∈ ss ↔ x ∈ S := by
  obtain ⟨h1, h2, h3⟩ := h
  refine ⟨h1, fun x => ⟨h2 x, fun hx => ?_⟩⟩
  have hkx := K.key x (h0 x hx)
  apply Classical.byContradiction
  intro hn
  have := (h3 _ _ hkx).2 ⟨(hD _ _ hkx).2 ⟨x, hx, rfl⟩, fun y hy e => hn (by rw [K.back x y (h0 x hx) (h0 y (h2 y hy)) e]; exact hy)⟩
  rw [hl] at this
  cases this
end

/-! ### integers -/
def okI (x : Int) : Prop := 1 ≤ x ∧ x ≤ 26
def kkI (x : Int) : Lit := .int .i64 x
theorem keyI : KeyD 3 okI (Value.int .i64) kkI where
  law := int_keyed Tryz.underlying3
  key := fun x hx => keyOf_int_mk Tryz.underlying3 (WalkArith.wf_i64 (by unfold okI at hx; omega))
  back := fun x y _ _ h => by unfold kkI at h; injection h
abbrev SetI (w : World) (b : Nat) (S : List Int) : Prop := SetD 3 okI kkI w b S
/-! ### pairs -/
def okP (p : Int × Int) : Prop := okI p.1 ∧ okI p.2
def kvP (p : Int × Int) : Value := .agg #[.int .i64 p.1, .int .i64 p.2]
def kkP (p : Int × Int) : Lit := .string (keyBytes [.int .i64 p.1, .int .i64 p.2])
theorem pairLaw : Keyed Tryz.prog 57 := Keyed.of_law (deep_law_laid Facts.laidOut (m := 2) (by decide) (of_decide_eq_true (by kernel_rfl)) (by kernel_rfl) (by kernel_rfl))
theorem pairKeyType : Tryz.prog.keyType 57 = true := by kernel_rfl
theorem pairCells : Tryz.prog.cellsOf 57 = 2 := by kernel_rfl
theorem intCellsT : Tryz.prog.cellsOf 3 = 1 := by kernel_rfl
theorem pairKey (p : Int × Int) (h : okP p) : keyOf Tryz.prog 57 (kvP p) = some (kkP p) := by
  have hw1 : (Lit.int .i64 p.1).wf = true := WalkArith.wf_i64 (by unfold okP okI at h; omega)
  have hw2 : (Lit.int .i64 p.2).wf = true := WalkArith.wf_i64 (by unfold okP okI at h; omega)
  have hsz : ∃ m, Tryz.prog.types.size + 1 = m + 2 := ⟨Tryz.prog.types.size - 1, by have : 0 < Tryz.prog.types.size := of_decide_eq_true (by kernel_rfl); omega⟩
  obtain ⟨m, hm⟩ := hsz
  unfold keyOf
  rw [Tryz.underlying57]
  simp only [pairKeyType, kvP, Value.formed, Tryz.underlying57, pairCells, hm]
  simp [Program.keyLits, Tryz.underlying57, pairCells, intCellsT, Tryz.underlying3, hw1, hw2, Value.cells, kkP, show List.range 2 = [0, 1] from rfl]
theorem keyP : KeyD 57 okP kvP kkP where
  law := pairLaw
  key := pairKey
  back := fun x y hx hy h => by
    have := pairLaw.inj (pairKey x hx) (by rw [h]; exact pairKey y hy)
    simp only [kvP, Value.agg.injEq, Array.mk.injEq, List.cons.injEq, Value.int.injEq, true_and, and_true] at this
    exact Prod.ext this.1 this.2
abbrev SetP (w : World) (b : Nat) (S : List (Int × Int)) : Prop := SetD 57 okP kkP w b S

set_option maxRecDepth 100000 in
theorem addI_calls {w : World} {b : Nat} {S : List Int} (h : SetI w b S) (hl : S.length ≤ 10000) {x : Int} (hx : okI x) :
    Calls Tryz.prog 73 #[.map (some b), .int .i64 x] w fun e w' => (∃ v, e = .returned v) ∧ SetI w' b (x :: S) ∧ w.grownBy w' (some b) := by
  obtain ⟨h0, D, m, h1, hm, hs, h2⟩ := h
  go_enter Tryz.func73, Tryz.ntmps73
  go_wp2_with (at_mapUpdate; refine wpList_mapUpdate_own _ rfl _ _ _ 82 rfl 3 _ keyI.law Tryz.underlying82 _ b m _ rfl h1 (by simp only [maxLen]; omega) _ _ _ rfl rfl (keyI.key x hx) _ [] unitElem_mk ?_; intro w1 h3 hg)
  go_end0
  exact ⟨⟨_, rfl⟩, SetD.put keyI h0 h1 hm hs h2 hx h3, hg⟩
set_option maxRecDepth 100000 in
theorem addP_calls {w : World} {b : Nat} {S : List (Int × Int)} (h : SetP w b S) (hl : S.length ≤ 10000) {p : Int × Int} (hx : okP p) :
    Calls Tryz.prog 74 #[.map (some b), .agg #[.int .i64 p.1, .int .i64 p.2]] w fun e w' => (∃ v, e = .returned v) ∧ SetP w' b (p :: S) ∧ w.grownBy w' (some b) := by
  have G0 := hide2 (World.grownBy_alloc w (.cells #[.int .i64 p.1, .int .i64 p.2] 57) (some b))
  obtain ⟨h0, D, m, h1, hm, hs, h2⟩ := h
  have X0 := Box.new w #[.int .i64 p.1, .int .i64 p.2] 57
  have h1' := mapOf_block h1 (heap_alloc_old w (.cells #[.int .i64 p.1, .int .i64 p.2] 57) h1.lt)
  obtain ⟨c0, c1⟩ := X0.two
  go_enter Tryz.func74, Tryz.ntmps74
  go_wp2_with (at_mapUpdate; refine wpList_mapUpdate_own _ rfl _ _ _ 84 rfl 57 _ keyP.law Tryz.underlying84 _ b m _ rfl h1' (by simp only [maxLen]; omega) _ _ _ rfl rfl (keyP.key p hx) _ [] unitElem_mk ?_; intro w1 h3 hg)
  go_end0
  exact ⟨⟨_, rfl⟩, SetD.put keyP h0 h1' hm hs h2 hx h3, G0.out.trans hg⟩
end Go.Proofs.YtcopnfdknclhnaaGreat
