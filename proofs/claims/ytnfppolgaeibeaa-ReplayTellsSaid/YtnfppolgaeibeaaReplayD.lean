/- Append to a list that the call owns, after which the old list still reads as it did. Conditions: the lengths stay below what memory bears. -/
import Derived.Test.YtnfppolgaeibeaaReplayC
import Derived.Maps.AppendAt
namespace Go.Proofs.Ytnfppolgaeibeaa
open Go.RowKit

theorem run_append_keep {P : Program} {w : World} (base : Nat) (t ty e : TypeId) (i : TypeInfo) (z : Value) (size bytes : Nat) (ht : P.underlying t = some (.slice e)) (hi : P.info? e = some i) (hz : i.zero = some z)
    (hsize : i.size = size) (hby : i.bytes = bytes) (hzs : z.cells.size = size) (hsz : 0 < size)
    (v : Value) (n : Nat) (xs : List Value) (hown : w.ownsRow base e size v n xs)
    (a : Addr) (m c : Nat) (news : List Value) (hl : news.length = m * size) (hnews : ∀ j u, news[j]? = some u → w.cell? (a.add j) = some u) (h1 : ∀ u ∈ news, u.oneCell' = true)
    (h63 : n + m ≤ maxLen) (hbytes : (n + m) * bytes ≤ 140737488355328) (hbase : base ≤ w.heap.size) :
    ∃ v' w', (Builtin.append_ #[t, t] ty #[v, .slice (some a) m c]).run P w = .ok v' w' ∧ w'.ownsRow base e size v' (n + m) (xs ++ news) ∧ w.grownBy w' v.ownBlock ∧ (v'.ownBlock = v.ownBlock ∨ v'.ownBlock = some w.heap.size) ∧ w'.ownsRow base e size v n xs := by
  obtain ⟨v', w', hr, r1, r2, _, r5⟩ := run_append_own_at (P := P) w base t ty e i z size bytes ht hi hz hsize hby hzs hsz v n xs hown a m c news hl hnews h1 h63 hbytes hbase
  refine ⟨v', w', hr, r1, r2, r5, ?_⟩
  subst hsize
  subst hby
  have hsmall : n + m ≤ 9223372036854775807 := by simp only [maxLen] at h63; omega
  rcases hown.2 with ⟨rfl, rfl⟩ | ⟨g, cap, cur, rfl, hbg, hg, hnc, hcm, hcs, htake⟩
  · have hx : xs = [] := List.eq_nil_of_length_eq_zero (by simpa using hown.1)
    subst hx
    exact World.ownsRow_nil _ _ _ _
  · by_cases hroom : n + m ≤ cap
    · have hfit : n * i.size + news.length ≤ cur.size := by rw [hl, hcs, ← Nat.add_mul]; exact Nat.mul_le_mul_right _ hroom
      have hr2 := run_append_room (P := P) w t ty e i ht hi g n cap cur hg a m c news hl hnews h1 hroom hfit
      rw [hr2] at hr
      injection hr with e1 e2
      subst e1
      rcases r1.2 with ⟨hv, _⟩ | ⟨g', cap', cur', hv, hb', hg', hn', hc', hs', ht'⟩
      · cases hv
      · injection hv with a1 a2 a3
        injection a1 with a1
        injection a1 with a1
        subst a1 a3
        refine ⟨hown.1, .inr ⟨g, cap, cur', rfl, hbg, hg', hnc, hcm, hs', ?_⟩⟩
        have : cur'.toList.take (n * i.size) = ((cur'.toList.take ((n + m) * i.size))).take (n * i.size) := by
          rw [List.take_take]
          congr 1
          exact (Nat.min_eq_left (Nat.mul_le_mul_right _ (by omega))).symm
        rw [this, ht', ← hown.1]
        exact List.take_left
    · have holds : ∀ j u, xs[j]? = some u → w.cell? ((⟨g, 0, none⟩ : Addr).add j) = some u := hown.cells (g := g) rfl
      have hr2 := run_append_grow (P := P) w t ty e i z ht hi hz ⟨g, 0, none⟩ n cap xs hown.1 holds a m c news hl hnews (by omega) (by omega) (growslice_fits (by omega) hbytes)
      rw [hr2] at hr
      injection hr with e1 e2
      subst e2
      exact ⟨hown.1, .inr ⟨g, cap, cur, rfl, hbg, (heap_alloc_old w.drew _ (Array.getElem?_eq_some_iff.1 hg).1).trans hg, hnc, hcm, hcs, htake⟩⟩

theorem step_appKeep {α : Type} {R Ro : World → (Nat → Value) → α → Prop} {t e size bytes : Nat} (T : SlTy t e size bytes) {ops : Array Oper} {o : Oper} {a : Act} {K : Act → World → Prop} {Q : Exit → Act → World → Prop} {E : Prop} (hgd : o.guard = none) (s x : Operand)
    (ho : o.op = .call { callee := .builtin .append, args := #[s, x], argTypes := #[t, t] })
    {w0 w W : World} {B : Nat} {v : Value} {n m : Nat} {xs : List α} (ys : List α) (us : Array Value) {H : Nat} (hs : a.eval s = v) (hx : a.eval x = .slice (some ⟨H, 0, none⟩) m m) (hH : H = w.heap.size) (hW : W = w.alloc (.cells us e)) (hus : us.size = m * size) (hm : 0 < m) (one : ∀ u ∈ us.toList, u.oneCell' = true)
    (own : OwnSl Ro size w B e v n xs) (hRo : ∀ vs y, Ro w vs y → R w vs y) (hread : Reads R size w us.toList ys) (hy : ys.length = m) (hb : Below B w0 w) (hB : B ≤ w.heap.size) (h63 : n + m ≤ 281474976710656) (hn : (n + m) * bytes ≤ 140737488355328)
    (hkeep : ∀ w', w.grownBy w' v.ownBlock → ∀ vs y, R w vs y → R w' vs y) (hkeepo : ∀ w', w.grownBy w' v.ownBlock → ∀ vs y, Ro w vs y → Ro w' vs y)
    (hK : ∀ g cap w', OwnSl R size w' B e (.slice (some ⟨g, 0, none⟩) (n + m) cap) (n + m) (xs ++ ys) → OwnSl Ro size w' B e v n xs → w.grownBy w' v.ownBlock → Below B w0 w' → B ≤ g → g < w'.heap.size → (v.ownBlock = some g ∨ w.heap.size < g) → K (a.put o.dst (.slice (some ⟨g, 0, none⟩) (n + m) cap)) w') :
    if Region.wanted o (yielded ops a.tmps) = true then Oper.wp Try.prog o a W K Q else E := by
  subst hH hW
  rw [if_pos (by simp [Region.wanted, hgd])]
  obtain ⟨i, z, h1, h2, h3, h4, h5⟩ := T.info
  obtain ⟨cells, o1, o2, o3⟩ := own
  obtain ⟨v', w', hr, r1, r2, r5, r6⟩ := run_append_keep (P := Try.prog) (w := w.alloc (.cells us e)) B t o.type e i z size bytes T.und h1 h2 h3 h4 h5 T.pos v n cells (o1.alloc _) ⟨w.heap.size, 0, none⟩ m m us.toList (by simpa using hus) (fun j u hj => by
    have hz : ((⟨w.heap.size, 0, none⟩ : Addr).add j) = ⟨w.heap.size, j, none⟩ := by unfold Addr.add; split <;> simp_all
    rw [hz]
    have : (w.alloc (.cells us e)).cell? ⟨w.heap.size, j, none⟩ = us[j]? := cell_of_row _ _ _ _ _ (0, 0) (heap_alloc_new w _)
    rw [this]
    simpa using hj) one (by simp only [maxLen]; omega) hn (by simp; omega)
  have hg : w.grownBy w' v.ownBlock := ⟨r2.os, r2.tape, r2.output, Nat.le_trans (by simp) r2.size, fun k hk hne => (r2.block k (by simp; omega) hne).trans (heap_alloc_old w _ hk)⟩
  obtain ⟨g, cap, hv, hBg, hgl⟩ : ∃ g cap, v' = .slice (some ⟨g, 0, none⟩) (n + m) cap ∧ B ≤ g ∧ g < w'.heap.size := r1.form (by omega)
  subst hv
  have hat : v.ownBlock = some g ∨ w.heap.size < g := by
    rcases r5 with r5 | r5
    · exact .inl r5.symm
    · right
      simp only [Value.ownBlock, Option.some.injEq] at r5
      rw [r5]; simp
  have o2' : Reads R size w cells xs := ⟨o2.1, fun i x hx => by obtain ⟨vs, a, b⟩ := o2.2 i x hx; exact ⟨vs, a, hRo _ _ b⟩⟩
  have ap := o2'.append hread
  have h := hK g cap w' ⟨_, r1, ⟨ap.1, fun i x hx => by obtain ⟨vs, a, b⟩ := ap.2 i x hx; exact ⟨vs, a, hkeep _ hg _ _ b⟩⟩, by rw [List.length_append, o3, hy]⟩
    ⟨_, r6, ⟨o2.1, fun i x hx => by obtain ⟨vs, a, b⟩ := o2.2 i x hx; exact ⟨vs, a, hkeepo _ hg _ _ b⟩⟩, o3⟩ hg (hb.grown hg hB (fun k hk => (o1.lt k hk).1)) hBg hgl hat
  unfold Oper.wp execOp
  simp only [ho, resolve, invoke, builtin, Sem.run_bind, Sem.run_pure, Result.andThen_ok, List.map_toArray, List.map_cons, List.map_nil, hs, hx, hr]
  exact h
end Go.Proofs.Ytnfppolgaeibeaa
