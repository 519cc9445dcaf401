/- The plain law of blocks' words, as the reference makes them: pairs, mixtures, words again and again; and how many these are. No program in sight. -/
import Derived.Test.YtniolbbhjibobaaDoorBlocksListK15
set_option linter.all false
namespace Go.Proofs.YtniolbbhjibobaaDoor

/-! ### mixtures, pairs -/
def jmixL : List Int → List Int → List (List Int)
  | [], y => [y]
  | x, [] => [x]
  | a :: x, b :: y => (jmixL x (b :: y)).map (fun z => a :: z) ++ (jmixL (a :: x) y).map (fun z => b :: z)
termination_by x y => x.length + y.length
def mixR (f : Nat → Nat) : Nat → Nat
  | 0 => 1
  | j + 1 => f (j + 1) + mixR f j
def mixN : Nat → Nat → Nat
  | 0 => fun _ => 1
  | i + 1 => mixR (mixN i)
theorem mix_nil (y : List Int) : jmixL [] y = [y] := by rw [jmixL]
theorem mix_nil' (x : List Int) : jmixL x [] = [x] := by cases x with | nil => rw [jmixL] | cons a x => rw [jmixL]; simp
theorem mix_cons (a b : Int) (x y : List Int) : jmixL (a :: x) (b :: y) = (jmixL x (b :: y)).map (fun z => a :: z) ++ (jmixL (a :: x) y).map (fun z => b :: z) := by rw [jmixL]
theorem mixN_0 (j : Nat) : mixN 0 j = 1 := rfl
theorem mixN_0' (i : Nat) : mixN i 0 = 1 := by cases i <;> rfl
theorem mixN_S (i j : Nat) : mixN (i + 1) (j + 1) = mixN i (j + 1) + mixN (i + 1) j := rfl
theorem mixN_pos : ∀ i j : Nat, 1 ≤ mixN i j
  | 0, j => by rw [mixN_0]; omega
  | i + 1, 0 => by rw [mixN_0']; omega
  | i + 1, j + 1 => by rw [mixN_S]; have := mixN_pos i (j + 1); omega
theorem mix_mem : ∀ (x y z : List Int), z ∈ jmixL x y ↔ Mix x y z
  | [], y, z => by
    rw [mix_nil, List.mem_singleton]
    exact ⟨fun h => by rw [h]; exact Mix.self_right y, fun h => h.nil_left.symm⟩
  | a :: x, [], z => by
    rw [mix_nil', List.mem_singleton]
    exact ⟨fun h => by rw [h]; exact Mix.self_left _, fun h => h.nil_right.symm⟩
  | a :: x, b :: y, z => by
    rw [mix_cons, List.mem_append, List.mem_map, List.mem_map]
    constructor
    · rintro (⟨u, hu, rfl⟩ | ⟨u, hu, rfl⟩)
      · exact .left ((mix_mem x (b :: y) u).1 hu)
      · exact .right ((mix_mem (a :: x) y u).1 hu)
    · intro h
      cases h with
      | left h => exact .inl ⟨_, (mix_mem x (b :: y) _).2 h, rfl⟩
      | right h => exact .inr ⟨_, (mix_mem (a :: x) y _).2 h, rfl⟩
termination_by x y => x.length + y.length
theorem mix_len : ∀ (x y : List Int), (jmixL x y).length = mixN x.length y.length
  | [], y => by rw [mix_nil]; simp [mixN_0]
  | a :: x, [] => by rw [mix_nil']; simp [mixN_0']
  | a :: x, b :: y => by
    rw [mix_cons, List.length_append, List.length_map, List.length_map, mix_len x (b :: y), mix_len (a :: x) y]
    simp only [List.length_cons]
    rw [mixN_S]
termination_by x y => x.length + y.length
def joinL (x y : List Int) : List (List Int) := [x ++ y]
/-- What a pair gives. -/
def pairL (f : List Int → List Int → List (List Int)) (most : Int) (x y : List Int) : List (List Int) := if (x.length : Int) + (y.length : Int) ≤ most then f x y else []
def pairsL (f : List Int → List Int → List (List Int)) (most : Int) (A B : List (List Int)) : List (List Int) := A.flatMap fun x => B.flatMap fun y => pairL f most x y
theorem mem_pairs {f : List Int → List Int → List (List Int)} {most : Int} {A B : List (List Int)} {w : List Int} : w ∈ pairsL f most A B ↔ ∃ x ∈ A, ∃ y ∈ B, (x.length : Int) + (y.length : Int) ≤ most ∧ w ∈ f x y := by
  unfold pairsL pairL
  simp only [List.mem_flatMap]
  constructor
  · rintro ⟨x, hx, y, hy, h⟩
    split at h
    · exact ⟨x, hx, y, hy, by assumption, h⟩
    · cases h
  · rintro ⟨x, hx, y, hy, h1, h⟩
    exact ⟨x, hx, y, hy, by rw [if_pos h1]; exact h⟩
/-- The list of all words of X of at most so many letters. -/
def IsW (X : List Int → Prop) (most : Int) (L : List (List Int)) : Prop := Asc L ∧ ∀ w, w ∈ L ↔ X w ∧ (w.length : Int) ≤ most
theorem IsW.congr {X Y : List Int → Prop} {most : Int} {L : List (List Int)} (h : IsW X most L) (e : ∀ w, Y w ↔ X w) : IsW Y most L := ⟨h.1, fun w => by rw [h.2, e]⟩
theorem IsW.of {X : List Int → Prop} {most : Int} {l : List (List Int)} (h : ∀ w, (w.length : Int) ≤ most → (w ∈ l ↔ X w)) : IsW X most (jsetL l most) := ⟨jsetL_asc _ _, fun w => by rw [jsetL_mem]; exact ⟨fun ⟨a, b⟩ => ⟨(h w b).1 a, b⟩, fun ⟨a, b⟩ => ⟨(h w b).2 a, b⟩⟩⟩
theorem IsW.join {X Y : List Int → Prop} {most : Int} {A B : List (List Int)} (hA : IsW X most A) (hB : IsW Y most B) : IsW (fun w => ∃ u v, w = u ++ v ∧ X u ∧ Y v) most (jsetL (pairsL joinL most A B) most) := IsW.of (fun w hw => by
  rw [mem_pairs]
  constructor
  · rintro ⟨x, hx, y, hy, _, h⟩
    exact ⟨x, y, List.mem_singleton.1 h, ((hA.2 x).1 hx).1, ((hB.2 y).1 hy).1⟩
  · rintro ⟨u, v, rfl, hu, hv⟩
    rw [List.length_append] at hw
    exact ⟨u, (hA.2 u).2 ⟨hu, by omega⟩, v, (hB.2 v).2 ⟨hv, by omega⟩, by omega, List.mem_singleton.2 rfl⟩)
theorem IsW.mix {X Y : List Int → Prop} {most : Int} {A B : List (List Int)} (hA : IsW X most A) (hB : IsW Y most B) : IsW (fun w => ∃ u v, Mix u v w ∧ X u ∧ Y v) most (jsetL (pairsL jmixL most A B) most) := IsW.of (fun w hw => by
  rw [mem_pairs]
  constructor
  · rintro ⟨x, hx, y, hy, _, h⟩
    exact ⟨x, y, (mix_mem x y w).1 h, ((hA.2 x).1 hx).1, ((hB.2 y).1 hy).1⟩
  · rintro ⟨u, v, h, hu, hv⟩
    rw [h.len] at hw
    exact ⟨u, (hA.2 u).2 ⟨hu, by omega⟩, v, (hB.2 v).2 ⟨hv, by omega⟩, by omega, (mix_mem u v w).2 h⟩)
theorem IsW.or {X Y : List Int → Prop} {most : Int} {A B : List (List Int)} (hA : IsW X most A) (hB : IsW Y most B) : IsW (fun w => X w ∨ Y w) most (jsetL (A ++ B) most) := IsW.of (fun w hw => by
  rw [List.mem_append, hA.2, hB.2]
  exact ⟨fun | .inl h => .inl h.1 | .inr h => .inr h.1, fun | .inl h => .inl ⟨h, hw⟩ | .inr h => .inr ⟨h, hw⟩⟩)

/-! ### again and again -/
/-- What a loop has made so far. -/
structure LoopI (X Y : List Int → Prop) (most : Int) (F L : List (List Int)) : Prop where
  asc : Asc L
  all : ∀ w ∈ F, w ∈ L
  snd : ∀ w ∈ L, loopP X Y w ∧ (w.length : Int) ≤ most
theorem rep_app {B A : List Int → Prop} {u v : List Int} (h : Rep B A u) (g : Rep B A v) : Rep B A (u ++ v) := by
  induction h with
  | nil => exact g
  | more h1 h2 _ ih =>
    have := Rep.more h1 h2 ih
    simpa using this
theorem LoopI.start {X Y : List Int → Prop} {most : Int} {F : List (List Int)} (h : IsW X most F) : LoopI X Y most F F := ⟨h.1, fun _ hw => hw, fun w hw => ⟨⟨w, [], by simp, ((h.2 w).1 hw).1, .nil⟩, ((h.2 w).1 hw).2⟩⟩
def onceMore (most : Int) (G L : List (List Int)) : List (List Int) := jsetL (L ++ jsetL (pairsL joinL most L G) most) most
theorem mem_once {most : Int} {G L : List (List Int)} {w : List Int} : w ∈ onceMore most G L ↔ (w ∈ L ∨ ∃ x ∈ L, ∃ y ∈ G, w = x ++ y) ∧ (w.length : Int) ≤ most := by
  unfold onceMore
  rw [jsetL_mem, List.mem_append, jsetL_mem, mem_pairs]
  constructor
  · rintro ⟨h | ⟨⟨x, hx, y, hy, _, h⟩, _⟩, hl⟩
    · exact ⟨.inl h, hl⟩
    · exact ⟨.inr ⟨x, hx, y, hy, List.mem_singleton.1 h⟩, hl⟩
  · rintro ⟨h | ⟨x, hx, y, hy, rfl⟩, hl⟩
    · exact ⟨.inl h, hl⟩
    · exact ⟨.inr ⟨⟨x, hx, y, hy, by rw [List.length_append] at hl; omega, List.mem_singleton.2 rfl⟩, hl⟩, hl⟩
theorem LoopI.next {X Y : List Int → Prop} {most : Int} {F G L : List (List Int)} (h : LoopI X Y most F L) (hG : ∀ w ∈ G, ∃ u v, w = u ++ v ∧ Y u ∧ X v) : LoopI X Y most F (onceMore most G L) := ⟨jsetL_asc _ _, fun w hw => mem_once.2 ⟨.inl (h.all w hw), (h.snd w (h.all w hw)).2⟩, fun w hw => by
  obtain ⟨hw | ⟨x, hx, y, hy, rfl⟩, hl⟩ := mem_once.1 hw
  · exact h.snd w hw
  · obtain ⟨⟨u, v, rfl, hu, hv⟩, _⟩ := h.snd x hx
    obtain ⟨p, q, rfl, hp, hq⟩ := hG y hy
    refine ⟨⟨u, v ++ (p ++ q), by simp, hu, rep_app hv ?_⟩, hl⟩
    have := Rep.more hp hq (.nil : Rep Y X [])
    simpa using this⟩
theorem LoopI.sub {X Y : List Int → Prop} {most : Int} {F G L : List (List Int)} (h : LoopI X Y most F L) : ∀ w ∈ L, w ∈ onceMore most G L := fun w hw => mem_once.2 ⟨.inl hw, (h.snd w hw).2⟩
theorem LoopI.grows {X Y : List Int → Prop} {most : Int} {F G L : List (List Int)} (h : LoopI X Y most F L) : L.length ≤ (onceMore most G L).length := h.asc.nodup.length_le_of_subset h.sub
theorem ascW_same {L M : List (List Int)} (hL : Asc L) (hM : Asc M) (h : ∀ w ∈ L, w ∈ M) (hl : M.length ≤ L.length) : L = M := by
  refine Asc.uniq hL hM (fun x => ⟨h x, fun hx => ?_⟩)
  by_cases hn : x ∈ L
  · exact hn
  · have hd : (x :: L).Nodup := List.nodup_cons.2 ⟨hn, hL.nodup⟩
    have := hd.length_le_of_subset (l₂ := M) (fun z hz => (List.mem_cons.1 hz).elim (fun e => e ▸ hx) (h z))
    rw [List.length_cons] at this
    omega
theorem LoopI.done {X Y : List Int → Prop} {most : Int} {F G L : List (List Int)} (h : LoopI X Y most F L) (hF : IsW X most F) (hG : IsW (fun w => ∃ u v, w = u ++ v ∧ Y u ∧ X v) most G) (hs : (onceMore most G L).length = L.length) : IsW (loopP X Y) most L ∧ onceMore most G L = L := by
  have e : L = onceMore most G L := ascW_same h.asc (jsetL_asc _ _) h.sub (by omega)
  refine ⟨⟨h.asc, fun w => ⟨h.snd w, ?_⟩⟩, e.symm⟩
  rintro ⟨⟨u, v, rfl, hu, hv⟩, hl⟩
  have key : ∀ {v : List Int}, Rep Y X v → ∀ u : List Int, u ∈ L → ((u ++ v).length : Int) ≤ most → u ++ v ∈ L := fun {v} hv => by
    induction hv with
    | nil => intro u hu _; simpa using hu
    | more h1 h2 _ ih =>
      rename_i x y v' _
      intro u hu hl
      have hg : x ++ y ∈ G := (hG.2 _).2 ⟨⟨x, y, rfl, h1, h2⟩, by simp only [List.length_append] at hl ⊢; omega⟩
      have hm : u ++ (x ++ y) ∈ L := by
        rw [e]
        exact mem_once.2 ⟨.inr ⟨u, hu, _, hg, rfl⟩, by simp only [List.length_append] at hl ⊢; omega⟩
      have := ih (u ++ (x ++ y)) hm (by simp only [List.length_append] at hl ⊢; omega)
      simpa using this
  refine key hv u (h.all u ((hF.2 u).2 ⟨hu, ?_⟩)) hl
  rw [List.length_append] at hl
  omega

/-! ### how many -/
def SumU (q : Nat) : Nat → (Nat → Nat) → Nat
  | 0, g => g 0
  | k + 1, g => g 0 + q * SumU q k (fun i => g (i + 1))
theorem sumU_le {q : Nat} : ∀ {k : Nat} {f g : Nat → Nat}, (∀ i, i ≤ k → f i ≤ g i) → SumU q k f ≤ SumU q k g
  | 0, f, g, h => h 0 (Nat.le_refl _)
  | k + 1, f, g, h => Nat.add_le_add (h 0 (by omega)) (Nat.mul_le_mul_left _ (sumU_le (fun i hi => h (i + 1) (by omega))))
theorem sumU_up {q p : Nat} (hq : q ≤ p) : ∀ {k : Nat} {f : Nat → Nat}, SumU q k f ≤ SumU p k f
  | 0, f => Nat.le_refl _
  | k + 1, f => Nat.add_le_add_left (Nat.mul_le_mul hq (sumU_up hq)) _
def sumL (g : Nat → Nat) (L : List (List Int)) : Nat := (L.map fun w => g w.length).sum
theorem sumL_app (g : Nat → Nat) (L M : List (List Int)) : sumL g (L ++ M) = sumL g L + sumL g M := by simp [sumL]
theorem sumL_cons (g : Nat → Nat) (w : List Int) (L : List (List Int)) : sumL g (w :: L) = g w.length + sumL g L := by simp [sumL]
theorem univW_sum {letters : List Int} : ∀ (k : Nat) (g : Nat → Nat), sumL g (univW letters k) = SumU letters.length k g
  | 0, g => by simp [sumL, univW, SumU]
  | k + 1, g => by
    have key : ∀ l : List Int, sumL g (l.flatMap fun a => (univW letters k).map fun w => a :: w) = l.length * SumU letters.length k (fun i => g (i + 1)) := fun l => by
      induction l with
      | nil => simp [sumL]
      | cons a l ih =>
        rw [List.flatMap_cons, sumL_app, ih, ← univW_sum k]
        have e : sumL g ((univW letters k).map fun w => a :: w) = sumL (fun i => g (i + 1)) (univW letters k) := by simp [sumL, Function.comp_def]
        rw [e, List.length_cons, Nat.add_mul, Nat.one_mul]
        omega
    rw [univW, sumL_cons, key, SumU]
    rfl
theorem sumL_sub {g : Nat → Nat} : ∀ {L M : List (List Int)}, L.Nodup → (∀ w ∈ L, w ∈ M) → sumL g L ≤ sumL g M
  | [], M, _, _ => by simp [sumL]
  | w :: L, M, hd, h => by
    obtain ⟨h1, h2⟩ := List.nodup_cons.1 hd
    have hp := List.perm_cons_erase (h w (by simp))
    have e : sumL g M = sumL g (w :: M.erase w) := by unfold sumL; exact (hp.map _).sum_nat
    rw [e, sumL_cons, sumL_cons]
    have := sumL_sub (g := g) (L := L) (M := M.erase w) h2 (fun x hx => (List.mem_erase_of_ne (fun e => h1 (by rw [← e]; exact hx))).2 (h x (by simp [hx])))
    omega
/-- Words of at most so many of some letters, each once. -/
structure Few (letters : List Int) (L : List (List Int)) : Prop where
  nd : L.Nodup
  len : ∀ w ∈ L, w.length ≤ 8
  let_ : ∀ w ∈ L, ∀ c ∈ w, c ∈ letters
theorem Few.sum {letters : List Int} {L : List (List Int)} (h : Few letters L) (g : Nat → Nat) : sumL g L ≤ SumU letters.length 8 g := by
  rw [← univW_sum]
  exact sumL_sub h.nd (fun w hw => mem_univW 8 w (h.len w hw) (h.let_ w hw))
theorem len_sum (L : List (List Int)) : L.length = sumL (fun _ => 1) L := by
  induction L with
  | nil => rfl
  | cons a L ih => rw [sumL_cons, List.length_cons, ih]; omega
theorem pairs_len {f : List Int → List Int → List (List Int)} {N : Nat → Nat → Nat} (hf : ∀ x y, (f x y).length ≤ N x.length y.length) {most : Int} (hm : most ≤ 8) {As Bs : List Int} {A B : List (List Int)} (hA : Few As A) (hB : Few Bs B) :
    (pairsL f most A B).length ≤ SumU As.length 8 fun i => SumU Bs.length 8 fun j => if i + j ≤ 8 then N i j else 0 := by
  have h1 : ∀ x : List Int, (B.flatMap fun y => pairL f most x y).length ≤ SumU Bs.length 8 fun j => if x.length + j ≤ 8 then N x.length j else 0 := fun x => by
    refine Nat.le_trans ?_ (hB.sum _)
    clear hB
    induction B with
    | nil => simp [sumL]
    | cons y B ih =>
      rw [List.flatMap_cons, List.length_append, sumL_cons]
      refine Nat.add_le_add ?_ ih
      unfold pairL
      split
      · rw [if_pos (by omega)]; exact hf x y
      · exact Nat.zero_le _
  refine Nat.le_trans ?_ (hA.sum _)
  clear hA
  unfold pairsL
  induction A with
  | nil => simp [sumL]
  | cons x A ih =>
    rw [List.flatMap_cons, List.length_append, sumL_cons]
    exact Nat.add_le_add (h1 x) ih
def totMix (p q : Nat) : Nat := SumU p 8 fun i => SumU q 8 fun j => if i + j ≤ 8 then mixN i j else 0
theorem totMix_up {p q p' q' : Nat} (hp : p ≤ p') (hq : q ≤ q') : totMix p q ≤ totMix p' q' := Nat.le_trans (sumU_up hp) (sumU_le (fun _ _ => sumU_up hq))
theorem totMix_39 : ∀ p, p < 40 → totMix p (39 - p) ≤ 5600000000000 := by decide +kernel
theorem totMix_right {p q : Nat} (h : p + q ≤ 39) : totMix p q ≤ 5600000000000 := Nat.le_trans (totMix_up (Nat.le_refl p) (q' := 39 - p) (by omega)) (totMix_39 p (by omega))
theorem tot_26 : (SumU 26 8 fun i => SumU 26 8 fun j => if i + j ≤ 8 then 1 else 0) ≤ 5600000000000 := by decide +kernel
theorem one_26 : SumU 26 8 (fun _ => 1) ≤ 1000000000000 := by decide +kernel
theorem join_len {most : Int} (hm : most ≤ 8) {As Bs : List Int} {A B : List (List Int)} (hA : Few As A) (hB : Few Bs B) (h : As.length + Bs.length ≤ 39) : (pairsL joinL most A B).length ≤ 5600000000000 :=
  Nat.le_trans (pairs_len (f := joinL) (N := mixN) (fun x y => mixN_pos x.length y.length) hm hA hB) (totMix_right h)
theorem mixes_len {most : Int} (hm : most ≤ 8) {As Bs : List Int} {A B : List (List Int)} (hA : Few As A) (hB : Few Bs B) (h : As.length + Bs.length ≤ 39) : (pairsL jmixL most A B).length ≤ 5600000000000 :=
  Nat.le_trans (pairs_len (N := mixN) (fun x y => Nat.le_of_eq (mix_len x y)) hm hA hB) (totMix_right h)
/-- The letters that there may be. -/
def abc : List Int := (List.range 26).map fun i => ((i + 1 : Nat) : Int)
theorem mem_abc {c : Int} (h : 1 ≤ c ∧ c ≤ 26) : c ∈ abc := List.mem_map.2 ⟨c.toNat - 1, List.mem_range.2 (by omega), by omega⟩
theorem join_26 {most : Int} (hm : most ≤ 8) {A B : List (List Int)} (hA : Few abc A) (hB : Few abc B) : (pairsL joinL most A B).length ≤ 5600000000000 :=
  Nat.le_trans (pairs_len (f := joinL) (N := fun _ _ => 1) (fun _ _ => Nat.le_refl 1) hm hA hB) tot_26
theorem few_26 {A : List (List Int)} (hA : Few abc A) : A.length ≤ 1000000000000 := by
  rw [len_sum]
  exact Nat.le_trans (hA.sum _) one_26
theorem IsW.few {X : List Int → Prop} {most : Int} {L : List (List Int)} (h : IsW X most L) (hm : most ≤ 8) {As : List Int} (hX : ∀ w, X w → ∀ c ∈ w, c ∈ As) : Few As L := ⟨h.1.nodup, fun w hw => by have := ((h.2 w).1 hw).2; omega, fun w hw => hX w ((h.2 w).1 hw).1⟩
end Go.Proofs.YtniolbbhjibobaaDoor
