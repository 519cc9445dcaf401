/- Contracts of zip, Plus, Minus and their references, of ACovers and of slices.Equal on integers. Conditions: the slices read as lists of integers. -/
import Derived.Test.YtnfppolgaeibeaaMarkB
namespace Go.Proofs.Ytnfppolgaeibeaa
open Go.RowKit

/-- Function F makes one number of two, or says what is wrong (E), and leaves the world alone. -/
structure IsZip (F : FuncId) (f : Int → Int → Int × Int) (E : Int) : Prop where
  enters : ∀ args w, (callFunc F args).run Try.prog w = .ok (.enter F args) w
  calls : ∀ x y w, 0 ≤ x → x ≤ 1000000 → 0 ≤ y → y ≤ 1000000 → Calls Try.prog F #[.int .i64 x, .int .i64 y] w fun e w' => e = .returned (.tuple #[.int .i64 (f x y).1, .int .i64 (f x y).2]) ∧ w = w'
  err : ∀ x y, (f x y).2 = 0 ∨ (f x y).2 = E
  ne : 0 < E

/-- Where the slice lies, nothing was before. -/
def Fresh (w : World) (C : Option Addr) : Prop := ∀ a, C = some a → w.heap.size ≤ a.block
theorem Fresh.none {w : World} : Fresh w none := fun _ h => by cases h
theorem Fresh.at {w : World} {b off : Nat} {s : Option Nat} (h : w.heap.size ≤ b) : Fresh w (some ⟨b, off, s⟩) := fun a e => by injection e with e; subst e; exact h
theorem Fresh.mono {w w' : World} {C : Option Addr} (h : Fresh w' C) (hs : w.heap.size ≤ w'.heap.size) : Fresh w C := fun a e => Nat.le_trans hs (h a e)

set_option maxRecDepth 100000 in
set_option maxHeartbeats 400000 in
theorem zip_calls {w : World} {A B : Option Addr} {n c m d : Nat} {xs ys : List Int} (h : Ints w A n c xs) (g : Ints w B m d ys) {F : FuncId} {f : Int → Int → Int × Int} {E : Int} (hf : IsZip F f E) (hM8 : max n m * 8 ≤ 140737488355328) :
    Calls Try.prog 166 #[.slice A n c, .slice B m d, .func (.func F) #[] #[]] w fun e w' => ∃ C l k, e = .returned (.tuple #[.slice C l k, .int .i64 (zipL f E xs ys).2]) ∧ Ints w' C l k (zipL f E xs ys).1 ∧ Below w.heap.size w w' ∧ Fresh w C := by
  have hn := h.small
  have hm := g.small
  obtain ⟨M, hM⟩ : ∃ M : Nat, max n m = M := ⟨_, rfl⟩
  have hMb : M ≤ 281474976710656 := by omega
  have hM8' : M * 8 ≤ 140737488355328 := by omega
  have hmx : max (n : Int) (m : Int) = (M : Int) := by omega
  have hlen : max xs.length ys.length = M := by rw [h.len, g.len, hM]
  have HL := hide2 hlen
  clear hM hM8 hlen
  cases hx : rightB xs
  · have H0 := hide2 hx
    have FIN := hide2 (show zipL f E xs ys = ([], 2) from by rw [zipL, if_neg (by rw [hx]; simp)])
    clear hx hmx
    go_enter Try.func166, Try.ntmps166
    go_wp2_with ((with_reducible refine (right_calls h).mono ?_); rintro e w' ⟨rfl, rfl⟩; rw [H0.out])
    go_ret2
    exact ⟨none, 0, 0, by rw [FIN.out]; rfl, by rw [FIN.out]; exact Sl.nil0, Below.refl _ _, Fresh.none⟩
  · cases hy : rightB ys
    · have H0 := hide2 hx
      have H1 := hide2 hy
      have FIN := hide2 (show zipL f E xs ys = ([], 2) from by rw [zipL, if_neg (by rw [hy]; simp)])
      clear hx hy hmx
      go_enter Try.func166, Try.ntmps166
      go_wp2_with fail
      refine (right_calls h).mono ?_; rintro e w' ⟨rfl, rfl⟩; rw [H0.out]
      go_wp2_with fail
      refine (right_calls g).mono ?_; rintro e w' ⟨rfl, rfl⟩; rw [H1.out]
      go_wp2
      go_ret2
      exact ⟨none, 0, 0, by rw [FIN.out]; rfl, by rw [FIN.out]; exact Sl.nil0, Below.refl _ _, Fresh.none⟩
    · have H0 := hide2 hx
      have H1 := hide2 hy
      clear hx hy
      go_enter Try.func166, Try.ntmps166
      go_wp2_with fail
      refine (right_calls h).mono ?_; rintro e w' ⟨rfl, rfl⟩; rw [H0.out]
      go_wp2_with fail
      refine (right_calls g).mono ?_; rintro e w' ⟨rfl, rfl⟩; rw [H1.out]
      go_wp2_with (at_make; refine wpList_mk Try.underlying35 infoInt rfl rfl _ _ rfl M rfl rfl rfl rfl hMb (by omega) (Below.refl _ _) (Nat.le_refl _) ?_; intro w1 own1 hg1 hb1)
      clear hmx
      have hg := w.heap.size
      go_loopw [28] (fun i wr => ∃ k : Nat, k ≤ M ∧ i = .int .i64 k ∧ wr.ownsRow w.heap.size 3 1 (.slice (some ⟨w.heap.size, 0, none⟩) M M) M (((zipV f xs ys).take k ++ List.replicate (M - k) 0).map (Value.int .i64)) ∧ Below w.heap.size w wr ∧ Hid (∀ j, j < k → (f (atL xs j) (atL ys j)).2 = 0)) (fun i _ => M - (intOf i).toNat)
      case atStart => exact ⟨0, Nat.zero_le _, rfl, by simpa using own1, hb1, fun j hj => absurd hj (by omega)⟩
      case round =>
        obtain ⟨k, hk, rfl, own, hb, hok⟩ := hrel
        by_cases hlt : k < M
        · have b1 := atL_right H0.out k
          have b2 := atL_right H1.out k
          have h' := h.keep hb
          have g' := g.keep hb
          have hcell : ∃ u, wr.cell? ⟨w.heap.size, k, none⟩ = some u := by
            have hl : (((zipV f xs ys).take k ++ List.replicate (M - k) 0).map (Value.int .i64)).length = M := by simpa using own.1
            exact ⟨_, (own.cellAt k (by omega)).trans (List.getElem?_eq_getElem (by omega))⟩
          obtain ⟨u, hcell⟩ := hcell
          have hfz : wr.frozen? ⟨w.heap.size, k, none⟩ = false := own.frozenAt k
          have hst := own.stored k (.int .i64 (f (atL xs k) (atL ys k)).1)
          have HST := hide2 hst
          have hent := hf.enters
          have hcl := hf.calls
          have HC := hide2 hcl
          clear h g hst hcl own
          rcases hf.err (atL xs k) (atL ys k) with he | he
          · have HE := hide2 he
            clear he
            go_wp2_with (first
              | ((with_reducible refine (at_calls h' k).mono ?_); rintro e w' ⟨rfl, rfl⟩)
              | ((with_reducible refine (at_calls g' k).mono ?_); rintro e w' ⟨rfl, rfl⟩)
              | (refine (HC.out _ _ _ b1.1 b1.2 b2.1 b2.2).mono ?_; rintro e w' ⟨rfl, rfl⟩; rw [HE.out]))
            go_roundw
            case rel =>
              refine ⟨k + 1, by omega, by go_num, ?_, hb.setCell (Nat.le_refl _) _, fun j hj => ?_⟩
              · have := HST.out.1
                have e : ((((zipV f xs ys).take k ++ List.replicate (M - k) 0).map (Value.int .i64)).set k (.int .i64 (f (atL xs k) (atL ys k)).1)) = (((zipV f xs ys).take (k + 1) ++ List.replicate (M - (k + 1)) 0).map (Value.int .i64)) := by
                  have hz : (zipV f xs ys).length = M := by rw [zipV_length, HL.out]
                  rw [take_snoc (zipV_get (by rw [HL.out]; exact hlt)), ← List.map_set]
                  congr 1
                  rw [List.set_append_right _ _ (by simp; omega)]
                  have hm : k - (List.take k (zipV f xs ys)).length = 0 := by simp; omega
                  rw [hm]
                  obtain ⟨q, hq⟩ : ∃ q, M - k = q + 1 := ⟨M - k - 1, by omega⟩
                  rw [hq, List.replicate_succ, show M - (k + 1) = q from by omega]
                  simp
                rw [e] at this
                exact this
              · by_cases hjk : j = k
                · subst hjk; exact HE.out
                · exact hok.out j (by omega)
            case measure => simp [intOf]; omega
          · have HE := hide2 he
            have hE := hf.ne
            have hE0 : ¬ E = 0 := by omega
            have FIN := hide2 (show zipL f E xs ys = ([], E) from by rw [zipL, if_pos ⟨H0.out, H1.out⟩, zipOk_not (p := k) (by rw [HL.out]; exact hlt) (by rw [he]; exact hE0)]; rfl)
            clear he hok hf
            go_wp2_with (first
              | ((with_reducible refine (at_calls h' k).mono ?_); rintro e w' ⟨rfl, rfl⟩)
              | ((with_reducible refine (at_calls g' k).mono ?_); rintro e w' ⟨rfl, rfl⟩)
              | (refine (HC.out _ _ _ b1.1 b1.2 b2.1 b2.2).mono ?_; rintro e w' ⟨rfl, rfl⟩; rw [HE.out]))
            go_ret2
            exact ⟨none, 0, 0, by rw [FIN.out]; rfl, by rw [FIN.out]; exact Sl.nil0, hb, Fresh.none⟩
        · obtain rfl : k = M := by omega
          have hall := hide2 (show zipL f E xs ys = (zipV f xs ys, 0) from by rw [zipL, if_pos ⟨H0.out, H1.out⟩, if_pos (zipOk_all (fun p hp => hok.out p (by rw [HL.out] at hp; exact hp)))])
          have hfull := hide2 (show (zipV f xs ys).take k ++ List.replicate (k - k) 0 = zipV f xs ys from by rw [Nat.sub_self, List.replicate_zero, List.append_nil]; exact List.take_of_length_le (by rw [zipV_length, HL.out]; exact Nat.le_refl _))
          have ownH := hide2 own
          clear own hok
          go_wp2
          go_ret2
          have own2 := ownH.out
          rw [hfull.out] at own2
          obtain ⟨C, cc, hv, hi⟩ := Ints.of_own own2 hMb
          injection hv with hC hk' hc
          subst hC hc
          exact ⟨_, _, _, by rw [hall.out]; rfl, by rw [hall.out]; exact hi, hb, Fresh.at (Nat.le_refl _)⟩

theorem plusF_zip : IsZip 168 plusF 4 where
  enters := fun args w => by kernel_rfl
  calls := fun x y w h1 h2 h3 h4 => by
    by_cases hc : 1000000 < x + y
    · go_enter Try.func168, Try.ntmps168
      go_wp2
      go_ret2
      exact ⟨by unfold plusF; rw [if_pos hc]; rfl, rfl⟩
    · go_enter Try.func168, Try.ntmps168
      go_wp2
      go_ret2
      exact ⟨by unfold plusF; rw [if_neg (by omega)]; rfl, rfl⟩
  err := fun x y => by unfold plusF; split <;> simp
  ne := by decide
theorem minusF_zip : IsZip 167 minusF 3 where
  enters := fun args w => by kernel_rfl
  calls := fun x y w h1 h2 h3 h4 => by
    by_cases hc : x < y
    · go_enter Try.func167, Try.ntmps167
      go_wp2
      go_ret2
      exact ⟨by unfold minusF; rw [if_pos hc]; rfl, rfl⟩
    · go_enter Try.func167, Try.ntmps167
      go_wp2
      go_ret2
      exact ⟨by unfold minusF; rw [if_neg (by omega)]; rfl, rfl⟩
  err := fun x y => by unfold minusF; split <;> simp
  ne := by decide

/-- What a call answers that hands back a list of integers and what is wrong. -/
def AnsIE (p : List Int × Int) (w : World) (e : Ending) (w' : World) : Prop :=
  ∃ C l k, e = .returned (.tuple #[.slice C l k, .int .i64 p.2]) ∧ Ints w' C l k p.1 ∧ Below w.heap.size w w'
/-- The same, the list being new. -/
def AnsIEF (p : List Int × Int) (w : World) (e : Ending) (w' : World) : Prop :=
  ∃ C l k, e = .returned (.tuple #[.slice C l k, .int .i64 p.2]) ∧ Ints w' C l k p.1 ∧ Below w.heap.size w w' ∧ Fresh w C
theorem AnsIEF.ie {p : List Int × Int} {w w' : World} {e : Ending} : AnsIEF p w e w' → AnsIE p w e w' := fun ⟨C, l, k, h1, h2, h3, _⟩ => ⟨C, l, k, h1, h2, h3⟩

theorem plusF_calls {w : World} {A B : Option Addr} {n c m d : Nat} {xs ys : List Int} (h : Ints w A n c xs) (g : Ints w B m d ys) (hM8 : max n m * 8 ≤ 140737488355328) :
    Calls Try.prog 156 #[.slice A n c, .slice B m d] w (AnsIEF (plusL xs ys) w) := by
  go_enter Try.func156, Try.ntmps156
  go_wp2_with fail
  refine (zip_calls h g plusF_zip hM8).mono ?_
  rintro e w' ⟨C, l, k, rfl, hi, hb, hf⟩
  have HF := hide2 hf
  clear hf
  go_wp2
  go_ret2
  rw [zipL_plus] at hi
  exact ⟨C, l, k, by rw [← zipL_plus]; rfl, hi, hb, HF.out⟩
theorem minusF_calls {w : World} {A B : Option Addr} {n c m d : Nat} {xs ys : List Int} (h : Ints w A n c xs) (g : Ints w B m d ys) (hM8 : max n m * 8 ≤ 140737488355328) :
    Calls Try.prog 155 #[.slice A n c, .slice B m d] w (AnsIEF (minusL xs ys) w) := by
  go_enter Try.func155, Try.ntmps155
  go_wp2_with fail
  refine (zip_calls h g minusF_zip hM8).mono ?_
  rintro e w' ⟨C, l, k, rfl, hi, hb, hf⟩
  have HF := hide2 hf
  clear hf
  go_wp2
  go_ret2
  rw [zipL_minus] at hi
  exact ⟨C, l, k, by rw [← zipL_minus]; rfl, hi, hb, HF.out⟩
theorem plus_calls {w : World} {A B : Option Addr} {n c m d : Nat} {xs ys : List Int} (h : Ints w A n c xs) (g : Ints w B m d ys) (hM8 : max n m * 8 ≤ 140737488355328) :
    Calls Try.prog 156 #[.slice A n c, .slice B m d] w (AnsIE (plusL xs ys) w) := (plusF_calls h g hM8).mono fun _ _ => AnsIEF.ie
theorem minus_calls {w : World} {A B : Option Addr} {n c m d : Nat} {xs ys : List Int} (h : Ints w A n c xs) (g : Ints w B m d ys) (hM8 : max n m * 8 ≤ 140737488355328) :
    Calls Try.prog 155 #[.slice A n c, .slice B m d] w (AnsIE (minusL xs ys) w) := (minusF_calls h g hM8).mono fun _ _ => AnsIEF.ie
end Go.Proofs.Ytnfppolgaeibeaa
