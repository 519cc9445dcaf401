/- The tables that the reading of nets' texts leans on (laid by the program's own text), as one fact on memory that lasts. -/
import Derived.Test.YtcgdjpelcfofgaaDoorTextTellsK10
import Derived.Test.YtcgdjpelcfofgaaDoorTextTellsK21
import Derived.Test.YtcgdjpelcfofgaaDoorTextTellsK22
import Derived.Test.YtcgdjpelcfofgaaDoorTextTellsK23
import Derived.Test.YtcgdjpelcfofgaaDoorTextTellsK24
import Derived.Test.YtcgdjpelcfofgaaDoorTextTellsK02
import Derived.Lib.SmallJoins
set_option linter.all false
namespace Go.Proofs.YtcgdjpelcfofgaaDoor
open Go.RowKit Go.Sort

def TabsNow (w : World) : Prop := Lib.TabIs Tryd.prog w "internal/strconv.uint64pow10" .u64 Lib.pow10Tab ∧ Lib.TabIs Tryd.prog w "strings.asciiSpace" .u8 Lib.asciiSpaceTab ∧ Lib.WhiteTab 5 w ∧
  (∃ t p, w.cell? ⟨0, 0, none⟩ = some (.iface t p)) ∧ (∃ t p, w.cell? ⟨1, 0, none⟩ = some (.iface t p)) ∧ ∃ m, w.cell? ⟨4, 0, none⟩ = some (.int .i64 m)
theorem tabIs_keep {P : Program} {w w' : World} {n : String} {k : IntKind} {zs : List Int} (h : Lib.TabIs P w n k zs) (hb : Below w.heap.size w w') : Lib.TabIs P w' n k zs := by
  unfold Lib.TabIs World.var? at *
  cases hg : P.globalNamed n with
  | none => rw [hg] at h; cases h
  | some g =>
    rw [hg] at h
    simp only [Option.bind_some] at h ⊢
    cases hc : w.heap[g]? with
    | none => rw [hc] at h; cases h
    | some o =>
      have hlt : g < w.heap.size := (Array.getElem?_eq_some_iff.1 hc).1
      rw [hb.block g hlt]
      exact h
theorem keepC {w w' : World} {a : Addr} {v : Value} (hb : Below w.heap.size w w') (h : w.cell? a = some v) : w'.cell? a = some v := (hb.cell (World.block_lt_of_cell? _ _ h)).trans h
theorem TabsNow.keep {w w' : World} (h : TabsNow w) (hb : Below w.heap.size w w') : TabsNow w' := by
  obtain ⟨h1, h2, ⟨T, oT, R, oR, a1, a2, a3, a4, a5⟩, ⟨t1, p1, h4⟩, ⟨t2, p2, h5⟩, m, h6⟩ := h
  exact ⟨tabIs_keep h1 hb, tabIs_keep h2 hb, ⟨T, oT, R, oR, keepC hb a1, keepC hb a2, keepC hb a3, keepC hb a4, fun i hi => keepC hb (a5 i hi)⟩, ⟨t1, p1, keepC hb h4⟩, ⟨t2, p2, keepC hb h5⟩, m, keepC hb h6⟩
/-- The tables lie below block B. -/
def Tabs (B : Nat) (w : World) : Prop := B ≤ w.heap.size ∧ ∀ w', Below B w w' → TabsNow w'
theorem TabsNow.tabs {w : World} (h : TabsNow w) : Tabs w.heap.size w := ⟨Nat.le_refl _, fun _ hb => h.keep hb⟩
theorem Tabs.now {B : Nat} {w : World} (h : Tabs B w) : TabsNow w := h.2 w (Below.refl _ _)
theorem Tabs.keep {B : Nat} {w w' : World} (h : Tabs B w) (hb : Below B w w') : Tabs B w' := ⟨Nat.le_trans h.1 hb.size, fun _ hb2 => h.2 _ (hb.trans hb2)⟩
theorem Tabs.later {B : Nat} {w w' : World} (h : Tabs B w) (hb : Below w.heap.size w w') : Tabs B w' := h.keep (hb.mono h.1)
theorem Tabs.grown {B b : Nat} {w w' : World} (h : Tabs B w) (hg : w.grownBy w' (some b)) (hB : B ≤ b) : Tabs B w' := h.keep ((Below.refl B w).grown hg h.1 (fun k hk => by injection hk with hk; omega))
/-! ### numbers out of texts, and texts out of numbers -/
theorem below_grow1 (w : World) (k : Nat) (os : Array Obj) : Below w.heap.size w (grow (w.drewN k) os) := by
  refine ⟨rfl, rfl, rfl, by simp [grow], fun j hj => ?_⟩
  show (w.heap ++ os)[j]? = w.heap[j]?
  rw [Array.getElem?_append_left hj]
def AnsAt (d : List UInt8) (e : Ending) : Prop := ((atV d).2 = true ∧ e = .returned (.tuple #[.int .i64 (atV d).1, .nilIface])) ∨ ((atV d).2 = false ∧ ∃ t N, e = .returned (.tuple #[.int .i64 (atV d).1, .iface t (.pointer (some ⟨N, 0, none⟩))]))
theorem atoi_calls {w : World} {d : List UInt8} (hd : d.length ≤ 2000000) (T : TabsNow w) : Calls Tryd.prog 19 #[.string ⟨d.toArray⟩] w fun e w' => AnsAt d e ∧ Below w.heap.size w w' := by
  obtain ⟨_, _, _, ⟨t1, p1, h4⟩, ⟨t2, p2, h5⟩, _⟩ := T
  have hsz : (⟨d.toArray⟩ : ByteArray).size ≤ 2000000 := hd
  cases ha : Lib.atoiAll d with
  | ok v =>
    refine (strconv_Atoi_ok ⟨d.toArray⟩ (by omega) v ha w).mono ?_
    rintro e w' ⟨rfl, h⟩
    refine ⟨.inl ?_, ?_⟩
    · unfold atV
      rw [ha]
      exact ⟨rfl, rfl⟩
    · rcases h with rfl | ⟨t, rfl⟩
      · exact Below.refl _ _
      · exact Go.Joins.below_bytesWorld _ _ _ _ (Nat.le_refl _)
  | range =>
    refine (strconv_Atoi_range ⟨d.toArray⟩ (by omega) ha _ w h5 (.inr ⟨_, _, rfl⟩)).mono ?_
    rintro e w' ⟨N, rfl, _, _, hb⟩
    refine ⟨.inr ?_, hb⟩
    unfold atV
    rw [ha]
    exact ⟨rfl, _, N, rfl⟩
  | _ =>
    refine (strconv_Atoi_syntax ⟨d.toArray⟩ (by omega) ha _ w h4 (.inr ⟨_, _, rfl⟩)).mono ?_
    rintro e w' ⟨N, rfl, _, _, hb⟩
    refine ⟨.inr ?_, hb⟩
    unfold atV
    rw [ha]
    exact ⟨rfl, _, N, rfl⟩
theorem atV_range {d : List UInt8} (h : (atV d).2 = true) : -9223372036854775808 ≤ (atV d).1 ∧ (atV d).1 ≤ 9223372036854775807 := by
  unfold atV at *
  cases ha : Lib.atoiAll d with
  | ok v =>
    simp only
    unfold Lib.atoiAll at ha
    split at ha
    · cases ha
    · simp only at ha
      split at ha
      · cases ha
      · cases ha
      · split at ha
        · cases ha
        · split at ha
          · cases ha
          · rename_i h1 h2
            injection ha with ha
            split at ha
            · rename_i hn
              have : ¬ (9223372036854775808 : Nat) < _ := fun hh => h2 ⟨hn, hh⟩
              omega
            · rename_i hn
              have : ¬ (9223372036854775808 : Nat) ≤ _ := fun hh => h1 ⟨hn, hh⟩
              omega
  | range => rw [ha] at h; cases h
  | _ => rw [ha] at h; cases h
theorem itoa_calls {w : World} {n : Int} (h0 : -9223372036854775808 ≤ n) (h1 : n ≤ 9223372036854775807) (T : TabsNow w) : Calls Tryd.prog 11 #[.int .i64 n] w fun e w' => e = .returned (.string ⟨(Lib.itoa n).toArray⟩) ∧ Below w.heap.size w w' := by
  refine (strconv_Itoa n h0 h1 w T.1).mono ?_
  rintro e w' ⟨rfl, k, os, rfl⟩
  exact ⟨rfl, below_grow1 _ _ _⟩
theorem numT_at (d : List UInt8) : numT d = ((atV d).1, (atV d).2 && Lib.itoa (atV d).1 == d) := by
  unfold numT atV
  cases Lib.atoiAll d <;> simp
end Go.Proofs.YtcgdjpelcfofgaaDoor
