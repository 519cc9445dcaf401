/- Texts melted into one: slices.SortStableFunc on rows of lists. Conditions: the row is the call's own, as its lists are, and has at most twenty-six; of two lists that differ the comparison puts exactly one first. | The functions that mine hands on: what is linked, what leads, what is asked of a trace. Conditions: the log reads as lists and prints. | The functions that mine hands on: the comparison of groups, what is asked of a trace, of a group. Conditions: the log reads as lists and prints. | mine's choose, and what beside asks of a group. Conditions: the log reads as lists and prints, no trace is empty; what is found with less fuel is told. -/
import Derived.Test.YtcopnfdknclhnaaGreatMineTellsK33
import Derived.Test.YtcopnfdknclhnaaGreatMineTellsK29
import Derived.Deep.RegionHeld3
import Derived.Test.YtcopnfdknclhnaaGreatMineTellsK04
namespace Go.Proofs.YtcopnfdknclhnaaGreat
open Go.RowKit

/-- What a sorted row is. -/
def AnsSrt (w w0 : World) (B B2 g n cap : Nat) (f : Nat → List Int) (R : List Int → List Int → Prop) (S : List Int → Prop) : Prop := (∃ q, RowF w B B2 g n cap q ∧ GoodF S q n ∧ SegF R q 0 n ∧ SameF q f 0 n) ∧ w0.grownBy w (some g)

set_option maxRecDepth 100000 in
set_option maxHeartbeats 8000000 in
theorem stableL_calls {w : World} {B B2 g n cap : Nat} {f : Nat → List Int} {F : FuncId} {cv : Array Value} {R : List Int → List Int → Prop} {S : List Int → Prop} (own : RowF w B B2 g n cap f) (hn : n ≤ 26) (o : OrdF R S) (G : GoodF S f n) (hF : IsCmpG F cv w g R S) :
    Calls Tryz.prog 81 #[.slice (some ⟨g, 0, none⟩) n cap, .int .i64 n, .func (.func F) #[] cv] w fun e w' => (∃ y, e = .returned y) ∧ AnsSrt w' w B B2 g n cap f R S := by
  have OW := hide2 own
  have HF := hide2 hF
  have HO := hide2 o
  have GD := hide2 G
  clear own hF o G
  have h40 : ¬ (40 : Int) ≤ (n : Int) := by omega
  have hw20 : IntKind.i64.wrap (20 : Int) = 20 := by decide
  have hw40 : IntKind.i64.wrap (40 : Int) = 40 := by decide
  go_enter Tryz.func81, Tryz.ntmps81
  go_wp2
  go_loopg [7, 8] 1 (fun gk u v wr => (u = .int .i64 0 ∧ v = .int .i64 20 ∧ 0 < gk ∧ Hid (RowF wr B B2 g n cap f) ∧ Hid (w.grownBy wr (some g))) ∨ (u = .int .i64 20 ∧ v = .int .i64 40 ∧ Hid (20 ≤ n ∧ ∃ q, RowF wr B B2 g n cap q ∧ GoodF S q n ∧ SegF R q 0 20 ∧ SameF q f 0 20) ∧ Hid (w.grownBy wr (some g))))
  case atStart => exact .inl ⟨rfl, rfl, by omega, OW, hide2 (World.grownBy.refl _ _)⟩
  case round =>
    clear OW
    rcases hrel with ⟨rfl, rfl, hgk, OL, GR⟩ | ⟨rfl, rfl, QQ, GR⟩
    · by_cases hlt : 20 ≤ n
      · have hlti : (20 : Int) ≤ (n : Int) := by omega
        have CR := hide2 (insertL_calls OL.out 0 20 (by omega) hlt (by omega) HO.out GD.out (HF.out.later GR.out))
        have HL := hide2 (And.intro hlt (show gk - 1 < gk by omega))
        clear hlt hgk
        go_wp2_with fail
        refine CR.out.mono ?_
        rintro e w1 ⟨⟨y, rfl⟩, o1, g1⟩
        have QQ := hide2 (show 20 ≤ n ∧ ∃ q, RowF w1 B B2 g n cap q ∧ GoodF S q n ∧ SegF R q 0 20 ∧ SameF q f 0 20 from ⟨HL.out.1, o1⟩)
        have G1 := hide2 (GR.out.trans g1)
        clear o1 g1 OL GR CR
        go_wp2
        go_roundg (gk - 1)
        case measure => exact HL.out.2
        case rel => exact .inr ⟨rfl, rfl, QQ, G1⟩
      · have hlti : ¬ (20 : Int) ≤ (n : Int) := by omega
        have h20 : ¬ (20 : Int) < (n : Int) := by omega
        have CR := hide2 (insertL_calls OL.out 0 n (by omega) (Nat.le_refl _) (by omega) HO.out GD.out (HF.out.later GR.out))
        clear hlt
        go_wp2_with fail
        refine CR.out.mono ?_
        rintro e w1 ⟨⟨y, rfl⟩, o1, g1⟩
        have AN := hide2 (show AnsSrt w1 w B B2 g n cap f R S from ⟨o1, GR.out.trans g1⟩)
        clear o1 g1 OL GR CR
        go_wp2
        go_loopg [6] 0 (fun gk u wr => u = .int .i64 20 ∧ Hid (AnsSrt wr w B B2 g n cap f R S))
        case atStart => exact ⟨rfl, AN⟩
        case round =>
          clear AN
          obtain ⟨rfl, AN⟩ := hrel
          go_wp2
          exact bodyPost_end (v := .tuple #[]) (by simp [results, Tryz.results81, go_sem]) rfl ⟨⟨_, rfl⟩, AN.out⟩
    · obtain ⟨L20, q, r1, r2, r3, r4⟩ := QQ.out
      have CR := hide2 (insertL_calls r1 20 n L20 (Nat.le_refl _) (by omega) HO.out r2 (HF.out.later GR.out))
      have SG := hide2 (And.intro r3 r4)
      have L20 := hide2 L20
      clear QQ r1 r2 r3 r4
      go_wp2_with fail
      refine CR.out.mono ?_
      rintro e w1 ⟨⟨y, rfl⟩, ⟨q2, o1, o2, o3, o4⟩, g1⟩
      have O1 := hide2 o1
      have Q2 := hide2 (show GoodF S q2 n ∧ SegF R q2 0 20 ∧ SegF R q2 20 n ∧ SameF q2 f 0 n from ⟨o2, SG.out.1.same (fun k h1 h2 => o4.out k (by omega)), o3, (o4.wide (Nat.zero_le _) (Nat.le_refl _)).trans (SG.out.2.wide (Nat.le_refl _) L20.out)⟩)
      have G1 := hide2 (GR.out.trans g1)
      clear o1 o2 o3 o4 g1 GR CR SG
      go_wp2
      go_loopg [6] 1 (fun gk u wr => (u = .int .i64 20 ∧ 0 < gk ∧ Hid (RowF wr B B2 g n cap q2) ∧ Hid (w.grownBy wr (some g))) ∨ (u = .int .i64 40 ∧ Hid (AnsSrt wr w B B2 g n cap f R S)))
      case atStart => exact .inl ⟨rfl, by omega, O1, G1⟩
      case round =>
        clear O1 G1
        rcases hrel with ⟨rfl, hgk, OL, GR⟩ | ⟨rfl, AN⟩
        · by_cases hlt : 20 < n
          · have hlti : (20 : Int) < (n : Int) := by omega
            have CR := hide2 (fun (wx : World) (OX : RowF wx B B2 g n cap q2) (GX : w.grownBy wx (some g)) => symMerge_calls (by omega) HO.out n wx q2 0 20 n (by omega) (by omega) hlt (Nat.le_refl _) OX Q2.out.1 (HF.out.later GX) Q2.out.2.1 Q2.out.2.2.1)
            have HG := hide2 (show gk - 1 < gk by omega)
            clear hlt hgk
            obtain ⟨go, hgo⟩ : ∃ go : Nat, go = gk := ⟨_, rfl⟩
            subst hgo
            go_wp2
            go_loopg [7, 8] 0 (fun gk u v wr => u = .int .i64 0 ∧ v = .int .i64 40 ∧ Hid (RowF wr B B2 g n cap q2) ∧ Hid (w.grownBy wr (some g)))
            case atStart => exact ⟨rfl, rfl, OL, GR⟩
            case round =>
              clear OL GR
              obtain ⟨rfl, rfl, OL, GR⟩ := hrel
              have CR := hide2 (CR.out wr OL.out GR.out)
              go_wp2_with fail
              refine CR.out.mono ?_
              rintro e w1 ⟨⟨y, rfl⟩, ⟨q3, o1, o2, o3, o4⟩, g1⟩
              have AN := hide2 (show AnsSrt w1 w B B2 g n cap f R S from ⟨⟨q3, o1, o2, o3, o4.trans Q2.out.2.2.2⟩, GR.out.trans g1⟩)
              clear o1 o2 o3 o4 g1 OL GR CR
              go_wp2
              go_roundg (go - 1)
              case measure => exact HG.out
              case rel => exact .inr ⟨rfl, AN⟩
          · have hlti : ¬ (20 : Int) < (n : Int) := by omega
            have AN := hide2 (show AnsSrt wr w B B2 g n cap f R S from ⟨⟨q2, OL.out, Q2.out.1, (by have h := Q2.out.2.1; rwa [show n = 20 by have := L20.out; omega]), Q2.out.2.2.2⟩, GR.out⟩)
            clear hlt
            go_wp2
            exact bodyPost_end (v := .tuple #[]) (by simp [results, Tryz.results81, go_sem]) rfl ⟨⟨_, rfl⟩, AN.out⟩
        · go_wp2
          exact bodyPost_end (v := .tuple #[]) (by simp [results, Tryz.results81, go_sem]) rfl ⟨⟨_, rfl⟩, AN.out⟩

set_option maxRecDepth 100000 in
theorem sortStableL_calls {w : World} {B B2 g n cap : Nat} {f : Nat → List Int} {F : FuncId} {cv : Array Value} {R : List Int → List Int → Prop} {S : List Int → Prop} (own : RowF w B B2 g n cap f) (hn : n ≤ 26) (o : OrdF R S) (G : GoodF S f n) (hF : IsCmpG F cv w g R S) :
    Calls Tryz.prog 55 #[.slice (some ⟨g, 0, none⟩) n cap, .func (.func F) #[] cv] w fun e w' => (∃ y, e = .returned y) ∧ AnsSrt w' w B B2 g n cap f R S := by
  have CR := hide2 (stableL_calls own hn o G hF)
  clear own hF o G
  go_enter Tryz.func55, Tryz.ntmps55
  go_wp2_with fail
  refine CR.out.mono ?_
  rintro e w1 ⟨⟨y, rfl⟩, h⟩
  have AN := hide2 h
  clear h CR
  go_wp2
  exact bodyPost_end (v := .tuple #[]) (by simp [results, Tryz.results55, go_sem]) rfl ⟨⟨_, rfl⟩, AN.out⟩
end Go.Proofs.YtcopnfdknclhnaaGreat
namespace Go.Proofs.YtcopnfdknclhnaaGreat
open Go.RowKit Go.Maps

section
variable {w : World} {A A1 A2 A3 A4 : Option Addr} {n c n1 c1 n2 c2 n3 c3 n4 c4 : Nat} {log : List (List Int)} {p : PPrints}
theorem behind_lk (ls : List Int) (h : LogI w A A1 A2 A3 A4 n c n1 c1 n2 c2 n3 c3 n4 c4 log p) : IsLk 51 #[logV A A1 A2 A3 A4 n c n1 c1 n2 c2 n3 c3 n4 c4] #[] w ls (bhB p) where
  enters := fun args w => by kernel_rfl
  calls := fun wr a b _ _ hb => by simpa using behind_calls a b (h.keep hb)
set_option maxRecDepth 100000 in
theorem beside1_lk (ls : List Int) {bx : Nat} (h : LogI w A A1 A2 A3 A4 n c n1 c1 n2 c2 n3 c3 n4 c4 log p) (x : Box w bx 47 #[.slice A n c, .slice A1 n1 c1, .slice A2 n2 c2, .slice A3 n3 c3, .slice A4 n4 c4]) : IsLk 58 #[] #[.pointer (some ⟨bx, 0, none⟩)] w ls (awayB p) where
  enters := fun args w => by kernel_rfl
  calls := fun wr a b _ _ hb => by
    have H := hide2 (h.keep hb)
    have X := hide2 (x.keep hb)
    clear h x hb
    simp only [Array.empty_append]
    change Calls _ _ #[.int .i64 a, .int .i64 b, .pointer (some ⟨bx, 0, none⟩)] _ _
    have x0 := X.out.cell 0
    have x1 := X.out.cell 1
    have x2 := X.out.cell 2
    have x3 := X.out.cell 3
    have x4 := X.out.cell 4
    obtain ⟨v, hv⟩ : ∃ v, bhB p a b = v := ⟨_, rfl⟩
    have HV := hide2 hv
    have C1 := hide2 (behind_calls a b H.out)
    rw [hv] at C1
    clear hv
    cases v
    · go_enter Tryz.func58, Tryz.ntmps58
      go_wp2_with fail
      refine C1.out.mono ?_
      rintro e w2 ⟨rfl, hb⟩
      have HB := hide2 hb
      clear hb
      go_wp2
      go_ret
      exact ⟨ret_bool (by unfold awayB; rw [HV.out]; rfl), HB.out⟩
    · go_enter Tryz.func58, Tryz.ntmps58
      go_wp2_with fail
      refine C1.out.mono ?_
      rintro e w2 ⟨rfl, hb⟩
      have HB := hide2 hb
      have C2 := hide2 (behind_calls b a (H.out.keep hb))
      have X2 := X.out.keep hb
      have x0 := X2.cell 0
      have x1 := X2.cell 1
      have x2 := X2.cell 2
      have x3 := X2.cell 3
      have x4 := X2.cell 4
      clear hb
      go_wp2_with fail
      refine C2.out.mono ?_
      rintro e w3 ⟨rfl, hb3⟩
      have H3 := hide2 (HB.out.trans (hb3.mono HB.out.size))
      clear hb3
      go_wp2
      go_ret
      exact ⟨ret_bool (by unfold awayB; rw [HV.out]; rfl), H3.out⟩
end
/-- The function that tells what leads to what. -/
structure LdF (w : World) (b bm : Nat) (S : Int → Int → Bool) : Prop where
  x : Box w b 92 #[.map (some bm)]
  m : ∃ q, MapS w bm S q
theorem LdF.keep {w w' : World} {b bm : Nat} {S : Int → Int → Bool} (h : LdF w b bm S) (hb : Below w.heap.size w w') : LdF w' b bm S := ⟨h.x.keep hb, by obtain ⟨q, m⟩ := h.m; exact ⟨q, m.keep hb⟩⟩
abbrev ldV (b : Nat) : Value := .func (.func 80) #[] #[.pointer (some ⟨b, 0, none⟩)]
set_option maxRecDepth 100000 in
theorem lead1_calls {w : World} {b bm : Nat} {S : Int → Int → Bool} (h : LdF w b bm S) {x y : Int} (hx : okI x) (hy : okI y) :
    Calls Tryz.prog 80 #[.int .i64 x, .int .i64 y, .pointer (some ⟨b, 0, none⟩)] w fun e w' => e = .returned (.bool (S x y)) ∧ w = w' := by
  obtain ⟨q, m⟩ := h.m
  obtain ⟨v, hv⟩ : ∃ v, S x y = v := ⟨_, rfl⟩
  have lk := MapS.look1 m hx hy hv
  have x0 := h.x.cell 0
  rw [hv]
  clear h m hv hx hy
  cases v
  · go_enter Tryz.func80, Tryz.ntmps80
    go_wp2
    go_ret
    exact ⟨rfl, rfl⟩
  · go_enter Tryz.func80, Tryz.ntmps80
    go_wp2
    go_ret
    exact ⟨rfl, rfl⟩
set_option maxRecDepth 100000 in
theorem order1_lk {w : World} {ls : List Int} {bx b bm : Nat} {S : Int → Int → Bool} (hl : ∀ a ∈ ls, okI a) (x : Box w bx 58 #[ldV b]) (h : LdF w b bm S) : IsLk 54 #[] #[.pointer (some ⟨bx, 0, none⟩)] w ls (alikeB S) where
  enters := fun args w => by kernel_rfl
  calls := fun wr a b2 ha hb2 hb => by
    have C1 := hide2 (fun (w2 : World) (hq : Below w.heap.size w w2) => lead1_calls (h.keep hq) (hl a ha) (hl b2 hb2))
    have C2 := hide2 (fun (w2 : World) (hq : Below w.heap.size w w2) => lead1_calls (h.keep hq) (hl b2 hb2) (hl a ha))
    have X := hide2 (x.keep hb)
    have BD := hide2 (hb.trans ((Below.refl wr.heap.size wr).drew.mono hb.size))
    clear h x hb hl ha hb2
    simp only [Array.empty_append]
    change Calls _ _ #[.int .i64 a, .int .i64 b2, .pointer (some ⟨bx, 0, none⟩)] _ _
    have x0 := X.out.cell 0
    go_enter Tryz.func54, Tryz.ntmps54
    go_wp2_with fail
    go_region_held3 (fun w' => w'.cell? ⟨bx, 0, none⟩ = some (ldV b))
      (first | go_keep)
      (first
        | (go_at_call 80; (with_reducible refine (C1.out wr.drew BD.out).mono ?_); rintro e w' ⟨rfl, rfl⟩)
        | (go_at_call 80; (with_reducible refine (C2.out wr.drew BD.out).mono ?_); rintro e w' ⟨rfl, rfl⟩))
    go_wp2
    go_ret
    exact ⟨ret_bool rfl, (Below.refl _ _).drew⟩
end Go.Proofs.YtcopnfdknclhnaaGreat
namespace Go.Proofs.YtcopnfdknclhnaaGreat
open Go.RowKit Go.Maps

theorem LdF.grown {w w' : World} {b bm : Nat} {S : Int → Int → Bool} {row : Option Nat} (h : LdF w b bm S) (hg : w.grownBy w' row) (h1 : row ≠ some b) (h2 : row ≠ some bm) : LdF w' b bm S :=
  ⟨h.x.grown hg h1, by obtain ⟨q, m⟩ := h.m; exact ⟨q, m.beside hg (Ne.symm h2)⟩⟩
set_option maxRecDepth 100000 in
set_option maxHeartbeats 1000000 in
theorem order2_cmp {w : World} {G : List (List Int)} {g bx b bm : Nat} {S : Int → Int → Bool} (hG : ∀ x ∈ G, x ≠ [] ∧ ∀ a ∈ x, okI a) (x : Box w bx 58 #[ldV b]) (h : LdF w b bm S) (h0 : bx ≠ g) (h1 : b ≠ g) (h2 : bm ≠ g) : IsCmpG 56 #[.pointer (some ⟨bx, 0, none⟩)] w g (ltG S) (fun x => x ∈ G) where
  enters := fun args w => by kernel_rfl
  calls := fun wr A B n c m d l r hg il ir hl hr _ => by
    obtain ⟨xl, tl, rfl⟩ : ∃ a t, l = a :: t := by
      cases l with
      | nil => exact absurd rfl (hG _ hl).1
      | cons a t => exact ⟨a, t, rfl⟩
    obtain ⟨xr, tr, rfl⟩ : ∃ a t, r = a :: t := by
      cases r with
      | nil => exact absurd rfl (hG _ hr).1
      | cons a t => exact ⟨a, t, rfl⟩
    have hln := il.len
    have hrn := ir.len
    simp only [List.length_cons] at hln hrn
    obtain ⟨bl, ol, yl, rfl, hbl, hyl, ql⟩ := Ints.get il (k := 0) (by omega)
    obtain ⟨br, orr, yr, rfl, hbr, hyr, qr⟩ := Ints.get ir (k := 0) (by omega)
    have e1 : yl = xl := by have := hyl.out; simp at this; exact this.symm
    have e2 : yr = xr := by have := hyr.out; simp at this; exact this.symm
    subst e1 e2
    have LF := h.grown hg (fun e => h1 (by injection e with e; exact e.symm)) (fun e => h2 (by injection e with e; exact e.symm))
    have X := hide2 (x.grown hg (fun e => h0 (by injection e with e; exact e.symm)))
    have oa := (hG _ hl).2 yl (by simp)
    have ob := (hG _ hr).2 yr (by simp)
    have BD := hide2 ((Below.refl wr.heap.size wr).drew)
    have C1 := hide2 (lead1_calls (LF.keep BD.out) oa ob)
    have hn0 : 0 < n := by omega
    have hm0 : 0 < m := by omega
    obtain ⟨v, hv⟩ : ∃ v, S yl yr = v := ⟨_, rfl⟩
    have HV := hide2 hv
    rw [hv] at C1
    change Calls _ _ #[_, _, .pointer (some ⟨bx, 0, none⟩)] _ _
    have x0 := X.out.cell 0
    rw [Nat.add_zero] at ql qr
    clear hG x h h0 h1 h2 hg il ir hl hr hln hrn hbl hbr hyl hyr LF oa ob hv
    cases v
    · go_enter Tryz.func56, Tryz.ntmps56
      go_wp2_with fail
      go_region_held3 (fun w' => w'.cell? ⟨bx, 0, none⟩ = some (ldV b) ∧ w'.cell? ⟨bl, ol, none⟩ = some (.int .i64 yl) ∧ w'.cell? ⟨br, orr, none⟩ = some (.int .i64 yr))
        (first | go_keep)
        (first
          | (go_at_call 80; (with_reducible refine C1.out.mono ?_); rintro e w' ⟨rfl, rfl⟩))
      go_wp2
      go_ret
      exact ⟨1, rfl, ⟨fun h => absurd h (by decide), fun h => by unfold ltG hdG at h; simp only [List.headD_cons] at h; rw [HV.out] at h; cases h⟩, BD.out⟩
    · go_enter Tryz.func56, Tryz.ntmps56
      go_wp2_with fail
      go_region_held3 (fun w' => w'.cell? ⟨bx, 0, none⟩ = some (ldV b) ∧ w'.cell? ⟨bl, ol, none⟩ = some (.int .i64 yl) ∧ w'.cell? ⟨br, orr, none⟩ = some (.int .i64 yr))
        (first | go_keep)
        (first
          | (go_at_call 80; (with_reducible refine C1.out.mono ?_); rintro e w' ⟨rfl, rfl⟩))
      go_wp2
      go_ret
      exact ⟨-1, rfl, ⟨fun _ => by unfold ltG hdG; simp only [List.headD_cons]; exact HV.out, fun _ => by decide⟩, BD.out⟩
set_option maxRecDepth 100000 in
theorem find1_calls {w : World} {A : Option Addr} {n c : Nat} {y : List Int} (h : Ints w A n c y) : Calls Tryz.prog 18 #[.slice A n c] w fun e w' => e = .returned (.bool (emptyB y)) ∧ w = w' := by
  have hl := hide2 h.len
  clear h
  by_cases hn : n = 0
  · subst hn
    go_enter Tryz.func18, Tryz.ntmps18
    go_wp2
    go_ret
    exact ⟨ret_bool (by unfold emptyB; rw [hl.out]; rfl), rfl⟩
  · have hne : ((n : Int) == 0) = false := by simp; omega
    have HN := hide2 hn
    clear hn
    go_enter Tryz.func18, Tryz.ntmps18
    go_wp2
    go_ret
    exact ⟨ret_bool (by unfold emptyB; rw [hl.out]; exact (decide_eq_false HN.out).symm), rfl⟩
theorem find1_pred (w : World) (g : Nat) (L : List (List Int)) : IsPredM 18 #[] w g L emptyB where
  enters := fun args w => by kernel_rfl
  calls := fun wr A n c y _ _ hi => by
    refine (find1_calls hi).mono ?_
    rintro e w' ⟨rfl, rfl⟩
    exact ⟨rfl, Below.refl _ _⟩
set_option maxRecDepth 100000 in
theorem find2_calls {w : World} {A : Option Addr} {n c : Nat} {y : List Int} (h : Ints w A n c y) : Calls Tryz.prog 24 #[.slice A n c] w fun e w' => e = .returned (.bool (decide (1 < y.length))) ∧ w = w' := by
  have hl := h.len
  rw [hl]
  clear h hl
  by_cases hn : 1 < n
  · have hni : (1 : Int) < (n : Int) := by omega
    have HN := hide2 hn
    clear hn
    go_enter Tryz.func24, Tryz.ntmps24
    go_wp2
    go_ret
    exact ⟨ret_bool (decide_eq_true HN.out).symm, rfl⟩
  · have hni : ¬ (1 : Int) < (n : Int) := by omega
    have HN := hide2 hn
    clear hn
    go_enter Tryz.func24, Tryz.ntmps24
    go_wp2
    go_ret
    exact ⟨ret_bool (decide_eq_false HN.out).symm, rfl⟩
theorem find2_pred (w : World) : IsPredT 24 #[] w (fun y => decide (1 < y.length)) where
  enters := fun args w => by kernel_rfl
  calls := fun wr A n c y _ hi => by
    refine (find2_calls hi).mono ?_
    rintro e w' ⟨rfl, rfl⟩
    exact ⟨rfl, Below.refl _ _⟩
/-- What is deleted for a group: traces that begin elsewhere. -/
def offB (g : List Int) (y : List Int) : Bool := !inS g (y.headD 0)
set_option maxRecDepth 100000 in
set_option maxHeartbeats 1000000 in
theorem choose1_pred {w : World} {L : List (List Int)} {gr bx m d : Nat} {B : Option Addr} {g : List Int} (hL : ∀ y ∈ L, y.length ≠ 0) (x : Box w bx 35 #[.slice B m d]) (ig : Ints w B m d g) (h0 : bx ≠ gr) (h1 : ∀ a, B = some a → a.block ≠ gr) : IsPredM 52 #[.pointer (some ⟨bx, 0, none⟩)] w gr L (offB g) where
  enters := fun args w => by kernel_rfl
  calls := fun wr A n c y hy hg hi => by
    have hy0 := hL y hy
    obtain ⟨yl, tl, rfl⟩ : ∃ a t, y = a :: t := by
      cases y with
      | nil => exact absurd rfl hy0
      | cons a t => exact ⟨a, t, rfl⟩
    have hln := hi.len
    simp only [List.length_cons] at hln
    obtain ⟨bl, ol, y2, rfl, hbl, hyl, ql⟩ := Ints.get hi (k := 0) (by omega)
    have e1 : y2 = yl := by have := hyl.out; simp at this; exact this.symm
    subst e1
    have IG := hide2 ((Ints.keepRow ig hg (.inr (by
      cases B with
      | none => exact fun e => nomatch e
      | some a => intro e; injection e with e; exact h1 a rfl e.symm))).keep ((Below.refl wr.heap.size wr).drew))
    have X := hide2 (x.grown hg (fun e => h0 (by injection e with e; exact e.symm)))
    have BD := hide2 ((Below.refl wr.heap.size wr).drew)
    have C1 := hide2 (containsInt_calls y2 IG.out)
    have hn0 : 0 < n := by omega
    change Calls _ _ #[_, .pointer (some ⟨bx, 0, none⟩)] _ _
    have x0 := X.out.cell 0
    rw [Nat.add_zero] at ql
    clear hL x ig h0 h1 hg hy hi hy0 hln hbl hyl
    go_enter Tryz.func52, Tryz.ntmps52
    go_wp2_with fail
    go_region_held3 (fun w' => w'.cell? ⟨bx, 0, none⟩ = some (.slice B m d) ∧ w'.cell? ⟨bl, ol, none⟩ = some (.int .i64 y2))
      (first | go_keep)
      (first
        | (go_at_call 36; (with_reducible refine C1.out.mono ?_); rintro e w' ⟨rfl, rfl⟩))
    go_wp2
    go_ret
    exact ⟨ret_bool rfl, BD.out⟩
end Go.Proofs.YtcopnfdknclhnaaGreat
namespace Go.Proofs.YtcopnfdknclhnaaGreat
open Go.RowKit Go.Maps

theorem beside21_pred {w : World} {bx m d : Nat} {B : Option Addr} {l : List Int} (x : Box w bx 35 #[.slice B m d]) (il : Ints w B m d l) : IsPred 60 #[.pointer (some ⟨bx, 0, none⟩)] w (fun a => inS l a) where
  enters := fun args w => by kernel_rfl
  calls := fun a => by
    have C1 := hide2 (containsInt_calls a il)
    have x0 := x.cell 0
    clear x il
    change Calls _ _ #[.int .i64 a, .pointer (some ⟨bx, 0, none⟩)] _ _
    go_enter Tryz.func60, Tryz.ntmps60
    go_wp2_with (refine C1.out.mono ?_; rintro e w' ⟨rfl, rfl⟩)
    go_ret
    exact ⟨ret_bool rfl, rfl⟩
set_option maxRecDepth 100000 in
theorem beside2_calls {w : World} {A B : Option Addr} {n c m d : Nat} {g l : List Int} (ig : Ints w A n c g) (il : Ints w B m d l) :
    Calls Tryz.prog 59 #[.slice A n c, .slice B m d] w fun e w' => e = .returned (.bool (meetB g l)) ∧ Below w.heap.size w w' := by
  have B0 := hide2 (boxBelow w (.cells #[.slice B m d] 35))
  have X0 := Box.new w #[.slice B m d] 35
  have CO := hide2 (containsFuncInts (ig.keep B0.out) (beside21_pred X0 (il.keep B0.out)))
  clear ig il X0
  go_enter Tryz.func59, Tryz.ntmps59
  go_wp2_with fail
  refine CO.out.mono ?_
  rintro e w' ⟨rfl, rfl⟩
  go_wp2
  go_ret
  exact ⟨ret_bool rfl, B0.out⟩
/-- What beside does not want of a group. -/
def wantB (p : PPrints) (g : List Int) : Bool := !meetB g p.first || !meetB g p.last
section
variable {w : World} {A A1 A2 A3 A4 : Option Addr} {n c n1 c1 n2 c2 n3 c3 n4 c4 : Nat} {log : List (List Int)} {p : PPrints}
set_option maxRecDepth 100000 in
theorem beside3_pred {bx bf : Nat} (h : LogI w A A1 A2 A3 A4 n c n1 c1 n2 c2 n3 c3 n4 c4 log p) (x : Box w bx 47 #[.slice A n c, .slice A1 n1 c1, .slice A2 n2 c2, .slice A3 n3 c3, .slice A4 n4 c4]) (y : Box w bf 65 #[.func (.func 59) #[] #[]]) : IsPredT 61 #[.pointer (some ⟨bf, 0, none⟩), .pointer (some ⟨bx, 0, none⟩)] w (wantB p) where
  enters := fun args w => by kernel_rfl
  calls := fun wr B m d g hb ig => by
    have H := hide2 (h.keep hb)
    have X := hide2 (x.keep hb)
    have Y := hide2 (y.keep hb)
    have C1 := hide2 (beside2_calls ig H.out.ip.i2)
    have C2 := hide2 (fun (w2 : World) (hq : Below wr.heap.size wr w2) => beside2_calls (ig.keep hq) (H.out.ip.i3.keep hq))
    change Calls _ _ #[_, .pointer (some ⟨bf, 0, none⟩), .pointer (some ⟨bx, 0, none⟩)] _ _
    have y0 := Y.out.cell 0
    have x2 := X.out.cell 2
    obtain ⟨v, hv⟩ : ∃ v, meetB g p.first = v := ⟨_, rfl⟩
    have HV := hide2 hv
    rw [hv] at C1
    clear h x y hb ig hv
    cases v
    · go_enter Tryz.func61, Tryz.ntmps61
      go_wp2_with fail
      refine C1.out.mono ?_
      rintro e w2 ⟨rfl, hb⟩
      have HB := hide2 hb
      clear hb
      go_wp2
      go_ret
      exact ⟨ret_bool (by unfold wantB; rw [HV.out]; rfl), HB.out⟩
    · go_enter Tryz.func61, Tryz.ntmps61
      go_wp2_with fail
      refine C1.out.mono ?_
      rintro e w2 ⟨rfl, hb⟩
      have HB := hide2 hb
      have C3 := hide2 (C2.out w2 hb)
      have y0 := (Y.out.keep hb).cell 0
      have x3 := (X.out.keep hb).cell 3
      clear hb
      go_wp2_with fail
      refine C3.out.mono ?_
      rintro e w3 ⟨rfl, hb3⟩
      have H3 := hide2 (HB.out.trans (hb3.mono HB.out.size))
      clear hb3
      go_wp2
      go_ret
      exact ⟨ret_bool (by unfold wantB; rw [HV.out]; rfl), H3.out⟩
end
theorem delA_calls {w0 w : World} {B n : Nat} {v : Value} {L : List (List Int)} {F : FuncId} {cv : Array Value} {q : List Int → Bool} (own : RowN w B w0.heap.size v n L) (hn : n ≤ 5864062014805) (hBB : B ≤ w0.heap.size) (he : ∀ args w, (callFunc F args).run Tryz.prog w = .ok (.enter F args) w) (hp : ∀ g, v.ownBlock = some g → IsPredM F cv w g L q) :
    Calls Tryz.prog 16 #[v, .func (.func F) #[] cv] w fun e w' => ∃ A k c, e = .returned (.slice A k c) ∧ RowN w' B w0.heap.size (.slice A k c) k (L.filter fun a => !q a) ∧ w.grownBy w' v.ownBlock := by
  have own' := own
  obtain ⟨cells, o1, o2, o3⟩ := own
  rcases o1.2 with ⟨rfl, h0⟩ | ⟨g, cap, cur, rfl, _⟩
  · obtain rfl : n = 0 := by simpa using h0
    have hx : L = [] := List.eq_nil_of_length_eq_zero o3
    subst hx
    refine (deleteM0_calls (p := q) ⟨he, fun wr A n c y hy => absurd hy (by simp)⟩).mono ?_
    rintro e w' ⟨rfl, hb⟩
    exact ⟨none, 0, 0, rfl, OwnSl.nil, gnone2 hb _⟩
  · refine (deleteN2_calls own' hn (hp g rfl) hBB).mono ?_
    rintro e w' ⟨k, c', rfl, h1, h2⟩
    exact ⟨_, k, c', rfl, h1, h2⟩
/-- What a cut answers. -/
def AnsCut (d : Nat) (ok : Bool) (T : PBlk) (w : World) (e : Ending) (w' : World) : Prop := ∃ v, e = .returned (.tuple #[v, .bool ok]) ∧ BlkA (fun k => w.heap.size ≤ k) d w' v T ∧ Below w.heap.size w w'
def zeroB : PBlk := .mk 0 0 []
end Go.Proofs.YtcopnfdknclhnaaGreat
