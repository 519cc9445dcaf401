/- The speaker as it lies in memory, and the contract of spread. Conditions: the speaker's arcs are between marks. | The contracts of first, hear, ends and hope. Conditions: the speaker's arcs are between marks. | The contract of far. Conditions: the speaker's arcs are between marks. -/
import Derived.Test.YtnfppolgaeibeaaTongA
import Derived.Deep.RegionHeld3
namespace Go.Proofs.Ytnfppolgaeibeaa
open Go.RowKit

theorem Box.four {w : World} {b ty : Nat} {u0 u1 u2 u3 : Value} (h : Box w b ty #[u0, u1, u2, u3]) : w.cell? ⟨b, 0, none⟩ = some u0 ∧ w.cell? ⟨b, 1, none⟩ = some u1 ∧ w.cell? ⟨b, 2, none⟩ = some u2 ∧ w.cell? ⟨b, 3, none⟩ = some u3 := ⟨h.cell 0, h.cell 1, h.cell 2, h.cell 3⟩
/-! ### bools -/
def BoolR : World → (Nat → Value) → Bool → Prop := fun _ vs x => vs 0 = .bool x
theorem BoolR.kept : Kept BoolR := fun _ _ _ _ _ h => h
theorem BoolR.good : Good BoolR 1 where
  kept := BoolR.kept
  one := fun w vs x h j hj => by
    obtain rfl : j = 0 := by omega
    rw [h]; rfl
  pos := by omega
abbrev Bools (w : World) (A : Option Addr) (n c : Nat) (xs : List Bool) : Prop := Sl BoolR 1 w A n c xs
theorem Bools.get {w : World} {A : Option Addr} {n c k : Nat} {xs : List Bool} (h : Bools w A n c xs) (hk : k < n) :
    ∃ b off x, A = some ⟨b, off, none⟩ ∧ b < w.heap.size ∧ Hid (xs[k]? = some x) ∧ w.cell? ⟨b, off + k, none⟩ = some (.bool x) := by
  obtain ⟨b, off, x, vs, h1, h2, h3, h4, h5⟩ := Sl.get h hk
  refine ⟨b, off, x, h1, h2, h3, ?_⟩
  have := h4 0 (by omega)
  rw [h5] at this
  simpa using this
theorem tyBools : SlTy 96 4 1 1 := SlTy.mk' (z := .bool false) Try.underlying96 (by kernel_rfl) rfl (by decide)

/-! ### a row's measure -/
theorem BoolS.uniq {w : World} {g n : Nat} {bs bs' : List Bool} (h : BoolS w g n bs) (h' : BoolS w g n bs') : bs = bs' := by
  apply List.ext_getElem (by rw [h.1, h'.1])
  intro j h1 h2
  have a1 := h.2 j _ (List.getElem?_eq_getElem h1)
  have a2 := h'.2 j _ (List.getElem?_eq_getElem h2)
  rw [a1] at a2
  simpa using a2
open Classical in
noncomputable def rowF (w : World) (g n : Nat) : Nat := if h : ∃ bs, BoolS w g n bs then cntR (Classical.choose h) else 0
theorem rowF_eq {w : World} {g n : Nat} {bs : List Bool} (h : BoolS w g n bs) : rowF w g n = cntR bs := by
  have hex : ∃ bs, BoolS w g n bs := ⟨bs, h⟩
  unfold rowF
  rw [dif_pos hex, (Classical.choose_spec hex).uniq h]

/-! ### the speaker -/
structure SpkW (w : World) (bp : Nat) (A : Option Addr) (n c : Nat) (D : Option Addr) (m d : Nat) (Al : Option Addr) (nl cl : Nat) (Ae : Option Addr) (ce : Nat) (ars : List PArc) (ls : List Int) (es : List Bool) : Prop where
  box : Box w bp 174 #[.slice A n c, .slice D m d, .slice Al nl cl, .slice Ae n ce]
  arcs : Arcs w D m d ars
  labels : Ints w Al nl cl ls
  ends : Bools w Ae n ce es
  from_ : ∀ a ∈ ars, Inn n a.from_
  to_ : ∀ a ∈ ars, Inn n a.to_
  tran : ∀ a ∈ ars, Inn nl a.tran
  pos : 0 < n
  small : n ≤ 300
  few : m ≤ 7200
theorem SpkW.keep {w w' : World} {bp : Nat} {A : Option Addr} {n c : Nat} {D : Option Addr} {m d : Nat} {Al : Option Addr} {nl cl : Nat} {Ae : Option Addr} {ce : Nat} {ars : List PArc} {ls : List Int} {es : List Bool} (h : SpkW w bp A n c D m d Al nl cl Ae ce ars ls es) (hb : Below w.heap.size w w') : SpkW w' bp A n c D m d Al nl cl Ae ce ars ls es :=
  ⟨h.box.keep hb, Sl.keep ArcR.kept h.arcs hb, h.labels.keep hb, Sl.keep BoolR.kept h.ends hb, h.from_, h.to_, h.tran, h.pos, h.small, h.few⟩
theorem foldl_take_succ {α β : Type} {f : β → α → β} {l : List α} {b : β} {q : Nat} {a : α} (h : l[q]? = some a) : (l.take (q + 1)).foldl f b = f ((l.take q).foldl f b) a := by
  rw [List.take_add_one, h, List.foldl_append]; rfl
theorem on_at {bs : List Bool} {k : Nat} {v : Bool} (h : bs[k]? = some v) : on bs (k : Int) ↔ v = true := by
  unfold on
  rw [Int.toNat_natCast, List.getD_eq_getElem?_getD, h]; rfl
/-- Where a round of spread stands. -/
def StQ (ars : List PArc) (lb : Int → Int) (B n g : Nat) (w0 wr : World) (b1 : List Bool) (q : Nat) (b : Bool) : Prop := ∃ b2, (ars.take q).foldl (setQ lb) (b1, false) = (b2, b) ∧ OwnBools wr B g n b2 ∧ Below B w0 wr
theorem StQ.keep {ars : List PArc} {lb : Int → Int} {n g B : Nat} {w0 wr w' : World} {b1 : List Bool} {q : Nat} {b : Bool} (h : StQ ars lb B n g w0 wr b1 q b) (hB : B ≤ wr.heap.size) (hb : Below wr.heap.size wr w') : StQ ars lb B n g w0 w' b1 q b := by
  obtain ⟨b2, h1, h2, h3⟩ := h
  exact ⟨b2, h1, h2.keep hb, h3.trans (hb.mono hB)⟩

set_option maxRecDepth 100000 in
set_option maxHeartbeats 4000000 in
theorem tspread_calls {w0 w : World} {bp : Nat} {A D Al Ae : Option Addr} {n c m d nl cl ce : Nat} {ars : List PArc} {ls : List Int} {es : List Bool} (S : SpkW w0 bp A n c D m d Al nl cl Ae ce ars ls es) (hb : Below w0.heap.size w0 w) {g : Nat} {bs : List Bool} (own : OwnBools w w0.heap.size g n bs) :
    Calls Try.prog 115 #[.pointer (some ⟨bp, 0, none⟩), .slice (some ⟨g, 0, none⟩) n n] w (fun e w' => e = .returned (.slice (some ⟨g, 0, none⟩) n n) ∧ OwnBools w' w0.heap.size g n (closeQ ars (atI ls) bs) ∧ Below w0.heap.size w0 w') := by
  have SP := hide2 S
  have HB := hide2 hb
  have OW := hide2 own
  have hm := S.few
  have hn := S.small
  have MONO := hide2 (spQ_mono (lb := atI ls) (bs0 := bs) S.from_ S.to_)
  have SQ0 := hide2 (SpQ.start (ars := ars) (lb := atI ls) own.len)
  have AL := hide2 (show ars.length = m from S.arcs.len)
  clear S hb own
  go_enter Try.func115, Try.ntmps115
  go_wp2
  go_loopw [5] (fun u wr => ∃ (b : Bool) (b1 : List Bool), u = .bool b ∧ Hid (OwnBools wr w0.heap.size g n b1) ∧ Hid (SpQ ars (atI ls) n bs b1) ∧ Hid (b = false → ∀ a ∈ ars, setQ (atI ls) (b1, false) a = (b1, false)) ∧ Hid (Below w0.heap.size w0 wr)) (fun u wr => rowF wr g n + boolOf u)
  case atStart => exact ⟨true, bs, rfl, OW, SQ0, hide2 (fun e => (by cases e)), HB⟩
  case round =>
    obtain ⟨b, b1, rfl, OB, SQ, CL, BX⟩ := hrel
    cases b
    · have FN := hide2 (SQ.out.done OW.out.len (CL.out rfl))
      go_wp2
      go_ret
      exact ⟨rfl, by rw [← FN.out]; exact OB.out, BX.out⟩
    · have RF := hide2 (rowF_eq OB.out.s)
      have ST0 := hide2 (show StQ ars (atI ls) w0.heap.size n g w0 wr b1 0 false from ⟨b1, rfl, OB.out, BX.out⟩)
      obtain ⟨c0, c1, c2, c3⟩ := (SP.out.box.keep BX.out).four
      clear OB BX CL SQ0
      go_wp2
      clear c0 c1 c2 c3
      go_loopw [5, 15] (fun u v wr => ∃ q : Nat, q ≤ m ∧ v = .int .i64 q ∧ ∃ b : Bool, u = .bool b ∧ Hid (StQ ars (atI ls) w0.heap.size n g w0 wr b1 q b)) (fun _ v _ => m - (intOf v).toNat)
      case atStart => exact ⟨0, Nat.zero_le _, rfl, false, rfl, ST0⟩
      case round =>
        clear ST0
        obtain ⟨q, hq, rfl, b, rfl, ST⟩ := hrel
        obtain ⟨b2, s1, s2, s3⟩ := ST.out
        have S1 := hide2 s1
        have S2 := hide2 s2
        have S3 := hide2 s3
        clear ST s1 s2 s3
        by_cases hlt : q < m
        · have hki : (q : Int) < (m : Int) := by omega
          obtain ⟨bl, off, a, rfl, hbl, ha, q0, q1, q2, _⟩ := Arcs.get (Sl.keep ArcR.kept SP.out.arcs S3.out) hlt
          have hmem := List.mem_of_getElem? ha.out
          obtain ⟨f, ef, hf⟩ := natOf (SP.out.from_ a hmem)
          obtain ⟨t, et, ht⟩ := natOf (SP.out.to_ a hmem)
          obtain ⟨r, er, hr⟩ := natOf (SP.out.tran a hmem)
          have NX := hide2 (show (ars.take (q + 1)).foldl (setQ (atI ls)) (b1, false) = setQ (atI ls) (b2, b) a by rw [foldl_take_succ ha.out, S1.out])
          rw [ef] at q0
          rw [er] at q1
          rw [et] at q2
          have bb := boxBelow wr (.cells #[.int .i64 f, .int .i64 r, .int .i64 t] 130)
          have WA := hide2 (Box.new wr #[.int .i64 f, .int .i64 r, .int .i64 t] 130)
          have T2 := hide2 (S2.out.keep bb)
          have T3 := hide2 (S3.out.trans (bb.mono S3.out.size))
          have hlo := hide2 S3.out.size
          have EF := hide2 ef
          have ET := hide2 et
          have ER := hide2 er
          clear S1 S2 S3 ha hmem ef et er
          go_upto_region 7 with fail
          clear bb q0 q1 q2
          generalize wr.alloc (.cells #[.int .i64 f, .int .i64 r, .int .i64 t] 130) = u0 at *
          generalize wr.heap.size = bx at *
          obtain ⟨bq, offq, l, rfl, hbq, hl, ql⟩ := (SP.out.labels.keep T3.out).get hr
          have LB := hide2 (show atI ls a.tran = l by unfold atI; rw [ER.out, Int.toNat_natCast, List.getD_eq_getElem?_getD, hl.out]; rfl)
          obtain ⟨v1, hv1⟩ : ∃ v, b2[f]? = some v := ⟨_, List.getElem?_eq_getElem (by rw [T2.out.len]; exact hf)⟩
          obtain ⟨v2, hv2⟩ : ∃ v, b2[t]? = some v := ⟨_, List.getElem?_eq_getElem (by rw [T2.out.len]; exact ht)⟩
          have x1 := T2.out.at hv1
          have x2 := T2.out.at hv2
          obtain ⟨t0, t1, t2⟩ := WA.out.three
          obtain ⟨c0, c1, c2, c3⟩ := (SP.out.box.keep T3.out).four
          have hff : (f : Int) < (n : Int) := by omega
          have htt : (t : Int) < (n : Int) := by omega
          have hrr : (r : Int) < (nl : Int) := by omega
          have SAME := hide2 (show ¬ (l = 0 ∧ v1 = true ∧ v2 = false) → (ars.take (q + 1)).foldl (setQ (atI ls)) (b1, false) = (b2, b) from fun hno => by
            rw [NX.out, setQ, if_neg]
            rintro ⟨h1, h2, h3⟩
            simp only at h2 h3
            rw [EF.out, on_at hv1] at h2
            rw [ET.out, on_at hv2] at h3
            exact hno ⟨by rw [← LB.out]; exact h1, h2, by simpa using h3⟩)
          have HV1 := hide2 hv1
          have HV2 := hide2 hv2
          clear hv1 hv2 hl
          by_cases hl0 : l = 0
          · subst hl0
            cases v1
            · have NO := hide2 (SAME.out (fun h => by cases h.2.1))
              go_quiet (fail)
              have DB := hide2 (Drew.drewN u0 nq).below
              go_wp2
              go_roundw
              case rel => exact ⟨q + 1, by omega, by go_num, b, rfl, hide2 ⟨b2, NO.out, T2.out.keep DB.out, T3.out.trans (DB.out.mono T3.out.size)⟩⟩
              case measure => simp [intOf]; omega
            · cases v2
              · have YES := hide2 (show (ars.take (q + 1)).foldl (setQ (atI ls)) (b1, false) = (b2.set t true, true) by
                  rw [NX.out, setQ, if_pos ⟨LB.out, by rw [EF.out]; exact (on_at HV1.out).2 rfl, by rw [ET.out, on_at HV2.out]; decide⟩, ET.out]; rfl)
                go_quiet (fail)
                have DB := hide2 (Drew.drewN u0 nq).below
                have U2 := hide2 (T2.out.keep DB.out)
                have U3 := hide2 (T3.out.trans (DB.out.mono T3.out.size))
                have UW := hide2 (WA.out.keep DB.out)
                generalize u0.drewN nq = u1 at *
                clear x1 x2 t0 t1 t2 c0 c1 c2 c3 ql DB T2 T3 WA
                have x2 := U2.out.at HV2.out
                have f2 := U2.out.frozen t
                obtain ⟨t0, t1, t2⟩ := UW.out.three
                have V2 := hide2 (U2.out.put t true)
                have V3 := hide2 (U3.out.setCell (p := ⟨g, t, none⟩) U2.out.lt.1 (.bool true))
                go_wp2
                go_roundw
                case rel => exact ⟨q + 1, by omega, by go_num, true, rfl, hide2 ⟨_, YES.out, V2.out, V3.out⟩⟩
                case measure => simp [intOf]; omega
              · have NO := hide2 (SAME.out (fun h => by cases h.2.2))
                go_quiet (fail)
                have DB := hide2 (Drew.drewN u0 nq).below
                go_wp2
                go_roundw
                case rel => exact ⟨q + 1, by omega, by go_num, b, rfl, hide2 ⟨b2, NO.out, T2.out.keep DB.out, T3.out.trans (DB.out.mono T3.out.size)⟩⟩
                case measure => simp [intOf]; omega
          · have NO := hide2 (SAME.out (fun h => hl0 h.1))
            have hlb : (l == 0) = false := by simpa using hl0
            go_quiet (fail)
            have DB := hide2 (Drew.drewN u0 nq).below
            go_wp2
            go_roundw
            case rel => exact ⟨q + 1, by omega, by go_num, b, rfl, hide2 ⟨b2, NO.out, T2.out.keep DB.out, T3.out.trans (DB.out.mono T3.out.size)⟩⟩
            case measure => simp [intOf]; omega
        · obtain rfl : q = m := by omega
          have PS := hide2 (MONO.out.pass (b1, false) SQ.out)
          have FL := hide2 (show ars.foldl (setQ (atI ls)) (b1, false) = (b2, b) by have := S1.out; rwa [List.take_of_length_le (by rw [AL.out]; exact Nat.le_refl _)] at this)
          rw [FL.out] at PS
          go_wp2
          go_roundw
          case rel =>
            refine ⟨b, b2, rfl, S2, PS.out.inv, hide2 (fun e => ?_), S3⟩
            obtain ⟨h1, h2⟩ := PS.out.same e
            injection h1 with h1 _
            subst h1
            exact h2
          case measure =>
            rw [rowF_eq S2.out.s, RF.out]
            cases b
            · have h1 := (PS.out.same rfl).1
              injection h1 with h1 _
              subst h1
              simp [boolOf]
            · rcases PS.out.new rfl with h1 | h1
              · cases h1
              · simp only at h1
                simp [boolOf]
                omega
end Go.Proofs.Ytnfppolgaeibeaa
namespace Go.Proofs.Ytnfppolgaeibeaa
open Go.RowKit

def AnsSet (bs : List Bool) (n : Nat) (w : World) (e : Ending) (w' : World) : Prop := ∃ g, e = .returned (.slice (some ⟨g, 0, none⟩) n n) ∧ OwnBools w' w.heap.size g n bs ∧ Below w.heap.size w w'
def AnsHear (p : List Bool × Bool) (n : Nat) (w : World) (e : Ending) (w' : World) : Prop := ∃ g, e = .returned (.tuple #[.slice (some ⟨g, 0, none⟩) n n, .bool p.2]) ∧ OwnBools w' w.heap.size g n p.1 ∧ Below w.heap.size w w'
section
variable {w : World} {bp : Nat} {A D Al Ae : Option Addr} {n c m d nl cl ce : Nat} {ars : List PArc} {ls : List Int} {es : List Bool}

set_option maxRecDepth 100000 in
set_option maxHeartbeats 4000000 in
theorem first_calls (wd : List Int) (S : SpkW w bp A n c D m d Al nl cl Ae ce ars ls es) :
    Calls Try.prog 71 #[.pointer (some ⟨bp, 0, none⟩)] w (AnsSet (toldL ars (atI ls) wd n 0) n w) := by
  have SP := hide2 S
  have hn := S.small
  have hp := S.pos
  obtain ⟨c0, c1, c2, c3⟩ := S.box.four
  have CB := hide2 (fun (w' : World) (g : Nat) (bs : List Bool) (hb : Below w.heap.size w w') (o : OwnBools w' w.heap.size g n bs) => tspread_calls S hb o)
  have TF := hide2 (told_first (ars := ars) (lb := atI ls) (n := n) (w := wd) hp)
  clear S
  go_enter Try.func71, Try.ntmps71
  go_upto_region 2 with (at_make; refine wpList_mk Try.underlying119 infoBool rfl rfl _ _ rfl n rfl rfl rfl rfl (by omega) (by omega) (Below.refl w.heap.size w) (Nat.le_refl _) ?_; intro w1 own1 hg1 hb1; have OB := hide2 (show OwnBools w1 w.heap.size w.heap.size n (List.replicate n false) by unfold OwnBools; rw [List.map_replicate]; exact own1); have B1 := hide2 hb1; clear own1 hg1 hb1)
  clear c0 c1 c2 c3
  have x0 := OB.out.at (k := 0) (b := false) (by simp [hp])
  have f0 := OB.out.frozen 0
  have V2 := hide2 (OB.out.put 0 true)
  have V3 := hide2 (B1.out.setCell (p := ⟨w.heap.size, 0, none⟩) OB.out.lt.1 (.bool true))
  have hpi : (0 : Int) < (n : Int) := by omega
  go_wp2_with (go_at_call 115; (with_reducible refine (CB.out _ _ _ V3.out V2.out).mono ?_); rintro e w2 ⟨rfl, o2, b2⟩; rw [TF.out] at o2; have O2 := hide2 o2; have B2 := hide2 b2; clear o2 b2)
  go_ret
  exact ⟨_, rfl, O2.out, B2.out⟩

set_option maxRecDepth 100000 in
set_option maxHeartbeats 4000000 in
theorem hear_calls (S : SpkW w bp A n c D m d Al nl cl Ae ce ars ls es) {gs : Nat} {bs : List Bool} (h : BoolS w gs n bs) (hgs : gs < w.heap.size) (k : Int) :
    Calls Try.prog 72 #[.pointer (some ⟨bp, 0, none⟩), .slice (some ⟨gs, 0, none⟩) n n, .int .i64 k] w (AnsHear (closeQ ars (atI ls) (hearTo ars (atI ls) bs k ars.length).1, (hearTo ars (atI ls) bs k ars.length).2) n w) := by
  have SP := hide2 S
  have HS := hide2 h
  have hm := S.few
  have hn := S.small
  have hp := S.pos
  have AL := hide2 (show ars.length = m from S.arcs.len)
  have CB := hide2 (fun (w' : World) (g : Nat) (bs : List Bool) (hb : Below w.heap.size w w') (o : OwnBools w' w.heap.size g n bs) => tspread_calls S hb o)
  clear S h
  go_enter Try.func72, Try.ntmps72
  go_upto_region 2 with (at_make; refine wpList_mk Try.underlying119 infoBool rfl rfl _ _ rfl n rfl rfl rfl rfl (by omega) (by omega) (Below.refl w.heap.size w) (Nat.le_refl _) ?_; intro w1 own1 hg1 hb1; have OB := hide2 (show OwnBools w1 w.heap.size w.heap.size n (hearTo ars (atI ls) bs k 0).1 by unfold OwnBools hearTo; rw [List.take_zero, List.foldl_nil, HS.out.1, List.map_replicate]; exact own1); have B1 := hide2 hb1; clear own1 hg1 hb1)
  obtain ⟨c0, c1, c2, c3⟩ := (SP.out.box.keep B1.out).four
  go_wp2
  clear c0 c1 c2 c3
  go_loopw [9, 21] (fun u v wr => ∃ q : Nat, q ≤ m ∧ v = .int .i64 q ∧ u = .bool (hearTo ars (atI ls) bs k q).2 ∧ Hid (OwnBools wr w.heap.size w.heap.size n (hearTo ars (atI ls) bs k q).1) ∧ Hid (Below w.heap.size w wr)) (fun _ v _ => m - (intOf v).toNat)
  case atStart => exact ⟨0, Nat.zero_le _, rfl, rfl, OB, B1⟩
  case round =>
    clear OB B1
    obtain ⟨q, hq, rfl, rfl, OB, BX⟩ := hrel
    by_cases hlt : q < m
    · have hki : (q : Int) < (m : Int) := by omega
      obtain ⟨bl, off, a, rfl, hbl, ha, q0, q1, q2, _⟩ := Arcs.get (Sl.keep ArcR.kept SP.out.arcs BX.out) hlt
      have hmem := List.mem_of_getElem? ha.out
      obtain ⟨f, ef, hf⟩ := natOf (SP.out.from_ a hmem)
      obtain ⟨t, et, ht⟩ := natOf (SP.out.to_ a hmem)
      obtain ⟨r, er, hr⟩ := natOf (SP.out.tran a hmem)
      have NX := hide2 (hearTo_succ (lb := atI ls) (s := bs) (c := k) ha.out)
      rw [ef] at q0
      rw [er] at q1
      rw [et] at q2
      have bb := boxBelow wr (.cells #[.int .i64 f, .int .i64 r, .int .i64 t] 130)
      have WA := hide2 (Box.new wr #[.int .i64 f, .int .i64 r, .int .i64 t] 130)
      have T2 := hide2 (OB.out.keep bb)
      have T3 := hide2 (BX.out.trans (bb.mono BX.out.size))
      have EF := hide2 ef
      have ET := hide2 et
      have ER := hide2 er
      clear OB BX ha hmem ef et er
      go_upto_region 5 with fail
      clear bb q0 q1 q2
      generalize wr.alloc (.cells #[.int .i64 f, .int .i64 r, .int .i64 t] 130) = u0 at *
      generalize wr.heap.size = bx at *
      obtain ⟨bq, offq, l, rfl, hbq, hl, ql⟩ := (SP.out.labels.keep T3.out).get hr
      have LB := hide2 (show atI ls a.tran = l by unfold atI; rw [ER.out, Int.toNat_natCast, List.getD_eq_getElem?_getD, hl.out]; rfl)
      obtain ⟨v1, hv1⟩ : ∃ v, bs[f]? = some v := ⟨_, List.getElem?_eq_getElem (by rw [HS.out.1]; exact hf)⟩
      have x1 := (T3.out.cell (p := ⟨gs, f, none⟩) hgs).trans (HS.out.2 f v1 hv1)
      have HV1 := hide2 hv1
      obtain ⟨v2, hv2⟩ : ∃ v, (hearTo ars (atI ls) bs k q).1[t]? = some v := ⟨_, List.getElem?_eq_getElem (by rw [T2.out.len]; exact ht)⟩
      have HV2 := hide2 hv2
      obtain ⟨t0, t1, t2⟩ := WA.out.three
      obtain ⟨c0, c1, c2, c3⟩ := (SP.out.box.keep T3.out).four
      have hff : (f : Int) < (n : Int) := by omega
      have htt : (t : Int) < (n : Int) := by omega
      have hrr : (r : Int) < (nl : Int) := by omega
      obtain ⟨hq2, hq2e⟩ : ∃ b, (hearTo ars (atI ls) bs k q).2 = b := ⟨_, rfl⟩
      rw [hq2e]
      have HE := hide2 hq2e
      have SAME := hide2 (show ¬ (l = k ∧ 0 < k ∧ v1 = true) → hearTo ars (atI ls) bs k (q + 1) = hearTo ars (atI ls) bs k q from fun hno => by
        rw [NX.out, hearF, if_neg]
        rintro ⟨h1, h2, h3⟩
        rw [EF.out, on_at HV1.out] at h3
        exact hno ⟨by rw [← LB.out]; exact h1, h2, h3⟩)
      clear hv1 hl hv2 hq2e
      by_cases hc : l = k ∧ 0 < k ∧ v1 = true
      · obtain ⟨rfl, hk0, rfl⟩ := hc
        have YES := hide2 (show hearTo ars (atI ls) bs l (q + 1) = ((hearTo ars (atI ls) bs l q).1.set t true, true) by
          rw [NX.out, hearF, if_pos ⟨LB.out, hk0, by rw [EF.out]; exact (on_at HV1.out).2 rfl⟩, ET.out]; rfl)
        go_quiet (fail)
        have DB := hide2 (Drew.drewN u0 nq).below
        have U2 := hide2 (T2.out.keep DB.out)
        have U3 := hide2 (T3.out.trans (DB.out.mono T3.out.size))
        have UW := hide2 (WA.out.keep DB.out)
        generalize u0.drewN nq = u1 at *
        clear x1 t0 t1 t2 c0 c1 c2 c3 ql DB T2 T3 WA
        have x2 := U2.out.at HV2.out
        have f2 := U2.out.frozen t
        obtain ⟨t0, t1, t2⟩ := UW.out.three
        have V2 := hide2 (U2.out.put t true)
        have V3 := hide2 (U3.out.setCell (p := ⟨w.heap.size, t, none⟩) U2.out.lt.1 (.bool true))
        go_wp2
        go_roundw
        case rel => exact ⟨q + 1, by omega, by go_num, by rw [YES.out], hide2 (by rw [YES.out]; exact V2.out), V3⟩
        case measure => simp [intOf]; omega
      · have NO := hide2 (SAME.out hc)
        have fin : ∀ nq, Hid (OwnBools (u0.drewN nq) w.heap.size w.heap.size n (hearTo ars (atI ls) bs k (q + 1)).1) ∧ Hid (Below w.heap.size w (u0.drewN nq)) := fun nq =>
          have DB := (Drew.drewN u0 nq).below
          ⟨hide2 (by rw [NO.out]; exact T2.out.keep DB), hide2 (T3.out.trans (DB.mono T3.out.size))⟩
        have FIN := hide2 fin
        clear fin
        by_cases hlk : l = k
        · subst hlk
          by_cases hk0 : 0 < l
          · obtain rfl : v1 = false := by cases v1; rfl; exact absurd ⟨rfl, hk0, rfl⟩ hc
            clear hc
            go_quiet (fail)
            obtain ⟨F1, F2⟩ := FIN.out nq
            go_wp2
            go_roundw
            case rel => exact ⟨q + 1, by omega, by go_num, by rw [NO.out, HE.out], F1, F2⟩
            case measure => simp [intOf]; omega
          · clear hc
            go_quiet (fail)
            obtain ⟨F1, F2⟩ := FIN.out nq
            go_wp2
            go_roundw
            case rel => exact ⟨q + 1, by omega, by go_num, by rw [NO.out, HE.out], F1, F2⟩
            case measure => simp [intOf]; omega
        · have hlb : (l == k) = false := by simpa using hlk
          clear hc
          go_quiet (fail)
          obtain ⟨F1, F2⟩ := FIN.out nq
          go_wp2
          go_roundw
          case rel => exact ⟨q + 1, by omega, by go_num, by rw [NO.out, HE.out], F1, F2⟩
          case measure => simp [intOf]; omega
    · obtain rfl : q = m := by omega
      obtain ⟨hq2, hq2e⟩ : ∃ b, (hearTo ars (atI ls) bs k q).2 = b := ⟨_, rfl⟩
      rw [hq2e]
      have HE := hide2 hq2e
      clear hq2e
      go_wp2_with (go_at_call 115; (with_reducible refine (CB.out _ _ _ BX.out OB.out).mono ?_); rintro e w2 ⟨rfl, o2, b2⟩; have O2 := hide2 o2; have B2 := hide2 b2; clear o2 b2)
      go_ret2
      exact ⟨w.heap.size, by rw [AL.out, HE.out]; first | rfl | simp, by rw [AL.out]; exact O2.out, B2.out⟩

/-- Has one of the first so many both? -/
def meetT (bs es : List Bool) (k : Nat) : Bool := (List.range k).any fun j => bs.getD j false && es.getD j false
theorem meetB_succ {bs es : List Bool} {k : Nat} {x y : Bool} (hx : bs[k]? = some x) (hy : es[k]? = some y) : meetT bs es (k + 1) = (meetT bs es k || (x && y)) := by
  unfold meetT
  rw [List.range_succ, List.any_append]
  simp [List.getD_eq_getElem?_getD, hx, hy]
theorem meetB_upto {bs es : List Bool} {k n : Nat} (hk : k ≤ n) (h : meetT bs es k = true) : meetT bs es n = true := by
  unfold meetT at h ⊢
  rw [List.any_eq_true] at h ⊢
  obtain ⟨j, hj, h⟩ := h
  exact ⟨j, List.mem_range.2 (by have := List.mem_range.1 hj; omega), h⟩

set_option maxRecDepth 100000 in
set_option maxHeartbeats 4000000 in
theorem ends_calls (S : SpkW w bp A n c D m d Al nl cl Ae ce ars ls es) {gs : Nat} {bs : List Bool} (h : BoolS w gs n bs) :
    Calls Try.prog 73 #[.pointer (some ⟨bp, 0, none⟩), .slice (some ⟨gs, 0, none⟩) n n] w (fun e w' => e = .returned (.bool (meetT bs es n)) ∧ w' = w) := by
  have SP := hide2 S
  have HS := hide2 h
  have hn := S.small
  obtain ⟨c0, c1, c2, c3⟩ := S.box.four
  clear S h
  go_enter Try.func73, Try.ntmps73
  go_wp2
  go_loopw [9] (fun v wr => ∃ k : Nat, k ≤ n ∧ v = .int .i64 k ∧ wr = w ∧ Hid (meetT bs es k = false)) (fun v _ => n - (intOf v).toNat)
  case atStart => exact ⟨0, Nat.zero_le _, rfl, rfl, rfl⟩
  case round =>
    obtain ⟨k, hk, rfl, rfl, MB⟩ := hrel
    by_cases hlt : k < n
    · have hki : (k : Int) < (n : Int) := by omega
      obtain ⟨x, hx⟩ : ∃ x, bs[k]? = some x := ⟨_, List.getElem?_eq_getElem (by rw [HS.out.1]; exact hlt)⟩
      obtain ⟨be, offe, y, rfl, hbe, hy, qy⟩ := SP.out.ends.get hlt
      have qx := HS.out.2 k x hx
      have MS := hide2 (meetB_succ hx hy.out)
      rw [MB.out] at MS
      clear hx hy
      cases x
      · go_wp2
        go_roundw
        case rel => exact ⟨k + 1, by omega, by go_num, by trivial, by rw [MS.out]; rfl⟩
        case measure => simp [intOf]; omega
      · cases y
        · go_wp2
          go_roundw
          case rel => exact ⟨k + 1, by omega, by go_num, by trivial, by rw [MS.out]; rfl⟩
          case measure => simp [intOf]; omega
        · have YES := hide2 (meetB_upto (n := n) (show k + 1 ≤ n by omega) (by rw [MS.out]; rfl))
          go_wp2
          go_ret
          exact ⟨by rw [YES.out]; first | rfl | simp, rfl⟩
    · obtain rfl : k = n := by omega
      go_wp2
      go_ret
      exact ⟨by rw [MB.out]; first | rfl | simp, rfl⟩
end

set_option maxRecDepth 100000 in
set_option maxHeartbeats 4000000 in
theorem hope_calls {w : World} {F : Option Addr} {n cf gs : Nat} {far : List Int} {bs : List Bool} (hn : n ≤ 300) (g : Ints w F n cf far) (h : BoolS w gs n bs) :
    Calls Try.prog 76 #[.slice F n cf, .slice (some ⟨gs, 0, none⟩) n n] w (fun e w' => e = .returned (.int .i64 (hopeTo bs far n)) ∧ w' = w) := by
  have HG := hide2 g
  have HS := hide2 h
  clear g h
  go_enter Try.func76, Try.ntmps76
  go_wp2
  go_loopw [5, 10] (fun u v wr => ∃ k : Nat, k ≤ n ∧ v = .int .i64 k ∧ wr = w ∧ u = .int .i64 (hopeTo bs far k)) (fun _ v _ => n - (intOf v).toNat)
  case atStart => exact ⟨0, Nat.zero_le _, rfl, rfl, rfl⟩
  case round =>
    obtain ⟨k, hk, rfl, rfl, rfl⟩ := hrel
    by_cases hlt : k < n
    · have hki : (k : Int) < (n : Int) := by omega
      obtain ⟨x, hx⟩ : ∃ x, bs[k]? = some x := ⟨_, List.getElem?_eq_getElem (by rw [HS.out.1]; exact hlt)⟩
      obtain ⟨be, offe, y, rfl, hbe, hy, qy⟩ := HG.out.get hlt
      have qx := HS.out.2 k x hx
      have HY := hide2 (show atI far (k : Int) = y by unfold atI; rw [Int.toNat_natCast, List.getD_eq_getElem?_getD, hy.out]; rfl)
      have HX := hide2 (on_at hx)
      have HS1 := hide2 (hopeTo_succ bs far k)
      obtain ⟨r, hr⟩ : ∃ r, hopeTo bs far k = r := ⟨_, rfl⟩
      rw [hr] at HS1
      rw [hr]
      have TAKE := hide2 (show x = true → 0 ≤ y → (r < 0 ∨ y < r) → hopeTo bs far (k + 1) = y from fun h1 h2 h3 => by
        rw [HS1.out, hopeF, HY.out, if_pos ⟨HX.out.2 h1, h2, h3⟩])
      have KEEP := hide2 (show ¬ (x = true ∧ 0 ≤ y ∧ (r < 0 ∨ y < r)) → hopeTo bs far (k + 1) = r from fun h1 => by
        rw [HS1.out, hopeF, HY.out, if_neg]
        rintro ⟨h2, h3⟩
        exact h1 ⟨HX.out.1 h2, h3⟩)
      clear hx hy hr
      cases x
      · have NO := hide2 (KEEP.out (fun h => by cases h.1))
        go_wp2
        go_roundw
        case rel => exact ⟨k + 1, by omega, by go_num, by trivial, by rw [NO.out]⟩
        case measure => simp [intOf]; omega
      · by_cases h0 : 0 ≤ y
        · by_cases h1 : r < 0
          · have YES := hide2 (TAKE.out rfl h0 (.inl h1))
            go_wp2
            go_roundw
            case rel => exact ⟨k + 1, by omega, by go_num, by trivial, by rw [YES.out]⟩
            case measure => simp [intOf]; omega
          · by_cases h2 : y < r
            · have YES := hide2 (TAKE.out rfl h0 (.inr h2))
              have h1' : 0 ≤ r := by omega
              clear h1
              go_wp2
              go_roundw
              case rel => exact ⟨k + 1, by omega, by go_num, by trivial, by rw [YES.out]⟩
              case measure => simp [intOf]; omega
            · have NO := hide2 (KEEP.out (fun h => by rcases h.2.2 with h3 | h3; exact h1 h3; exact h2 h3))
              have h1' : 0 ≤ r := by omega
              have h2' : r ≤ y := by omega
              clear h1 h2
              go_wp2
              go_roundw
              case rel => exact ⟨k + 1, by omega, by go_num, by trivial, by rw [NO.out]⟩
              case measure => simp [intOf]; omega
        · have NO := hide2 (KEEP.out (fun h => h0 h.2.1))
          have h0' : y < 0 := by omega
          clear h0
          go_wp2
          go_roundw
          case rel => exact ⟨k + 1, by omega, by go_num, by trivial, by rw [NO.out]⟩
          case measure => simp [intOf]; omega
    · obtain rfl : k = n := by omega
      go_wp2
      go_ret
      exact ⟨by first | rfl | simp, rfl⟩
end Go.Proofs.Ytnfppolgaeibeaa
namespace Go.Proofs.Ytnfppolgaeibeaa
open Go.RowKit

/-! ### a row of ints and its measure -/
abbrev IntS (w : World) (g n : Nat) (xs : List Int) : Prop := xs.length = n ∧ ∀ (k : Nat) (x : Int), xs[k]? = some x → w.cell? ⟨g, k, none⟩ = some (.int .i64 x)
theorem IntS.uniq {w : World} {g n : Nat} {xs ys : List Int} (h : IntS w g n xs) (h' : IntS w g n ys) : xs = ys := by
  apply List.ext_getElem (by rw [h.1, h'.1])
  intro j h1 h2
  have a1 := h.2 j _ (List.getElem?_eq_getElem h1)
  have a2 := h'.2 j _ (List.getElem?_eq_getElem h2)
  rw [a1] at a2
  simpa using a2
theorem OwnInts.s {w : World} {B g n cap : Nat} {xs : List Int} (h : OwnInts w B (.slice (some ⟨g, 0, none⟩) n cap) n xs) : IntS w g n xs := ⟨OwnSl.len h, fun _ _ hx => OwnInts.at h hx⟩
open Classical in
noncomputable def rowI (w : World) (g n : Nat) : Nat := if h : ∃ xs, IntS w g n xs then muS n (Classical.choose h) else 0
theorem rowI_eq {w : World} {g n : Nat} {xs : List Int} (h : IntS w g n xs) : rowI w g n = muS n xs := by
  have hex : ∃ xs, IntS w g n xs := ⟨xs, h⟩
  unfold rowI
  rw [dif_pos hex, (Classical.choose_spec hex).uniq h]

/-! ### the start -/
def startX (es : List Bool) (n k : Nat) : List Int := (List.range n).map fun j => if j < k ∧ es.getD j false = false then -1 else 0
theorem startX_len (es : List Bool) (n k : Nat) : (startX es n k).length = n := by simp [startX]
theorem startX_zero (es : List Bool) (n : Nat) : startX es n 0 = List.replicate n 0 := by
  apply List.ext_getElem (by simp [startX])
  intro j h1 h2
  simp [startX]
theorem startX_hit {es : List Bool} {n k : Nat} (hx : es[k]? = some false) : startX es n (k + 1) = (startX es n k).set k (-1) := by
  apply List.ext_getElem (by simp [startX])
  intro j h1 h2
  rw [List.getElem_set]
  simp only [startX, List.getElem_map, List.getElem_range]
  by_cases e : k = j
  · subst e
    rw [if_pos rfl, if_pos ⟨by omega, by rw [List.getD_eq_getElem?_getD, hx]; rfl⟩]
  · rw [if_neg e]
    have : (j < k + 1 ∧ es.getD j false = false) ↔ (j < k ∧ es.getD j false = false) := ⟨fun h => ⟨by omega, h.2⟩, fun h => ⟨by omega, h.2⟩⟩
    exact ite_congr (propext this) (fun _ => rfl) (fun _ => rfl)
theorem startX_miss {es : List Bool} {n k : Nat} (hx : es[k]? = some true) : startX es n (k + 1) = startX es n k := by
  apply List.ext_getElem (by simp [startX])
  intro j h1 h2
  simp only [startX, List.getElem_map, List.getElem_range]
  by_cases e : j = k
  · subst e
    rw [if_neg, if_neg]
    · rintro ⟨h3, _⟩; omega
    · rintro ⟨_, h3⟩
      rw [List.getD_eq_getElem?_getD, hx] at h3
      cases h3
  · have : (j < k + 1 ∧ es.getD j false = false) ↔ (j < k ∧ es.getD j false = false) := ⟨fun h => ⟨by omega, h.2⟩, fun h => ⟨by omega, h.2⟩⟩
    exact ite_congr (propext this) (fun _ => rfl) (fun _ => rfl)
theorem startX_end (es : List Bool) (n : Nat) : startX es n n = startA (fun m => on es m) n := by
  apply List.ext_getElem (by simp [startX, startA])
  intro j h1 h2
  have hj : j < n := by simpa [startX] using h1
  simp only [startX, startA, List.getElem_map, List.getElem_range]
  by_cases e : es.getD j false = true
  · rw [if_neg (by rintro ⟨_, h3⟩; rw [e] at h3; cases h3), if_pos (by unfold on; simpa using e)]
  · rw [if_pos ⟨hj, by simpa using e⟩, if_neg (by unfold on; simpa using e)]
/-- How far it is, from each. -/
noncomputable def farL (ars : List PArc) (lb : Int → Int) (es : List Bool) (n : Nat) : List Int := (List.range n).map fun (k : Nat) => distI ars lb (fun m => on es m) (k : Int)
theorem farL_at {ars : List PArc} {lb : Int → Int} {es : List Bool} {n k : Nat} (hk : k < n) : atI (farL ars lb es n) (k : Int) = distI ars lb (fun m => on es m) (k : Int) := by
  unfold atI farL
  simp [List.getD_eq_getElem?_getD, hk]
theorem FarI.list {ars : List PArc} {lb : Int → Int} {es : List Bool} {n : Nat} {xs : List Int} (h : FarI ars lb (fun m => on es m) n xs) (ht : ∀ a ∈ ars, Inn n a.to_) (hc : ∀ a ∈ ars, farF lb (xs, false) a = (xs, false)) : xs = farL ars lb es n := by
  apply List.ext_getElem (by rw [h.len]; simp [farL])
  intro j h1 h2
  have hj : j < n := by rw [← h.len]; exact h1
  have h3 := (h.done ht hc hj).eq
  have e1 : xs[j] = atI xs (j : Int) := by
    have := atI_some h1
    rw [List.getElem?_eq_getElem h1] at this
    injection this
  have e2 : (farL ars lb es n)[j] = atI (farL ars lb es n) (j : Int) := by
    have := atI_some h2
    rw [List.getElem?_eq_getElem h2] at this
    injection this
  rw [e1, e2, farL_at hj, h3]
/-- Where a round of far stands. -/
def StF (ars : List PArc) (lb : Int → Int) (es : List Bool) (n g cap B : Nat) (w0 wr : World) (b1 : List Int) (q : Nat) (b : Bool) : Prop := ∃ b2, (ars.take q).foldl (farF lb) (b1, false) = (b2, b) ∧ FarI ars lb (fun m => on es m) n b2 ∧ OwnInts wr B (.slice (some ⟨g, 0, none⟩) n cap) n b2 ∧ Below B w0 wr
def AnsFar (xs : List Int) (n : Nat) (w : World) (e : Ending) (w' : World) : Prop := ∃ g c, e = .returned (.slice (some ⟨g, 0, none⟩) n c) ∧ Ints w' (some ⟨g, 0, none⟩) n c xs ∧ Below w.heap.size w w'

set_option maxRecDepth 100000 in
set_option maxHeartbeats 8000000 in
theorem far_calls {w : World} {bp : Nat} {A D Al Ae : Option Addr} {n c m d nl cl ce : Nat} {ars : List PArc} {ls : List Int} {es : List Bool} (S : SpkW w bp A n c D m d Al nl cl Ae ce ars ls es) :
    Calls Try.prog 77 #[.pointer (some ⟨bp, 0, none⟩)] w (AnsFar (farL ars (atI ls) es n) n w) := by
  have SP := hide2 S
  have hm := S.few
  have hn := S.small
  have hp := S.pos
  have AL := hide2 (show ars.length = m from S.arcs.len)
  have MONO := hide2 (FarI.mono (E := fun m => on es m) (lb := atI ls) S.from_ S.to_)
  obtain ⟨c0, c1, c2, c3⟩ := S.box.four
  clear S
  go_enter Try.func77, Try.ntmps77
  go_upto_region 2 with (at_make; refine wpList_mk Try.underlying35 infoInt rfl rfl _ _ rfl n rfl rfl rfl rfl (by omega) (by omega) (Below.refl w.heap.size w) (Nat.le_refl _) ?_; intro w1 own1 hg1 hb1; have OB := hide2 (show OwnInts w1 w.heap.size (.slice (some ⟨w.heap.size, 0, none⟩) n n) n (startX es n 0) from OwnInts.of_row (by rw [startX_zero, List.map_replicate]; exact own1)); have B1 := hide2 hb1; clear own1 hg1 hb1)
  clear c0 c1 c2 c3
  obtain ⟨c0, c1, c2, c3⟩ := (SP.out.box.keep B1.out).four
  go_wp2
  clear c0 c1 c2 c3
  go_loopw [21] (fun v wr => ∃ k : Nat, k ≤ n ∧ v = .int .i64 k ∧ Hid (OwnInts wr w.heap.size (.slice (some ⟨w.heap.size, 0, none⟩) n n) n (startX es n k)) ∧ Hid (Below w.heap.size w wr)) (fun v _ => n - (intOf v).toNat)
  case atStart => exact ⟨0, Nat.zero_le _, rfl, OB, B1⟩
  case round =>
    clear OB B1
    obtain ⟨k, hk, rfl, OB, BX⟩ := hrel
    by_cases hlt : k < n
    · have hki : (k : Int) < (n : Int) := by omega
      obtain ⟨be, offe, y, rfl, hbe, hy, qy⟩ := Bools.get (Sl.keep BoolR.kept SP.out.ends BX.out) hlt
      cases y
      · have NX := hide2 (startX_hit (n := n) hy.out)
        obtain ⟨x, hx⟩ : ∃ x, (startX es n k)[k]? = some x := ⟨_, List.getElem?_eq_getElem (by rw [startX_len]; exact hlt)⟩
        have x0 : wr.cell? ⟨w.heap.size, k, none⟩ = some (.int .i64 x) := OwnInts.at OB.out hx
        have f0 : wr.frozen? ⟨w.heap.size, k, none⟩ = false := OwnInts.frozen OB.out k
        have V2 := hide2 (OwnInts.put OB.out k (-1))
        have V3 := hide2 (BX.out.setCell (p := ⟨w.heap.size, k, none⟩) (Nat.le_refl _) (.int .i64 (-1)))
        clear hx hy
        go_wp2
        go_roundw
        case rel => exact ⟨k + 1, by omega, by go_num, hide2 (by rw [NX.out]; exact V2.out), V3⟩
        case measure => simp [intOf]; omega
      · have NX := hide2 (startX_miss (n := n) hy.out)
        clear hy
        go_wp2
        go_roundw
        case rel => exact ⟨k + 1, by omega, by go_num, hide2 (by rw [NX.out]; exact OB.out), BX⟩
        case measure => simp [intOf]; omega
    · obtain rfl : k = n := by omega
      have OA := hide2 (show OwnInts wr w.heap.size (.slice (some ⟨w.heap.size, 0, none⟩) k k) k (startA (fun m => on es m) k) by rw [← startX_end]; exact OB.out)
      have F_ := hide2 (FarI.start (ars := ars) (lb := atI ls) (E := fun m => on es m) (n := k))
      clear OB hlt hk
      go_wp2
      go_loopw [6] (fun u wr => ∃ (b : Bool) (b1 : List Int), u = .bool b ∧ Hid (OwnInts wr w.heap.size (.slice (some ⟨w.heap.size, 0, none⟩) k k) k b1) ∧ Hid (FarI ars (atI ls) (fun m => on es m) k b1) ∧ Hid (b = false → ∀ a ∈ ars, farF (atI ls) (b1, false) a = (b1, false)) ∧ Hid (Below w.heap.size w wr)) (fun u wr => rowI wr w.heap.size k + boolOf u)
      case atStart => exact ⟨true, _, rfl, OA, F_, hide2 (fun e => (by cases e)), BX⟩
      case round =>
        clear OA F_ BX
        obtain ⟨b, b1, rfl, OB, SQ, CL, BX⟩ := hrel
        cases b
        · have FN := hide2 (SQ.out.list SP.out.to_ (CL.out rfl))
          go_wp2
          go_ret
          exact ⟨_, _, rfl, by rw [← FN.out]; exact OwnInts.ints OB.out (by omega), BX.out⟩
        · have RF := hide2 (rowI_eq (OwnInts.s OB.out))
          have ST0 := hide2 (show StF ars (atI ls) es k w.heap.size k w.heap.size w wr b1 0 false from ⟨b1, rfl, SQ.out, OB.out, BX.out⟩)
          obtain ⟨c0, c1, c2, c3⟩ := (SP.out.box.keep BX.out).four
          clear OB BX CL
          go_wp2
          clear c0 c1 c2 c3
          go_loopw [6, 39] (fun u v wr => ∃ q : Nat, q ≤ m ∧ v = .int .i64 q ∧ ∃ b : Bool, u = .bool b ∧ Hid (StF ars (atI ls) es k w.heap.size k w.heap.size w wr b1 q b)) (fun _ v _ => m - (intOf v).toNat)
          case atStart => exact ⟨0, Nat.zero_le _, rfl, false, rfl, ST0⟩
          case round =>
            clear ST0
            obtain ⟨q, hq, rfl, b, rfl, ST⟩ := hrel
            obtain ⟨b2, s1, s0, s2, s3⟩ := ST.out
            have S1 := hide2 s1
            have S0 := hide2 s0
            have S2 := hide2 s2
            have S3 := hide2 s3
            clear ST s1 s2 s3 s0
            by_cases hlt : q < m
            · have hki : (q : Int) < (m : Int) := by omega
              obtain ⟨bl, off, a, rfl, hbl, ha, q0, q1, q2, _⟩ := Arcs.get (Sl.keep ArcR.kept SP.out.arcs S3.out) hlt
              have hmem := List.mem_of_getElem? ha.out
              obtain ⟨f, ef, hf⟩ := natOf (SP.out.from_ a hmem)
              obtain ⟨t, et, ht⟩ := natOf (SP.out.to_ a hmem)
              obtain ⟨r, er, hr⟩ := natOf (SP.out.tran a hmem)
              have NX := hide2 (show (ars.take (q + 1)).foldl (farF (atI ls)) (b1, false) = farF (atI ls) (b2, b) a by rw [foldl_take_succ ha.out, S1.out])
              have PSN := hide2 (MONO.out.passTo (ars.take (q + 1)) (fun _ h => List.mem_of_mem_take h) (b1, false) SQ.out)
              rw [NX.out] at PSN
              rw [ef] at q0
              rw [er] at q1
              rw [et] at q2
              have bb := boxBelow wr (.cells #[.int .i64 f, .int .i64 r, .int .i64 t] 130)
              have WA := hide2 (Box.new wr #[.int .i64 f, .int .i64 r, .int .i64 t] 130)
              have T2 := hide2 (OwnSl.keep IntR.kept S2.out bb)
              have T3 := hide2 (S3.out.trans (bb.mono S3.out.size))
              have EF := hide2 ef
              have ET := hide2 et
              have ER := hide2 er
              clear S1 S2 S3 ha hmem ef et er
              go_upto_region 14 with fail
              clear bb q0 q1 q2
              generalize wr.alloc (.cells #[.int .i64 f, .int .i64 r, .int .i64 t] 130) = u0 at *
              generalize wr.heap.size = bx at *
              obtain ⟨bq, offq, l, rfl, hbq, hl, ql⟩ := (SP.out.labels.keep T3.out).get hr
              have LB := hide2 (show atI ls a.tran = l by unfold atI; rw [ER.out, Int.toNat_natCast, List.getD_eq_getElem?_getD, hl.out]; rfl)
              have hlen := S0.out.len
              have hv1 := atI_some (xs := b2) (k := f) (by omega)
              have hv2 := atI_some (xs := b2) (k := t) (by omega)
              have hfew := S0.out.few t ht
              have hcnt := cntS_le b2
              have hlow := S0.out.low t ht
              obtain ⟨x, hx⟩ : ∃ x, atI b2 (f : Int) = x := ⟨_, rfl⟩
              obtain ⟨y, hy⟩ : ∃ y, atI b2 (t : Int) = y := ⟨_, rfl⟩
              rw [hx] at hv1
              rw [hy] at hv2 hfew hlow
              have hy1 : y < 300 := by omega
              have x1 : u0.cell? ⟨w.heap.size, f, none⟩ = some (.int .i64 x) := OwnInts.at T2.out hv1
              have x2 : u0.cell? ⟨w.heap.size, t, none⟩ = some (.int .i64 y) := OwnInts.at T2.out hv2
              obtain ⟨t0, t1, t2⟩ := WA.out.three
              obtain ⟨c0, c1, c2, c3⟩ := (SP.out.box.keep T3.out).four
              have hff : (f : Int) < (k : Int) := by omega
              have htt : (t : Int) < (k : Int) := by omega
              have hrr : (r : Int) < (nl : Int) := by omega
              have FF := hide2 (show ∀ z : Int, stepV (atI ls) b2 a = z → (0 ≤ z ∧ (x < 0 ∨ z < x) → (ars.take (q + 1)).foldl (farF (atI ls)) (b1, false) = (b2.set f z, true) ∧ FarI ars (atI ls) (fun m => on es m) k (b2.set f z)) ∧ (¬ (0 ≤ z ∧ (x < 0 ∨ z < x)) → (ars.take (q + 1)).foldl (farF (atI ls)) (b1, false) = (b2, b)) from fun z hz => by
                refine ⟨fun h => ?_, fun h => ?_⟩
                · have e : farF (atI ls) (b2, b) a = (b2.set f z, true) := by
                    unfold farF
                    simp only [hz, EF.out, hx]
                    rw [if_pos h]; simp
                  exact ⟨by rw [NX.out, e], by have := PSN.out.inv; rwa [e] at this⟩
                · rw [NX.out, farF]
                  simp only [hz, EF.out, hx]
                  rw [if_neg h])
              have SV0 := hide2 (show y < 0 → stepV (atI ls) b2 a = y from fun h => by rw [stepV_none (by rw [ET.out, hy]; exact h), ET.out, hy])
              have SV1 := hide2 (show 0 ≤ y → 0 < l → stepV (atI ls) b2 a = y + 1 from fun h h1 => by rw [stepV, if_pos ⟨by rw [ET.out, hy]; exact h, by rw [LB.out]; exact h1⟩, ET.out, hy])
              have SV2 := hide2 (show 0 ≤ y → ¬ 0 < l → stepV (atI ls) b2 a = y from fun h h1 => by rw [stepV, if_neg (fun h2 => h1 (by rw [← LB.out]; exact h2.2)), ET.out, hy])
              have HV1 := hide2 hv1
              have HV2 := hide2 hv2
              have OLD := hide2 (fun (nq : Nat) => show StF ars (atI ls) es k w.heap.size k w.heap.size w (u0.drewN nq) b1 (q + 1) b ↔ (ars.take (q + 1)).foldl (farF (atI ls)) (b1, false) = (b2, b) by
                have DB := (Drew.drewN u0 nq).below
                refine ⟨fun h => ?_, fun h => ⟨b2, h, S0.out, OwnSl.keep IntR.kept T2.out DB, T3.out.trans (DB.mono T3.out.size)⟩⟩
                obtain ⟨b3, h1, _, h3, _⟩ := h
                have : b3 = b2 := (OwnInts.s h3).uniq (OwnInts.s (OwnSl.keep IntR.kept T2.out DB))
                rw [h1, this])
              clear hv1 hv2 hl hx hy hlen hfew hcnt
              by_cases hyp : 0 ≤ y
              · by_cases hl0 : 0 < l
                · have ZE := hide2 (SV1.out hyp hl0)
                  by_cases hx0 : x < 0
                  · skip
                    have YES := hide2 ((FF.out (y + 1) ZE.out).1 ⟨by omega, .inl hx0⟩)
                    go_upto_region 15 with fail
                    go_quiet (fail)
                    have DB := hide2 (Drew.drewN u0 nq).below
                    have U2 := hide2 (OwnSl.keep IntR.kept T2.out DB.out)
                    have U3 := hide2 (T3.out.trans (DB.out.mono T3.out.size))
                    have UW := hide2 (WA.out.keep DB.out)
                    generalize u0.drewN nq = u1 at *
                    clear t0 t1 t2 c0 c1 c2 c3 ql DB OLD
                    have x1 : u1.cell? ⟨w.heap.size, f, none⟩ = some (.int .i64 x) := OwnInts.at U2.out HV1.out
                    have f1 : u1.frozen? ⟨w.heap.size, f, none⟩ = false := OwnInts.frozen U2.out f
                    obtain ⟨t0, t1, t2⟩ := UW.out.three
                    have V2 := hide2 (OwnInts.put U2.out f (y + 1))
                    have V3 := hide2 (U3.out.setCell (p := ⟨w.heap.size, f, none⟩) (Nat.le_refl _) (.int .i64 (y + 1)))
                    go_wp2
                    go_roundw
                    case rel => exact ⟨q + 1, by omega, by go_num, true, rfl, hide2 ⟨_, YES.out.1, YES.out.2, V2.out, V3.out⟩⟩
                    case measure => simp [intOf]; omega
                  · by_cases hzx : y + 1 < x
                    · skip
                      have YES := hide2 ((FF.out (y + 1) ZE.out).1 ⟨by omega, .inr hzx⟩)
                      go_upto_region 15 with fail
                      go_quiet (fail)
                      have DB := hide2 (Drew.drewN u0 nq).below
                      have U2 := hide2 (OwnSl.keep IntR.kept T2.out DB.out)
                      have U3 := hide2 (T3.out.trans (DB.out.mono T3.out.size))
                      have UW := hide2 (WA.out.keep DB.out)
                      generalize u0.drewN nq = u1 at *
                      clear t0 t1 t2 c0 c1 c2 c3 ql DB OLD
                      have x1 : u1.cell? ⟨w.heap.size, f, none⟩ = some (.int .i64 x) := OwnInts.at U2.out HV1.out
                      have f1 : u1.frozen? ⟨w.heap.size, f, none⟩ = false := OwnInts.frozen U2.out f
                      obtain ⟨t0, t1, t2⟩ := UW.out.three
                      have V2 := hide2 (OwnInts.put U2.out f (y + 1))
                      have V3 := hide2 (U3.out.setCell (p := ⟨w.heap.size, f, none⟩) (Nat.le_refl _) (.int .i64 (y + 1)))
                      go_wp2
                      go_roundw
                      case rel => exact ⟨q + 1, by omega, by go_num, true, rfl, hide2 ⟨_, YES.out.1, YES.out.2, V2.out, V3.out⟩⟩
                      case measure => simp [intOf]; omega
                    · skip
                      have NO := hide2 ((FF.out (y + 1) ZE.out).2 (fun h => by omega))
                      go_upto_region 15 with fail
                      go_quiet (fail)
                      have GO := hide2 ((OLD.out nq).2 NO.out)
                      go_wp2
                      go_roundw
                      case rel => exact ⟨q + 1, by omega, by go_num, b, rfl, GO⟩
                      case measure => simp [intOf]; omega
                · have ZE := hide2 (SV2.out hyp hl0)
                  by_cases hx0 : x < 0
                  · skip
                    have YES := hide2 ((FF.out y ZE.out).1 ⟨by omega, .inl hx0⟩)
                    go_upto_region 15 with fail
                    go_quiet (fail)
                    have DB := hide2 (Drew.drewN u0 nq).below
                    have U2 := hide2 (OwnSl.keep IntR.kept T2.out DB.out)
                    have U3 := hide2 (T3.out.trans (DB.out.mono T3.out.size))
                    have UW := hide2 (WA.out.keep DB.out)
                    generalize u0.drewN nq = u1 at *
                    clear t0 t1 t2 c0 c1 c2 c3 ql DB OLD
                    have x1 : u1.cell? ⟨w.heap.size, f, none⟩ = some (.int .i64 x) := OwnInts.at U2.out HV1.out
                    have f1 : u1.frozen? ⟨w.heap.size, f, none⟩ = false := OwnInts.frozen U2.out f
                    obtain ⟨t0, t1, t2⟩ := UW.out.three
                    have V2 := hide2 (OwnInts.put U2.out f y)
                    have V3 := hide2 (U3.out.setCell (p := ⟨w.heap.size, f, none⟩) (Nat.le_refl _) (.int .i64 y))
                    go_wp2
                    go_roundw
                    case rel => exact ⟨q + 1, by omega, by go_num, true, rfl, hide2 ⟨_, YES.out.1, YES.out.2, V2.out, V3.out⟩⟩
                    case measure => simp [intOf]; omega
                  · by_cases hzx : y < x
                    · skip
                      have YES := hide2 ((FF.out y ZE.out).1 ⟨by omega, .inr hzx⟩)
                      go_upto_region 15 with fail
                      go_quiet (fail)
                      have DB := hide2 (Drew.drewN u0 nq).below
                      have U2 := hide2 (OwnSl.keep IntR.kept T2.out DB.out)
                      have U3 := hide2 (T3.out.trans (DB.out.mono T3.out.size))
                      have UW := hide2 (WA.out.keep DB.out)
                      generalize u0.drewN nq = u1 at *
                      clear t0 t1 t2 c0 c1 c2 c3 ql DB OLD
                      have x1 : u1.cell? ⟨w.heap.size, f, none⟩ = some (.int .i64 x) := OwnInts.at U2.out HV1.out
                      have f1 : u1.frozen? ⟨w.heap.size, f, none⟩ = false := OwnInts.frozen U2.out f
                      obtain ⟨t0, t1, t2⟩ := UW.out.three
                      have V2 := hide2 (OwnInts.put U2.out f y)
                      have V3 := hide2 (U3.out.setCell (p := ⟨w.heap.size, f, none⟩) (Nat.le_refl _) (.int .i64 y))
                      go_wp2
                      go_roundw
                      case rel => exact ⟨q + 1, by omega, by go_num, true, rfl, hide2 ⟨_, YES.out.1, YES.out.2, V2.out, V3.out⟩⟩
                      case measure => simp [intOf]; omega
                    · skip
                      have NO := hide2 ((FF.out y ZE.out).2 (fun h => by omega))
                      go_upto_region 15 with fail
                      go_quiet (fail)
                      have GO := hide2 ((OLD.out nq).2 NO.out)
                      go_wp2
                      go_roundw
                      case rel => exact ⟨q + 1, by omega, by go_num, b, rfl, GO⟩
                      case measure => simp [intOf]; omega
              · have ZE := hide2 (SV0.out (by omega))
                have NO := hide2 ((FF.out y ZE.out).2 (fun h => by omega))
                go_upto_region 15 with fail
                go_quiet (fail)
                have GO := hide2 ((OLD.out nq).2 NO.out)
                go_wp2
                go_roundw
                case rel => exact ⟨q + 1, by omega, by go_num, b, rfl, GO⟩
                case measure => simp [intOf]; omega
            · obtain rfl : q = m := by omega
              have PS := hide2 (MONO.out.pass (b1, false) SQ.out)
              have FL := hide2 (show ars.foldl (farF (atI ls)) (b1, false) = (b2, b) by have := S1.out; rwa [List.take_of_length_le (by rw [AL.out]; exact Nat.le_refl _)] at this)
              rw [FL.out] at PS
              go_wp2
              go_roundw
              case rel =>
                refine ⟨b, b2, rfl, S2, S0, hide2 (fun e => ?_), S3⟩
                obtain ⟨h1, h2⟩ := PS.out.same e
                injection h1 with h1 _
                subst h1
                exact h2
              case measure =>
                rw [rowI_eq (OwnInts.s S2.out), RF.out]
                cases b
                · have h1 := (PS.out.same rfl).1
                  injection h1 with h1 _
                  subst h1
                  simp [boolOf]
                · rcases PS.out.new rfl with h1 | h1
                  · cases h1
                  · simp only at h1
                    simp [boolOf]
                    omega
end Go.Proofs.Ytnfppolgaeibeaa
