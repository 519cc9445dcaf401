/- Texts melted into one: The functions that the reference's WFind hands on: what leads to what; whether a group begins as another. Conditions: the prints read as lists. | The reference's passes over the groups: which come in, and when all are in. The plain law. Conditions: the groups are those of the labels; leading to is transitive. No program in sight. -/
import Derived.Test.YtcopnfdknclhnaaGreatMineTellsK44
namespace Go.Proofs.YtcopnfdknclhnaaGreat
open Go.RowKit Go.Maps

abbrev w5V (b : Nat) : Value := .func (.func 39) #[] #[.pointer (some ⟨b, 0, none⟩)]
set_option maxRecDepth 100000 in
theorem w5_calls {w : World} {bp : Nat} {log : List (List Int)} {p : PPrints} (hp : ShowsP log p) (hl : p.labels.length ≤ 26) (a b : Int) (h : PrB w bp p) :
    Calls Tryz.prog 39 #[.int .i64 a, .int .i64 b, .pointer (some ⟨bp, 0, none⟩)] w fun e w' => e = .returned (.bool (leadB p a b)) ∧ Below w.heap.size w w' := by
  obtain ⟨A1, A2, A3, A4, n1, c1, n2, c2, n3, c3, n4, c4, x, i⟩ := h
  have C1 := hide2 (wled_calls a i (fun u v huv => by
    obtain ⟨t, ht, k, h1, h2⟩ := (hp.2.2.2.2 _).1 huv
    exact ⟨(hp.1.2 u).2 ⟨t, ht, List.mem_of_getElem? h1⟩, (hp.1.2 v).2 ⟨t, ht, List.mem_of_getElem? h2⟩⟩) hl)
  have HP := hide2 hp
  obtain ⟨x0, x1, x2, x3⟩ := x.four
  clear x i hp hl
  go_enter Tryz.func39, Tryz.ntmps39
  go_wp2_with fail
  refine C1.out.mono ?_
  rintro e w2 ⟨A, n, c, out, rfl, io, hv, hb⟩
  have CC := hide2 (containsInt_calls b io)
  have HV := hide2 hv
  have HB := hide2 hb
  clear io hv hb C1
  go_wp2_with fail
  refine CC.out.mono ?_
  rintro e w3 ⟨rfl, rfl⟩
  have EQ := hide2 (show (out.any fun y => b == y) = leadB p a b from by
    have h1 : (out.any fun y => b == y) = true ↔ leadB p a b = true := by
      rw [List.any_eq_true, leadB_is HP.out]
      refine ⟨fun ⟨y, hy, e⟩ => (HV.out b).1 (by rw [beq_iff_eq] at e; rw [e]; exact hy), fun h => ⟨b, (HV.out b).2 h, by simp⟩⟩
    cases h2 : (out.any fun y => b == y) <;> cases h3 : leadB p a b <;> simp_all)
  go_wp2
  go_ret
  exact ⟨ret_bool EQ.out, HB.out⟩
set_option maxRecDepth 100000 in
theorem w6_lk {w : World} {b12 bp : Nat} {log : List (List Int)} {p : PPrints} (ls : List Int) (hp : ShowsP log p) (hl : p.labels.length ≤ 26) (h : PrB w bp p) (x : Box w b12 58 #[w5V bp]) : IsLk 41 #[] #[.pointer (some ⟨b12, 0, none⟩)] w ls (alikeB (leadB p)) where
  enters := fun args w => by kernel_rfl
  calls := fun wr a b _ _ hb => by
    have BD := hide2 ((Below.refl wr.heap.size wr).drew)
    have C1 := hide2 (w5_calls hp hl a b ((h.keep hb).keep BD.out))
    have C2 := hide2 (fun (w2 : World) (hq : Below wr.heap.size wr w2) => w5_calls hp hl b a ((h.keep hb).keep hq))
    have X := hide2 (x.keep hb)
    clear h x hb hp hl
    simp only [Array.empty_append]
    change Calls _ _ #[.int .i64 a, .int .i64 b, .pointer (some ⟨b12, 0, none⟩)] _ _
    have x0 := X.out.cell 0
    go_enter Tryz.func41, Tryz.ntmps41
    go_wp2_with fail
    go_region_held3 (fun w' => w'.cell? ⟨b12, 0, none⟩ = some (w5V bp))
      (first | go_keep)
      (first
        | (go_at_call 39; (with_reducible refine C1.out.mono ?_); rintro e w2 ⟨rfl, hb2⟩; have B2 := hide2 (BD.out.trans (hb2.mono BD.out.size)); have x02 := (X.out.keep B2.out).cell 0; have C3 := hide2 (C2.out w2 B2.out); clear hb2)
        | (go_at_call 39; (with_reducible refine C3.out.mono ?_); rintro e w3 ⟨rfl, hb3⟩; have B3 := hide2 (B2.out.trans (hb3.mono B2.out.size)); have x03 := (X.out.keep B3.out).cell 0; clear hb3))
    go_wp2
    go_ret
    exact ⟨ret_bool rfl, B3.out⟩
/-- Whether y begins as g does. -/
def beginB (g y : List Int) : Bool := decide (y.headD 0 = g.headD 0)
set_option maxRecDepth 100000 in
set_option maxHeartbeats 1000000 in
theorem w7_pred {w : World} {L : List (List Int)} {gr bx m d : Nat} {B : Option Addr} {g : List Int} (hL : ∀ y ∈ L, y ≠ []) (hg : g ≠ []) (x : Box w bx 35 #[.slice B m d]) (ig : Ints w B m d g) (h0 : bx ≠ gr) (h1 : ∀ a, B = some a → a.block ≠ gr) : IsPredM 42 #[.pointer (some ⟨bx, 0, none⟩)] w gr L (beginB g) where
  enters := fun args w => by kernel_rfl
  calls := fun wr A n c y hy hgr hi => by
    have hy0 := hL y hy
    obtain ⟨yl, tl, rfl⟩ : ∃ a t, y = a :: t := by
      cases y with
      | nil => exact absurd rfl hy0
      | cons a t => exact ⟨a, t, rfl⟩
    obtain ⟨gl, tg, rfl⟩ : ∃ a t, g = a :: t := by
      cases g with
      | nil => exact absurd rfl hg
      | cons a t => exact ⟨a, t, rfl⟩
    have ig2 := Ints.keepRow ig hgr (.inr (by
      cases B with
      | none => exact fun e => nomatch e
      | some a => intro e; injection e with e; exact h1 a rfl e.symm))
    have hln := hi.len
    have hmn := ig2.len
    simp only [List.length_cons] at hln hmn
    obtain ⟨bl, ol, y2, rfl, hbl, hyl, ql⟩ := Ints.get hi (k := 0) (by omega)
    obtain ⟨bg, og, g2, rfl, hbg, hgl, qg⟩ := Ints.get ig2 (k := 0) (by omega)
    have e1 : y2 = yl := by have := hyl.out; simp at this; exact this.symm
    have e2 : g2 = gl := by have := hgl.out; simp at this; exact this.symm
    subst e1 e2
    have X := hide2 (x.grown hgr (fun e => h0 (by injection e with e; exact e.symm)))
    have BD := hide2 ((Below.refl wr.heap.size wr).drew)
    have hn0 : 0 < n := by omega
    have hm0 : 0 < m := by omega
    change Calls _ _ #[_, .pointer (some ⟨bx, 0, none⟩)] _ _
    have x0 := X.out.cell 0
    rw [Nat.add_zero] at ql qg
    clear hL hg x ig ig2 h0 h1 hgr hy hi hy0 hln hmn hbl hyl hbg hgl
    by_cases he : y2 = g2
    · have hei : (y2 == g2) = true := by simp [he]
      have HE := hide2 he
      clear he
      go_enter Tryz.func42, Tryz.ntmps42
      go_wp2_with fail
      go_region_held3 (fun w' => w'.cell? ⟨bx, 0, none⟩ = some (.slice (some ⟨bg, og, none⟩) m d) ∧ w'.cell? ⟨bl, ol, none⟩ = some (.int .i64 y2) ∧ w'.cell? ⟨bg, og, none⟩ = some (.int .i64 g2))
        (first | go_keep)
        (fail)
      go_wp2
      go_ret
      exact ⟨ret_bool (by unfold beginB; simp [HE.out]), BD.out⟩
    · have hei : (y2 == g2) = false := by simp [he]
      have HE := hide2 he
      clear he
      go_enter Tryz.func42, Tryz.ntmps42
      go_wp2_with fail
      go_region_held3 (fun w' => w'.cell? ⟨bx, 0, none⟩ = some (.slice (some ⟨bg, og, none⟩) m d) ∧ w'.cell? ⟨bl, ol, none⟩ = some (.int .i64 y2) ∧ w'.cell? ⟨bg, og, none⟩ = some (.int .i64 g2))
        (first | go_keep)
        (fail)
      go_wp2
      go_ret
      exact ⟨ret_bool (by unfold beginB; simp [HE.out]), BD.out⟩
set_option maxRecDepth 100000 in
set_option maxHeartbeats 1000000 in
theorem w8_pred {w : World} {L : List (List Int)} {gr bx m d : Nat} {B : Option Addr} {g : List Int} (hL : ∀ y ∈ L, y ≠ []) (hg : g ≠ []) (x : Box w bx 35 #[.slice B m d]) (ig : Ints w B m d g) (h0 : bx ≠ gr) (h1 : ∀ a, B = some a → a.block ≠ gr) : IsPredM 43 #[.pointer (some ⟨bx, 0, none⟩)] w gr L (beginB g) where
  enters := fun args w => by kernel_rfl
  calls := fun wr A n c y hy hgr hi => by
    have hy0 := hL y hy
    obtain ⟨yl, tl, rfl⟩ : ∃ a t, y = a :: t := by
      cases y with
      | nil => exact absurd rfl hy0
      | cons a t => exact ⟨a, t, rfl⟩
    obtain ⟨gl, tg, rfl⟩ : ∃ a t, g = a :: t := by
      cases g with
      | nil => exact absurd rfl hg
      | cons a t => exact ⟨a, t, rfl⟩
    have ig2 := Ints.keepRow ig hgr (.inr (by
      cases B with
      | none => exact fun e => nomatch e
      | some a => intro e; injection e with e; exact h1 a rfl e.symm))
    have hln := hi.len
    have hmn := ig2.len
    simp only [List.length_cons] at hln hmn
    obtain ⟨bl, ol, y2, rfl, hbl, hyl, ql⟩ := Ints.get hi (k := 0) (by omega)
    obtain ⟨bg, og, g2, rfl, hbg, hgl, qg⟩ := Ints.get ig2 (k := 0) (by omega)
    have e1 : y2 = yl := by have := hyl.out; simp at this; exact this.symm
    have e2 : g2 = gl := by have := hgl.out; simp at this; exact this.symm
    subst e1 e2
    have X := hide2 (x.grown hgr (fun e => h0 (by injection e with e; exact e.symm)))
    have BD := hide2 ((Below.refl wr.heap.size wr).drew)
    have hn0 : 0 < n := by omega
    have hm0 : 0 < m := by omega
    change Calls _ _ #[_, .pointer (some ⟨bx, 0, none⟩)] _ _
    have x0 := X.out.cell 0
    rw [Nat.add_zero] at ql qg
    clear hL hg x ig ig2 h0 h1 hgr hy hi hy0 hln hmn hbl hyl hbg hgl
    by_cases he : y2 = g2
    · have hei : (y2 == g2) = true := by simp [he]
      have HE := hide2 he
      clear he
      go_enter Tryz.func43, Tryz.ntmps43
      go_wp2_with fail
      go_region_held3 (fun w' => w'.cell? ⟨bx, 0, none⟩ = some (.slice (some ⟨bg, og, none⟩) m d) ∧ w'.cell? ⟨bl, ol, none⟩ = some (.int .i64 y2) ∧ w'.cell? ⟨bg, og, none⟩ = some (.int .i64 g2))
        (first | go_keep)
        (fail)
      go_wp2
      go_ret
      exact ⟨ret_bool (by unfold beginB; simp [HE.out]), BD.out⟩
    · have hei : (y2 == g2) = false := by simp [he]
      have HE := hide2 he
      clear he
      go_enter Tryz.func43, Tryz.ntmps43
      go_wp2_with fail
      go_region_held3 (fun w' => w'.cell? ⟨bx, 0, none⟩ = some (.slice (some ⟨bg, og, none⟩) m d) ∧ w'.cell? ⟨bl, ol, none⟩ = some (.int .i64 y2) ∧ w'.cell? ⟨bg, og, none⟩ = some (.int .i64 g2))
        (first | go_keep)
        (fail)
      go_wp2
      go_ret
      exact ⟨ret_bool (by unfold beginB; simp [HE.out]), BD.out⟩
theorem containsM_calls {w : World} {A : Option Addr} {n c gr : Nat} {ms : List (List Int)} {F : FuncId} {cap : Array Value} {q : List Int → Bool} (h : Lists w A n c ms) (hp : IsPredM F cap w gr ms q) :
    Calls Tryz.prog 23 #[.slice A n c, .func (.func F) #[] cap] w fun e w' => e = .returned (.bool (ms.any q)) ∧ Below w.heap.size w w' := by
  have H := hide2 h
  have HP := hide2 hp
  clear h hp
  go_enter Tryz.func23, Tryz.ntmps23
  go_wp2_with (refine (indexM_calls H.out HP.out).mono ?_; rintro e w' ⟨rfl, hb'⟩; have HB := hide2 hb'; clear hb')
  go_ret
  exact ⟨ret_bool (idxFirst_any _ _), HB.out⟩
end Go.Proofs.YtcopnfdknclhnaaGreat
namespace Go.Proofs.YtcopnfdknclhnaaGreat

section
variable {lds : Int → Int → Bool} {ls : List Int} {G inn inn0 : List (List Int)}
theorem head_grp (h : IsGr (alikeB lds) ls G) {g k : List Int} (hg : g ∈ G) (hk : k ∈ G) (e : g.headD 0 = k.headD 0) : g = k := by
  refine h.same hg hk (hdG_mem (h.ne g hg)) ?_
  unfold hdG
  rw [e]
  exact hdG_mem (h.ne k hk)
theorem any_begin (h : IsGr (alikeB lds) ls G) (hs : ∀ x ∈ inn, x ∈ G) {g : List Int} (hg : g ∈ G) : inn.any (beginB g) = true ↔ g ∈ inn := by
  rw [List.any_eq_true]
  constructor
  · rintro ⟨y, hy, e⟩
    unfold beginB at e
    rw [decide_eq_true_eq] at e
    have := head_grp h (hs y hy) hg e
    rw [← this]; exact hy
  · intro hi
    exact ⟨g, hi, by unfold beginB; simp⟩
/-- Whether g waits for k. -/
def waitsB (lds : Int → Int → Bool) (inn : List (List Int)) (g k : List Int) : Bool := (!decide (k.headD 0 = g.headD 0)) && (lds (k.headD 0) (g.headD 0) && !(inn.any (beginB k)))
def firstB (lds : Int → Int → Bool) (G inn : List (List Int)) (g : List Int) : Bool := (!(inn.any (beginB g))) && G.all fun k => !waitsB lds inn g k
theorem firstB_is (h : IsGr (alikeB lds) ls G) (hs : ∀ x ∈ inn, x ∈ G) {g : List Int} (hg : g ∈ G) : firstB lds G inn g = true ↔ g ∉ inn ∧ ∀ k ∈ G, k ≠ g → ltG lds k g → k ∈ inn := by
  unfold firstB
  rw [Bool.and_eq_true, Bool.not_eq_true', List.all_eq_true]
  refine Iff.intro (fun ⟨h1, h2⟩ => ⟨fun hi => ?_, fun k hk hne hl => ?_⟩) (fun ⟨h1, h2⟩ => ⟨?_, fun k hk => ?_⟩)
  · rw [(any_begin h hs hg).2 hi] at h1; cases h1
  · have h3 := h2 k hk
    unfold waitsB at h3
    rw [Bool.not_eq_true', Bool.and_eq_false_iff] at h3
    rcases h3 with h3 | h3
    · rw [Bool.not_eq_false', decide_eq_true_eq] at h3
      exact absurd (head_grp h hk hg h3) hne
    · rw [Bool.and_eq_false_iff] at h3
      rcases h3 with h3 | h3
      · unfold ltG hdG at hl; rw [hl] at h3; cases h3
      · rw [Bool.not_eq_false'] at h3
        exact (any_begin h hs hk).1 h3
  · cases e : inn.any (beginB g)
    · rfl
    · exact absurd ((any_begin h hs hg).1 e) h1
  · rw [Bool.not_eq_true']
    unfold waitsB
    by_cases he : k.headD 0 = g.headD 0
    · rw [decide_eq_true he]; rfl
    · have hne : k ≠ g := fun e => he (by rw [e])
      cases hl : lds (k.headD 0) (g.headD 0)
      · rw [Bool.false_and, Bool.and_false]
      · rw [(any_begin h hs hk).2 (h2 k hk hne hl)]
        simp only [Bool.not_true, Bool.and_false]
/-- In the midst of a pass. -/
structure PassI (lds : Int → Int → Bool) (G inn0 inn : List (List Int)) (k : Nat) : Prop where
  I : InI lds G inn
  old : ∀ x ∈ inn0, x ∈ inn
  got : ∀ g ∈ G.take k, g ∉ inn0 → (∀ y ∈ G, y ≠ g → ltG lds y g → y ∈ inn0) → g ∈ inn
theorem PassI.start (h : InI lds G inn0) : PassI lds G inn0 inn0 0 := ⟨h, fun _ h => h, fun g hg => by simp at hg⟩
theorem mem_take_next {α : Type} {G : List α} {k : Nat} {g x : α} (hg : G[k]? = some g) (hx : x ∈ G.take (k + 1)) : x ∈ G.take k ∨ x = g := by
  rw [List.take_add_one, hg] at hx
  simpa using hx
theorem PassI.skip {k : Nat} {g : List Int} (P : PassI lds G inn0 inn k) (h : IsGr (alikeB lds) ls G) (hg : G[k]? = some g) (hf : firstB lds G inn g = false) : PassI lds G inn0 inn (k + 1) :=
  ⟨P.I, P.old, fun x hx hn hw => by
    rcases mem_take_next hg hx with hx | rfl
    · exact P.got x hx hn hw
    · refine Classical.byContradiction (fun hi => ?_)
      have := (firstB_is h P.I.sub (List.mem_of_getElem? hg)).2 ⟨hi, fun y hy hne hl => P.old y (hw y hy hne hl)⟩
      rw [hf] at this; cases this⟩
theorem PassI.take {k : Nat} {g : List Int} (P : PassI lds G inn0 inn k) (h : IsGr (alikeB lds) ls G) (hg : G[k]? = some g) (hf : firstB lds G inn g = true) : PassI lds G inn0 (inn ++ [g]) (k + 1) := by
  obtain ⟨h1, h2⟩ := (firstB_is h P.I.sub (List.mem_of_getElem? hg)).1 hf
  refine ⟨P.I.add h (List.mem_of_getElem? hg) h1 h2, fun x hx => List.mem_append.2 (.inl (P.old x hx)), fun x hx hn hw => ?_⟩
  rcases mem_take_next hg hx with hx | rfl
  · exact List.mem_append.2 (.inl (P.got x hx hn hw))
  · simp
theorem InI.len (h : InI lds G inn) : inn.length ≤ G.length := nodup_lenM inn G h.nd h.sub
theorem InI.all (h : InI lds G inn) (hl : inn.length = G.length) : ∀ x ∈ G, x ∈ inn := fun x hx => Classical.byContradiction (fun hn => by
  have := nodup_lenM inn (G.erase x) h.nd (fun y hy => (List.mem_erase_of_ne (a := y) (b := x) (by intro e; subst e; exact hn hy)).2 (h.sub y hy))
  rw [List.length_erase_of_mem hx] at this
  have : 0 < G.length := List.length_pos_of_mem hx
  omega)
theorem InI.done (hG : IsGr (alikeB lds) ls G) (h : InI lds G inn) (hl : inn.length = G.length) : ordG lds G = inn :=
  ordG_is hG h.nd h.ord (fun x => ⟨h.sub x, h.all hl x⟩)
theorem PassI.fin {k : Nat} (ht : ∀ a b c, a ∈ ls → b ∈ ls → c ∈ ls → lds a b = true → lds b c = true → lds a c = true) (h : IsGr (alikeB lds) ls G) (I0 : InI lds G inn0) (P : PassI lds G inn0 inn k) (hk : G.length ≤ k) (hl : inn0.length < G.length) : inn0.length < inn.length := by
  obtain ⟨g, hg, hn, hw⟩ : ∃ g ∈ G, g ∉ inn0 ∧ ∀ k ∈ G, k ≠ g → ltG lds k g → k ∈ inn0 := InI.next ht h (Classical.byContradiction (fun hno => by
    have := nodup_lenM G inn0 h.nodup (fun x hx => Classical.byContradiction (fun hx2 => hno ⟨x, hx, hx2⟩))
    omega))
  have h3 := P.got g (by rw [List.take_of_length_le hk]; exact hg) hn hw
  have := nodup_lenM inn0 (inn.erase g) I0.nd (fun y hy => (List.mem_erase_of_ne (a := y) (b := g) (by intro e; subst e; exact hn hy)).2 (P.old y hy))
  rw [List.length_erase_of_mem h3] at this
  have : 0 < inn.length := List.length_pos_of_mem h3
  omega
end
end Go.Proofs.YtcopnfdknclhnaaGreat
