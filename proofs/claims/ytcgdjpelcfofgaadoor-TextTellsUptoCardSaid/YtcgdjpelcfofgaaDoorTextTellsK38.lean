/- Texts melted into one: The law of nets' texts: its walk. Conditions: the net reads as data; the text has at most a million letters; the tables lie as they were laid. | What the row's listed variables give the walk: the tables as they were laid. Conditions: each listed variable reads as its datum; the world is of the form's shape. -/
import Derived.Test.YtcgdjpelcfofgaaDoorTextTellsK19
import Derived.Test.YtcgdjpelcfofgaaDoorTextTellsK36
import Derived.Test.YtcgdjpelcfofgaaDoorTextTellsK37
import Derived.Test.YtcgdjpelcfofgaaDoorTextTellsK25
import Derived.Lib.LaidU8
import Derived.ShapedOpen
set_option linter.all false
namespace Go.Proofs.YtcgdjpelcfofgaaDoor
open Go.RowKit

set_option maxRecDepth 100000 in
set_option maxHeartbeats 8000000 in
theorem txtLaw_walk {w : World} (P : Int) {A : Option Addr} {n c : Nat} {ts : List PTran} (h : Trans w A n c ts) (s : List UInt8) (hs : s.length ≤ 1100000) (T : TabsNow w) :
    Calls Tryd.prog 3 #[.agg #[.int .i64 P, .slice A n c], .string ⟨s.toArray⟩] w fun e w' => e = .returned (.bool true) ∧ Below w.heap.size w w' := by
  have H := hide2 h
  have HS := hide2 hs
  have TT := hide2 T.tabs
  clear h hs T
  go_enter Tryd.func3, Tryd.ntmps3
  go_upto_region 1 with fail
  have B1 := hide2 (show Below w.heap.size w (w.alloc (.cells #[.int .i64 P, .slice A n c] 24)) from (Below.refl _ _).alloc (Nat.le_refl _) _)
  have X1 := hide2 (Box.new w #[.int .i64 P, .slice A n c] 24)
  generalize w.alloc (.cells #[.int .i64 P, .slice A n c] 24) = w1 at *
  obtain ⟨z0, z1⟩ := X1.out.two
  have C1 := hide2 (tPrint_calls (P := P) (H.out.keep B1.out))
  obtain ⟨pl, pe, hpe⟩ : ∃ a b, printE ⟨P, ts⟩ = (a, b) := ⟨_, _, rfl⟩
  have PE := hide2 hpe
  clear hpe
  go_upto_region 2 with (go_at_call 4; (with_reducible refine C1.out.mono ?_); rintro e2 w2 ⟨he, hb⟩; rw [PE.out] at he; subst he; have B2 := hide2 (B1.out.trans (hb.mono B1.out.size)); have X2 := hide2 (X1.out.keep hb); clear hb C1 z0 z1)
  obtain ⟨z0, z1⟩ := X2.out.two
  have C2 := hide2 (oprint_calls (P := P) (H.out.keep B2.out))
  go_upto_region 3 with (go_at_call 5; (with_reducible refine C2.out.mono ?_); rintro e3 w3 ⟨he, hb⟩; rw [PE.out] at he; subst he; have B3 := hide2 (B2.out.trans (hb.mono B2.out.size)); clear hb C2 z0 z1)
  have C3 := hide2 (txtParse_calls HS.out (TT.out.keep B3.out))
  obtain ⟨N, k, er, hN⟩ : ∃ a b c, parseT s = (a, b, c) := ⟨_, _, _, rfl⟩
  have PN := hide2 hN
  clear hN
  go_upto_region 4 with (go_at_call 6; (with_reducible refine C3.out.mono ?_); rintro e4 w4 ⟨hb, A4, n4, c4, he, t4⟩; rw [PN.out] at he t4; subst he; have T4 := hide2 t4; have B4 := hide2 (B3.out.trans (hb.mono B3.out.size)); clear hb C3 t4)
  have D5 := hide2 (show Below w4.heap.size w4 (w4.alloc (.cells #[.int .i64 N.places, .slice A4 n4 c4] 24)) from (Below.refl _ _).alloc (Nat.le_refl _) _)
  have X5 := hide2 (Box.new w4 #[.int .i64 N.places, .slice A4 n4 c4] 24)
  generalize w4.alloc (.cells #[.int .i64 N.places, .slice A4 n4 c4] 24) = w5 at *
  have B5 := hide2 (B4.out.trans (D5.out.mono B4.out.size))
  have T5 := hide2 (T4.out.keep D5.out)
  have C4 := hide2 (oparse_calls HS.out (TT.out.keep B5.out))
  go_upto_region 5 with (go_at_call 7; (with_reducible refine C4.out.mono ?_); rintro e6 w6 ⟨hb, A6, n6, c6, he, t6⟩; rw [PN.out] at he t6; subst he; have T6 := hide2 t6; have B6 := hide2 (B5.out.trans (hb.mono B5.out.size)); have X6 := hide2 (X5.out.keep hb); have V6 := hide2 (T5.out.keep hb); clear hb C4 t6)
  have D7 := hide2 (show Below w6.heap.size w6 (w6.alloc (.cells #[.int .i64 N.places, .slice A6 n6 c6] 24)) from (Below.refl _ _).alloc (Nat.le_refl _) _)
  have Y7 := hide2 (Box.new w6 #[.int .i64 N.places, .slice A6 n6 c6] 24)
  generalize w6.alloc (.cells #[.int .i64 N.places, .slice A6 n6 c6] 24) = w7 at *
  have B7 := hide2 (B6.out.trans (D7.out.mono B6.out.size))
  have X7 := hide2 (X6.out.keep D7.out)
  have SN := hide2 (sameNet_calls (P := N.places) (Q := N.places) (V6.out.keep D7.out) (T6.out.keep D7.out))
  obtain ⟨x0, x1⟩ := X7.out.two
  obtain ⟨y0, y1⟩ := Y7.out.two
  go_wp2_with (go_at_call 8; (with_reducible refine SN.out.mono ?_); rintro e8 w8 ⟨rfl, hb⟩; rw [beq_self_eq_true, beq_self_eq_true, Bool.and_self]; have B8 := hide2 (B7.out.trans (hb.mono B7.out.size)); clear hb SN x0 x1 y0 y1)
  go_ret
  exact ⟨rfl, B8.out⟩
end Go.Proofs.YtcgdjpelcfofgaaDoor
namespace Go.Proofs.YtcgdjpelcfofgaaDoor
open Go.RowKit Go.ChangeShapes

theorem tabIs_of_reads {P : Program} {W : World} {name : String} {k : IntKind} {zs : List Int} {g : Nat} {t e : TypeId} {n : Nat}
    (hg : P.globalNamed name = some g) (hty : (P.globals[g]?).map (·.type) = some t) (ht : P.underlying t = some (.array n e)) (he : P.underlying e = some (.int k)) (hce : P.cellsOf e = 1) (hct : P.cellsOf t = n)
    (h : Lib.VarReads P W name (Lib.tabData k zs)) : Lib.TabIs P W name k zs := by
  obtain ⟨g', t', cs, fuel, p, hg', ht', hvar, hd⟩ := h
  obtain rfl := Option.some.inj (hg.symm.trans hg')
  obtain rfl := Option.some.inj (hty.symm.trans ht')
  unfold Lib.TabIs
  rw [hvar, ← Lib.cells_of_tab ht he hce hct hd]
theorem iface_of_reads {P : Program} {W : World} {name nm : String} {d : DataW Unit} {g : Nat} {t : TypeId} {ms : Array (String × TypeId)}
    (hg : P.globalNamed name = some g) (hty : (P.globals[g]?).map (·.type) = some t) (ht : P.underlying t = some (.interface ms))
    (h : Lib.VarReads P W name (.iface nm d)) : ∃ u v, W.cell? ⟨g, 0, none⟩ = some (.iface u v) := by
  obtain ⟨g', t', cs, fuel, p, hg', ht', hvar, hd⟩ := h
  obtain rfl := Option.some.inj (hg.symm.trans hg')
  obtain rfl := Option.some.inj (hty.symm.trans ht')
  obtain ⟨f1, u, v, hcs, _, _⟩ := iface_of_trod ht hd
  refine ⟨u, v, ?_⟩
  rw [World.var?_cell hg hvar 0, ← Array.getElem?_toList, hcs]
  rfl
theorem int_of_shape {P : Program} {w : World} {g : Nat} {t : TypeId} {k : IntKind} {zero : Array Value} (h : w.ShapedOpen P) (hg : g < P.globals.size)
    (h0 : ((begin P (fun _ _ => 0) default).world.heap[g]?).bind Obj.row? = some (zero, t)) (hz : zero.size = 1)
    (hb : P.buildable t = true) (hc : P.cellTypes P.depth t = some [t]) (hu : P.underlying t = some (.int k)) : ∃ m, w.cell? ⟨g, 0, none⟩ = some (.int k m) := by
  obtain ⟨cs, hh, hs, hr⟩ := h.1 g zero t hg h0
  have h1 : 0 < cs.size := by omega
  obtain ⟨ts, hts, _, hall⟩ := hr hb
  rw [hc] at hts
  cases hts
  obtain ⟨u, hu', hok⟩ := hall 0 cs[0] (by simp [h1])
  have : u = t := by simpa using hu'.symm
  subst this
  have hcell : w.cell? ⟨g, 0, none⟩ = some cs[0] := by simp [World.cell?, hh, h1]
  rw [hcell]
  unfold Cell.ok at hok
  rw [hu] at hok
  cases hv : cs[0] <;> rw [hv] at hok <;> first | (simp at hok; done) | (simp at hok; obtain ⟨rfl, _⟩ := hok; exact ⟨_, rfl⟩) | (simp at hok; subst hok; exact ⟨_, rfl⟩)
theorem whiteX : WhiteExtra Tryd.prog lays157_ren := { n6 := by kernel_rfl, y6 := by kernel_rfl, c3 := by kernel_rfl, c49 := by kernel_rfl, c193 := by kernel_rfl, c194 := by kernel_rfl, c196 := by kernel_rfl, c198 := by kernel_rfl }
/-- The tables of the walk, out of what the row lists. -/
theorem tabsNow_of {W : World} {n0 n1 : String} {d0 d1 : DataW Unit} (h1 : Lib.VarReads Tryd.prog W "internal/strconv.uint64pow10" (Lib.tabData .u64 Lib.pow10Tab)) (h2 : Lib.VarReads Tryd.prog W "strings.asciiSpace" (Lib.tabData .u8 Lib.asciiSpaceTab))
    (h3 : Lib.VarReads Tryd.prog W "unicode.White_Space" Lib.whiteData) (h4 : Lib.VarReads Tryd.prog W "strconv.ErrSyntax" (.iface n0 d0)) (h5 : Lib.VarReads Tryd.prog W "strconv.ErrRange" (.iface n1 d1)) (hsh : W.ShapedOpen Tryd.prog) : TabsNow W := by
  refine ⟨tabIs_of_reads (g := 3) (t := 114) (by kernel_rfl) (by kernel_rfl) Tryd.underlying114 Tryd.underlying93 (by kernel_rfl) (by kernel_rfl) h1,
    tabIs_of_reads (g := 2) (t := 109) (by kernel_rfl) (by kernel_rfl) Tryd.underlying109 Tryd.underlying5 (by kernel_rfl) (by kernel_rfl) h2,
    whiteTab_of_reads { lays157 with } whiteX h3, iface_of_reads (t := 38) (by kernel_rfl) (by kernel_rfl) Tryd.underlying38 h4, iface_of_reads (t := 38) (by kernel_rfl) (by kernel_rfl) Tryd.underlying38 h5,
    int_of_shape (g := 4) (t := 3) (zero := #[.int .i64 0]) hsh (by decide +kernel) (by kernel_rfl) rfl (by kernel_rfl) (by kernel_rfl) Tryd.underlying3⟩
end Go.Proofs.YtcgdjpelcfofgaaDoor
