/- A world for the witness of the row of nets' texts: each listed variable holds what its initialiser lays. Conditions: none. -/
import Derived.Test.YtcgdjpelcfofgaaDoorCards
import Derived.Test.YtcgdjpelcfofgaaDoorTie
import Derived.Deep.DeepWitnessRowRef
import Derived.LaidMore
import Derived.Lib.LaidU8
import Derived.MakeChecks
import Derived.LaidOnce
namespace Go.Proofs.YtcgdjpelcfofgaaDoor.textTellsDone
open Go
theorem laidMet_of_bits {P : Program} {w : World} {l : List (String × DataW Unit)} (fuel M : Nat) (h : (DataW.laidRun P w fuel (l.map (·.1))).map (·.1) = some l)
    (hr : (DataW.laidRun P w fuel (l.map (·.1))).map (fun x => nodupBits M x.2 0 && laidRowsB P w x.2) = some true) : laidMet P l w := by
  cases hx : DataW.laidRun P w fuel (l.map (·.1)) with
  | none => simp [hx] at h
  | some x =>
    obtain ⟨l', ps⟩ := x
    simp only [hx, Option.map_some, Option.some.injEq] at h hr
    subst h
    simp only [Bool.and_eq_true] at hr
    exact laidMet_of_run fuel hx (decide_eq_true (nodupBits_sound hr.1).1) hr.2
def ints (d : DataW Unit) : Array Value :=
  match d with
  | .agg l => (l.filterMap fun | .lit (.int k z) => some (Value.int k z) | _ => none).toArray
  | _ => #[]
def bytesOf (l : List UInt8) : Value := .string ⟨l.toArray⟩
noncomputable def laidHeap : Array Obj :=
  ([Obj.cells #[.iface 119 (.pointer (some ⟨16, 0, none⟩))] 38, Obj.cells #[.iface 119 (.pointer (some ⟨17, 0, none⟩))] 38,
    Obj.cells (ints Rows.laid_strings_asciiSpace) 109, Obj.cells (ints Rows.laid_internal_strconv_uint64pow10) 114, Obj.cells #[.int .i64 0] 3,
    Obj.cells #[.pointer (some ⟨18, 0, none⟩)] 126, Obj.cells (ints Rows.laid_unicode_utf8_first) 109,
    Obj.cells (((List.range 16).flatMap fun i => [Value.int .u8 (Lib.accLo i), Value.int .u8 (Lib.accHi i)]).toArray) 130,
    Obj.cells (ints Rows.laid_math_bits_deBruijn32tab) 144, Obj.cells (ints Rows.laid_math_bits_deBruijn64tab) 145, Obj.cells #[.pointer none] 126] ++
   (begin Tryd.prog (fun _ _ => 0) default).world.heap.toList.drop 11 ++
   [Obj.cells #[bytesOf [105, 110, 118, 97, 108, 105, 100, 32, 115, 121, 110, 116, 97, 120]] 121, Obj.cells #[bytesOf [118, 97, 108, 117, 101, 32, 111, 117, 116, 32, 111, 102, 32, 114, 97, 110, 103, 101]] 121,
    Obj.cells #[.slice (some ⟨19, 0, none⟩) 7 7, .slice none 0 0, .int .i64 2] 136, Obj.cells ((Lib.whiteT.map fun (z : Nat) => Value.int .u16 (z : Int)).toArray) 139]).toArray
noncomputable def laidWorld (os : Os) : World := { World.holding Tryd.prog os ⟨#[], #[], []⟩ with heap := laidHeap }
noncomputable abbrev wArgs : Array Value := #[.agg #[.int .i64 0, .slice none 0 0], .string ⟨#[]⟩]
theorem laid_met (os : Os) : laidMetH Tryd.prog Rows.textTellsUptoRow.laid ((laidWorld os).forCall (fun _ _ => 0) ⟨#[], wArgs, []⟩).memory := by
  rw [MakeChecks.laidMetH_plain _ _ _ (by kernel_rfl)]
  exact laidMet_of_bits 8 257 (by kernel_rfl) (by kernel_rfl)
theorem reads (os : Os) {H : Type} (enc : TypeId × Value → H) : ∃ places, DataW.whole enc Tryd.prog ((laidWorld os).forCall (fun _ _ => 0) ⟨#[], wArgs, []⟩).memory Tryd.f3.params.toList Rows.textTellsSpec.vars false wArgs.toList 8 = some ([.agg [.lit (.int .i64 0), .nil], .lit (.string [])], [], places) :=
  ⟨[], by kernel_rfl⟩
theorem variables (os : Os) : ((laidWorld os).forCall (fun _ _ => 0) ⟨#[], wArgs, []⟩).variablesRefB Tryd.prog = true := by kernel_rfl
theorem behind (os : Os) : (((laidWorld os).forCall (fun _ _ => 0) ⟨#[], wArgs, []⟩).heap.toList.drop Tryd.prog.globals.size).take ((begin Tryd.prog (fun _ _ => 0) default).world.heap.size - Tryd.prog.globals.size) =
      (begin Tryd.prog (fun _ _ => 0) default).world.heap.toList.drop Tryd.prog.globals.size := by kernel_rfl
theorem okArgs (os : Os) : Input.okWideB Tryd.prog ((laidWorld os).forCall (fun _ _ => 0) ⟨#[], wArgs, []⟩) 3 ⟨#[], wArgs, []⟩ = true := by kernel_rfl
theorem fits (os : Os) {H : Type} (enc : TypeId × Value → H) : (Rows.OpenSpec.upto Rows.textTellsSpec).preRow enc Tryd.prog Tryd.f3 Rows.textTellsUptoRow.domain false Rows.textTellsUptoRow.laid ((laidWorld os).forCall (fun _ _ => 0) ⟨#[], wArgs, []⟩).memory wArgs := by
  obtain ⟨places, hx⟩ := reads os enc
  exact OpenSpec.preRow_of_cond 8 hx (by kernel_rfl) (fun k hk => by cases hk; kernel_rfl) (by kernel_rfl) (laid_met os)
end Go.Proofs.YtcgdjpelcfofgaaDoor.textTellsDone
