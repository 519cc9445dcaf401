/-
  NARROWER THAN 'FOR EVERY INPUT', by the rows' own cells (each row's printed sentence says how): GrowTells: loops.
  DERIVED. THE GIVEN ROWS OF THIS SEAT. 6 by the template 'for every input the law returns true; each argument reads behind the call as it read before'; 0 by the template 'total and deterministic' (their statements: YtnfppolgaeibeaaTotals.lean).
  GIVEN WITH THE SEED: the statements are not yours to turn. If you find one false, say at which input.
  Laid BY PROGRAM, IN A SANDBOX (cutbox-rows.mjs): the forced cells as the released guide's own fill.sh prints them over the translation d6ae24b84e2a3d8e… (all of the seat's roots in one cut). By AI agents, Wed Nov 11 2026. No macro, syntax, notation, axiom, sorry.
-/
import Derived.Test.YtnfppolgaeibeaaChecked
import GoSem.Claim
import GoSem.ClaimJoined
import GoSem.ClaimMapViews
import Derived.JoinedTies
import Derived.KernelRfl
namespace Go.Proofs.Ytnfppolgaeibeaa
/- THE CELL 'sum', in the pinned program and in every row, IS THE sha256 OF THE DUMP (.gsa) THAT YtnfppolgaeibeaaProg.lean LOADS. Nothing in Lean hashes anything: it is a label: what it is worth is what the hold of that sum in a sandbox is worth. -/
noncomputable def Try.pinned : Pinned := { name := "ytnfppolgaeibeaa", sum := "d6ae24b84e2a3d8e6cf9fa3cc531936bc08f76a6d8ae2fd11fa6249e54e1c52a", checked := Try.checked }
namespace Rows
def none {H : Type} : Left H := { results := [], args := [] }

/-- 'tokenhalllaw.GrowTells': WHATEVER THE INPUT: true; the input reads as it did. -/
def growTellsSpec : ChangeSpec := { name := "growTells", fn := fun _ => fun
  | [d] => { results := [.lit (.bool true)], args := [d] }
  | _ => none }
def growTellsRow : OpenClaim := { program := "ytnfppolgaeibeaa", sum := "d6ae24b84e2a3d8e6cf9fa3cc531936bc08f76a6d8ae2fd11fa6249e54e1c52a", func := "tokenhall/tokenhalllaw.GrowTells", spec := "growTells", unfollowed := true, recurses := true, loops := true, plainKeys := false, apart := false }
def GrowTellsSaid : Prop := growTellsRow.holds Try.pinned (OpenSpec.ofChange growTellsSpec)

/-- ITS FALSE NEIGHBOUR: 'it returns false'. Refute it at one input. -/
def growTellsWrong : ChangeSpec := { name := "growTells", fn := fun _ => fun
  | [d] => { results := [.lit (.bool false)], args := [d] }
  | _ => none }
def GrowTellsWrongFalsely : Prop := growTellsRow.holds Try.pinned (OpenSpec.ofChange growTellsWrong)

/-- 'tokenhalllaw.ShapeTells': WHATEVER THE INPUT: true; the input reads as it did. -/
def shapeTellsSpec : ChangeSpec := { name := "shapeTells", fn := fun _ => fun
  | [d1, d2, d3] => { results := [.lit (.bool true)], args := [d1, d2, d3] }
  | _ => none }
def shapeTellsRow : OpenClaim := { program := "ytnfppolgaeibeaa", sum := "d6ae24b84e2a3d8e6cf9fa3cc531936bc08f76a6d8ae2fd11fa6249e54e1c52a", func := "tokenhall/tokenhalllaw.ShapeTells", spec := "shapeTells", unfollowed := true, recurses := true, plainKeys := false, apart := false }
def ShapeTellsSaid : Prop := shapeTellsRow.holds Try.pinned (OpenSpec.ofChange shapeTellsSpec)

/-- ITS FALSE NEIGHBOUR: 'it returns false'. Refute it at one input. -/
def shapeTellsWrong : ChangeSpec := { name := "shapeTells", fn := fun _ => fun
  | [d1, d2, d3] => { results := [.lit (.bool false)], args := [d1, d2, d3] }
  | _ => none }
def ShapeTellsWrongFalsely : Prop := shapeTellsRow.holds Try.pinned (OpenSpec.ofChange shapeTellsWrong)

/-- 'tokenhalllaw.ReplayTells': WHATEVER THE INPUT: true; the input reads as it did. -/
def replayTellsSpec : ChangeSpec := { name := "replayTells", fn := fun _ => fun
  | [d1, d2, d3, d4] => { results := [.lit (.bool true)], args := [d1, d2, d3, d4] }
  | _ => none }
def replayTellsRow : OpenClaim := { program := "ytnfppolgaeibeaa", sum := "d6ae24b84e2a3d8e6cf9fa3cc531936bc08f76a6d8ae2fd11fa6249e54e1c52a", func := "tokenhall/tokenhalllaw.ReplayTells", spec := "replayTells", unfollowed := true, recurses := true, plainKeys := false, apart := false }
def ReplayTellsSaid : Prop := replayTellsRow.holds Try.pinned (OpenSpec.ofChange replayTellsSpec)

/-- ITS FALSE NEIGHBOUR: 'it returns false'. Refute it at one input. -/
def replayTellsWrong : ChangeSpec := { name := "replayTells", fn := fun _ => fun
  | [d1, d2, d3, d4] => { results := [.lit (.bool false)], args := [d1, d2, d3, d4] }
  | _ => none }
def ReplayTellsWrongFalsely : Prop := replayTellsRow.holds Try.pinned (OpenSpec.ofChange replayTellsWrong)

/-- 'tokenhalllaw.SoundJudges': WHATEVER THE INPUT: true; the input reads as it did. -/
def soundJudgesSpec : ChangeSpec := { name := "soundJudges", fn := fun _ => fun
  | [d1, d2, d3, d4] => { results := [.lit (.bool true)], args := [d1, d2, d3, d4] }
  | _ => none }
def soundJudgesRow : OpenClaim := { program := "ytnfppolgaeibeaa", sum := "d6ae24b84e2a3d8e6cf9fa3cc531936bc08f76a6d8ae2fd11fa6249e54e1c52a", func := "tokenhall/tokenhalllaw.SoundJudges", spec := "soundJudges", unfollowed := true, recurses := true, plainKeys := false, apart := false }
def SoundJudgesSaid : Prop := soundJudgesRow.holds Try.pinned (OpenSpec.ofChange soundJudgesSpec)

/-- ITS FALSE NEIGHBOUR: 'it returns false'. Refute it at one input. -/
def soundJudgesWrong : ChangeSpec := { name := "soundJudges", fn := fun _ => fun
  | [d1, d2, d3, d4] => { results := [.lit (.bool false)], args := [d1, d2, d3, d4] }
  | _ => none }
def SoundJudgesWrongFalsely : Prop := soundJudgesRow.holds Try.pinned (OpenSpec.ofChange soundJudgesWrong)

/-- 'tokenhalllaw.TongueHas': WHATEVER THE INPUT: true; the input reads as it did. -/
def tongueHasSpec : ChangeSpec := { name := "tongueHas", fn := fun _ => fun
  | [d1, d2, d3, d4] => { results := [.lit (.bool true)], args := [d1, d2, d3, d4] }
  | _ => none }
def tongueHasRow : OpenClaim := { program := "ytnfppolgaeibeaa", sum := "d6ae24b84e2a3d8e6cf9fa3cc531936bc08f76a6d8ae2fd11fa6249e54e1c52a", func := "tokenhall/tokenhalllaw.TongueHas", spec := "tongueHas", unfollowed := true, recurses := true, plainKeys := false, apart := false }
def TongueHasSaid : Prop := tongueHasRow.holds Try.pinned (OpenSpec.ofChange tongueHasSpec)

/-- ITS FALSE NEIGHBOUR: 'it returns false'. Refute it at one input. -/
def tongueHasWrong : ChangeSpec := { name := "tongueHas", fn := fun _ => fun
  | [d1, d2, d3, d4] => { results := [.lit (.bool false)], args := [d1, d2, d3, d4] }
  | _ => none }
def TongueHasWrongFalsely : Prop := tongueHasRow.holds Try.pinned (OpenSpec.ofChange tongueHasWrong)

/-- 'tokenhalllaw.TracksTell': WHATEVER THE INPUT: true; the input reads as it did. -/
def tracksTellSpec : ChangeSpec := { name := "tracksTell", fn := fun _ => fun
  | [d1, d2] => { results := [.lit (.bool true)], args := [d1, d2] }
  | _ => none }
def tracksTellRow : OpenClaim := { program := "ytnfppolgaeibeaa", sum := "d6ae24b84e2a3d8e6cf9fa3cc531936bc08f76a6d8ae2fd11fa6249e54e1c52a", func := "tokenhall/tokenhalllaw.TracksTell", spec := "tracksTell", unfollowed := true, recurses := true, plainKeys := false, apart := false }
def TracksTellSaid : Prop := tracksTellRow.holds Try.pinned (OpenSpec.ofChange tracksTellSpec)

/-- ITS FALSE NEIGHBOUR: 'it returns false'. Refute it at one input. -/
def tracksTellWrong : ChangeSpec := { name := "tracksTell", fn := fun _ => fun
  | [d1, d2] => { results := [.lit (.bool false)], args := [d1, d2] }
  | _ => none }
def TracksTellWrongFalsely : Prop := tracksTellRow.holds Try.pinned (OpenSpec.ofChange tracksTellWrong)

/- THE SECOND FORM. 'bulk': how many values and letters a reading holds, each counted each time it is reached (what is shared counts as often as it is met; a slice's spare places count too). A statement '..UptoSaid' is the law's where the arguments, and the package variables that the reading takes, are together of bulk at most 1048576: NARROWER than '..Said'. Prove '..Said' where nothing that the law and all that it calls make is longer than what came in: it says more and counts as full. Else prove '..UptoSaid'. A law counts once. -/
mutual
def uptoBulk {H : Type} : DataW H → Nat
  | .lit (.string bytes) => bytes.length + 1
  | .lit _ => 1
  | .nil => 1
  | .ptr d => uptoBulk d + 1
  | .slice elems spare => uptoBulkAll elems + uptoBulkAll spare + 1
  | .agg parts => uptoBulkAll parts + 1
  | .iface _ d => uptoBulk d + 1
  | .map entries => uptoBulkEntries entries + 1
  | .held _ => 1
def uptoBulkAll {H : Type} : List (DataW H) → Nat
  | [] => 0
  | d :: r => uptoBulk d + uptoBulkAll r
def uptoBulkEntries {H : Type} : List (Lit × DataW H) → Nat
  | [] => 0
  | x :: r => uptoBulkEntry x + uptoBulkEntries r
def uptoBulkEntry {H : Type} : Lit × DataW H → Nat
  | (.string bytes, d) => bytes.length + uptoBulk d + 1
  | (_, d) => uptoBulk d + 1
 end
def uptoSmall : (H : Type) → List (DataW H) → Bool := fun _ ds => decide (uptoBulkAll ds ≤ 1048576)
def OpenSpec.upto (s : _root_.Go.ChangeSpec) : _root_.Go.OpenSpec := { _root_.Go.OpenSpec.ofChange s with cond := some uptoSmall }

/-- 'tokenhalllaw.GrowTells', WHERE WHAT IT READS IS OF BULK AT MOST 1048576: true; the input reads as it did. -/
def growTellsUptoRow : OpenClaim := { program := "ytnfppolgaeibeaa", sum := "d6ae24b84e2a3d8e6cf9fa3cc531936bc08f76a6d8ae2fd11fa6249e54e1c52a", func := "tokenhall/tokenhalllaw.GrowTells", spec := "growTells", unfollowed := true, recurses := true, loops := true, plainKeys := false, apart := false, narrowed := true }
def GrowTellsUptoSaid : Prop := growTellsUptoRow.holds Try.pinned (OpenSpec.upto growTellsSpec)

/-- 'tokenhalllaw.ShapeTells', WHERE WHAT IT READS IS OF BULK AT MOST 1048576: true; the input reads as it did. -/
def shapeTellsUptoRow : OpenClaim := { program := "ytnfppolgaeibeaa", sum := "d6ae24b84e2a3d8e6cf9fa3cc531936bc08f76a6d8ae2fd11fa6249e54e1c52a", func := "tokenhall/tokenhalllaw.ShapeTells", spec := "shapeTells", unfollowed := true, recurses := true, plainKeys := false, apart := false, narrowed := true }
def ShapeTellsUptoSaid : Prop := shapeTellsUptoRow.holds Try.pinned (OpenSpec.upto shapeTellsSpec)

/-- 'tokenhalllaw.ReplayTells', WHERE WHAT IT READS IS OF BULK AT MOST 1048576: true; the input reads as it did. -/
def replayTellsUptoRow : OpenClaim := { program := "ytnfppolgaeibeaa", sum := "d6ae24b84e2a3d8e6cf9fa3cc531936bc08f76a6d8ae2fd11fa6249e54e1c52a", func := "tokenhall/tokenhalllaw.ReplayTells", spec := "replayTells", unfollowed := true, recurses := true, plainKeys := false, apart := false, narrowed := true }
def ReplayTellsUptoSaid : Prop := replayTellsUptoRow.holds Try.pinned (OpenSpec.upto replayTellsSpec)

/-- 'tokenhalllaw.SoundJudges', WHERE WHAT IT READS IS OF BULK AT MOST 1048576: true; the input reads as it did. -/
def soundJudgesUptoRow : OpenClaim := { program := "ytnfppolgaeibeaa", sum := "d6ae24b84e2a3d8e6cf9fa3cc531936bc08f76a6d8ae2fd11fa6249e54e1c52a", func := "tokenhall/tokenhalllaw.SoundJudges", spec := "soundJudges", unfollowed := true, recurses := true, plainKeys := false, apart := false, narrowed := true }
def SoundJudgesUptoSaid : Prop := soundJudgesUptoRow.holds Try.pinned (OpenSpec.upto soundJudgesSpec)

/-- 'tokenhalllaw.TongueHas', WHERE WHAT IT READS IS OF BULK AT MOST 1048576: true; the input reads as it did. -/
def tongueHasUptoRow : OpenClaim := { program := "ytnfppolgaeibeaa", sum := "d6ae24b84e2a3d8e6cf9fa3cc531936bc08f76a6d8ae2fd11fa6249e54e1c52a", func := "tokenhall/tokenhalllaw.TongueHas", spec := "tongueHas", unfollowed := true, recurses := true, plainKeys := false, apart := false, narrowed := true }
def TongueHasUptoSaid : Prop := tongueHasUptoRow.holds Try.pinned (OpenSpec.upto tongueHasSpec)

/-- 'tokenhalllaw.TracksTell', WHERE WHAT IT READS IS OF BULK AT MOST 1048576: true; the input reads as it did. -/
def tracksTellUptoRow : OpenClaim := { program := "ytnfppolgaeibeaa", sum := "d6ae24b84e2a3d8e6cf9fa3cc531936bc08f76a6d8ae2fd11fa6249e54e1c52a", func := "tokenhall/tokenhalllaw.TracksTell", spec := "tracksTell", unfollowed := true, recurses := true, plainKeys := false, apart := false, narrowed := true }
def TracksTellUptoSaid : Prop := tracksTellUptoRow.holds Try.pinned (OpenSpec.upto tracksTellSpec)

end Rows
end Go.Proofs.Ytnfppolgaeibeaa
