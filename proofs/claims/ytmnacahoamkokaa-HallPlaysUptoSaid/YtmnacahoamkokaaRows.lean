/-
  NARROWER THAN 'FOR EVERY INPUT', by the rows' own cells (each row's printed sentence says how): GrowTells: loops · BenchReads: loops.
  DERIVED. THE GIVEN ROWS OF THIS SEAT. 9 by the template 'for every input the law returns true; each argument reads behind the call as it read before'; 0 by the template 'total and deterministic' (their statements: YtmnacahoamkokaaTotals.lean).
  GIVEN WITH THE SEED: the statements are not yours to turn. If you find one false, say at which input.
  Laid BY PROGRAM, IN A SANDBOX (cutbox-rows.mjs): the forced cells as the released guide's own fill.sh prints them over the translation 957436ca503daade… (all of the seat's roots in one cut). By AI agents, Wed Nov 11 2026. No macro, syntax, notation, axiom, sorry.
-/
import Derived.Test.YtmnacahoamkokaaChecked
import GoSem.Claim
import GoSem.ClaimJoined
import GoSem.ClaimMapViews
import Derived.JoinedTies
import Derived.KernelRfl
namespace Go.Proofs.Ytmnacahoamkokaa
/- THE CELL 'sum', in the pinned program and in every row, IS THE sha256 OF THE DUMP (.gsa) THAT YtmnacahoamkokaaProg.lean LOADS. Nothing in Lean hashes anything: it is a label: what it is worth is what the hold of that sum in a sandbox is worth. -/
noncomputable def Try.pinned : Pinned := { name := "ytmnacahoamkokaa", sum := "957436ca503daade62728252e1580fe81cca179c25b7619f8fe6b6a9e23de5bf", checked := Try.checked }
namespace Rows
def none {H : Type} : Left H := { results := [], args := [] }

/-- 'tokenhalllaw.GrowTells': WHATEVER THE INPUT: true; the input reads as it did. -/
def growTellsSpec : ChangeSpec := { name := "growTells", fn := fun _ => fun
  | [d] => { results := [.lit (.bool true)], args := [d] }
  | _ => none }
def growTellsRow : OpenClaim := { program := "ytmnacahoamkokaa", sum := "957436ca503daade62728252e1580fe81cca179c25b7619f8fe6b6a9e23de5bf", func := "tokenhall/tokenhalllaw.GrowTells", spec := "growTells", unfollowed := true, recurses := true, loops := true, plainKeys := false, apart := false }
def GrowTellsSaid : Prop := growTellsRow.holds Try.pinned (OpenSpec.ofChange growTellsSpec)

/-- ITS FALSE NEIGHBOUR: 'it returns false'. Refute it at one input. -/
def growTellsWrong : ChangeSpec := { name := "growTells", fn := fun _ => fun
  | [d] => { results := [.lit (.bool false)], args := [d] }
  | _ => none }
def GrowTellsWrongFalsely : Prop := growTellsRow.holds Try.pinned (OpenSpec.ofChange growTellsWrong)

/-- 'tokenhalllaw.CoverTells': WHATEVER THE INPUT: true; the input reads as it did. -/
def coverTellsSpec : ChangeSpec := { name := "coverTells", fn := fun _ => fun
  | [d1, d2, d3, d4] => { results := [.lit (.bool true)], args := [d1, d2, d3, d4] }
  | _ => none }
def coverTellsRow : OpenClaim := { program := "ytmnacahoamkokaa", sum := "957436ca503daade62728252e1580fe81cca179c25b7619f8fe6b6a9e23de5bf", func := "tokenhall/tokenhalllaw.CoverTells", spec := "coverTells", unfollowed := true, recurses := true, plainKeys := false, apart := false }
def CoverTellsSaid : Prop := coverTellsRow.holds Try.pinned (OpenSpec.ofChange coverTellsSpec)

/-- ITS FALSE NEIGHBOUR: 'it returns false'. Refute it at one input. -/
def coverTellsWrong : ChangeSpec := { name := "coverTells", fn := fun _ => fun
  | [d1, d2, d3, d4] => { results := [.lit (.bool false)], args := [d1, d2, d3, d4] }
  | _ => none }
def CoverTellsWrongFalsely : Prop := coverTellsRow.holds Try.pinned (OpenSpec.ofChange coverTellsWrong)

/-- 'tokenhalllaw.ReduceTells': WHATEVER THE INPUT: true; the input reads as it did. -/
def reduceTellsSpec : ChangeSpec := { name := "reduceTells", fn := fun _ => fun
  | [d1, d2, d3] => { results := [.lit (.bool true)], args := [d1, d2, d3] }
  | _ => none }
def reduceTellsRow : OpenClaim := { program := "ytmnacahoamkokaa", sum := "957436ca503daade62728252e1580fe81cca179c25b7619f8fe6b6a9e23de5bf", func := "tokenhall/tokenhalllaw.ReduceTells", spec := "reduceTells", unfollowed := true, recurses := true, plainKeys := false, apart := false }
def ReduceTellsSaid : Prop := reduceTellsRow.holds Try.pinned (OpenSpec.ofChange reduceTellsSpec)

/-- ITS FALSE NEIGHBOUR: 'it returns false'. Refute it at one input. -/
def reduceTellsWrong : ChangeSpec := { name := "reduceTells", fn := fun _ => fun
  | [d1, d2, d3] => { results := [.lit (.bool false)], args := [d1, d2, d3] }
  | _ => none }
def ReduceTellsWrongFalsely : Prop := reduceTellsRow.holds Try.pinned (OpenSpec.ofChange reduceTellsWrong)

/-- 'tokenhalllaw.ReachTells': WHATEVER THE INPUT: true; the input reads as it did. -/
def reachTellsSpec : ChangeSpec := { name := "reachTells", fn := fun _ => fun
  | [d1, d2, d3, d4] => { results := [.lit (.bool true)], args := [d1, d2, d3, d4] }
  | _ => none }
def reachTellsRow : OpenClaim := { program := "ytmnacahoamkokaa", sum := "957436ca503daade62728252e1580fe81cca179c25b7619f8fe6b6a9e23de5bf", func := "tokenhall/tokenhalllaw.ReachTells", spec := "reachTells", unfollowed := true, recurses := true, plainKeys := false, apart := false }
def ReachTellsSaid : Prop := reachTellsRow.holds Try.pinned (OpenSpec.ofChange reachTellsSpec)

/-- ITS FALSE NEIGHBOUR: 'it returns false'. Refute it at one input. -/
def reachTellsWrong : ChangeSpec := { name := "reachTells", fn := fun _ => fun
  | [d1, d2, d3, d4] => { results := [.lit (.bool false)], args := [d1, d2, d3, d4] }
  | _ => none }
def ReachTellsWrongFalsely : Prop := reachTellsRow.holds Try.pinned (OpenSpec.ofChange reachTellsWrong)

/-- 'tokenhalllaw.BenchReads': WHATEVER THE INPUT: true; the input reads as it did. -/
def benchReadsSpec : ChangeSpec := { name := "benchReads", fn := fun _ => fun
  | [d1, d2] => { results := [.lit (.bool true)], args := [d1, d2] }
  | _ => none }
def benchReadsRow : OpenClaim := { program := "ytmnacahoamkokaa", sum := "957436ca503daade62728252e1580fe81cca179c25b7619f8fe6b6a9e23de5bf", func := "tokenhall/tokenhalllaw.BenchReads", spec := "benchReads", inPlace := ["internal/abi.NoEscape", "internal/bytealg.MakeNoZero", "internal/bytealg.IndexByteString", "internal/bytealg.IndexString"], unfollowed := true, recurses := true, named := ["internal/bytealg.MaxLen"], loops := true, plainKeys := false, apart := false }
def BenchReadsSaid : Prop := benchReadsRow.holds Try.pinned (OpenSpec.ofChange benchReadsSpec)

/-- ITS FALSE NEIGHBOUR: 'it returns false'. Refute it at one input. -/
def benchReadsWrong : ChangeSpec := { name := "benchReads", fn := fun _ => fun
  | [d1, d2] => { results := [.lit (.bool false)], args := [d1, d2] }
  | _ => none }
def BenchReadsWrongFalsely : Prop := benchReadsRow.holds Try.pinned (OpenSpec.ofChange benchReadsWrong)

/-- 'tokenhalllaw.SoundJudges': WHATEVER THE INPUT: true; the input reads as it did. -/
def soundJudgesSpec : ChangeSpec := { name := "soundJudges", fn := fun _ => fun
  | [d1, d2, d3, d4] => { results := [.lit (.bool true)], args := [d1, d2, d3, d4] }
  | _ => none }
def soundJudgesRow : OpenClaim := { program := "ytmnacahoamkokaa", sum := "957436ca503daade62728252e1580fe81cca179c25b7619f8fe6b6a9e23de5bf", func := "tokenhall/tokenhalllaw.SoundJudges", spec := "soundJudges", unfollowed := true, recurses := true, plainKeys := false, apart := false }
def SoundJudgesSaid : Prop := soundJudgesRow.holds Try.pinned (OpenSpec.ofChange soundJudgesSpec)

/-- ITS FALSE NEIGHBOUR: 'it returns false'. Refute it at one input. -/
def soundJudgesWrong : ChangeSpec := { name := "soundJudges", fn := fun _ => fun
  | [d1, d2, d3, d4] => { results := [.lit (.bool false)], args := [d1, d2, d3, d4] }
  | _ => none }
def SoundJudgesWrongFalsely : Prop := soundJudgesRow.holds Try.pinned (OpenSpec.ofChange soundJudgesWrong)

/-- 'tokenhalllaw.AlignCosts': WHATEVER THE INPUT: true; the input reads as it did. -/
def alignCostsSpec : ChangeSpec := { name := "alignCosts", fn := fun _ => fun
  | [d1, d2, d3, d4] => { results := [.lit (.bool true)], args := [d1, d2, d3, d4] }
  | _ => none }
def alignCostsRow : OpenClaim := { program := "ytmnacahoamkokaa", sum := "957436ca503daade62728252e1580fe81cca179c25b7619f8fe6b6a9e23de5bf", func := "tokenhall/tokenhalllaw.AlignCosts", spec := "alignCosts", unfollowed := true, recurses := true, plainKeys := false, apart := false }
def AlignCostsSaid : Prop := alignCostsRow.holds Try.pinned (OpenSpec.ofChange alignCostsSpec)

/-- ITS FALSE NEIGHBOUR: 'it returns false'. Refute it at one input. -/
def alignCostsWrong : ChangeSpec := { name := "alignCosts", fn := fun _ => fun
  | [d1, d2, d3, d4] => { results := [.lit (.bool false)], args := [d1, d2, d3, d4] }
  | _ => none }
def AlignCostsWrongFalsely : Prop := alignCostsRow.holds Try.pinned (OpenSpec.ofChange alignCostsWrong)

/-- 'tokenhalllaw.HallPlays': WHATEVER THE INPUT: true; the input reads as it did. -/
def hallPlaysSpec : ChangeSpec := { name := "hallPlays", fn := fun _ => fun
  | [d1, d2, d3, d4] => { results := [.lit (.bool true)], args := [d1, d2, d3, d4] }
  | _ => none }
def hallPlaysRow : OpenClaim := { program := "ytmnacahoamkokaa", sum := "957436ca503daade62728252e1580fe81cca179c25b7619f8fe6b6a9e23de5bf", func := "tokenhall/tokenhalllaw.HallPlays", spec := "hallPlays", unfollowed := true, recurses := true, plainKeys := false, apart := false }
def HallPlaysSaid : Prop := hallPlaysRow.holds Try.pinned (OpenSpec.ofChange hallPlaysSpec)

/-- ITS FALSE NEIGHBOUR: 'it returns false'. Refute it at one input. -/
def hallPlaysWrong : ChangeSpec := { name := "hallPlays", fn := fun _ => fun
  | [d1, d2, d3, d4] => { results := [.lit (.bool false)], args := [d1, d2, d3, d4] }
  | _ => none }
def HallPlaysWrongFalsely : Prop := hallPlaysRow.holds Try.pinned (OpenSpec.ofChange hallPlaysWrong)

/-- 'tokenhalllaw.TongueHas': WHATEVER THE INPUT: true; the input reads as it did. -/
def tongueHasSpec : ChangeSpec := { name := "tongueHas", fn := fun _ => fun
  | [d1, d2, d3, d4] => { results := [.lit (.bool true)], args := [d1, d2, d3, d4] }
  | _ => none }
def tongueHasRow : OpenClaim := { program := "ytmnacahoamkokaa", sum := "957436ca503daade62728252e1580fe81cca179c25b7619f8fe6b6a9e23de5bf", func := "tokenhall/tokenhalllaw.TongueHas", spec := "tongueHas", unfollowed := true, recurses := true, plainKeys := false, apart := false }
def TongueHasSaid : Prop := tongueHasRow.holds Try.pinned (OpenSpec.ofChange tongueHasSpec)

/-- ITS FALSE NEIGHBOUR: 'it returns false'. Refute it at one input. -/
def tongueHasWrong : ChangeSpec := { name := "tongueHas", fn := fun _ => fun
  | [d1, d2, d3, d4] => { results := [.lit (.bool false)], args := [d1, d2, d3, d4] }
  | _ => none }
def TongueHasWrongFalsely : Prop := tongueHasRow.holds Try.pinned (OpenSpec.ofChange tongueHasWrong)

/- THE SECOND FORM. 'bulk': how many values and letters a reading holds, each counted each time it is reached (what is shared counts as often as it is met; a slice's spare places count too). A statement '..UptoSaid' is the law's where the arguments, and the package variables that the reading takes, are together of bulk at most 1048576: NARROWER than '..Said'. Prove '..Said' where nothing that the law and all that it calls make is longer than what came in: it says more and counts as full. Else prove '..UptoSaid'. A law counts once. -/
mutual
def uptoBulk {H : Type} : DataW H → Nat
  | .lit (.string bytes) => bytes.length + 1
  | .lit _ => 1
  | .nil => 1
  | .ptr d => uptoBulk d + 1
  | .slice elems spare => uptoBulkAll elems + uptoBulkAll spare + 1
  | .agg parts => uptoBulkAll parts + 1
  | .iface _ d => uptoBulk d + 1
  | .map entries => uptoBulkEntries entries + 1
  | .held _ => 1
def uptoBulkAll {H : Type} : List (DataW H) → Nat
  | [] => 0
  | d :: r => uptoBulk d + uptoBulkAll r
def uptoBulkEntries {H : Type} : List (Lit × DataW H) → Nat
  | [] => 0
  | x :: r => uptoBulkEntry x + uptoBulkEntries r
def uptoBulkEntry {H : Type} : Lit × DataW H → Nat
  | (.string bytes, d) => bytes.length + uptoBulk d + 1
  | (_, d) => uptoBulk d + 1
 end
def uptoSmall : (H : Type) → List (DataW H) → Bool := fun _ ds => decide (uptoBulkAll ds ≤ 1048576)
def OpenSpec.upto (s : _root_.Go.ChangeSpec) : _root_.Go.OpenSpec := { _root_.Go.OpenSpec.ofChange s with cond := some uptoSmall }

/-- 'tokenhalllaw.GrowTells', WHERE WHAT IT READS IS OF BULK AT MOST 1048576: true; the input reads as it did. -/
def growTellsUptoRow : OpenClaim := { program := "ytmnacahoamkokaa", sum := "957436ca503daade62728252e1580fe81cca179c25b7619f8fe6b6a9e23de5bf", func := "tokenhall/tokenhalllaw.GrowTells", spec := "growTells", unfollowed := true, recurses := true, loops := true, plainKeys := false, apart := false, narrowed := true }
def GrowTellsUptoSaid : Prop := growTellsUptoRow.holds Try.pinned (OpenSpec.upto growTellsSpec)

/-- 'tokenhalllaw.CoverTells', WHERE WHAT IT READS IS OF BULK AT MOST 1048576: true; the input reads as it did. -/
def coverTellsUptoRow : OpenClaim := { program := "ytmnacahoamkokaa", sum := "957436ca503daade62728252e1580fe81cca179c25b7619f8fe6b6a9e23de5bf", func := "tokenhall/tokenhalllaw.CoverTells", spec := "coverTells", unfollowed := true, recurses := true, plainKeys := false, apart := false, narrowed := true }
def CoverTellsUptoSaid : Prop := coverTellsUptoRow.holds Try.pinned (OpenSpec.upto coverTellsSpec)

/-- 'tokenhalllaw.ReduceTells', WHERE WHAT IT READS IS OF BULK AT MOST 1048576: true; the input reads as it did. -/
def reduceTellsUptoRow : OpenClaim := { program := "ytmnacahoamkokaa", sum := "957436ca503daade62728252e1580fe81cca179c25b7619f8fe6b6a9e23de5bf", func := "tokenhall/tokenhalllaw.ReduceTells", spec := "reduceTells", unfollowed := true, recurses := true, plainKeys := false, apart := false, narrowed := true }
def ReduceTellsUptoSaid : Prop := reduceTellsUptoRow.holds Try.pinned (OpenSpec.upto reduceTellsSpec)

/-- 'tokenhalllaw.ReachTells', WHERE WHAT IT READS IS OF BULK AT MOST 1048576: true; the input reads as it did. -/
def reachTellsUptoRow : OpenClaim := { program := "ytmnacahoamkokaa", sum := "957436ca503daade62728252e1580fe81cca179c25b7619f8fe6b6a9e23de5bf", func := "tokenhall/tokenhalllaw.ReachTells", spec := "reachTells", unfollowed := true, recurses := true, plainKeys := false, apart := false, narrowed := true }
def ReachTellsUptoSaid : Prop := reachTellsUptoRow.holds Try.pinned (OpenSpec.upto reachTellsSpec)

/-- 'tokenhalllaw.BenchReads', WHERE WHAT IT READS IS OF BULK AT MOST 1048576: true; the input reads as it did. -/
def benchReadsUptoRow : OpenClaim := { program := "ytmnacahoamkokaa", sum := "957436ca503daade62728252e1580fe81cca179c25b7619f8fe6b6a9e23de5bf", func := "tokenhall/tokenhalllaw.BenchReads", spec := "benchReads", inPlace := ["internal/abi.NoEscape", "internal/bytealg.MakeNoZero", "internal/bytealg.IndexByteString", "internal/bytealg.IndexString"], unfollowed := true, recurses := true, named := ["internal/bytealg.MaxLen"], loops := true, plainKeys := false, apart := false, narrowed := true }
def BenchReadsUptoSaid : Prop := benchReadsUptoRow.holds Try.pinned (OpenSpec.upto benchReadsSpec)

/-- 'tokenhalllaw.SoundJudges', WHERE WHAT IT READS IS OF BULK AT MOST 1048576: true; the input reads as it did. -/
def soundJudgesUptoRow : OpenClaim := { program := "ytmnacahoamkokaa", sum := "957436ca503daade62728252e1580fe81cca179c25b7619f8fe6b6a9e23de5bf", func := "tokenhall/tokenhalllaw.SoundJudges", spec := "soundJudges", unfollowed := true, recurses := true, plainKeys := false, apart := false, narrowed := true }
def SoundJudgesUptoSaid : Prop := soundJudgesUptoRow.holds Try.pinned (OpenSpec.upto soundJudgesSpec)

/-- 'tokenhalllaw.AlignCosts', WHERE WHAT IT READS IS OF BULK AT MOST 1048576: true; the input reads as it did. -/
def alignCostsUptoRow : OpenClaim := { program := "ytmnacahoamkokaa", sum := "957436ca503daade62728252e1580fe81cca179c25b7619f8fe6b6a9e23de5bf", func := "tokenhall/tokenhalllaw.AlignCosts", spec := "alignCosts", unfollowed := true, recurses := true, plainKeys := false, apart := false, narrowed := true }
def AlignCostsUptoSaid : Prop := alignCostsUptoRow.holds Try.pinned (OpenSpec.upto alignCostsSpec)

/-- 'tokenhalllaw.HallPlays', WHERE WHAT IT READS IS OF BULK AT MOST 1048576: true; the input reads as it did. -/
def hallPlaysUptoRow : OpenClaim := { program := "ytmnacahoamkokaa", sum := "957436ca503daade62728252e1580fe81cca179c25b7619f8fe6b6a9e23de5bf", func := "tokenhall/tokenhalllaw.HallPlays", spec := "hallPlays", unfollowed := true, recurses := true, plainKeys := false, apart := false, narrowed := true }
def HallPlaysUptoSaid : Prop := hallPlaysUptoRow.holds Try.pinned (OpenSpec.upto hallPlaysSpec)

/-- 'tokenhalllaw.TongueHas', WHERE WHAT IT READS IS OF BULK AT MOST 1048576: true; the input reads as it did. -/
def tongueHasUptoRow : OpenClaim := { program := "ytmnacahoamkokaa", sum := "957436ca503daade62728252e1580fe81cca179c25b7619f8fe6b6a9e23de5bf", func := "tokenhall/tokenhalllaw.TongueHas", spec := "tongueHas", unfollowed := true, recurses := true, plainKeys := false, apart := false, narrowed := true }
def TongueHasUptoSaid : Prop := tongueHasUptoRow.holds Try.pinned (OpenSpec.upto tongueHasSpec)

end Rows
end Go.Proofs.Ytmnacahoamkokaa
