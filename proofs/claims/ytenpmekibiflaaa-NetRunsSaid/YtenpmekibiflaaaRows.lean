/-
  NARROWER THAN 'FOR EVERY INPUT', by the rows' own cells (each row's printed sentence says how): GrowTells: loops · BenchReads: loops.
  DERIVED. THE GIVEN ROWS OF THIS SEAT. 24 by the template 'for every input the law returns true; each argument reads behind the call as it read before'; 0 by the template 'total and deterministic' (their statements: YtenpmekibiflaaaTotals.lean).
  GIVEN WITH THE SEED: the statements are not yours to turn. If you find one false, say at which input.
  Laid BY PROGRAM, IN A SANDBOX (cutbox-rows.mjs): the forced cells as the released guide's own fill.sh prints them over the translation f852e39eca67c890… (all of the seat's roots in one cut). By AI agents, Wed Nov 11 2026. No macro, syntax, notation, axiom, sorry.
-/
import Derived.Test.YtenpmekibiflaaaChecked
import GoSem.Claim
import GoSem.ClaimJoined
import GoSem.ClaimMapViews
import Derived.JoinedTies
import Derived.KernelRfl
namespace Go.Proofs.Ytenpmekibiflaaa
/- THE CELL 'sum', in the pinned program and in every row, IS THE sha256 OF THE DUMP (.gsa) THAT YtenpmekibiflaaaProg.lean LOADS. Nothing in Lean hashes anything: it is a label: what it is worth is what the hold of that sum in a sandbox is worth. -/
noncomputable def Try.pinned : Pinned := { name := "ytenpmekibiflaaa", sum := "f852e39eca67c890dde6ce8739761fa8b0adb00942bcbedc74e93fe8b0153c82", checked := Try.checked }
namespace Rows
def none {H : Type} : Left H := { results := [], args := [] }

/-- 'tokenhalllaw.JournalTells': WHATEVER THE INPUT: true; the input reads as it did. -/
def journalTellsSpec : ChangeSpec := { name := "journalTells", fn := fun _ => fun
  | [d1, d2] => { results := [.lit (.bool true)], args := [d1, d2] }
  | _ => none }
def journalTellsRow : OpenClaim := { program := "ytenpmekibiflaaa", sum := "f852e39eca67c890dde6ce8739761fa8b0adb00942bcbedc74e93fe8b0153c82", func := "tokenhall/tokenhalllaw.JournalTells", spec := "journalTells", recurses := true, plainKeys := false, apart := false }
def JournalTellsSaid : Prop := journalTellsRow.holds Try.pinned (OpenSpec.ofChange journalTellsSpec)

/-- ITS FALSE NEIGHBOUR: 'it returns false'. Refute it at one input. -/
def journalTellsWrong : ChangeSpec := { name := "journalTells", fn := fun _ => fun
  | [d1, d2] => { results := [.lit (.bool false)], args := [d1, d2] }
  | _ => none }
def JournalTellsWrongFalsely : Prop := journalTellsRow.holds Try.pinned (OpenSpec.ofChange journalTellsWrong)

/-- 'tokenhalllaw.MarkTells': WHATEVER THE INPUT: true; the input reads as it did. -/
def markTellsSpec : ChangeSpec := { name := "markTells", fn := fun _ => fun
  | [d1, d2] => { results := [.lit (.bool true)], args := [d1, d2] }
  | _ => none }
def markTellsRow : OpenClaim := { program := "ytenpmekibiflaaa", sum := "f852e39eca67c890dde6ce8739761fa8b0adb00942bcbedc74e93fe8b0153c82", func := "tokenhall/tokenhalllaw.MarkTells", spec := "markTells", unfollowed := true, recurses := true, plainKeys := false, apart := false }
def MarkTellsSaid : Prop := markTellsRow.holds Try.pinned (OpenSpec.ofChange markTellsSpec)

/-- ITS FALSE NEIGHBOUR: 'it returns false'. Refute it at one input. -/
def markTellsWrong : ChangeSpec := { name := "markTells", fn := fun _ => fun
  | [d1, d2] => { results := [.lit (.bool false)], args := [d1, d2] }
  | _ => none }
def MarkTellsWrongFalsely : Prop := markTellsRow.holds Try.pinned (OpenSpec.ofChange markTellsWrong)

/-- 'tokenhalllaw.FlowTells': WHATEVER THE INPUT: true; the input reads as it did. -/
def flowTellsSpec : ChangeSpec := { name := "flowTells", fn := fun _ => fun
  | [d1, d2, d3, d4] => { results := [.lit (.bool true)], args := [d1, d2, d3, d4] }
  | _ => none }
def flowTellsRow : OpenClaim := { program := "ytenpmekibiflaaa", sum := "f852e39eca67c890dde6ce8739761fa8b0adb00942bcbedc74e93fe8b0153c82", func := "tokenhall/tokenhalllaw.FlowTells", spec := "flowTells", unfollowed := true, recurses := true, plainKeys := false, apart := false }
def FlowTellsSaid : Prop := flowTellsRow.holds Try.pinned (OpenSpec.ofChange flowTellsSpec)

/-- ITS FALSE NEIGHBOUR: 'it returns false'. Refute it at one input. -/
def flowTellsWrong : ChangeSpec := { name := "flowTells", fn := fun _ => fun
  | [d1, d2, d3, d4] => { results := [.lit (.bool false)], args := [d1, d2, d3, d4] }
  | _ => none }
def FlowTellsWrongFalsely : Prop := flowTellsRow.holds Try.pinned (OpenSpec.ofChange flowTellsWrong)

/-- 'tokenhalllaw.GrowTells': WHATEVER THE INPUT: true; the input reads as it did. -/
def growTellsSpec : ChangeSpec := { name := "growTells", fn := fun _ => fun
  | [d] => { results := [.lit (.bool true)], args := [d] }
  | _ => none }
def growTellsRow : OpenClaim := { program := "ytenpmekibiflaaa", sum := "f852e39eca67c890dde6ce8739761fa8b0adb00942bcbedc74e93fe8b0153c82", func := "tokenhall/tokenhalllaw.GrowTells", spec := "growTells", unfollowed := true, recurses := true, loops := true, plainKeys := false, apart := false }
def GrowTellsSaid : Prop := growTellsRow.holds Try.pinned (OpenSpec.ofChange growTellsSpec)

/-- ITS FALSE NEIGHBOUR: 'it returns false'. Refute it at one input. -/
def growTellsWrong : ChangeSpec := { name := "growTells", fn := fun _ => fun
  | [d] => { results := [.lit (.bool false)], args := [d] }
  | _ => none }
def GrowTellsWrongFalsely : Prop := growTellsRow.holds Try.pinned (OpenSpec.ofChange growTellsWrong)

/-- 'tokenhalllaw.NetFires': WHATEVER THE INPUT: true; the input reads as it did. -/
def netFiresSpec : ChangeSpec := { name := "netFires", fn := fun _ => fun
  | [d1, d2, d3] => { results := [.lit (.bool true)], args := [d1, d2, d3] }
  | _ => none }
def netFiresRow : OpenClaim := { program := "ytenpmekibiflaaa", sum := "f852e39eca67c890dde6ce8739761fa8b0adb00942bcbedc74e93fe8b0153c82", func := "tokenhall/tokenhalllaw.NetFires", spec := "netFires", unfollowed := true, recurses := true, plainKeys := false, apart := false }
def NetFiresSaid : Prop := netFiresRow.holds Try.pinned (OpenSpec.ofChange netFiresSpec)

/-- ITS FALSE NEIGHBOUR: 'it returns false'. Refute it at one input. -/
def netFiresWrong : ChangeSpec := { name := "netFires", fn := fun _ => fun
  | [d1, d2, d3] => { results := [.lit (.bool false)], args := [d1, d2, d3] }
  | _ => none }
def NetFiresWrongFalsely : Prop := netFiresRow.holds Try.pinned (OpenSpec.ofChange netFiresWrong)

/-- 'tokenhalllaw.ShapeTells': WHATEVER THE INPUT: true; the input reads as it did. -/
def shapeTellsSpec : ChangeSpec := { name := "shapeTells", fn := fun _ => fun
  | [d1, d2, d3] => { results := [.lit (.bool true)], args := [d1, d2, d3] }
  | _ => none }
def shapeTellsRow : OpenClaim := { program := "ytenpmekibiflaaa", sum := "f852e39eca67c890dde6ce8739761fa8b0adb00942bcbedc74e93fe8b0153c82", func := "tokenhall/tokenhalllaw.ShapeTells", spec := "shapeTells", unfollowed := true, recurses := true, plainKeys := false, apart := false }
def ShapeTellsSaid : Prop := shapeTellsRow.holds Try.pinned (OpenSpec.ofChange shapeTellsSpec)

/-- ITS FALSE NEIGHBOUR: 'it returns false'. Refute it at one input. -/
def shapeTellsWrong : ChangeSpec := { name := "shapeTells", fn := fun _ => fun
  | [d1, d2, d3] => { results := [.lit (.bool false)], args := [d1, d2, d3] }
  | _ => none }
def ShapeTellsWrongFalsely : Prop := shapeTellsRow.holds Try.pinned (OpenSpec.ofChange shapeTellsWrong)

/-- 'tokenhalllaw.LiveTells': WHATEVER THE INPUT: true; the input reads as it did. -/
def liveTellsSpec : ChangeSpec := { name := "liveTells", fn := fun _ => fun
  | [d1, d2] => { results := [.lit (.bool true)], args := [d1, d2] }
  | _ => none }
def liveTellsRow : OpenClaim := { program := "ytenpmekibiflaaa", sum := "f852e39eca67c890dde6ce8739761fa8b0adb00942bcbedc74e93fe8b0153c82", func := "tokenhall/tokenhalllaw.LiveTells", spec := "liveTells", unfollowed := true, recurses := true, plainKeys := false, apart := false }
def LiveTellsSaid : Prop := liveTellsRow.holds Try.pinned (OpenSpec.ofChange liveTellsSpec)

/-- ITS FALSE NEIGHBOUR: 'it returns false'. Refute it at one input. -/
def liveTellsWrong : ChangeSpec := { name := "liveTells", fn := fun _ => fun
  | [d1, d2] => { results := [.lit (.bool false)], args := [d1, d2] }
  | _ => none }
def LiveTellsWrongFalsely : Prop := liveTellsRow.holds Try.pinned (OpenSpec.ofChange liveTellsWrong)

/-- 'tokenhalllaw.NetRuns': WHATEVER THE INPUT: true; the input reads as it did. -/
def netRunsSpec : ChangeSpec := { name := "netRuns", fn := fun _ => fun
  | [d1, d2, d3] => { results := [.lit (.bool true)], args := [d1, d2, d3] }
  | _ => none }
def netRunsRow : OpenClaim := { program := "ytenpmekibiflaaa", sum := "f852e39eca67c890dde6ce8739761fa8b0adb00942bcbedc74e93fe8b0153c82", func := "tokenhall/tokenhalllaw.NetRuns", spec := "netRuns", unfollowed := true, recurses := true, plainKeys := false, apart := false }
def NetRunsSaid : Prop := netRunsRow.holds Try.pinned (OpenSpec.ofChange netRunsSpec)

/-- ITS FALSE NEIGHBOUR: 'it returns false'. Refute it at one input. -/
def netRunsWrong : ChangeSpec := { name := "netRuns", fn := fun _ => fun
  | [d1, d2, d3] => { results := [.lit (.bool false)], args := [d1, d2, d3] }
  | _ => none }
def NetRunsWrongFalsely : Prop := netRunsRow.holds Try.pinned (OpenSpec.ofChange netRunsWrong)

/-- 'tokenhalltop.Names': WHATEVER THE INPUT: true; the input reads as it did. -/
def namesSpec : ChangeSpec := { name := "names", fn := fun _ => fun
  | [] => { results := [.lit (.bool true)], args := [] }
  | _ => none }
def namesRow : OpenClaim := { program := "ytenpmekibiflaaa", sum := "f852e39eca67c890dde6ce8739761fa8b0adb00942bcbedc74e93fe8b0153c82", func := "tokenhall/tokenhalltop.Names", spec := "names", plainKeys := false, apart := false }
def NamesSaid : Prop := namesRow.holds Try.pinned (OpenSpec.ofChange namesSpec)

/-- ITS FALSE NEIGHBOUR: 'it returns false'. Refute it at one input. -/
def namesWrong : ChangeSpec := { name := "names", fn := fun _ => fun
  | [] => { results := [.lit (.bool false)], args := [] }
  | _ => none }
def NamesWrongFalsely : Prop := namesRow.holds Try.pinned (OpenSpec.ofChange namesWrong)

/-- 'tokenhalllaw.ReplayTells': WHATEVER THE INPUT: true; the input reads as it did. -/
def replayTellsSpec : ChangeSpec := { name := "replayTells", fn := fun _ => fun
  | [d1, d2, d3, d4] => { results := [.lit (.bool true)], args := [d1, d2, d3, d4] }
  | _ => none }
def replayTellsRow : OpenClaim := { program := "ytenpmekibiflaaa", sum := "f852e39eca67c890dde6ce8739761fa8b0adb00942bcbedc74e93fe8b0153c82", func := "tokenhall/tokenhalllaw.ReplayTells", spec := "replayTells", unfollowed := true, recurses := true, plainKeys := false, apart := false }
def ReplayTellsSaid : Prop := replayTellsRow.holds Try.pinned (OpenSpec.ofChange replayTellsSpec)

/-- ITS FALSE NEIGHBOUR: 'it returns false'. Refute it at one input. -/
def replayTellsWrong : ChangeSpec := { name := "replayTells", fn := fun _ => fun
  | [d1, d2, d3, d4] => { results := [.lit (.bool false)], args := [d1, d2, d3, d4] }
  | _ => none }
def ReplayTellsWrongFalsely : Prop := replayTellsRow.holds Try.pinned (OpenSpec.ofChange replayTellsWrong)

/-- 'tokenhalllaw.CoverTells': WHATEVER THE INPUT: true; the input reads as it did. -/
def coverTellsSpec : ChangeSpec := { name := "coverTells", fn := fun _ => fun
  | [d1, d2, d3, d4] => { results := [.lit (.bool true)], args := [d1, d2, d3, d4] }
  | _ => none }
def coverTellsRow : OpenClaim := { program := "ytenpmekibiflaaa", sum := "f852e39eca67c890dde6ce8739761fa8b0adb00942bcbedc74e93fe8b0153c82", func := "tokenhall/tokenhalllaw.CoverTells", spec := "coverTells", unfollowed := true, recurses := true, plainKeys := false, apart := false }
def CoverTellsSaid : Prop := coverTellsRow.holds Try.pinned (OpenSpec.ofChange coverTellsSpec)

/-- ITS FALSE NEIGHBOUR: 'it returns false'. Refute it at one input. -/
def coverTellsWrong : ChangeSpec := { name := "coverTells", fn := fun _ => fun
  | [d1, d2, d3, d4] => { results := [.lit (.bool false)], args := [d1, d2, d3, d4] }
  | _ => none }
def CoverTellsWrongFalsely : Prop := coverTellsRow.holds Try.pinned (OpenSpec.ofChange coverTellsWrong)

/-- 'tokenhalllaw.CasesPlay': WHATEVER THE INPUT: true; the input reads as it did. -/
def casesPlaySpec : ChangeSpec := { name := "casesPlay", fn := fun _ => fun
  | [d1, d2, d3] => { results := [.lit (.bool true)], args := [d1, d2, d3] }
  | _ => none }
def casesPlayRow : OpenClaim := { program := "ytenpmekibiflaaa", sum := "f852e39eca67c890dde6ce8739761fa8b0adb00942bcbedc74e93fe8b0153c82", func := "tokenhall/tokenhalllaw.CasesPlay", spec := "casesPlay", unfollowed := true, recurses := true, plainKeys := false, apart := false }
def CasesPlaySaid : Prop := casesPlayRow.holds Try.pinned (OpenSpec.ofChange casesPlaySpec)

/-- ITS FALSE NEIGHBOUR: 'it returns false'. Refute it at one input. -/
def casesPlayWrong : ChangeSpec := { name := "casesPlay", fn := fun _ => fun
  | [d1, d2, d3] => { results := [.lit (.bool false)], args := [d1, d2, d3] }
  | _ => none }
def CasesPlayWrongFalsely : Prop := casesPlayRow.holds Try.pinned (OpenSpec.ofChange casesPlayWrong)

/-- 'tokenhalllaw.CasesDo': WHATEVER THE INPUT: true; the input reads as it did. -/
def casesDoSpec : ChangeSpec := { name := "casesDo", fn := fun _ => fun
  | [d1, d2, d3, d4] => { results := [.lit (.bool true)], args := [d1, d2, d3, d4] }
  | _ => none }
def casesDoRow : OpenClaim := { program := "ytenpmekibiflaaa", sum := "f852e39eca67c890dde6ce8739761fa8b0adb00942bcbedc74e93fe8b0153c82", func := "tokenhall/tokenhalllaw.CasesDo", spec := "casesDo", unfollowed := true, recurses := true, plainKeys := false, apart := false }
def CasesDoSaid : Prop := casesDoRow.holds Try.pinned (OpenSpec.ofChange casesDoSpec)

/-- ITS FALSE NEIGHBOUR: 'it returns false'. Refute it at one input. -/
def casesDoWrong : ChangeSpec := { name := "casesDo", fn := fun _ => fun
  | [d1, d2, d3, d4] => { results := [.lit (.bool false)], args := [d1, d2, d3, d4] }
  | _ => none }
def CasesDoWrongFalsely : Prop := casesDoRow.holds Try.pinned (OpenSpec.ofChange casesDoWrong)

/-- 'tokenhalllaw.ReduceTells': WHATEVER THE INPUT: true; the input reads as it did. -/
def reduceTellsSpec : ChangeSpec := { name := "reduceTells", fn := fun _ => fun
  | [d1, d2, d3] => { results := [.lit (.bool true)], args := [d1, d2, d3] }
  | _ => none }
def reduceTellsRow : OpenClaim := { program := "ytenpmekibiflaaa", sum := "f852e39eca67c890dde6ce8739761fa8b0adb00942bcbedc74e93fe8b0153c82", func := "tokenhall/tokenhalllaw.ReduceTells", spec := "reduceTells", unfollowed := true, recurses := true, plainKeys := false, apart := false }
def ReduceTellsSaid : Prop := reduceTellsRow.holds Try.pinned (OpenSpec.ofChange reduceTellsSpec)

/-- ITS FALSE NEIGHBOUR: 'it returns false'. Refute it at one input. -/
def reduceTellsWrong : ChangeSpec := { name := "reduceTells", fn := fun _ => fun
  | [d1, d2, d3] => { results := [.lit (.bool false)], args := [d1, d2, d3] }
  | _ => none }
def ReduceTellsWrongFalsely : Prop := reduceTellsRow.holds Try.pinned (OpenSpec.ofChange reduceTellsWrong)

/-- 'tokenhalllaw.ReachTells': WHATEVER THE INPUT: true; the input reads as it did. -/
def reachTellsSpec : ChangeSpec := { name := "reachTells", fn := fun _ => fun
  | [d1, d2, d3, d4] => { results := [.lit (.bool true)], args := [d1, d2, d3, d4] }
  | _ => none }
def reachTellsRow : OpenClaim := { program := "ytenpmekibiflaaa", sum := "f852e39eca67c890dde6ce8739761fa8b0adb00942bcbedc74e93fe8b0153c82", func := "tokenhall/tokenhalllaw.ReachTells", spec := "reachTells", unfollowed := true, recurses := true, plainKeys := false, apart := false }
def ReachTellsSaid : Prop := reachTellsRow.holds Try.pinned (OpenSpec.ofChange reachTellsSpec)

/-- ITS FALSE NEIGHBOUR: 'it returns false'. Refute it at one input. -/
def reachTellsWrong : ChangeSpec := { name := "reachTells", fn := fun _ => fun
  | [d1, d2, d3, d4] => { results := [.lit (.bool false)], args := [d1, d2, d3, d4] }
  | _ => none }
def ReachTellsWrongFalsely : Prop := reachTellsRow.holds Try.pinned (OpenSpec.ofChange reachTellsWrong)

/-- 'tokenhalllaw.BenchReads': WHATEVER THE INPUT: true; the input reads as it did. -/
def benchReadsSpec : ChangeSpec := { name := "benchReads", fn := fun _ => fun
  | [d1, d2] => { results := [.lit (.bool true)], args := [d1, d2] }
  | _ => none }
def benchReadsRow : OpenClaim := { program := "ytenpmekibiflaaa", sum := "f852e39eca67c890dde6ce8739761fa8b0adb00942bcbedc74e93fe8b0153c82", func := "tokenhall/tokenhalllaw.BenchReads", spec := "benchReads", inPlace := ["internal/abi.NoEscape", "internal/bytealg.MakeNoZero", "internal/bytealg.IndexByteString", "internal/bytealg.IndexString"], unfollowed := true, recurses := true, named := ["internal/bytealg.MaxLen"], loops := true, plainKeys := false, apart := false }
def BenchReadsSaid : Prop := benchReadsRow.holds Try.pinned (OpenSpec.ofChange benchReadsSpec)

/-- ITS FALSE NEIGHBOUR: 'it returns false'. Refute it at one input. -/
def benchReadsWrong : ChangeSpec := { name := "benchReads", fn := fun _ => fun
  | [d1, d2] => { results := [.lit (.bool false)], args := [d1, d2] }
  | _ => none }
def BenchReadsWrongFalsely : Prop := benchReadsRow.holds Try.pinned (OpenSpec.ofChange benchReadsWrong)

/-- 'tokenhalllaw.DeskPlays': WHATEVER THE INPUT: true; the input reads as it did. -/
def deskPlaysSpec : ChangeSpec := { name := "deskPlays", fn := fun _ => fun
  | [d1, d2, d3, d4] => { results := [.lit (.bool true)], args := [d1, d2, d3, d4] }
  | _ => none }
def deskPlaysRow : OpenClaim := { program := "ytenpmekibiflaaa", sum := "f852e39eca67c890dde6ce8739761fa8b0adb00942bcbedc74e93fe8b0153c82", func := "tokenhall/tokenhalllaw.DeskPlays", spec := "deskPlays", unfollowed := true, recurses := true, plainKeys := false, apart := false }
def DeskPlaysSaid : Prop := deskPlaysRow.holds Try.pinned (OpenSpec.ofChange deskPlaysSpec)

/-- ITS FALSE NEIGHBOUR: 'it returns false'. Refute it at one input. -/
def deskPlaysWrong : ChangeSpec := { name := "deskPlays", fn := fun _ => fun
  | [d1, d2, d3, d4] => { results := [.lit (.bool false)], args := [d1, d2, d3, d4] }
  | _ => none }
def DeskPlaysWrongFalsely : Prop := deskPlaysRow.holds Try.pinned (OpenSpec.ofChange deskPlaysWrong)

/-- 'tokenhalllaw.SoundJudges': WHATEVER THE INPUT: true; the input reads as it did. -/
def soundJudgesSpec : ChangeSpec := { name := "soundJudges", fn := fun _ => fun
  | [d1, d2, d3, d4] => { results := [.lit (.bool true)], args := [d1, d2, d3, d4] }
  | _ => none }
def soundJudgesRow : OpenClaim := { program := "ytenpmekibiflaaa", sum := "f852e39eca67c890dde6ce8739761fa8b0adb00942bcbedc74e93fe8b0153c82", func := "tokenhall/tokenhalllaw.SoundJudges", spec := "soundJudges", unfollowed := true, recurses := true, plainKeys := false, apart := false }
def SoundJudgesSaid : Prop := soundJudgesRow.holds Try.pinned (OpenSpec.ofChange soundJudgesSpec)

/-- ITS FALSE NEIGHBOUR: 'it returns false'. Refute it at one input. -/
def soundJudgesWrong : ChangeSpec := { name := "soundJudges", fn := fun _ => fun
  | [d1, d2, d3, d4] => { results := [.lit (.bool false)], args := [d1, d2, d3, d4] }
  | _ => none }
def SoundJudgesWrongFalsely : Prop := soundJudgesRow.holds Try.pinned (OpenSpec.ofChange soundJudgesWrong)

/-- 'tokenhalllaw.AlignCosts': WHATEVER THE INPUT: true; the input reads as it did. -/
def alignCostsSpec : ChangeSpec := { name := "alignCosts", fn := fun _ => fun
  | [d1, d2, d3, d4] => { results := [.lit (.bool true)], args := [d1, d2, d3, d4] }
  | _ => none }
def alignCostsRow : OpenClaim := { program := "ytenpmekibiflaaa", sum := "f852e39eca67c890dde6ce8739761fa8b0adb00942bcbedc74e93fe8b0153c82", func := "tokenhall/tokenhalllaw.AlignCosts", spec := "alignCosts", unfollowed := true, recurses := true, plainKeys := false, apart := false }
def AlignCostsSaid : Prop := alignCostsRow.holds Try.pinned (OpenSpec.ofChange alignCostsSpec)

/-- ITS FALSE NEIGHBOUR: 'it returns false'. Refute it at one input. -/
def alignCostsWrong : ChangeSpec := { name := "alignCosts", fn := fun _ => fun
  | [d1, d2, d3, d4] => { results := [.lit (.bool false)], args := [d1, d2, d3, d4] }
  | _ => none }
def AlignCostsWrongFalsely : Prop := alignCostsRow.holds Try.pinned (OpenSpec.ofChange alignCostsWrong)

/-- 'tokenhalllaw.HallPlays': WHATEVER THE INPUT: true; the input reads as it did. -/
def hallPlaysSpec : ChangeSpec := { name := "hallPlays", fn := fun _ => fun
  | [d1, d2, d3, d4] => { results := [.lit (.bool true)], args := [d1, d2, d3, d4] }
  | _ => none }
def hallPlaysRow : OpenClaim := { program := "ytenpmekibiflaaa", sum := "f852e39eca67c890dde6ce8739761fa8b0adb00942bcbedc74e93fe8b0153c82", func := "tokenhall/tokenhalllaw.HallPlays", spec := "hallPlays", unfollowed := true, recurses := true, plainKeys := false, apart := false }
def HallPlaysSaid : Prop := hallPlaysRow.holds Try.pinned (OpenSpec.ofChange hallPlaysSpec)

/-- ITS FALSE NEIGHBOUR: 'it returns false'. Refute it at one input. -/
def hallPlaysWrong : ChangeSpec := { name := "hallPlays", fn := fun _ => fun
  | [d1, d2, d3, d4] => { results := [.lit (.bool false)], args := [d1, d2, d3, d4] }
  | _ => none }
def HallPlaysWrongFalsely : Prop := hallPlaysRow.holds Try.pinned (OpenSpec.ofChange hallPlaysWrong)

/-- 'tokenhalllaw.TongueHas': WHATEVER THE INPUT: true; the input reads as it did. -/
def tongueHasSpec : ChangeSpec := { name := "tongueHas", fn := fun _ => fun
  | [d1, d2, d3, d4] => { results := [.lit (.bool true)], args := [d1, d2, d3, d4] }
  | _ => none }
def tongueHasRow : OpenClaim := { program := "ytenpmekibiflaaa", sum := "f852e39eca67c890dde6ce8739761fa8b0adb00942bcbedc74e93fe8b0153c82", func := "tokenhall/tokenhalllaw.TongueHas", spec := "tongueHas", unfollowed := true, recurses := true, plainKeys := false, apart := false }
def TongueHasSaid : Prop := tongueHasRow.holds Try.pinned (OpenSpec.ofChange tongueHasSpec)

/-- ITS FALSE NEIGHBOUR: 'it returns false'. Refute it at one input. -/
def tongueHasWrong : ChangeSpec := { name := "tongueHas", fn := fun _ => fun
  | [d1, d2, d3, d4] => { results := [.lit (.bool false)], args := [d1, d2, d3, d4] }
  | _ => none }
def TongueHasWrongFalsely : Prop := tongueHasRow.holds Try.pinned (OpenSpec.ofChange tongueHasWrong)

/-- 'tokenhalllaw.TracksTell': WHATEVER THE INPUT: true; the input reads as it did. -/
def tracksTellSpec : ChangeSpec := { name := "tracksTell", fn := fun _ => fun
  | [d1, d2] => { results := [.lit (.bool true)], args := [d1, d2] }
  | _ => none }
def tracksTellRow : OpenClaim := { program := "ytenpmekibiflaaa", sum := "f852e39eca67c890dde6ce8739761fa8b0adb00942bcbedc74e93fe8b0153c82", func := "tokenhall/tokenhalllaw.TracksTell", spec := "tracksTell", unfollowed := true, recurses := true, plainKeys := false, apart := false }
def TracksTellSaid : Prop := tracksTellRow.holds Try.pinned (OpenSpec.ofChange tracksTellSpec)

/-- ITS FALSE NEIGHBOUR: 'it returns false'. Refute it at one input. -/
def tracksTellWrong : ChangeSpec := { name := "tracksTell", fn := fun _ => fun
  | [d1, d2] => { results := [.lit (.bool false)], args := [d1, d2] }
  | _ => none }
def TracksTellWrongFalsely : Prop := tracksTellRow.holds Try.pinned (OpenSpec.ofChange tracksTellWrong)

/-- 'tokenhalllaw.SiphonTells': WHATEVER THE INPUT: true; the input reads as it did. -/
def siphonTellsSpec : ChangeSpec := { name := "siphonTells", fn := fun _ => fun
  | [d1, d2] => { results := [.lit (.bool true)], args := [d1, d2] }
  | _ => none }
def siphonTellsRow : OpenClaim := { program := "ytenpmekibiflaaa", sum := "f852e39eca67c890dde6ce8739761fa8b0adb00942bcbedc74e93fe8b0153c82", func := "tokenhall/tokenhalllaw.SiphonTells", spec := "siphonTells", unfollowed := true, recurses := true, plainKeys := false, apart := false }
def SiphonTellsSaid : Prop := siphonTellsRow.holds Try.pinned (OpenSpec.ofChange siphonTellsSpec)

/-- ITS FALSE NEIGHBOUR: 'it returns false'. Refute it at one input. -/
def siphonTellsWrong : ChangeSpec := { name := "siphonTells", fn := fun _ => fun
  | [d1, d2] => { results := [.lit (.bool false)], args := [d1, d2] }
  | _ => none }
def SiphonTellsWrongFalsely : Prop := siphonTellsRow.holds Try.pinned (OpenSpec.ofChange siphonTellsWrong)

/-- 'tokenhalllaw.ChoiceTells': WHATEVER THE INPUT: true; the input reads as it did. -/
def choiceTellsSpec : ChangeSpec := { name := "choiceTells", fn := fun _ => fun
  | [d] => { results := [.lit (.bool true)], args := [d] }
  | _ => none }
def choiceTellsRow : OpenClaim := { program := "ytenpmekibiflaaa", sum := "f852e39eca67c890dde6ce8739761fa8b0adb00942bcbedc74e93fe8b0153c82", func := "tokenhall/tokenhalllaw.ChoiceTells", spec := "choiceTells", unfollowed := true, recurses := true, plainKeys := false, apart := false }
def ChoiceTellsSaid : Prop := choiceTellsRow.holds Try.pinned (OpenSpec.ofChange choiceTellsSpec)

/-- ITS FALSE NEIGHBOUR: 'it returns false'. Refute it at one input. -/
def choiceTellsWrong : ChangeSpec := { name := "choiceTells", fn := fun _ => fun
  | [d] => { results := [.lit (.bool false)], args := [d] }
  | _ => none }
def ChoiceTellsWrongFalsely : Prop := choiceTellsRow.holds Try.pinned (OpenSpec.ofChange choiceTellsWrong)

/- THE SECOND FORM. 'bulk': how many values and letters a reading holds, each counted each time it is reached (what is shared counts as often as it is met; a slice's spare places count too). A statement '..UptoSaid' is the law's where the arguments, and the package variables that the reading takes, are together of bulk at most 1048576: NARROWER than '..Said'. Prove '..Said' where nothing that the law and all that it calls make is longer than what came in: it says more and counts as full. Else prove '..UptoSaid'. A law counts once. -/
mutual
def uptoBulk {H : Type} : DataW H → Nat
  | .lit (.string bytes) => bytes.length + 1
  | .lit _ => 1
  | .nil => 1
  | .ptr d => uptoBulk d + 1
  | .slice elems spare => uptoBulkAll elems + uptoBulkAll spare + 1
  | .agg parts => uptoBulkAll parts + 1
  | .iface _ d => uptoBulk d + 1
  | .map entries => uptoBulkEntries entries + 1
  | .held _ => 1
def uptoBulkAll {H : Type} : List (DataW H) → Nat
  | [] => 0
  | d :: r => uptoBulk d + uptoBulkAll r
def uptoBulkEntries {H : Type} : List (Lit × DataW H) → Nat
  | [] => 0
  | x :: r => uptoBulkEntry x + uptoBulkEntries r
def uptoBulkEntry {H : Type} : Lit × DataW H → Nat
  | (.string bytes, d) => bytes.length + uptoBulk d + 1
  | (_, d) => uptoBulk d + 1
 end
def uptoSmall : (H : Type) → List (DataW H) → Bool := fun _ ds => decide (uptoBulkAll ds ≤ 1048576)
def OpenSpec.upto (s : _root_.Go.ChangeSpec) : _root_.Go.OpenSpec := { _root_.Go.OpenSpec.ofChange s with cond := some uptoSmall }

/-- 'tokenhalllaw.JournalTells', WHERE WHAT IT READS IS OF BULK AT MOST 1048576: true; the input reads as it did. -/
def journalTellsUptoRow : OpenClaim := { program := "ytenpmekibiflaaa", sum := "f852e39eca67c890dde6ce8739761fa8b0adb00942bcbedc74e93fe8b0153c82", func := "tokenhall/tokenhalllaw.JournalTells", spec := "journalTells", recurses := true, plainKeys := false, apart := false, narrowed := true }
def JournalTellsUptoSaid : Prop := journalTellsUptoRow.holds Try.pinned (OpenSpec.upto journalTellsSpec)

/-- 'tokenhalllaw.MarkTells', WHERE WHAT IT READS IS OF BULK AT MOST 1048576: true; the input reads as it did. -/
def markTellsUptoRow : OpenClaim := { program := "ytenpmekibiflaaa", sum := "f852e39eca67c890dde6ce8739761fa8b0adb00942bcbedc74e93fe8b0153c82", func := "tokenhall/tokenhalllaw.MarkTells", spec := "markTells", unfollowed := true, recurses := true, plainKeys := false, apart := false, narrowed := true }
def MarkTellsUptoSaid : Prop := markTellsUptoRow.holds Try.pinned (OpenSpec.upto markTellsSpec)

/-- 'tokenhalllaw.FlowTells', WHERE WHAT IT READS IS OF BULK AT MOST 1048576: true; the input reads as it did. -/
def flowTellsUptoRow : OpenClaim := { program := "ytenpmekibiflaaa", sum := "f852e39eca67c890dde6ce8739761fa8b0adb00942bcbedc74e93fe8b0153c82", func := "tokenhall/tokenhalllaw.FlowTells", spec := "flowTells", unfollowed := true, recurses := true, plainKeys := false, apart := false, narrowed := true }
def FlowTellsUptoSaid : Prop := flowTellsUptoRow.holds Try.pinned (OpenSpec.upto flowTellsSpec)

/-- 'tokenhalllaw.GrowTells', WHERE WHAT IT READS IS OF BULK AT MOST 1048576: true; the input reads as it did. -/
def growTellsUptoRow : OpenClaim := { program := "ytenpmekibiflaaa", sum := "f852e39eca67c890dde6ce8739761fa8b0adb00942bcbedc74e93fe8b0153c82", func := "tokenhall/tokenhalllaw.GrowTells", spec := "growTells", unfollowed := true, recurses := true, loops := true, plainKeys := false, apart := false, narrowed := true }
def GrowTellsUptoSaid : Prop := growTellsUptoRow.holds Try.pinned (OpenSpec.upto growTellsSpec)

/-- 'tokenhalllaw.NetFires', WHERE WHAT IT READS IS OF BULK AT MOST 1048576: true; the input reads as it did. -/
def netFiresUptoRow : OpenClaim := { program := "ytenpmekibiflaaa", sum := "f852e39eca67c890dde6ce8739761fa8b0adb00942bcbedc74e93fe8b0153c82", func := "tokenhall/tokenhalllaw.NetFires", spec := "netFires", unfollowed := true, recurses := true, plainKeys := false, apart := false, narrowed := true }
def NetFiresUptoSaid : Prop := netFiresUptoRow.holds Try.pinned (OpenSpec.upto netFiresSpec)

/-- 'tokenhalllaw.ShapeTells', WHERE WHAT IT READS IS OF BULK AT MOST 1048576: true; the input reads as it did. -/
def shapeTellsUptoRow : OpenClaim := { program := "ytenpmekibiflaaa", sum := "f852e39eca67c890dde6ce8739761fa8b0adb00942bcbedc74e93fe8b0153c82", func := "tokenhall/tokenhalllaw.ShapeTells", spec := "shapeTells", unfollowed := true, recurses := true, plainKeys := false, apart := false, narrowed := true }
def ShapeTellsUptoSaid : Prop := shapeTellsUptoRow.holds Try.pinned (OpenSpec.upto shapeTellsSpec)

/-- 'tokenhalllaw.LiveTells', WHERE WHAT IT READS IS OF BULK AT MOST 1048576: true; the input reads as it did. -/
def liveTellsUptoRow : OpenClaim := { program := "ytenpmekibiflaaa", sum := "f852e39eca67c890dde6ce8739761fa8b0adb00942bcbedc74e93fe8b0153c82", func := "tokenhall/tokenhalllaw.LiveTells", spec := "liveTells", unfollowed := true, recurses := true, plainKeys := false, apart := false, narrowed := true }
def LiveTellsUptoSaid : Prop := liveTellsUptoRow.holds Try.pinned (OpenSpec.upto liveTellsSpec)

/-- 'tokenhalllaw.NetRuns', WHERE WHAT IT READS IS OF BULK AT MOST 1048576: true; the input reads as it did. -/
def netRunsUptoRow : OpenClaim := { program := "ytenpmekibiflaaa", sum := "f852e39eca67c890dde6ce8739761fa8b0adb00942bcbedc74e93fe8b0153c82", func := "tokenhall/tokenhalllaw.NetRuns", spec := "netRuns", unfollowed := true, recurses := true, plainKeys := false, apart := false, narrowed := true }
def NetRunsUptoSaid : Prop := netRunsUptoRow.holds Try.pinned (OpenSpec.upto netRunsSpec)

/-- 'tokenhalltop.Names', WHERE WHAT IT READS IS OF BULK AT MOST 1048576: true; the input reads as it did. -/
def namesUptoRow : OpenClaim := { program := "ytenpmekibiflaaa", sum := "f852e39eca67c890dde6ce8739761fa8b0adb00942bcbedc74e93fe8b0153c82", func := "tokenhall/tokenhalltop.Names", spec := "names", plainKeys := false, apart := false, narrowed := true }
def NamesUptoSaid : Prop := namesUptoRow.holds Try.pinned (OpenSpec.upto namesSpec)

/-- 'tokenhalllaw.ReplayTells', WHERE WHAT IT READS IS OF BULK AT MOST 1048576: true; the input reads as it did. -/
def replayTellsUptoRow : OpenClaim := { program := "ytenpmekibiflaaa", sum := "f852e39eca67c890dde6ce8739761fa8b0adb00942bcbedc74e93fe8b0153c82", func := "tokenhall/tokenhalllaw.ReplayTells", spec := "replayTells", unfollowed := true, recurses := true, plainKeys := false, apart := false, narrowed := true }
def ReplayTellsUptoSaid : Prop := replayTellsUptoRow.holds Try.pinned (OpenSpec.upto replayTellsSpec)

/-- 'tokenhalllaw.CoverTells', WHERE WHAT IT READS IS OF BULK AT MOST 1048576: true; the input reads as it did. -/
def coverTellsUptoRow : OpenClaim := { program := "ytenpmekibiflaaa", sum := "f852e39eca67c890dde6ce8739761fa8b0adb00942bcbedc74e93fe8b0153c82", func := "tokenhall/tokenhalllaw.CoverTells", spec := "coverTells", unfollowed := true, recurses := true, plainKeys := false, apart := false, narrowed := true }
def CoverTellsUptoSaid : Prop := coverTellsUptoRow.holds Try.pinned (OpenSpec.upto coverTellsSpec)

/-- 'tokenhalllaw.CasesPlay', WHERE WHAT IT READS IS OF BULK AT MOST 1048576: true; the input reads as it did. -/
def casesPlayUptoRow : OpenClaim := { program := "ytenpmekibiflaaa", sum := "f852e39eca67c890dde6ce8739761fa8b0adb00942bcbedc74e93fe8b0153c82", func := "tokenhall/tokenhalllaw.CasesPlay", spec := "casesPlay", unfollowed := true, recurses := true, plainKeys := false, apart := false, narrowed := true }
def CasesPlayUptoSaid : Prop := casesPlayUptoRow.holds Try.pinned (OpenSpec.upto casesPlaySpec)

/-- 'tokenhalllaw.CasesDo', WHERE WHAT IT READS IS OF BULK AT MOST 1048576: true; the input reads as it did. -/
def casesDoUptoRow : OpenClaim := { program := "ytenpmekibiflaaa", sum := "f852e39eca67c890dde6ce8739761fa8b0adb00942bcbedc74e93fe8b0153c82", func := "tokenhall/tokenhalllaw.CasesDo", spec := "casesDo", unfollowed := true, recurses := true, plainKeys := false, apart := false, narrowed := true }
def CasesDoUptoSaid : Prop := casesDoUptoRow.holds Try.pinned (OpenSpec.upto casesDoSpec)

/-- 'tokenhalllaw.ReduceTells', WHERE WHAT IT READS IS OF BULK AT MOST 1048576: true; the input reads as it did. -/
def reduceTellsUptoRow : OpenClaim := { program := "ytenpmekibiflaaa", sum := "f852e39eca67c890dde6ce8739761fa8b0adb00942bcbedc74e93fe8b0153c82", func := "tokenhall/tokenhalllaw.ReduceTells", spec := "reduceTells", unfollowed := true, recurses := true, plainKeys := false, apart := false, narrowed := true }
def ReduceTellsUptoSaid : Prop := reduceTellsUptoRow.holds Try.pinned (OpenSpec.upto reduceTellsSpec)

/-- 'tokenhalllaw.ReachTells', WHERE WHAT IT READS IS OF BULK AT MOST 1048576: true; the input reads as it did. -/
def reachTellsUptoRow : OpenClaim := { program := "ytenpmekibiflaaa", sum := "f852e39eca67c890dde6ce8739761fa8b0adb00942bcbedc74e93fe8b0153c82", func := "tokenhall/tokenhalllaw.ReachTells", spec := "reachTells", unfollowed := true, recurses := true, plainKeys := false, apart := false, narrowed := true }
def ReachTellsUptoSaid : Prop := reachTellsUptoRow.holds Try.pinned (OpenSpec.upto reachTellsSpec)

/-- 'tokenhalllaw.BenchReads', WHERE WHAT IT READS IS OF BULK AT MOST 1048576: true; the input reads as it did. -/
def benchReadsUptoRow : OpenClaim := { program := "ytenpmekibiflaaa", sum := "f852e39eca67c890dde6ce8739761fa8b0adb00942bcbedc74e93fe8b0153c82", func := "tokenhall/tokenhalllaw.BenchReads", spec := "benchReads", inPlace := ["internal/abi.NoEscape", "internal/bytealg.MakeNoZero", "internal/bytealg.IndexByteString", "internal/bytealg.IndexString"], unfollowed := true, recurses := true, named := ["internal/bytealg.MaxLen"], loops := true, plainKeys := false, apart := false, narrowed := true }
def BenchReadsUptoSaid : Prop := benchReadsUptoRow.holds Try.pinned (OpenSpec.upto benchReadsSpec)

/-- 'tokenhalllaw.DeskPlays', WHERE WHAT IT READS IS OF BULK AT MOST 1048576: true; the input reads as it did. -/
def deskPlaysUptoRow : OpenClaim := { program := "ytenpmekibiflaaa", sum := "f852e39eca67c890dde6ce8739761fa8b0adb00942bcbedc74e93fe8b0153c82", func := "tokenhall/tokenhalllaw.DeskPlays", spec := "deskPlays", unfollowed := true, recurses := true, plainKeys := false, apart := false, narrowed := true }
def DeskPlaysUptoSaid : Prop := deskPlaysUptoRow.holds Try.pinned (OpenSpec.upto deskPlaysSpec)

/-- 'tokenhalllaw.SoundJudges', WHERE WHAT IT READS IS OF BULK AT MOST 1048576: true; the input reads as it did. -/
def soundJudgesUptoRow : OpenClaim := { program := "ytenpmekibiflaaa", sum := "f852e39eca67c890dde6ce8739761fa8b0adb00942bcbedc74e93fe8b0153c82", func := "tokenhall/tokenhalllaw.SoundJudges", spec := "soundJudges", unfollowed := true, recurses := true, plainKeys := false, apart := false, narrowed := true }
def SoundJudgesUptoSaid : Prop := soundJudgesUptoRow.holds Try.pinned (OpenSpec.upto soundJudgesSpec)

/-- 'tokenhalllaw.AlignCosts', WHERE WHAT IT READS IS OF BULK AT MOST 1048576: true; the input reads as it did. -/
def alignCostsUptoRow : OpenClaim := { program := "ytenpmekibiflaaa", sum := "f852e39eca67c890dde6ce8739761fa8b0adb00942bcbedc74e93fe8b0153c82", func := "tokenhall/tokenhalllaw.AlignCosts", spec := "alignCosts", unfollowed := true, recurses := true, plainKeys := false, apart := false, narrowed := true }
def AlignCostsUptoSaid : Prop := alignCostsUptoRow.holds Try.pinned (OpenSpec.upto alignCostsSpec)

/-- 'tokenhalllaw.HallPlays', WHERE WHAT IT READS IS OF BULK AT MOST 1048576: true; the input reads as it did. -/
def hallPlaysUptoRow : OpenClaim := { program := "ytenpmekibiflaaa", sum := "f852e39eca67c890dde6ce8739761fa8b0adb00942bcbedc74e93fe8b0153c82", func := "tokenhall/tokenhalllaw.HallPlays", spec := "hallPlays", unfollowed := true, recurses := true, plainKeys := false, apart := false, narrowed := true }
def HallPlaysUptoSaid : Prop := hallPlaysUptoRow.holds Try.pinned (OpenSpec.upto hallPlaysSpec)

/-- 'tokenhalllaw.TongueHas', WHERE WHAT IT READS IS OF BULK AT MOST 1048576: true; the input reads as it did. -/
def tongueHasUptoRow : OpenClaim := { program := "ytenpmekibiflaaa", sum := "f852e39eca67c890dde6ce8739761fa8b0adb00942bcbedc74e93fe8b0153c82", func := "tokenhall/tokenhalllaw.TongueHas", spec := "tongueHas", unfollowed := true, recurses := true, plainKeys := false, apart := false, narrowed := true }
def TongueHasUptoSaid : Prop := tongueHasUptoRow.holds Try.pinned (OpenSpec.upto tongueHasSpec)

/-- 'tokenhalllaw.TracksTell', WHERE WHAT IT READS IS OF BULK AT MOST 1048576: true; the input reads as it did. -/
def tracksTellUptoRow : OpenClaim := { program := "ytenpmekibiflaaa", sum := "f852e39eca67c890dde6ce8739761fa8b0adb00942bcbedc74e93fe8b0153c82", func := "tokenhall/tokenhalllaw.TracksTell", spec := "tracksTell", unfollowed := true, recurses := true, plainKeys := false, apart := false, narrowed := true }
def TracksTellUptoSaid : Prop := tracksTellUptoRow.holds Try.pinned (OpenSpec.upto tracksTellSpec)

/-- 'tokenhalllaw.SiphonTells', WHERE WHAT IT READS IS OF BULK AT MOST 1048576: true; the input reads as it did. -/
def siphonTellsUptoRow : OpenClaim := { program := "ytenpmekibiflaaa", sum := "f852e39eca67c890dde6ce8739761fa8b0adb00942bcbedc74e93fe8b0153c82", func := "tokenhall/tokenhalllaw.SiphonTells", spec := "siphonTells", unfollowed := true, recurses := true, plainKeys := false, apart := false, narrowed := true }
def SiphonTellsUptoSaid : Prop := siphonTellsUptoRow.holds Try.pinned (OpenSpec.upto siphonTellsSpec)

/-- 'tokenhalllaw.ChoiceTells', WHERE WHAT IT READS IS OF BULK AT MOST 1048576: true; the input reads as it did. -/
def choiceTellsUptoRow : OpenClaim := { program := "ytenpmekibiflaaa", sum := "f852e39eca67c890dde6ce8739761fa8b0adb00942bcbedc74e93fe8b0153c82", func := "tokenhall/tokenhalllaw.ChoiceTells", spec := "choiceTells", unfollowed := true, recurses := true, plainKeys := false, apart := false, narrowed := true }
def ChoiceTellsUptoSaid : Prop := choiceTellsUptoRow.holds Try.pinned (OpenSpec.upto choiceTellsSpec)

end Rows
end Go.Proofs.Ytenpmekibiflaaa
