/-
  No cell of these rows narrows 'for every input' (looked for: loops, veiled, ifaces, maps, wideKeys, modest, calm, conditions, laid).
  DERIVED. THE GIVEN ROWS OF THIS SEAT. 4 by the template 'for every input the law returns true; each argument reads behind the call as it read before'; 0 by the template 'total and deterministic' (their statements: YtldljjmibaaokaaTotals.lean).
  GIVEN WITH THE SEED: the statements are not yours to turn. If you find one false, say at which input.
  Laid BY PROGRAM, IN A SANDBOX (cutbox-rows.mjs): the forced cells as the released guide's own fill.sh prints them over the translation 832d97a0fba454ff… (all of the seat's roots in one cut). By AI agents, Wed Nov 11 2026. No macro, syntax, notation, axiom, sorry.
-/
import Derived.Test.YtldljjmibaaokaaChecked
import GoSem.Claim
import GoSem.ClaimJoined
import GoSem.ClaimMapViews
import Derived.JoinedTies
import Derived.KernelRfl
namespace Go.Proofs.Ytldljjmibaaokaa
/- THE CELL 'sum', in the pinned program and in every row, IS THE sha256 OF THE DUMP (.gsa) THAT YtldljjmibaaokaaProg.lean LOADS. Nothing in Lean hashes anything: it is a label: what it is worth is what the hold of that sum in a sandbox is worth. -/
noncomputable def Try.pinned : Pinned := { name := "ytldljjmibaaokaa", sum := "832d97a0fba454ff9adf3f508500e2f84117467e9bfd9e76077a0d8f116306ab", checked := Try.checked }
namespace Rows
def none {H : Type} : Left H := { results := [], args := [] }

/-- 'tokenhalllaw.AlignCosts': WHATEVER THE INPUT: true; the input reads as it did. -/
def alignCostsSpec : ChangeSpec := { name := "alignCosts", fn := fun _ => fun
  | [d1, d2, d3, d4] => { results := [.lit (.bool true)], args := [d1, d2, d3, d4] }
  | _ => none }
def alignCostsRow : OpenClaim := { program := "ytldljjmibaaokaa", sum := "832d97a0fba454ff9adf3f508500e2f84117467e9bfd9e76077a0d8f116306ab", func := "tokenhall/tokenhalllaw.AlignCosts", spec := "alignCosts", unfollowed := true, recurses := true, plainKeys := false, apart := false }
def AlignCostsSaid : Prop := alignCostsRow.holds Try.pinned (OpenSpec.ofChange alignCostsSpec)

/-- ITS FALSE NEIGHBOUR: 'it returns false'. Refute it at one input. -/
def alignCostsWrong : ChangeSpec := { name := "alignCosts", fn := fun _ => fun
  | [d1, d2, d3, d4] => { results := [.lit (.bool false)], args := [d1, d2, d3, d4] }
  | _ => none }
def AlignCostsWrongFalsely : Prop := alignCostsRow.holds Try.pinned (OpenSpec.ofChange alignCostsWrong)

/-- 'tokenhalllaw.TracksTell': WHATEVER THE INPUT: true; the input reads as it did. -/
def tracksTellSpec : ChangeSpec := { name := "tracksTell", fn := fun _ => fun
  | [d1, d2] => { results := [.lit (.bool true)], args := [d1, d2] }
  | _ => none }
def tracksTellRow : OpenClaim := { program := "ytldljjmibaaokaa", sum := "832d97a0fba454ff9adf3f508500e2f84117467e9bfd9e76077a0d8f116306ab", func := "tokenhall/tokenhalllaw.TracksTell", spec := "tracksTell", unfollowed := true, recurses := true, plainKeys := false, apart := false }
def TracksTellSaid : Prop := tracksTellRow.holds Try.pinned (OpenSpec.ofChange tracksTellSpec)

/-- ITS FALSE NEIGHBOUR: 'it returns false'. Refute it at one input. -/
def tracksTellWrong : ChangeSpec := { name := "tracksTell", fn := fun _ => fun
  | [d1, d2] => { results := [.lit (.bool false)], args := [d1, d2] }
  | _ => none }
def TracksTellWrongFalsely : Prop := tracksTellRow.holds Try.pinned (OpenSpec.ofChange tracksTellWrong)

/-- 'tokenhalllaw.SiphonTells': WHATEVER THE INPUT: true; the input reads as it did. -/
def siphonTellsSpec : ChangeSpec := { name := "siphonTells", fn := fun _ => fun
  | [d1, d2] => { results := [.lit (.bool true)], args := [d1, d2] }
  | _ => none }
def siphonTellsRow : OpenClaim := { program := "ytldljjmibaaokaa", sum := "832d97a0fba454ff9adf3f508500e2f84117467e9bfd9e76077a0d8f116306ab", func := "tokenhall/tokenhalllaw.SiphonTells", spec := "siphonTells", unfollowed := true, recurses := true, plainKeys := false, apart := false }
def SiphonTellsSaid : Prop := siphonTellsRow.holds Try.pinned (OpenSpec.ofChange siphonTellsSpec)

/-- ITS FALSE NEIGHBOUR: 'it returns false'. Refute it at one input. -/
def siphonTellsWrong : ChangeSpec := { name := "siphonTells", fn := fun _ => fun
  | [d1, d2] => { results := [.lit (.bool false)], args := [d1, d2] }
  | _ => none }
def SiphonTellsWrongFalsely : Prop := siphonTellsRow.holds Try.pinned (OpenSpec.ofChange siphonTellsWrong)

/-- 'tokenhalllaw.ChoiceTells': WHATEVER THE INPUT: true; the input reads as it did. -/
def choiceTellsSpec : ChangeSpec := { name := "choiceTells", fn := fun _ => fun
  | [d] => { results := [.lit (.bool true)], args := [d] }
  | _ => none }
def choiceTellsRow : OpenClaim := { program := "ytldljjmibaaokaa", sum := "832d97a0fba454ff9adf3f508500e2f84117467e9bfd9e76077a0d8f116306ab", func := "tokenhall/tokenhalllaw.ChoiceTells", spec := "choiceTells", unfollowed := true, recurses := true, plainKeys := false, apart := false }
def ChoiceTellsSaid : Prop := choiceTellsRow.holds Try.pinned (OpenSpec.ofChange choiceTellsSpec)

/-- ITS FALSE NEIGHBOUR: 'it returns false'. Refute it at one input. -/
def choiceTellsWrong : ChangeSpec := { name := "choiceTells", fn := fun _ => fun
  | [d] => { results := [.lit (.bool false)], args := [d] }
  | _ => none }
def ChoiceTellsWrongFalsely : Prop := choiceTellsRow.holds Try.pinned (OpenSpec.ofChange choiceTellsWrong)

/- THE SECOND FORM. 'bulk': how many values and letters a reading holds, each counted each time it is reached (what is shared counts as often as it is met; a slice's spare places count too). A statement '..UptoSaid' is the law's where the arguments, and the package variables that the reading takes, are together of bulk at most 1048576: NARROWER than '..Said'. Prove '..Said' where nothing that the law and all that it calls make is longer than what came in: it says more and counts as full. Else prove '..UptoSaid'. A law counts once. -/
mutual
def uptoBulk {H : Type} : DataW H → Nat
  | .lit (.string bytes) => bytes.length + 1
  | .lit _ => 1
  | .nil => 1
  | .ptr d => uptoBulk d + 1
  | .slice elems spare => uptoBulkAll elems + uptoBulkAll spare + 1
  | .agg parts => uptoBulkAll parts + 1
  | .iface _ d => uptoBulk d + 1
  | .map entries => uptoBulkEntries entries + 1
  | .held _ => 1
def uptoBulkAll {H : Type} : List (DataW H) → Nat
  | [] => 0
  | d :: r => uptoBulk d + uptoBulkAll r
def uptoBulkEntries {H : Type} : List (Lit × DataW H) → Nat
  | [] => 0
  | x :: r => uptoBulkEntry x + uptoBulkEntries r
def uptoBulkEntry {H : Type} : Lit × DataW H → Nat
  | (.string bytes, d) => bytes.length + uptoBulk d + 1
  | (_, d) => uptoBulk d + 1
 end
def uptoSmall : (H : Type) → List (DataW H) → Bool := fun _ ds => decide (uptoBulkAll ds ≤ 1048576)
def OpenSpec.upto (s : _root_.Go.ChangeSpec) : _root_.Go.OpenSpec := { _root_.Go.OpenSpec.ofChange s with cond := some uptoSmall }

/-- 'tokenhalllaw.AlignCosts', WHERE WHAT IT READS IS OF BULK AT MOST 1048576: true; the input reads as it did. -/
def alignCostsUptoRow : OpenClaim := { program := "ytldljjmibaaokaa", sum := "832d97a0fba454ff9adf3f508500e2f84117467e9bfd9e76077a0d8f116306ab", func := "tokenhall/tokenhalllaw.AlignCosts", spec := "alignCosts", unfollowed := true, recurses := true, plainKeys := false, apart := false, narrowed := true }
def AlignCostsUptoSaid : Prop := alignCostsUptoRow.holds Try.pinned (OpenSpec.upto alignCostsSpec)

/-- 'tokenhalllaw.TracksTell', WHERE WHAT IT READS IS OF BULK AT MOST 1048576: true; the input reads as it did. -/
def tracksTellUptoRow : OpenClaim := { program := "ytldljjmibaaokaa", sum := "832d97a0fba454ff9adf3f508500e2f84117467e9bfd9e76077a0d8f116306ab", func := "tokenhall/tokenhalllaw.TracksTell", spec := "tracksTell", unfollowed := true, recurses := true, plainKeys := false, apart := false, narrowed := true }
def TracksTellUptoSaid : Prop := tracksTellUptoRow.holds Try.pinned (OpenSpec.upto tracksTellSpec)

/-- 'tokenhalllaw.SiphonTells', WHERE WHAT IT READS IS OF BULK AT MOST 1048576: true; the input reads as it did. -/
def siphonTellsUptoRow : OpenClaim := { program := "ytldljjmibaaokaa", sum := "832d97a0fba454ff9adf3f508500e2f84117467e9bfd9e76077a0d8f116306ab", func := "tokenhall/tokenhalllaw.SiphonTells", spec := "siphonTells", unfollowed := true, recurses := true, plainKeys := false, apart := false, narrowed := true }
def SiphonTellsUptoSaid : Prop := siphonTellsUptoRow.holds Try.pinned (OpenSpec.upto siphonTellsSpec)

/-- 'tokenhalllaw.ChoiceTells', WHERE WHAT IT READS IS OF BULK AT MOST 1048576: true; the input reads as it did. -/
def choiceTellsUptoRow : OpenClaim := { program := "ytldljjmibaaokaa", sum := "832d97a0fba454ff9adf3f508500e2f84117467e9bfd9e76077a0d8f116306ab", func := "tokenhall/tokenhalllaw.ChoiceTells", spec := "choiceTells", unfollowed := true, recurses := true, plainKeys := false, apart := false, narrowed := true }
def ChoiceTellsUptoSaid : Prop := choiceTellsUptoRow.holds Try.pinned (OpenSpec.upto choiceTellsSpec)

end Rows
end Go.Proofs.Ytldljjmibaaokaa
