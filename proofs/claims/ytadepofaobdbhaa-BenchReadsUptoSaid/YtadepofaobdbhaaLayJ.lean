/- The contract of strings.Join, laid at this program. Conditions: the cells hold the strings, the lengths stay below what memory bears. -/
import Derived.Shelf.Strings.OnBuilder
import Derived.Test.YtadepofaobdbhaaProg
namespace Go.Proofs.Ytadepofaobdbhaa
open Go.Shelf
def lays156_ren : Go.Shelf.Ren := ⟨fun | 156 => 124 | 165 => 152 | 166 => 153 | 169 => 154 | 240 => 186 | 241 => 187 | 276 => 223 | 277 => 224 | n => n, fun | 31 => 157 | 9 => 9 | 3 => 3 | 4 => 4 | 0 => 0 | 20 => 20 | 72 => 190 | 76 => 193 | 70 => 188 | 37 => 82 | 75 => 192 | 127 => 222 | 164 => 245 | 5 => 5 | 80 => 195 | n => n, fun | n => n⟩
theorem lays156 : Go.Proofs.Lays.n156 Try.prog lays156_ren := {
  mixed := by kernel_rfl
  f156 := Try.func124.trans (congrArg some (by kernel_rfl))
  f165 := Try.func152.trans (congrArg some (by kernel_rfl))
  f166 := Try.func153.trans (congrArg some (by kernel_rfl))
  f169 := Try.func154.trans (congrArg some (by kernel_rfl))
  f240 := Try.func186.trans (congrArg some (by kernel_rfl))
  f241 := Try.func187.trans (congrArg some (by kernel_rfl))
  f276 := Try.func223.trans (congrArg some (by kernel_rfl))
  f277 := Try.func224.trans (congrArg some (by kernel_rfl))
  t0 := Try.underlying0
  a0 := Try.isAgg0
  z0 := Try.sizeOf0
  v0 := Try.zeroValue0
  t3 := Try.underlying3
  a3 := Try.isAgg3
  z3 := Try.sizeOf3
  v3 := Try.zeroValue3
  t4 := Try.underlying4
  a4 := Try.isAgg4
  z4 := Try.sizeOf4
  v4 := Try.zeroValue4
  t9 := Try.underlying9
  a9 := Try.isAgg9
  z9 := Try.sizeOf9
  v9 := Try.zeroValue9
  t20 := Try.underlying20
  a20 := Try.isAgg20
  z20 := Try.sizeOf20
  v20 := Try.zeroValue20
  t31 := Try.underlying157
  a31 := Try.isAgg157
  z31 := Try.sizeOf157
  v31 := Try.zeroValue157
  t37 := Try.underlying82
  a37 := Try.isAgg82
  z37 := Try.sizeOf82
  v37 := Try.zeroValue82
  t70 := Try.underlying188
  a70 := Try.isAgg188
  z70 := Try.sizeOf188
  v70 := Try.zeroValue188
  t72 := Try.underlying190
  a72 := Try.isAgg190
  z72 := Try.sizeOf190
  v72 := Try.zeroValue190
  t75 := Try.underlying192
  a75 := Try.isAgg192
  z75 := Try.sizeOf192
  v75 := Try.zeroValue192
  t76 := Try.underlying193
  a76 := Try.isAgg193
  z76 := Try.sizeOf193
  v76 := Try.zeroValue193
  t127 := Try.underlying222
  a127 := Try.isAgg222
  z127 := Try.sizeOf222
  v127 := Try.zeroValue222
  t164 := Try.underlying245
  a164 := Try.isAgg245
  z164 := Try.sizeOf245
  v164 := Try.zeroValue245 }
theorem Builder_Extra_156 : Builder.Extra Try.prog lays156_ren := {
  sizeBuilder := by kernel_rfl
  liesBuilder := by kernel_rfl
  t5 := Try.underlying5
  a5 := Try.isAgg5
  z5 := Try.sizeOf5
  v5 := Try.zeroValue5
  infoByte := by kernel_rfl
  cellsByte := by kernel_rfl
  sizeByte := by kernel_rfl
  neB5 := by decide }
open Go.RowKit in
theorem strings_Join_none (a : Option Addr) (c : Nat) (sep : ByteArray) (w : World) :
    Calls Try.prog 124 #[.slice a 0 c, .string sep] w fun e w' => e = .returned (.string ⟨#[]⟩) ∧ w' = w := Any.strings_Join_none lays156 Builder_Extra_156 a c sep w
open Go.RowKit in
theorem strings_Join (bk o c : Nat) (xs : List ByteArray) (sep : ByteArray) (w : World) (hcells : ∀ (j : Nat) x, xs[j]? = some x → w.cell? ⟨bk, o + j, none⟩ = some (.string x)) (hbk : bk < w.heap.size) (hN : xs.length ≤ 140737488355328) (hcap : xs.length ≤ c) (hlen : (Lib.join (xs.map (·.data.toList)) sep.data.toList).length ≤ 140737488355328) :
    Calls Try.prog 124 #[.slice (some ⟨bk, o, none⟩) xs.length c, .string sep] w fun e w' => e = .returned (.string ⟨(Lib.join (xs.map (·.data.toList)) sep.data.toList).toArray⟩) ∧ Below w.heap.size w w' := Any.strings_Join lays156 Builder_Extra_156 bk o c xs sep w hcells hbk hN hcap hlen
end Go.Proofs.Ytadepofaobdbhaa
