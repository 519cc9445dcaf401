/- The contract of strings.Fields at every string, laid at this program. Conditions: as it says. -/
import Derived.Shelf.Strings.FieldsAny
import Derived.Test.YtcgdjpelcfofgaaDoorProg
namespace Go.Proofs.YtcgdjpelcfofgaaDoor
open Go.Shelf
def lays157_ren : Go.Shelf.Ren := ⟨fun | 157 => 58 | 229 => 70 | 199 => 71 | 261 => 84 | 311 => 89 | 312 => 90 | n => n, fun | 9 => 9 | 31 => 47 | 3 => 3 | 5 => 5 | 4 => 4 | 119 => 109 | 0 => 0 | 40 => 111 | 152 => 122 | 21 => 21 | 154 => 124 | 51 => 115 | 141 => 126 | 196 => 136 | 193 => 133 | 198 => 139 | 49 => 137 | 194 => 134 | 201 => 142 | 226 => 146 | 46 => 104 | 227 => 147 | n => n, fun | 0 => 2 | 6 => 5 | n => n⟩
theorem lays157 : Go.Proofs.Lays.n157 Tryd.prog lays157_ren := {
  mixed := by kernel_rfl
  f157 := Tryd.func58.trans (congrArg some (by kernel_rfl))
  f199 := Tryd.func71.trans (congrArg some (by kernel_rfl))
  f229 := Tryd.func70.trans (congrArg some (by kernel_rfl))
  f261 := Tryd.func84.trans (congrArg some (by kernel_rfl))
  f311 := Tryd.func89.trans (congrArg some (by kernel_rfl))
  f312 := Tryd.func90.trans (congrArg some (by kernel_rfl))
  t0 := Tryd.underlying0
  a0 := Tryd.isAgg0
  z0 := Tryd.sizeOf0
  v0 := Tryd.zeroValue0
  t3 := Tryd.underlying3
  a3 := Tryd.isAgg3
  z3 := Tryd.sizeOf3
  v3 := Tryd.zeroValue3
  t4 := Tryd.underlying4
  a4 := Tryd.isAgg4
  z4 := Tryd.sizeOf4
  v4 := Tryd.zeroValue4
  t5 := Tryd.underlying5
  a5 := Tryd.isAgg5
  z5 := Tryd.sizeOf5
  v5 := Tryd.zeroValue5
  t9 := Tryd.underlying9
  a9 := Tryd.isAgg9
  z9 := Tryd.sizeOf9
  v9 := Tryd.zeroValue9
  t21 := Tryd.underlying21
  a21 := Tryd.isAgg21
  z21 := Tryd.sizeOf21
  v21 := Tryd.zeroValue21
  t31 := Tryd.underlying47
  a31 := Tryd.isAgg47
  z31 := Tryd.sizeOf47
  v31 := Tryd.zeroValue47
  t40 := Tryd.underlying111
  a40 := Tryd.isAgg111
  z40 := Tryd.sizeOf111
  v40 := Tryd.zeroValue111
  t46 := Tryd.underlying104
  a46 := Tryd.isAgg104
  z46 := Tryd.sizeOf104
  v46 := Tryd.zeroValue104
  t49 := Tryd.underlying137
  a49 := Tryd.isAgg137
  z49 := Tryd.sizeOf137
  v49 := Tryd.zeroValue137
  t51 := Tryd.underlying115
  a51 := Tryd.isAgg115
  z51 := Tryd.sizeOf115
  v51 := Tryd.zeroValue115
  t119 := Tryd.underlying109
  a119 := Tryd.isAgg109
  z119 := Tryd.sizeOf109
  t141 := Tryd.underlying126
  a141 := Tryd.isAgg126
  z141 := Tryd.sizeOf126
  v141 := Tryd.zeroValue126
  t152 := Tryd.underlying122
  a152 := Tryd.isAgg122
  z152 := Tryd.sizeOf122
  v152 := Tryd.zeroValue122
  t154 := Tryd.underlying124
  a154 := Tryd.isAgg124
  z154 := Tryd.sizeOf124
  v154 := Tryd.zeroValue124
  t193 := Tryd.underlying133
  a193 := Tryd.isAgg133
  z193 := Tryd.sizeOf133
  v193 := Tryd.zeroValue133
  t194 := Tryd.underlying134
  a194 := Tryd.isAgg134
  z194 := Tryd.sizeOf134
  v194 := Tryd.zeroValue134
  t196 := Tryd.underlying136
  a196 := Tryd.isAgg136
  z196 := Tryd.sizeOf136
  v196 := Tryd.zeroValue136
  t198 := Tryd.underlying139
  a198 := Tryd.isAgg139
  z198 := Tryd.sizeOf139
  v198 := Tryd.zeroValue139
  t201 := Tryd.underlying142
  a201 := Tryd.isAgg142
  z201 := Tryd.sizeOf142
  v201 := Tryd.zeroValue142
  t226 := Tryd.underlying146
  a226 := Tryd.isAgg146
  z226 := Tryd.sizeOf146
  v226 := Tryd.zeroValue146
  t227 := Tryd.underlying147
  a227 := Tryd.isAgg147
  z227 := Tryd.sizeOf147
  v227 := Tryd.zeroValue147
  g0 := by kernel_rfl
  g6 := by kernel_rfl }
open Go.RowKit Go.Lib in
theorem strings_Fields_beyond (s : ByteArray) (w : World) (hs : s.size < 4294967281) (hhigh : ∃ (j : Nat) (b : UInt8), s.data.toList[j]? = some b ∧ 128 ≤ b.toNat) (hT : ∀ c : Nat, c < 256 → w.cell? ⟨2, c, none⟩ = some (.int .u8 (if Lib.isSp (UInt8.ofNat c) then 1 else 0))) (hW : Lib.WhiteTab 5 w) :
    Calls Tryd.prog 58 #[.string s] w fun e w' => ∃ A, e = .returned (.slice (some ⟨A, 0, none⟩) (Lib.goFieldsP Lib.isSpaceR s).length (Lib.goFieldsP Lib.isSpaceR s).length) ∧ w.heap.size ≤ A ∧
      w'.ownsRow w.heap.size 9 1 (.slice (some ⟨A, 0, none⟩) (Lib.goFieldsP Lib.isSpaceR s).length (Lib.goFieldsP Lib.isSpaceR s).length) (Lib.goFieldsP Lib.isSpaceR s).length ((Lib.goFieldsP Lib.isSpaceR s).map Value.string) ∧ Below w.heap.size w w' := Any.strings_Fields_beyond lays157 (by kernel_rfl) (by kernel_rfl) s w hs hhigh hT hW
open Go.RowKit Go.Lib in
theorem strings_Fields_any (s : ByteArray) (w : World) (hs : s.size < 4294967281) (htab : Lib.TabIs Tryd.prog w "strings.asciiSpace" .u8 Lib.asciiSpaceTab) (hW : Lib.WhiteTab 5 w) :
    Calls Tryd.prog 58 #[.string s] w fun e w' => ∃ A, e = .returned (.slice (some ⟨A, 0, none⟩) (Lib.fieldsD s.data.toList).length (Lib.fieldsD s.data.toList).length) ∧ w.heap.size ≤ A ∧
      w'.ownsRow w.heap.size 9 1 (.slice (some ⟨A, 0, none⟩) (Lib.fieldsD s.data.toList).length (Lib.fieldsD s.data.toList).length) (Lib.fieldsD s.data.toList).length ((Lib.fieldsD s.data.toList).map fun x => Value.string ⟨x.toArray⟩) ∧ Below w.heap.size w w' := Any.strings_Fields_any lays157 (by kernel_rfl) (by kernel_rfl) (by kernel_rfl) s w hs htab hW
end Go.Proofs.YtcgdjpelcfofgaaDoor
