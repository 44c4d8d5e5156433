/- The library's contracts at this program, laid by the kit's tools. -/
import Derived.Shelf.Strings.Builder1
import Derived.Shelf.Strings.Builder2
import Derived.Shelf.Strings.OnBuilder
import Derived.Test.YtaogaddgfllkpaaProg
namespace Go.Proofs
open Go.Shelf
def Try.lays156_ren : Go.Shelf.Ren := ⟨fun | 156 => 215 | 165 => 236 | 166 => 237 | 169 => 238 | 240 => 248 | 241 => 249 | 276 => 253 | 277 => 254 | n => n, fun | 31 => 237 | 9 => 9 | 3 => 3 | 4 => 4 | 0 => 0 | 20 => 20 | 72 => 253 | 76 => 257 | 70 => 251 | 37 => 196 | 75 => 256 | 127 => 267 | 164 => 271 | 5 => 5 | 80 => 259 | n => n, fun | n => n⟩
theorem Try.lays156 : Go.Proofs.Lays.n156 Try.prog Try.lays156_ren := {
  mixed := by kernel_rfl
  f156 := Try.func215.trans (congrArg some (by kernel_rfl))
  f165 := Try.func236.trans (congrArg some (by kernel_rfl))
  f166 := Try.func237.trans (congrArg some (by kernel_rfl))
  f169 := Try.func238.trans (congrArg some (by kernel_rfl))
  f240 := Try.func248.trans (congrArg some (by kernel_rfl))
  f241 := Try.func249.trans (congrArg some (by kernel_rfl))
  f276 := Try.func253.trans (congrArg some (by kernel_rfl))
  f277 := Try.func254.trans (congrArg some (by kernel_rfl))
  t0 := Try.underlying0
  a0 := Try.isAgg0
  z0 := Try.sizeOf0
  v0 := Try.zeroValue0
  t3 := Try.underlying3
  a3 := Try.isAgg3
  z3 := Try.sizeOf3
  v3 := Try.zeroValue3
  t4 := Try.underlying4
  a4 := Try.isAgg4
  z4 := Try.sizeOf4
  v4 := Try.zeroValue4
  t9 := Try.underlying9
  a9 := Try.isAgg9
  z9 := Try.sizeOf9
  v9 := Try.zeroValue9
  t20 := Try.underlying20
  a20 := Try.isAgg20
  z20 := Try.sizeOf20
  v20 := Try.zeroValue20
  t31 := Try.underlying237
  a31 := Try.isAgg237
  z31 := Try.sizeOf237
  v31 := Try.zeroValue237
  t37 := Try.underlying196
  a37 := Try.isAgg196
  z37 := Try.sizeOf196
  v37 := Try.zeroValue196
  t70 := Try.underlying251
  a70 := Try.isAgg251
  z70 := Try.sizeOf251
  v70 := Try.zeroValue251
  t72 := Try.underlying253
  a72 := Try.isAgg253
  z72 := Try.sizeOf253
  v72 := Try.zeroValue253
  t75 := Try.underlying256
  a75 := Try.isAgg256
  z75 := Try.sizeOf256
  v75 := Try.zeroValue256
  t76 := Try.underlying257
  a76 := Try.isAgg257
  z76 := Try.sizeOf257
  v76 := Try.zeroValue257
  t127 := Try.underlying267
  a127 := Try.isAgg267
  z127 := Try.sizeOf267
  v127 := Try.zeroValue267
  t164 := Try.underlying271
  a164 := Try.isAgg271
  z164 := Try.sizeOf271
  v164 := Try.zeroValue271 }
theorem Try.Builder_Extra_156 : Builder.Extra Try.prog Try.lays156_ren := {
  sizeBuilder := by kernel_rfl
  liesBuilder := by kernel_rfl
  t5 := Try.underlying5
  a5 := Try.isAgg5
  z5 := Try.sizeOf5
  v5 := Try.zeroValue5
  infoByte := by kernel_rfl
  cellsByte := by kernel_rfl
  sizeByte := by kernel_rfl
  neB5 := by decide }
open Go.RowKit in
theorem Try.strings_Join_none (a : Option Addr) (c : Nat) (sep : ByteArray) (w : World) :
    Calls Try.prog 215 #[.slice a 0 c, .string sep] w fun e w' => e = .returned (.string ⟨#[]⟩) ∧ w' = w := Any.strings_Join_none Try.lays156 Try.Builder_Extra_156 a c sep w
open Go.RowKit in
theorem Try.strings_Join (bk o c : Nat) (xs : List ByteArray) (sep : ByteArray) (w : World) (hcells : ∀ (j : Nat) x, xs[j]? = some x → w.cell? ⟨bk, o + j, none⟩ = some (.string x)) (hbk : bk < w.heap.size) (hN : xs.length ≤ 140737488355328) (hcap : xs.length ≤ c) (hlen : (Lib.join (xs.map (·.data.toList)) sep.data.toList).length ≤ 140737488355328) :
    Calls Try.prog 215 #[.slice (some ⟨bk, o, none⟩) xs.length c, .string sep] w fun e w' => e = .returned (.string ⟨(Lib.join (xs.map (·.data.toList)) sep.data.toList).toArray⟩) ∧ Below w.heap.size w w' := Any.strings_Join Try.lays156 Try.Builder_Extra_156 bk o c xs sep w hcells hbk hN hcap hlen
end Go.Proofs
