/- Parts of the proof: Shelf. -/
import Derived.Shelf.Strings.Builder1
import Derived.Shelf.Strings.Builder2
import Derived.Shelf.Strings.OnBuilder
import Derived.Shelf.Strconv.Itoa0
import Derived.Shelf.Strconv.Itoa1
import Derived.Shelf.LaysM
import Derived.Shelf.Strconv.Itoa2
import Derived.Shelf.Strconv.Itoa3
import Derived.Test.YtoehhbkhdddeeaaDoorProg
namespace Go.Proofs
open Go.Shelf
def Tryd.lays156_ren : Go.Shelf.Ren := ⟨fun | 156 => 89 | 165 => 114 | 166 => 115 | 169 => 116 | 240 => 127 | 241 => 128 | 276 => 134 | 277 => 135 | n => n, fun | 31 => 109 | 9 => 9 | 3 => 3 | 4 => 4 | 0 => 0 | 20 => 20 | 72 => 138 | 76 => 142 | 70 => 136 | 37 => 22 | 75 => 141 | 127 => 149 | 164 => 156 | 5 => 5 | 80 => 144 | n => n, fun | n => n⟩
theorem Tryd.lays156 : Go.Proofs.Lays.n156 Tryd.prog Tryd.lays156_ren := {
 mixed := by kernel_rfl
 f156 := Tryd.func89.trans (congrArg some (by kernel_rfl))
 f165 := Tryd.func114.trans (congrArg some (by kernel_rfl))
 f166 := Tryd.func115.trans (congrArg some (by kernel_rfl))
 f169 := Tryd.func116.trans (congrArg some (by kernel_rfl))
 f240 := Tryd.func127.trans (congrArg some (by kernel_rfl))
 f241 := Tryd.func128.trans (congrArg some (by kernel_rfl))
 f276 := Tryd.func134.trans (congrArg some (by kernel_rfl))
 f277 := Tryd.func135.trans (congrArg some (by kernel_rfl))
 t0 := Tryd.underlying0
 a0 := Tryd.isAgg0
 z0 := Tryd.sizeOf0
 v0 := Tryd.zeroValue0
 t3 := Tryd.underlying3
 a3 := Tryd.isAgg3
 z3 := Tryd.sizeOf3
 v3 := Tryd.zeroValue3
 t4 := Tryd.underlying4
 a4 := Tryd.isAgg4
 z4 := Tryd.sizeOf4
 v4 := Tryd.zeroValue4
 t9 := Tryd.underlying9
 a9 := Tryd.isAgg9
 z9 := Tryd.sizeOf9
 v9 := Tryd.zeroValue9
 t20 := Tryd.underlying20
 a20 := Tryd.isAgg20
 z20 := Tryd.sizeOf20
 v20 := Tryd.zeroValue20
 t31 := Tryd.underlying109
 a31 := Tryd.isAgg109
 z31 := Tryd.sizeOf109
 v31 := Tryd.zeroValue109
 t37 := Tryd.underlying22
 a37 := Tryd.isAgg22
 z37 := Tryd.sizeOf22
 v37 := Tryd.zeroValue22
 t70 := Tryd.underlying136
 a70 := Tryd.isAgg136
 z70 := Tryd.sizeOf136
 v70 := Tryd.zeroValue136
 t72 := Tryd.underlying138
 a72 := Tryd.isAgg138
 z72 := Tryd.sizeOf138
 v72 := Tryd.zeroValue138
 t75 := Tryd.underlying141
 a75 := Tryd.isAgg141
 z75 := Tryd.sizeOf141
 v75 := Tryd.zeroValue141
 t76 := Tryd.underlying142
 a76 := Tryd.isAgg142
 z76 := Tryd.sizeOf142
 v76 := Tryd.zeroValue142
 t127 := Tryd.underlying149
 a127 := Tryd.isAgg149
 z127 := Tryd.sizeOf149
 v127 := Tryd.zeroValue149
 t164 := Tryd.underlying156
 a164 := Tryd.isAgg156
 z164 := Tryd.sizeOf156
 v164 := Tryd.zeroValue156 }
theorem Tryd.Builder_Extra_156 : Builder.Extra Tryd.prog Tryd.lays156_ren := {
 sizeBuilder := by kernel_rfl
 liesBuilder := by kernel_rfl
 t5 := Tryd.underlying5
 a5 := Tryd.isAgg5
 z5 := Tryd.sizeOf5
 v5 := Tryd.zeroValue5
 infoByte := by kernel_rfl
 cellsByte := by kernel_rfl
 sizeByte := by kernel_rfl
 neB5 := by decide }
open Go.RowKit in
theorem Tryd.strings_Join (bk o c : Nat) (xs : List ByteArray) (sep : ByteArray) (w : World) (hcells : ∀ (j : Nat) x, xs[j]? = some x → w.cell? ⟨bk, o + j, none⟩ = some (.string x)) (hbk : bk < w.heap.size) (hN : xs.length ≤ 140737488355328) (hcap : xs.length ≤ c) (hlen : (Lib.join (xs.map (·.data.toList)) sep.data.toList).length ≤ 140737488355328) :
  Calls Tryd.prog 89 #[.slice (some ⟨bk, o, none⟩) xs.length c, .string sep] w fun e w' => e = .returned (.string ⟨(Lib.join (xs.map (·.data.toList)) sep.data.toList).toArray⟩) ∧ Below w.heap.size w w' := Any.strings_Join Tryd.lays156 Tryd.Builder_Extra_156 bk o c xs sep w hcells hbk hN hcap hlen
def Tryd.laysM171_ren : Go.Shelf.Ren := ⟨fun | 171 => 65 | 243 => 95 | 246 => 120 | 283 => 129 | 284 => 130 | 285 => 131 | 286 => 132 | 129 => 137 | 317 => 136 | 318 => 138 | 319 => 139 | 320 => 140 | 337 => 141 | 338 => 142 | n => n, fun | 3 => 3 | 9 => 9 | 2 => 2 | 4 => 4 | 171 => 150 | 0 => 0 | 53 => 151 | 37 => 22 | 5 => 5 | 173 => 154 | 212 => 160 | 51 => 161 | 20 => 20 | 213 => 162 | 46 => 163 | 232 => 166 | 233 => 167 | n => n, fun | 17 => 0 | 18 => 2 | 19 => 3 | n => n⟩
theorem Tryd.laysM171 : Go.Proofs.LaysM.n171 Tryd.prog Tryd.laysM171_ren := {
 mixed := by kernel_rfl
 f129 := Tryd.func137.trans (congrArg some (by kernel_rfl))
 f171 := Tryd.func65.trans (congrArg some (by kernel_rfl))
 f243 := Tryd.func95.trans (congrArg some (by kernel_rfl))
 f246 := Tryd.func120.trans (congrArg some (by kernel_rfl))
 f283 := Tryd.func129.trans (congrArg some (by kernel_rfl))
 f284 := Tryd.func130.trans (congrArg some (by kernel_rfl))
 f285 := Tryd.func131.trans (congrArg some (by kernel_rfl))
 f286 := Tryd.func132.trans (congrArg some (by kernel_rfl))
 f317 := Tryd.func136.trans (congrArg some (by kernel_rfl))
 f318 := Tryd.func138.trans (congrArg some (by kernel_rfl))
 f319 := Tryd.func139.trans (congrArg some (by kernel_rfl))
 f320 := Tryd.func140.trans (congrArg some (by kernel_rfl))
 f337 := Tryd.func141.trans (congrArg some (by kernel_rfl))
 f338 := Tryd.func142.trans (congrArg some (by kernel_rfl))
 t0 := Tryd.underlying0
 a0 := Tryd.isAgg0
 z0 := Tryd.sizeOf0
 v0 := Tryd.zeroValue0
 t2 := Tryd.underlying2
 a2 := Tryd.isAgg2
 z2 := Tryd.sizeOf2
 v2 := Tryd.zeroValue2
 t3 := Tryd.underlying3
 a3 := Tryd.isAgg3
 z3 := Tryd.sizeOf3
 v3 := Tryd.zeroValue3
 t4 := Tryd.underlying4
 a4 := Tryd.isAgg4
 z4 := Tryd.sizeOf4
 v4 := Tryd.zeroValue4
 t5 := Tryd.underlying5
 a5 := Tryd.isAgg5
 z5 := Tryd.sizeOf5
 v5 := Tryd.zeroValue5
 t9 := Tryd.underlying9
 a9 := Tryd.isAgg9
 z9 := Tryd.sizeOf9
 v9 := Tryd.zeroValue9
 t20 := Tryd.underlying20
 a20 := Tryd.isAgg20
 z20 := Tryd.sizeOf20
 v20 := Tryd.zeroValue20
 t37 := Tryd.underlying22
 a37 := Tryd.isAgg22
 z37 := Tryd.sizeOf22
 v37 := Tryd.zeroValue22
 t46 := Tryd.underlying163
 a46 := Tryd.isAgg163
 z46 := Tryd.sizeOf163
 v46 := Tryd.zeroValue163
 t51 := Tryd.underlying161
 a51 := Tryd.isAgg161
 z51 := Tryd.sizeOf161
 v51 := Tryd.zeroValue161
 t53 := Tryd.underlying151
 a53 := Tryd.isAgg151
 z53 := Tryd.sizeOf151
 v53 := Tryd.zeroValue151
 t171 := Tryd.underlying150
 a171 := Tryd.isAgg150
 z171 := Tryd.sizeOf150
 v171 := Tryd.zeroValue150
 t173 := Tryd.underlying154
 a173 := Tryd.isAgg154
 z173 := Tryd.sizeOf154
 v173 := Tryd.zeroValue154
 t212 := Tryd.underlying160
 a212 := Tryd.isAgg160
 z212 := Tryd.sizeOf160
 v212 := Tryd.zeroValue160
 t213 := Tryd.underlying162
 a213 := Tryd.isAgg162
 z213 := Tryd.sizeOf162
 t232 := Tryd.underlying166
 a232 := Tryd.isAgg166
 z232 := Tryd.sizeOf166
 v232 := Tryd.zeroValue166
 t233 := Tryd.underlying167
 a233 := Tryd.isAgg167
 z233 := Tryd.sizeOf167
 v233 := Tryd.zeroValue167
 g17 := by kernel_rfl
 g18 := by kernel_rfl
 g19 := by kernel_rfl
 i0 := by kernel_rfl
 i2 := by kernel_rfl
 i3 := by kernel_rfl
 i4 := by kernel_rfl
 i5 := by kernel_rfl
 i9 := by kernel_rfl
 i20 := by kernel_rfl
 i37 := by kernel_rfl
 i46 := by kernel_rfl
 i51 := by kernel_rfl
 i53 := by kernel_rfl
 i171 := by kernel_rfl
 i173 := by kernel_rfl
 i212 := by kernel_rfl
 i232 := by kernel_rfl
 i233 := by kernel_rfl
 m17 := by kernel_rfl
 m18 := by kernel_rfl
 m19 := by kernel_rfl }
open Go.RowKit Go.Sort Go.Lib in
theorem Tryd.strconv_Itoa (n : Int) (h0 : -9223372036854775808 ≤ n) (h1 : n ≤ 9223372036854775807) (w : World) (htab : Lib.TabIs Tryd.prog w "internal/strconv.uint64pow10" .u64 Lib.pow10Tab) :
  Calls Tryd.prog 65 #[.int .i64 n] w fun e w' => e = .returned (.string ⟨(Lib.itoa n).toArray⟩) ∧ ∃ k os, w' = grow (w.drewN k) os := Any.strconv_Itoa Tryd.laysM171 n h0 h1 w htab
end Go.Proofs
