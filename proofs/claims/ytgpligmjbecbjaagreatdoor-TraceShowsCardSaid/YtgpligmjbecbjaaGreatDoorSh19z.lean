/- strings.Repeat, Join, Trim and slices.Clone, by the shelf's contracts. -/

import Derived.Test.YtgpligmjbecbjaaGreatDoorProg
import Derived.Shelf.Strings.Repeat
import Derived.Ground.NamesProg
import Derived.Lib.Agree
import Derived.Test.YtgpligmjbecbjaaGreatDoorAmShelf
import Derived.Test.YtgpligmjbecbjaaGreatDoorAmJoin
import Derived.Test.YtgpligmjbecbjaaGreatDoorAmClone
import Derived.Shelf.Strings.OnBuilder
import Derived.Shelf.Strings.SlTrimAscii
set_option linter.unusedVariables false
namespace Go.Proofs.YtgpligmjbecbjaaGreatDoor
open Go Go.AM Go.Shelf Go.RowKit
def laysRepeat_ren : Go.Shelf.Ren := ⟨fun | 105 => 85 | 212 => 120 | 99 => 121 | 165 => 122 | 166 => 99 | 170 => 105 | 169 => 94 | 263 => 142 | 264 => 143 | 206 => 144 | 240 => 126 | 241 => 145 | 276 => 149 | 277 => 161 | n => n, fun | 9 => 9 | 3 => 3 | 4 => 4 | 20 => 20 | 0 => 0 | 46 => 172 | 109 => 173 | 5 => 5 | 72 => 144 | 76 => 153 | 51 => 197 | 146 => 198 | 53 => 74 | 148 => 200 | 70 => 142 | 37 => 75 | 75 => 148 | 127 => 184 | 164 => 205 | 80 => 150 | n => n, fun | n => n⟩
theorem laysRepeat : Go.Proofs.Lays.n105 Tryz.prog laysRepeat_ren := {
 mixed := by kernel_rfl
 f99 := Tryz.func121.trans (congrArg some (by kernel_rfl))
 f105 := Tryz.func85.trans (congrArg some (by kernel_rfl))
 f165 := Tryz.func122.trans (congrArg some (by kernel_rfl))
 f166 := Tryz.func99.trans (congrArg some (by kernel_rfl))
 f169 := Tryz.func94.trans (congrArg some (by kernel_rfl))
 f170 := Tryz.func105.trans (congrArg some (by kernel_rfl))
 f206 := Tryz.func144.trans (congrArg some (by kernel_rfl))
 f212 := Tryz.func120.trans (congrArg some (by kernel_rfl))
 f240 := Tryz.func126.trans (congrArg some (by kernel_rfl))
 f241 := Tryz.func145.trans (congrArg some (by kernel_rfl))
 f263 := Tryz.func142.trans (congrArg some (by kernel_rfl))
 f264 := Tryz.func143.trans (congrArg some (by kernel_rfl))
 f276 := Tryz.func149.trans (congrArg some (by kernel_rfl))
 f277 := Tryz.func161.trans (congrArg some (by kernel_rfl))
 t0 := Tryz.underlying0
 a0 := Tryz.isAgg0
 z0 := Tryz.sizeOf0
 v0 := Tryz.zeroValue0
 t3 := Tryz.underlying3
 a3 := Tryz.isAgg3
 z3 := Tryz.sizeOf3
 v3 := Tryz.zeroValue3
 t4 := Tryz.underlying4
 a4 := Tryz.isAgg4
 z4 := Tryz.sizeOf4
 v4 := Tryz.zeroValue4
 t5 := Tryz.underlying5
 a5 := Tryz.isAgg5
 z5 := Tryz.sizeOf5
 v5 := Tryz.zeroValue5
 t9 := Tryz.underlying9
 a9 := Tryz.isAgg9
 z9 := Tryz.sizeOf9
 v9 := Tryz.zeroValue9
 t20 := Tryz.underlying20
 a20 := Tryz.isAgg20
 z20 := Tryz.sizeOf20
 v20 := Tryz.zeroValue20
 t37 := Tryz.underlying75
 a37 := Tryz.isAgg75
 z37 := Tryz.sizeOf75
 v37 := Tryz.zeroValue75
 t46 := Tryz.underlying172
 a46 := Tryz.isAgg172
 z46 := Tryz.sizeOf172
 v46 := Tryz.zeroValue172
 t51 := Tryz.underlying197
 a51 := Tryz.isAgg197
 z51 := Tryz.sizeOf197
 v51 := Tryz.zeroValue197
 t53 := Tryz.underlying74
 a53 := Tryz.isAgg74
 z53 := Tryz.sizeOf74
 v53 := Tryz.zeroValue74
 t70 := Tryz.underlying142
 a70 := Tryz.isAgg142
 z70 := Tryz.sizeOf142
 v70 := Tryz.zeroValue142
 t72 := Tryz.underlying144
 a72 := Tryz.isAgg144
 z72 := Tryz.sizeOf144
 v72 := Tryz.zeroValue144
 t75 := Tryz.underlying148
 a75 := Tryz.isAgg148
 z75 := Tryz.sizeOf148
 v75 := Tryz.zeroValue148
 t76 := Tryz.underlying153
 a76 := Tryz.isAgg153
 z76 := Tryz.sizeOf153
 v76 := Tryz.zeroValue153
 t109 := Tryz.underlying173
 a109 := Tryz.isAgg173
 z109 := Tryz.sizeOf173
 v109 := Tryz.zeroValue173
 t127 := Tryz.underlying184
 a127 := Tryz.isAgg184
 z127 := Tryz.sizeOf184
 v127 := Tryz.zeroValue184
 t146 := Tryz.underlying198
 a146 := Tryz.isAgg198
 z146 := Tryz.sizeOf198
 v146 := Tryz.zeroValue198
 t148 := Tryz.underlying200
 a148 := Tryz.isAgg200
 z148 := Tryz.sizeOf200
 v148 := Tryz.zeroValue200
 t164 := Tryz.underlying205
 a164 := Tryz.isAgg205
 z164 := Tryz.sizeOf205
 v164 := Tryz.zeroValue205 }
def laysJoin_ren : Go.Shelf.Ren := ⟨fun | 156 => 100 | 165 => 122 | 166 => 99 | 169 => 94 | 240 => 126 | 241 => 145 | 276 => 149 | 277 => 161 | n => n, fun | 31 => 32 | 9 => 9 | 3 => 3 | 4 => 4 | 0 => 0 | 20 => 20 | 72 => 144 | 76 => 153 | 70 => 142 | 37 => 75 | 75 => 148 | 127 => 184 | 164 => 205 | 5 => 5 | 80 => 150 | n => n, fun | n => n⟩
def laysTrim_ren : Go.Shelf.Ren := ⟨fun | 160 => 72 | 232 => 113 | 231 => 112 | 227 => 114 | 234 => 116 | 233 => 115 | 236 => 118 | 235 => 117 | 228 => 139 | 271 => 141 | 151 => 129 | 197 => 140 | 120 => 160 | 152 => 151 | 260 => 159 | 137 => 132 | 119 => 164 | 224 => 165 | 225 => 166 | 217 => 154 | 266 => 167 | n => n, fun | 9 => 9 | 4 => 4 | 3 => 3 | 5 => 5 | 117 => 168 | 116 => 167 | 0 => 0 | 124 => 171 | 21 => 21 | 105 => 195 | 46 => 172 | 119 => 226 | 139 => 229 | 138 => 228 | n => n, fun | 3 => 2 | 4 => 3 | n => n⟩
theorem laysTrim : Go.Proofs.Lays.n160 Tryz.prog laysTrim_ren := {
 mixed := by kernel_rfl
 f119 := Tryz.func164.trans (congrArg some (by kernel_rfl))
 f120 := Tryz.func160.trans (congrArg some (by kernel_rfl))
 f137 := Tryz.func132.trans (congrArg some (by kernel_rfl))
 f151 := Tryz.func129.trans (congrArg some (by kernel_rfl))
 f152 := Tryz.func151.trans (congrArg some (by kernel_rfl))
 f160 := Tryz.func72.trans (congrArg some (by kernel_rfl))
 f197 := Tryz.func140.trans (congrArg some (by kernel_rfl))
 f217 := Tryz.func154.trans (congrArg some (by kernel_rfl))
 f224 := Tryz.func165.trans (congrArg some (by kernel_rfl))
 f225 := Tryz.func166.trans (congrArg some (by kernel_rfl))
 f227 := Tryz.func114.trans (congrArg some (by kernel_rfl))
 f228 := Tryz.func139.trans (congrArg some (by kernel_rfl))
 f231 := Tryz.func112.trans (congrArg some (by kernel_rfl))
 f232 := Tryz.func113.trans (congrArg some (by kernel_rfl))
 f233 := Tryz.func115.trans (congrArg some (by kernel_rfl))
 f234 := Tryz.func116.trans (congrArg some (by kernel_rfl))
 f235 := Tryz.func117.trans (congrArg some (by kernel_rfl))
 f236 := Tryz.func118.trans (congrArg some (by kernel_rfl))
 f260 := Tryz.func159.trans (congrArg some (by kernel_rfl))
 f266 := Tryz.func167.trans (congrArg some (by kernel_rfl))
 f271 := Tryz.func141.trans (congrArg some (by kernel_rfl))
 t0 := Tryz.underlying0
 a0 := Tryz.isAgg0
 z0 := Tryz.sizeOf0
 v0 := Tryz.zeroValue0
 t3 := Tryz.underlying3
 a3 := Tryz.isAgg3
 z3 := Tryz.sizeOf3
 v3 := Tryz.zeroValue3
 t4 := Tryz.underlying4
 a4 := Tryz.isAgg4
 z4 := Tryz.sizeOf4
 v4 := Tryz.zeroValue4
 t5 := Tryz.underlying5
 a5 := Tryz.isAgg5
 z5 := Tryz.sizeOf5
 v5 := Tryz.zeroValue5
 t9 := Tryz.underlying9
 a9 := Tryz.isAgg9
 z9 := Tryz.sizeOf9
 v9 := Tryz.zeroValue9
 t21 := Tryz.underlying21
 a21 := Tryz.isAgg21
 z21 := Tryz.sizeOf21
 v21 := Tryz.zeroValue21
 t46 := Tryz.underlying172
 a46 := Tryz.isAgg172
 z46 := Tryz.sizeOf172
 v46 := Tryz.zeroValue172
 t105 := Tryz.underlying195
 a105 := Tryz.isAgg195
 z105 := Tryz.sizeOf195
 v105 := Tryz.zeroValue195
 t116 := Tryz.underlying167
 a116 := Tryz.isAgg167
 z116 := Tryz.sizeOf167
 t117 := Tryz.underlying168
 a117 := Tryz.isAgg168
 z117 := Tryz.sizeOf168
 v117 := Tryz.zeroValue168
 t119 := Tryz.underlying226
 a119 := Tryz.isAgg226
 z119 := Tryz.sizeOf226
 t124 := Tryz.underlying171
 a124 := Tryz.isAgg171
 z124 := Tryz.sizeOf171
 v124 := Tryz.zeroValue171
 t138 := Tryz.underlying228
 a138 := Tryz.isAgg228
 z138 := Tryz.sizeOf228
 v138 := Tryz.zeroValue228
 t139 := Tryz.underlying229
 a139 := Tryz.isAgg229
 z139 := Tryz.sizeOf229
 v139 := Tryz.zeroValue229
 g3 := by kernel_rfl
 g4 := by kernel_rfl }
def laysClone_ren : Go.Shelf.Ren := ⟨fun | 16 => 38 | n => n, fun | 24 => 32 | 9 => 9 | 4 => 4 | n => n, fun | n => n⟩
theorem laysClone : Go.Proofs.Lays2.n16 Tryz.prog laysClone_ren := {
 mixed := by kernel_rfl
 f16 := Tryz.func38.trans (congrArg some (by kernel_rfl))
 t4 := Tryz.underlying4
 a4 := Tryz.isAgg4
 z4 := Tryz.sizeOf4
 v4 := Tryz.zeroValue4
 t9 := Tryz.underlying9
 a9 := Tryz.isAgg9
 z9 := Tryz.sizeOf9
 v9 := Tryz.zeroValue9
 t24 := Tryz.underlying32
 a24 := Tryz.isAgg32
 z24 := Tryz.sizeOf32
 v24 := Tryz.zeroValue32
 i9 := by kernel_rfl }
theorem extraB : Builder.Extra Tryz.prog laysRepeat_ren := {
 sizeBuilder := by kernel_rfl
 liesBuilder := by kernel_rfl
 t5 := laysRepeat.t5
 a5 := laysRepeat.a5
 z5 := laysRepeat.z5
 v5 := laysRepeat.v5
 infoByte := by kernel_rfl
 cellsByte := by kernel_rfl
 sizeByte := by kernel_rfl
 neB5 := by decide }
theorem fRepeat : laysRepeat_ren.f 105 = 85 := by kernel_rfl
theorem fTrim : laysTrim_ren.f 160 = 72 := by kernel_rfl
theorem fClone : laysClone_ren.f 16 = 38 := by kernel_rfl
def smRep (args : List Value) : Option Value :=
 match args with
 | [.string s, .int .i64 (.ofNat c)] => if s.data.toList.length * c ≤ 100000 ∧ c ≤ 100000 then some (.string ⟨(Lib.repeatL s.data.toList c).toArray⟩) else none
 | _ => none
theorem smRep_ok [EqV] {us : List Value} {v : Value} (h : smRep us = some v) : Gives Tryz.prog 85 us v := by
 unfold smRep at h
 split at h
 ·rename_i s c
  split at h
  ·rename_i hc
   cases h; refine call_shelf Tryz.func85 (by kernel_rfl) rfl rfl fun m H w hR hG => ?_
   have hs : s.size = s.data.toList.length := rfl; have e := Any.strings_Repeat laysRepeat extraB s c w (by omega) (by rw [hs]; omega); rw [fRepeat] at e; exact e.mono fun e w' ⟨he, hw⟩ => ⟨he, hw.size, hw.block, hw.os, hw.tape, hw.output⟩
  ·cases h
 ·cases h
def smTrim (args : List Value) : Option Value :=
 match args with
 | [.string s, .string c] => if c.data.toList = [48, 49, 120, 122] ∧ s.data.toList.length ≤ 1000 then some (.string ⟨(Lib.trimS s.data.toList c.data.toList).toArray⟩) else none
 | _ => none
theorem smTrim_ok [EqV] {us : List Value} {v : Value} (h : smTrim us = some v) : Gives Tryz.prog 72 us v := by
 unfold smTrim at h
 split at h
 ·rename_i s c
  split at h
  ·rename_i hc
   cases h; refine call_shelf Tryz.func72 (by kernel_rfl) rfl rfl fun m H w hR hG => ?_
   have hs : s.size = s.data.toList.length := rfl; have e := Any.strings_Trim_laid laysTrim (by kernel_rfl) s c w (by rw [hs]; omega) (by have : c.size = c.data.toList.length := rfl; rw [this, hc.1]; decide) fun j b hj => by
    rw [hc.1] at hj; have : b ∈ [(48 : UInt8), 49, 120, 122] := List.mem_of_getElem? hj; have all : ∀ b ∈ [(48 : UInt8), 49, 120, 122], b.toNat < 128 := by decide
    exact all b this
   rw [fTrim] at e; exact e.mono fun e w' ⟨he, hw⟩ => ⟨he, hw.size, hw.block, hw.os, hw.tape, hw.output⟩
  ·cases h
 ·cases h
end Go.Proofs.YtgpligmjbecbjaaGreatDoor
