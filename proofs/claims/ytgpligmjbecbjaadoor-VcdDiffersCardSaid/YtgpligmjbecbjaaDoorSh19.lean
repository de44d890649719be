/- strings.Repeat, Join, Trim and slices.Clone, by the shelf's contracts. -/

import Derived.Test.YtgpligmjbecbjaaDoorProg
import Derived.Shelf.Strings.Repeat
import Derived.Ground.NamesProg
import Derived.Lib.Agree
import Derived.Test.YtgpligmjbecbjaaDoorAmShelf
import Derived.Test.YtgpligmjbecbjaaDoorAmJoin
import Derived.Test.YtgpligmjbecbjaaDoorAmClone
import Derived.Shelf.Strings.OnBuilder
import Derived.Shelf.Strings.SlTrimAscii
namespace Go.Proofs.YtgpligmjbecbjaaDoor
open Go Go.AM Go.Shelf Go.RowKit
def laysRepeat_ren : Go.Shelf.Ren := ⟨fun | 105 => 59 | 212 => 73 | 99 => 74 | 165 => 70 | 166 => 47 | 170 => 54 | 169 => 55 | 263 => 86 | 264 => 87 | 206 => 88 | 240 => 69 | 241 => 81 | 276 => 80 | 277 => 94 | n => n, fun | 9 => 9 | 3 => 3 | 4 => 4 | 20 => 20 | 0 => 0 | 46 => 103 | 109 => 104 | 5 => 5 | 72 => 77 | 76 => 80 | 51 => 117 | 146 => 118 | 53 => 112 | 148 => 120 | 70 => 74 | 37 => 75 | 75 => 79 | 127 => 102 | 164 => 109 | 80 => 89 | n => n, fun | n => n⟩
theorem laysRepeat : Go.Proofs.Lays.n105 Tryd.prog laysRepeat_ren := {
 mixed := by kernel_rfl
 f99 := Tryd.func74.trans (congrArg some (by kernel_rfl))
 f105 := Tryd.func59.trans (congrArg some (by kernel_rfl))
 f165 := Tryd.func70.trans (congrArg some (by kernel_rfl))
 f166 := Tryd.func47.trans (congrArg some (by kernel_rfl))
 f169 := Tryd.func55.trans (congrArg some (by kernel_rfl))
 f170 := Tryd.func54.trans (congrArg some (by kernel_rfl))
 f206 := Tryd.func88.trans (congrArg some (by kernel_rfl))
 f212 := Tryd.func73.trans (congrArg some (by kernel_rfl))
 f240 := Tryd.func69.trans (congrArg some (by kernel_rfl))
 f241 := Tryd.func81.trans (congrArg some (by kernel_rfl))
 f263 := Tryd.func86.trans (congrArg some (by kernel_rfl))
 f264 := Tryd.func87.trans (congrArg some (by kernel_rfl))
 f276 := Tryd.func80.trans (congrArg some (by kernel_rfl))
 f277 := Tryd.func94.trans (congrArg some (by kernel_rfl))
 t0 := Tryd.underlying0
 a0 := Tryd.isAgg0
 z0 := Tryd.sizeOf0
 v0 := Tryd.zeroValue0
 t3 := Tryd.underlying3
 a3 := Tryd.isAgg3
 z3 := Tryd.sizeOf3
 v3 := Tryd.zeroValue3
 t4 := Tryd.underlying4
 a4 := Tryd.isAgg4
 z4 := Tryd.sizeOf4
 v4 := Tryd.zeroValue4
 t5 := Tryd.underlying5
 a5 := Tryd.isAgg5
 z5 := Tryd.sizeOf5
 v5 := Tryd.zeroValue5
 t9 := Tryd.underlying9
 a9 := Tryd.isAgg9
 z9 := Tryd.sizeOf9
 v9 := Tryd.zeroValue9
 t20 := Tryd.underlying20
 a20 := Tryd.isAgg20
 z20 := Tryd.sizeOf20
 v20 := Tryd.zeroValue20
 t37 := Tryd.underlying75
 a37 := Tryd.isAgg75
 z37 := Tryd.sizeOf75
 v37 := Tryd.zeroValue75
 t46 := Tryd.underlying103
 a46 := Tryd.isAgg103
 z46 := Tryd.sizeOf103
 v46 := Tryd.zeroValue103
 t51 := Tryd.underlying117
 a51 := Tryd.isAgg117
 z51 := Tryd.sizeOf117
 v51 := Tryd.zeroValue117
 t53 := Tryd.underlying112
 a53 := Tryd.isAgg112
 z53 := Tryd.sizeOf112
 v53 := Tryd.zeroValue112
 t70 := Tryd.underlying74
 a70 := Tryd.isAgg74
 z70 := Tryd.sizeOf74
 v70 := Tryd.zeroValue74
 t72 := Tryd.underlying77
 a72 := Tryd.isAgg77
 z72 := Tryd.sizeOf77
 v72 := Tryd.zeroValue77
 t75 := Tryd.underlying79
 a75 := Tryd.isAgg79
 z75 := Tryd.sizeOf79
 v75 := Tryd.zeroValue79
 t76 := Tryd.underlying80
 a76 := Tryd.isAgg80
 z76 := Tryd.sizeOf80
 v76 := Tryd.zeroValue80
 t109 := Tryd.underlying104
 a109 := Tryd.isAgg104
 z109 := Tryd.sizeOf104
 v109 := Tryd.zeroValue104
 t127 := Tryd.underlying102
 a127 := Tryd.isAgg102
 z127 := Tryd.sizeOf102
 v127 := Tryd.zeroValue102
 t146 := Tryd.underlying118
 a146 := Tryd.isAgg118
 z146 := Tryd.sizeOf118
 v146 := Tryd.zeroValue118
 t148 := Tryd.underlying120
 a148 := Tryd.isAgg120
 z148 := Tryd.sizeOf120
 v148 := Tryd.zeroValue120
 t164 := Tryd.underlying109
 a164 := Tryd.isAgg109
 z164 := Tryd.sizeOf109
 v164 := Tryd.zeroValue109 }
def laysJoin_ren : Go.Shelf.Ren := ⟨fun | 156 => 48 | 165 => 70 | 166 => 47 | 169 => 55 | 240 => 69 | 241 => 81 | 276 => 80 | 277 => 94 | n => n, fun | 31 => 43 | 9 => 9 | 3 => 3 | 4 => 4 | 0 => 0 | 20 => 20 | 72 => 77 | 76 => 80 | 70 => 74 | 37 => 75 | 75 => 79 | 127 => 102 | 164 => 109 | 5 => 5 | 80 => 89 | n => n, fun | n => n⟩
theorem laysJoin : Go.Proofs.Lays.n156 Tryd.prog laysJoin_ren := {
 mixed := by kernel_rfl
 f156 := Tryd.func48.trans (congrArg some (by kernel_rfl))
 f165 := Tryd.func70.trans (congrArg some (by kernel_rfl))
 f166 := Tryd.func47.trans (congrArg some (by kernel_rfl))
 f169 := Tryd.func55.trans (congrArg some (by kernel_rfl))
 f240 := Tryd.func69.trans (congrArg some (by kernel_rfl))
 f241 := Tryd.func81.trans (congrArg some (by kernel_rfl))
 f276 := Tryd.func80.trans (congrArg some (by kernel_rfl))
 f277 := Tryd.func94.trans (congrArg some (by kernel_rfl))
 t0 := Tryd.underlying0
 a0 := Tryd.isAgg0
 z0 := Tryd.sizeOf0
 v0 := Tryd.zeroValue0
 t3 := Tryd.underlying3
 a3 := Tryd.isAgg3
 z3 := Tryd.sizeOf3
 v3 := Tryd.zeroValue3
 t4 := Tryd.underlying4
 a4 := Tryd.isAgg4
 z4 := Tryd.sizeOf4
 v4 := Tryd.zeroValue4
 t9 := Tryd.underlying9
 a9 := Tryd.isAgg9
 z9 := Tryd.sizeOf9
 v9 := Tryd.zeroValue9
 t20 := Tryd.underlying20
 a20 := Tryd.isAgg20
 z20 := Tryd.sizeOf20
 v20 := Tryd.zeroValue20
 t31 := Tryd.underlying43
 a31 := Tryd.isAgg43
 z31 := Tryd.sizeOf43
 v31 := Tryd.zeroValue43
 t37 := Tryd.underlying75
 a37 := Tryd.isAgg75
 z37 := Tryd.sizeOf75
 v37 := Tryd.zeroValue75
 t70 := Tryd.underlying74
 a70 := Tryd.isAgg74
 z70 := Tryd.sizeOf74
 v70 := Tryd.zeroValue74
 t72 := Tryd.underlying77
 a72 := Tryd.isAgg77
 z72 := Tryd.sizeOf77
 v72 := Tryd.zeroValue77
 t75 := Tryd.underlying79
 a75 := Tryd.isAgg79
 z75 := Tryd.sizeOf79
 v75 := Tryd.zeroValue79
 t76 := Tryd.underlying80
 a76 := Tryd.isAgg80
 z76 := Tryd.sizeOf80
 v76 := Tryd.zeroValue80
 t127 := Tryd.underlying102
 a127 := Tryd.isAgg102
 z127 := Tryd.sizeOf102
 v127 := Tryd.zeroValue102
 t164 := Tryd.underlying109
 a164 := Tryd.isAgg109
 z164 := Tryd.sizeOf109
 v164 := Tryd.zeroValue109 }
def laysTrim_ren : Go.Shelf.Ren := ⟨fun | 160 => 19 | 232 => 40 | 231 => 39 | 227 => 41 | 234 => 43 | 233 => 42 | 236 => 45 | 235 => 44 | 228 => 65 | 271 => 68 | 151 => 67 | 197 => 66 | 120 => 79 | 152 => 78 | 260 => 77 | 137 => 90 | 119 => 91 | 224 => 92 | 225 => 93 | 217 => 100 | 266 => 103 | n => n, fun | 9 => 9 | 4 => 4 | 3 => 3 | 5 => 5 | 117 => 70 | 116 => 69 | 0 => 0 | 124 => 73 | 21 => 21 | 105 => 98 | 46 => 103 | 119 => 123 | 139 => 126 | 138 => 125 | n => n, fun | 3 => 0 | 4 => 1 | n => n⟩
theorem laysTrim : Go.Proofs.Lays.n160 Tryd.prog laysTrim_ren := {
 mixed := by kernel_rfl
 f119 := Tryd.func91.trans (congrArg some (by kernel_rfl))
 f120 := Tryd.func79.trans (congrArg some (by kernel_rfl))
 f137 := Tryd.func90.trans (congrArg some (by kernel_rfl))
 f151 := Tryd.func67.trans (congrArg some (by kernel_rfl))
 f152 := Tryd.func78.trans (congrArg some (by kernel_rfl))
 f160 := Tryd.func19.trans (congrArg some (by kernel_rfl))
 f197 := Tryd.func66.trans (congrArg some (by kernel_rfl))
 f217 := Tryd.func100.trans (congrArg some (by kernel_rfl))
 f224 := Tryd.func92.trans (congrArg some (by kernel_rfl))
 f225 := Tryd.func93.trans (congrArg some (by kernel_rfl))
 f227 := Tryd.func41.trans (congrArg some (by kernel_rfl))
 f228 := Tryd.func65.trans (congrArg some (by kernel_rfl))
 f231 := Tryd.func39.trans (congrArg some (by kernel_rfl))
 f232 := Tryd.func40.trans (congrArg some (by kernel_rfl))
 f233 := Tryd.func42.trans (congrArg some (by kernel_rfl))
 f234 := Tryd.func43.trans (congrArg some (by kernel_rfl))
 f235 := Tryd.func44.trans (congrArg some (by kernel_rfl))
 f236 := Tryd.func45.trans (congrArg some (by kernel_rfl))
 f260 := Tryd.func77.trans (congrArg some (by kernel_rfl))
 f266 := Tryd.func103.trans (congrArg some (by kernel_rfl))
 f271 := Tryd.func68.trans (congrArg some (by kernel_rfl))
 t0 := Tryd.underlying0
 a0 := Tryd.isAgg0
 z0 := Tryd.sizeOf0
 v0 := Tryd.zeroValue0
 t3 := Tryd.underlying3
 a3 := Tryd.isAgg3
 z3 := Tryd.sizeOf3
 v3 := Tryd.zeroValue3
 t4 := Tryd.underlying4
 a4 := Tryd.isAgg4
 z4 := Tryd.sizeOf4
 v4 := Tryd.zeroValue4
 t5 := Tryd.underlying5
 a5 := Tryd.isAgg5
 z5 := Tryd.sizeOf5
 v5 := Tryd.zeroValue5
 t9 := Tryd.underlying9
 a9 := Tryd.isAgg9
 z9 := Tryd.sizeOf9
 v9 := Tryd.zeroValue9
 t21 := Tryd.underlying21
 a21 := Tryd.isAgg21
 z21 := Tryd.sizeOf21
 v21 := Tryd.zeroValue21
 t46 := Tryd.underlying103
 a46 := Tryd.isAgg103
 z46 := Tryd.sizeOf103
 v46 := Tryd.zeroValue103
 t105 := Tryd.underlying98
 a105 := Tryd.isAgg98
 z105 := Tryd.sizeOf98
 v105 := Tryd.zeroValue98
 t116 := Tryd.underlying69
 a116 := Tryd.isAgg69
 z116 := Tryd.sizeOf69
 t117 := Tryd.underlying70
 a117 := Tryd.isAgg70
 z117 := Tryd.sizeOf70
 v117 := Tryd.zeroValue70
 t119 := Tryd.underlying123
 a119 := Tryd.isAgg123
 z119 := Tryd.sizeOf123
 t124 := Tryd.underlying73
 a124 := Tryd.isAgg73
 z124 := Tryd.sizeOf73
 v124 := Tryd.zeroValue73
 t138 := Tryd.underlying125
 a138 := Tryd.isAgg125
 z138 := Tryd.sizeOf125
 v138 := Tryd.zeroValue125
 t139 := Tryd.underlying126
 a139 := Tryd.isAgg126
 z139 := Tryd.sizeOf126
 v139 := Tryd.zeroValue126
 g3 := by kernel_rfl
 g4 := by kernel_rfl }
def laysClone_ren : Go.Shelf.Ren := ⟨fun | 16 => 14 | n => n, fun | 24 => 43 | 9 => 9 | 4 => 4 | n => n, fun | n => n⟩
theorem laysClone : Go.Proofs.Lays2.n16 Tryd.prog laysClone_ren := {
 mixed := by kernel_rfl
 f16 := Tryd.func14.trans (congrArg some (by kernel_rfl))
 t4 := Tryd.underlying4
 a4 := Tryd.isAgg4
 z4 := Tryd.sizeOf4
 v4 := Tryd.zeroValue4
 t9 := Tryd.underlying9
 a9 := Tryd.isAgg9
 z9 := Tryd.sizeOf9
 v9 := Tryd.zeroValue9
 t24 := Tryd.underlying43
 a24 := Tryd.isAgg43
 z24 := Tryd.sizeOf43
 v24 := Tryd.zeroValue43
 i9 := by kernel_rfl }
theorem extraB : Builder.Extra Tryd.prog laysRepeat_ren := {
 sizeBuilder := by kernel_rfl
 liesBuilder := by kernel_rfl
 t5 := laysRepeat.t5
 a5 := laysRepeat.a5
 z5 := laysRepeat.z5
 v5 := laysRepeat.v5
 infoByte := by kernel_rfl
 cellsByte := by kernel_rfl
 sizeByte := by kernel_rfl
 neB5 := by decide }
theorem extraJ : Builder.Extra Tryd.prog laysJoin_ren := {
 sizeBuilder := by kernel_rfl
 liesBuilder := by kernel_rfl
 t5 := laysRepeat.t5
 a5 := laysRepeat.a5
 z5 := laysRepeat.z5
 v5 := laysRepeat.v5
 infoByte := by kernel_rfl
 cellsByte := by kernel_rfl
 sizeByte := by kernel_rfl
 neB5 := by decide }
theorem fRepeat : laysRepeat_ren.f 105 = 59 := by kernel_rfl
theorem fJoin : laysJoin_ren.f 156 = 48 := by kernel_rfl
theorem fTrim : laysTrim_ren.f 160 = 19 := by kernel_rfl
theorem fClone : laysClone_ren.f 16 = 14 := by kernel_rfl
def smRep (args : List Value) : Option Value :=
 match args with
 | [.string s, .int .i64 (.ofNat c)] => if s.data.toList.length * c ≤ 100000 ∧ c ≤ 100000 then some (.string ⟨(Lib.repeatL s.data.toList c).toArray⟩) else none
 | _ => none
theorem smRep_ok [EqV] {us : List Value} {v : Value} (h : smRep us = some v) : Gives Tryd.prog 59 us v := by
 unfold smRep at h
 split at h
 ·rename_i s c
  split at h
  ·rename_i hc
   cases h
   refine call_shelf Tryd.func59 (by kernel_rfl) rfl rfl fun m H w hR hG => ?_
   have hs : s.size = s.data.toList.length := rfl
   have e := Any.strings_Repeat laysRepeat extraB s c w (by omega) (by rw [hs]; omega)
   rw [fRepeat] at e
   exact e.mono fun e w' ⟨he, hw⟩ => ⟨he, hw.size, hw.block, hw.os, hw.tape, hw.output⟩
  ·cases h
 ·cases h
def smTrim (args : List Value) : Option Value :=
 match args with
 | [.string s, .string c] => if c.data.toList = [48, 49, 120, 122] ∧ s.data.toList.length ≤ 1000 then some (.string ⟨(Lib.trimS s.data.toList c.data.toList).toArray⟩) else none
 | _ => none
theorem smTrim_ok [EqV] {us : List Value} {v : Value} (h : smTrim us = some v) : Gives Tryd.prog 19 us v := by
 unfold smTrim at h
 split at h
 ·rename_i s c
  split at h
  ·rename_i hc
   cases h
   refine call_shelf Tryd.func19 (by kernel_rfl) rfl rfl fun m H w hR hG => ?_
   have hs : s.size = s.data.toList.length := rfl
   have e := Any.strings_Trim_laid laysTrim (by kernel_rfl) s c w (by rw [hs]; omega) (by have : c.size = c.data.toList.length := rfl; rw [this, hc.1]; decide) fun j b hj => by
    rw [hc.1] at hj
    have : b ∈ [(48 : UInt8), 49, 120, 122] := List.mem_of_getElem? hj
    have all : ∀ b ∈ [(48 : UInt8), 49, 120, 122], b.toNat < 128 := by decide
    exact all b this
   rw [fTrim] at e
   exact e.mono fun e w' ⟨he, hw⟩ => ⟨he, hw.size, hw.block, hw.os, hw.tape, hw.output⟩
  ·cases h
 ·cases h
end Go.Proofs.YtgpligmjbecbjaaDoor
