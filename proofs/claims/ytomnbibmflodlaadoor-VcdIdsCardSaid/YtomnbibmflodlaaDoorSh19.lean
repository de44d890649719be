/- strings.Repeat, by the shelf's contract. -/

import Derived.Test.YtomnbibmflodlaaDoorProg
import Derived.Shelf.Strings.Repeat
import Derived.Ground.NamesProg
import Derived.Lib.Agree
import Derived.Test.YtomnbibmflodlaaDoorAmShelf
import Derived.Test.YtomnbibmflodlaaDoorAmJoin
import Derived.Shelf.Strings.OnBuilder
set_option linter.unusedVariables false
namespace Go.Proofs.YtomnbibmflodlaaDoor
open Go Go.AM Go.Shelf Go.RowKit
def laysRepeat_ren : Go.Shelf.Ren := ⟨fun | 105 => 50 | 212 => 70 | 99 => 71 | 165 => 34 | 166 => 14 | 170 => 21 | 169 => 22 | 263 => 83 | 264 => 84 | 206 => 85 | 240 => 33 | 241 => 45 | 276 => 44 | 277 => 64 | n => n, fun | 9 => 9 | 3 => 3 | 4 => 4 | 20 => 20 | 0 => 0 | 46 => 108 | 109 => 110 | 5 => 5 | 72 => 51 | 76 => 54 | 51 => 105 | 146 => 122 | 53 => 83 | 148 => 124 | 70 => 49 | 37 => 25 | 75 => 53 | 127 => 73 | 164 => 80 | 80 => 63 | n => n, fun | n => n⟩
theorem laysRepeat : Go.Proofs.Lays.n105 Tryd.prog laysRepeat_ren := {
 mixed := by kernel_rfl
 f99 := Tryd.func71.trans (congrArg some (by kernel_rfl))
 f105 := Tryd.func50.trans (congrArg some (by kernel_rfl))
 f165 := Tryd.func34.trans (congrArg some (by kernel_rfl))
 f166 := Tryd.func14.trans (congrArg some (by kernel_rfl))
 f169 := Tryd.func22.trans (congrArg some (by kernel_rfl))
 f170 := Tryd.func21.trans (congrArg some (by kernel_rfl))
 f206 := Tryd.func85.trans (congrArg some (by kernel_rfl))
 f212 := Tryd.func70.trans (congrArg some (by kernel_rfl))
 f240 := Tryd.func33.trans (congrArg some (by kernel_rfl))
 f241 := Tryd.func45.trans (congrArg some (by kernel_rfl))
 f263 := Tryd.func83.trans (congrArg some (by kernel_rfl))
 f264 := Tryd.func84.trans (congrArg some (by kernel_rfl))
 f276 := Tryd.func44.trans (congrArg some (by kernel_rfl))
 f277 := Tryd.func64.trans (congrArg some (by kernel_rfl))
 t0 := Tryd.underlying0
 a0 := Tryd.isAgg0
 z0 := Tryd.sizeOf0
 v0 := Tryd.zeroValue0
 t3 := Tryd.underlying3
 a3 := Tryd.isAgg3
 z3 := Tryd.sizeOf3
 v3 := Tryd.zeroValue3
 t4 := Tryd.underlying4
 a4 := Tryd.isAgg4
 z4 := Tryd.sizeOf4
 v4 := Tryd.zeroValue4
 t5 := Tryd.underlying5
 a5 := Tryd.isAgg5
 z5 := Tryd.sizeOf5
 v5 := Tryd.zeroValue5
 t9 := Tryd.underlying9
 a9 := Tryd.isAgg9
 z9 := Tryd.sizeOf9
 v9 := Tryd.zeroValue9
 t20 := Tryd.underlying20
 a20 := Tryd.isAgg20
 z20 := Tryd.sizeOf20
 v20 := Tryd.zeroValue20
 t37 := Tryd.underlying25
 a37 := Tryd.isAgg25
 z37 := Tryd.sizeOf25
 v37 := Tryd.zeroValue25
 t46 := Tryd.underlying108
 a46 := Tryd.isAgg108
 z46 := Tryd.sizeOf108
 v46 := Tryd.zeroValue108
 t51 := Tryd.underlying105
 a51 := Tryd.isAgg105
 z51 := Tryd.sizeOf105
 v51 := Tryd.zeroValue105
 t53 := Tryd.underlying83
 a53 := Tryd.isAgg83
 z53 := Tryd.sizeOf83
 v53 := Tryd.zeroValue83
 t70 := Tryd.underlying49
 a70 := Tryd.isAgg49
 z70 := Tryd.sizeOf49
 v70 := Tryd.zeroValue49
 t72 := Tryd.underlying51
 a72 := Tryd.isAgg51
 z72 := Tryd.sizeOf51
 v72 := Tryd.zeroValue51
 t75 := Tryd.underlying53
 a75 := Tryd.isAgg53
 z75 := Tryd.sizeOf53
 v75 := Tryd.zeroValue53
 t76 := Tryd.underlying54
 a76 := Tryd.isAgg54
 z76 := Tryd.sizeOf54
 v76 := Tryd.zeroValue54
 t109 := Tryd.underlying110
 a109 := Tryd.isAgg110
 z109 := Tryd.sizeOf110
 v109 := Tryd.zeroValue110
 t127 := Tryd.underlying73
 a127 := Tryd.isAgg73
 z127 := Tryd.sizeOf73
 v127 := Tryd.zeroValue73
 t146 := Tryd.underlying122
 a146 := Tryd.isAgg122
 z146 := Tryd.sizeOf122
 v146 := Tryd.zeroValue122
 t148 := Tryd.underlying124
 a148 := Tryd.isAgg124
 z148 := Tryd.sizeOf124
 v148 := Tryd.zeroValue124
 t164 := Tryd.underlying80
 a164 := Tryd.isAgg80
 z164 := Tryd.sizeOf80
 v164 := Tryd.zeroValue80 }
theorem extraB : Builder.Extra Tryd.prog laysRepeat_ren := {
 sizeBuilder := by kernel_rfl
 liesBuilder := by kernel_rfl
 t5 := laysRepeat.t5
 a5 := laysRepeat.a5
 z5 := laysRepeat.z5
 v5 := laysRepeat.v5
 infoByte := by kernel_rfl
 cellsByte := by kernel_rfl
 sizeByte := by kernel_rfl
 neB5 := by decide }
theorem fRepeat : laysRepeat_ren.f 105 = 50 := by kernel_rfl
def smRep (args : List Value) : Option Value :=
 match args with
 | [.string s, .int .i64 (.ofNat c)] => if s.data.toList.length * c ≤ 100000 ∧ c ≤ 100000 then some (.string ⟨(Lib.repeatL s.data.toList c).toArray⟩) else none
 | _ => none
theorem smRep_ok [EqV] {us : List Value} {v : Value} (h : smRep us = some v) : Gives Tryd.prog 50 us v := by
 unfold smRep at h
 split at h
 ·rename_i s c
  split at h
  ·rename_i hc
   cases h
   refine call_shelf Tryd.func50 (by kernel_rfl) rfl rfl fun m H w hR hG => ?_
   have hs : s.size = s.data.toList.length := rfl
   have e := Any.strings_Repeat laysRepeat extraB s c w (by omega) (by rw [hs]; omega)
   rw [fRepeat] at e
   exact e.mono fun e w' ⟨he, hw⟩ => ⟨he, hw.size, hw.block, hw.os, hw.tape, hw.output⟩
  ·cases h
 ·cases h
def laysJoin_ren : Go.Shelf.Ren := ⟨fun | 156 => 15 | 165 => 34 | 166 => 14 | 169 => 22 | 240 => 33 | 241 => 45 | 276 => 44 | 277 => 64 | n => n, fun | 31 => 42 | 9 => 9 | 3 => 3 | 4 => 4 | 0 => 0 | 20 => 20 | 72 => 51 | 76 => 54 | 70 => 49 | 37 => 25 | 75 => 53 | 127 => 73 | 164 => 80 | 5 => 5 | 80 => 63 | n => n, fun | n => n⟩
theorem laysJoin : Go.Proofs.Lays.n156 Tryd.prog laysJoin_ren := {
 mixed := by kernel_rfl
 f156 := Tryd.func15.trans (congrArg some (by kernel_rfl))
 f165 := Tryd.func34.trans (congrArg some (by kernel_rfl))
 f166 := Tryd.func14.trans (congrArg some (by kernel_rfl))
 f169 := Tryd.func22.trans (congrArg some (by kernel_rfl))
 f240 := Tryd.func33.trans (congrArg some (by kernel_rfl))
 f241 := Tryd.func45.trans (congrArg some (by kernel_rfl))
 f276 := Tryd.func44.trans (congrArg some (by kernel_rfl))
 f277 := Tryd.func64.trans (congrArg some (by kernel_rfl))
 t0 := Tryd.underlying0
 a0 := Tryd.isAgg0
 z0 := Tryd.sizeOf0
 v0 := Tryd.zeroValue0
 t3 := Tryd.underlying3
 a3 := Tryd.isAgg3
 z3 := Tryd.sizeOf3
 v3 := Tryd.zeroValue3
 t4 := Tryd.underlying4
 a4 := Tryd.isAgg4
 z4 := Tryd.sizeOf4
 v4 := Tryd.zeroValue4
 t9 := Tryd.underlying9
 a9 := Tryd.isAgg9
 z9 := Tryd.sizeOf9
 v9 := Tryd.zeroValue9
 t20 := Tryd.underlying20
 a20 := Tryd.isAgg20
 z20 := Tryd.sizeOf20
 v20 := Tryd.zeroValue20
 t31 := Tryd.underlying42
 a31 := Tryd.isAgg42
 z31 := Tryd.sizeOf42
 v31 := Tryd.zeroValue42
 t37 := Tryd.underlying25
 a37 := Tryd.isAgg25
 z37 := Tryd.sizeOf25
 v37 := Tryd.zeroValue25
 t70 := Tryd.underlying49
 a70 := Tryd.isAgg49
 z70 := Tryd.sizeOf49
 v70 := Tryd.zeroValue49
 t72 := Tryd.underlying51
 a72 := Tryd.isAgg51
 z72 := Tryd.sizeOf51
 v72 := Tryd.zeroValue51
 t75 := Tryd.underlying53
 a75 := Tryd.isAgg53
 z75 := Tryd.sizeOf53
 v75 := Tryd.zeroValue53
 t76 := Tryd.underlying54
 a76 := Tryd.isAgg54
 z76 := Tryd.sizeOf54
 v76 := Tryd.zeroValue54
 t127 := Tryd.underlying73
 a127 := Tryd.isAgg73
 z127 := Tryd.sizeOf73
 v127 := Tryd.zeroValue73
 t164 := Tryd.underlying80
 a164 := Tryd.isAgg80
 z164 := Tryd.sizeOf80
 v164 := Tryd.zeroValue80 }
theorem extraJ : Builder.Extra Tryd.prog laysJoin_ren := {
 sizeBuilder := by kernel_rfl
 liesBuilder := by kernel_rfl
 t5 := laysRepeat.t5
 a5 := laysRepeat.a5
 z5 := laysRepeat.z5
 v5 := laysRepeat.v5
 infoByte := by kernel_rfl
 cellsByte := by kernel_rfl
 sizeByte := by kernel_rfl
 neB5 := by decide }
theorem fJoin : laysJoin_ren.f 156 = 15 := by kernel_rfl
end Go.Proofs.YtomnbibmflodlaaDoor
