/- What varies in the loops, laid variables; the functions, as the typed machine prints them; what was printed is what the typed machine comes to. -/

import Derived.Test.YtomnbibmflodlaaDoorIx
import Derived.Test.YtomnbibmflodlaaDoorTmList
set_option linter.unusedVariables false
set_option linter.unusedSimpArgs false
set_option linter.unusedSectionVars false
open Go Go.AM Go.TM
namespace Go.Proofs.YtomnbibmflodlaaDoor
noncomputable section
abbrev Str : Type := (List UInt8)
abbrev LI : Type := (List Int)
def annL : List (List Nat × Nat × List Sh) := [([4], 0, [.val 0 (.int .i64), .own 3 (.int .u8) 5]),
 ([3], 0, [.val 7 (.int .i64)])]
def annJ : List (List Nat × Nat × List Sh) := []
def ann (c : List Nat) (b : Nat) : Option (List Sh) := cond (Nat.ble 999999 b) (findA c b annJ) (findA c b annL)
def gl : Nat → Option (List TV) := fun g => match g with
 | _ => none
def F_w19_awake : Option Bool := some true
def F_vcd_Id_l0 (a0 : Int) (st0 : (Int × (LI × Unit))) : (Option ((Int × (LI × Unit)) ⊕ ((Int × (LI × Unit)) ⊕ Str))) :=
 (br (le 0 st0.1) (br (fits (len st0.2.1) (len ([(wr .u8 (wr .i64 (ad 33 (md st0.1 94))))] : LI)) 140737488355328) (some (.inl ((wr .i64 (sb (wr .i64 (dv st0.1 94)) 1)), ((app st0.2.1 ([(wr .u8 (wr .i64 (ad 33 (md st0.1 94))))] : LI)), ())))) none) (some (.inr (.inl (st0.1, (st0.2.1, ()))))))
def F_vcd_Id (a0 : Int) : (Option Str) :=
 (oj (iterS (F_vcd_Id_l0 a0) (a0, ([], ()))) fun y0 => (br (isb y0.2.1) (some (bstr y0.2.1)) none))
def F_w19_VcdIds_l0 (a0 : Int) (a1 : Int) (y0 : Str) (y1 : Str) (st0 : (Int × Unit)) : (Option ((Int × Unit) ⊕ ((Int × Unit) ⊕ Bool))) :=
 (br (lt st0.1 (ni (len y0))) (br (ix st0.1 (ni (len y0))) (br (lt (byt (rd y0 (tn st0.1) 0)) 33) (inR (some (.inr false))) (br (ix st0.1 (ni (len y0))) (br (lt 126 (byt (rd y0 (tn st0.1) 0))) (inR (some (.inr false))) (some (.inl ((wr .i64 (ad st0.1 1)), ())))) none)) none) (some (.inr (.inl (st0.1, ())))))
def F_w19_VcdIds (a0 : Int) (a1 : Int) : (Option Bool) :=
 (ob (F_vcd_Id a0) fun y0 => (ob (F_vcd_Id a1) fun y1 => (oj (iterS (F_w19_VcdIds_l0 a0 a1 y0 y1) (0, ())) fun y2 => (br (bq (sq y0 []) (lt a0 0)) (br (lt a0 0) (br (le (ni (len y0)) 10) (ob (F_w19_awake) fun y3 => (some y3)) (some false)) (br (lt a1 0) (br (le (ni (len y0)) 10) (ob (F_w19_awake) fun y4 => (some y4)) (some false)) (br (bq (sq y0 y1) (eq a0 a1)) (br (le (ni (len y0)) 10) (ob (F_w19_awake) fun y5 => (some y5)) (some false)) (some false)))) (some false)))))

def effs : Nat → Option (List TV → THp → Res) := fun _ => none
def L0 : List (Nat × FSpec) := [(5, ⟨[], [.bool], [.no], fun _ => F_w19_awake ⟩)]
def L_vcd_Id : List (Nat × FSpec) := (4, ⟨[(.int .i64)], [.str], [.no], fun x => F_vcd_Id x⟩) :: L0
def L_w19_VcdIds : List (Nat × FSpec) := (3, ⟨[(.int .i64), (.int .i64)], [.bool], [.no], fun x => F_w19_VcdIds x.1 x.2⟩) :: L_vcd_Id
end
end Go.Proofs.YtomnbibmflodlaaDoor
