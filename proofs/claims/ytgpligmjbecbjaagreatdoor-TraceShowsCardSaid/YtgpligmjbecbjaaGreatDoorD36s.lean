/- What varies in the loops, laid variables; the functions, as the typed machine prints them; what was printed is what the typed machine comes to. -/

import Derived.Test.YtgpligmjbecbjaaGreatDoorIx
import Derived.Lib.SlTrimSet
import Derived.Lib.Repeat
import Derived.Test.YtgpligmjbecbjaaGreatDoorTmList
set_option linter.unusedVariables false
set_option linter.unusedSimpArgs false
set_option linter.unusedSectionVars false
open Go Go.AM Go.TM
namespace Go.Proofs.YtgpligmjbecbjaaGreatDoor
noncomputable section
abbrev TAig : Type := (Int × ((List (Int × Int)) × ((List (Int × Int)) × (List Int))))
abbrev Str : Type := (List UInt8)
abbrev LI : Type := (List Int)
abbrev LLI : Type := (List LI)
abbrev LB : Type := (List Bool)
abbrev LLB : Type := (List LB)
abbrev LStr : Type := (List Str)
abbrev TVar : Type := (LStr × (Str × Int))
abbrev TChg : Type := (Int × (Int × Str))
abbrev TWave : Type := (Str × ((List TVar) × (List TChg)))
abbrev TyW : Ty := (.st (.pair .str (.pair (.slice (.st (.pair (.slice .str) (.pair .str (.int .i64))))) (.slice (.st (.pair (.int .i64) (.pair (.int .i64) .str)))))))
abbrev TyA : Ty := (.st (.pair (.int .i64) (.pair (.slice (.st (.pair (.int .i64) (.int .u8)))) (.pair (.slice (.st (.pair (.int .i64) (.int .i64)))) (.slice (.int .i64))))))
abbrev TyV : Ty := (.st (.pair (.slice .str) (.pair .str (.int .i64))))
abbrev TyC : Ty := (.st (.pair (.int .i64) (.pair (.int .i64) .str)))
def annL : List (List Nat × Nat × List Sh) := [([6], 0, [.val 7 (.int .i64), .ownC [5] 2 (.st (.pair (.int .i64) (.int .i64))) 69]),
 ([6], 2, [.val 10 (.int .i64), .ownC [5] 1 (.st (.pair (.int .i64) (.int .u8))) 72]),
 ([6], 4, [.val 11 (.int .i64), .ownC [5] 3 (.int .i64) 67]),
 ([32], 0, [.val 6 (.int .i64), .own 5 .bool 4]),
 ([7], 0, [.val 6 (.int .i64), .own 5 (.slice .bool) 48]),
 ([8], 0, [.val 0 (.int .i64), .own 3 (.int .u8) 5]),
 ([33], 1, [.val 33 (.int .i64)]),
 ([33], 3, [.val 60 (.int .i64)]),
 ([33], 5, [.val 80 (.int .i64)]),
 ([47], 0, [.val 16 (.int .i64), .own 3 .bool 4]),
 ([48], 0, [.val 13 (.int .i64), .own 4 .bool 4]),
 ([48], 2, [.val 27 (.int .i64), .own 5 .bool 4]),
 ([49], 0, [.val 21 (.int .i64), .own 7 .bool 4]),
 ([83, 45, 12], 0, [.val 8 (.int .i64)]),
 ([12], 0, [.val 32 (.int .i64), .val 8 (.deep .bool), .own 4 (.slice .bool) 48, .own 5 (.slice .bool) 48]),
 ([35], 0, [.val 11 (.int .i64), .val 3 (.int .i64)]),
 ([35], 2, [.val 27 (.int .i64), .own 6 .str 9]),
 ([36], 0, [.val 11 (.int .i64), .val 3 (.int .i64)]),
 ([36], 2, [.val 27 (.int .i64), .own 6 .bool 4]),
 ([34, 9], 0, [.val 8 (.int .i64), .ownC [0] 1 TyV 86]),
 ([9], 0, [.val 73 (.int .i64), .own 12 .bool 4, .ownC [11] 2 TyC 84]),
 ([9], 2, [.val 92 (.int .i64), .ownC [11] 2 TyC 84]),
 ([70], 0, [.val 9 (.int .i64)]),
 ([150, 127, 138, 109], 0, [.iter [10]]),
 ([81], 0, [.val 13 (.int .i64)]),
 ([136, 107, 71], 0, [.val 8 (.int .i64)]),
 ([68, 110, 71], 0, [.val 8 (.int .i64)]),
 ([26], 1, [.val 28 (.int .i64)]),
 ([26], 3, [.val 46 (.int .i64), .val 6 (.int .i64)]),
 ([50], 0, [.val 13 (.int .i64), .own 3 .str 9]),
 ([10], 0, [.val 20 (.int .i64), .ownC [5] 1 TyV 86]),
 ([39, 10], 0, [.val 5 (.int .i64), .own 4 .str 9, .ownC [1, 0] 2 TyC 84]),
 ([39, 10], 2, [.val 5 (.int .i64), .own 4 .str 9]),
 ([40, 39, 10], 0, [.val 10 (.int .i64), .ownC [3] 2 TyC 84]),
 ([44], 0, [.val 11 (.int .i64), .val 3 (.int .i64)]),
 ([44], 2, [.val 27 (.int .i64), .own 6 TyC 84]),
 ([43, 11], 0, [.val 17 (.int .i64)]),
 ([11], 0, [.val 11 (.int .i64)]),
 ([39, 13], 0, [.val 5 (.int .i64), .own 4 .str 9, .cell [1, 2] 0 .str]),
 ([39, 13], 2, [.val 5 (.int .i64), .own 4 .str 9]),
 ([3], 0, [.val 8 (.int .i64), .ownC [7] 4 .str 9, .ownC [7] 5 .str 9, .ownC [7] 6 .str 9]),
 ([3], 3, [.val 21 (.int .i64)]),
 ([3], 5, [.val 23 (.int .i64)])]
def annJ : List (List Nat × Nat × List Sh) := []
def ann (c : List Nat) (b : Nat) : Option (List Sh) := cond (Nat.ble 999999 b) (findA c b annJ) (findA c b annL)
def gl : Nat → Option (List TV) := fun g => match g with
 | _ => none
def F_w36_awake : Option Bool := some true
def F_strings_Trim (s : List UInt8) (c : List UInt8) : Option (List UInt8) := if c = [48, 49, 120, 122] ∧ s.length ≤ 1000 then some (Lib.trimS s c) else none
def F_strings_Repeat (s : List UInt8) (c : Int) : Option (List UInt8) := if s.length = 1 ∧ 0 ≤ c ∧ c ≤ 1000 then some (Lib.repeatL s c.toNat) else none
def F_slices_Clone_string_string (l : List (List UInt8)) : Option (List (List UInt8)) := if l.length ≤ 100000 then some l else none
def F_r20_Bring (a0 : Int) (a1 : Int) : (Option Int) :=
 (br (ne a1 0) (br (ne a1 0) (some (md (wr .i64 (ad (md a0 a1) a1)) a1)) none) none)

def F_r20_Nodes (a0 : TAig) : (Option Int) :=
 (some (wr .i64 (ad (wr .i64 (ad (wr .i64 (ad 1 a0.1)) (ni (len a0.2.1)))) (ni (len a0.2.2.1)))))
def F_r20_Fit_l0 (a0 : TAig) (a1 : Int) (y0 : Int) (st0 : (Int × ((List (Int × Int)) × Unit))) : (Option ((Int × ((List (Int × Int)) × Unit)) ⊕ ((Int × ((List (Int × Int)) × Unit)) ⊕ TAig))) :=
 (br (lt st0.1 (ni (len st0.2.1))) (br (ix st0.1 (ni (len st0.2.1))) (ob (F_r20_Bring (rd st0.2.1 (tn st0.1) (0, 0)).1 (wr .i64 (ml 2 (wr .i64 (ad (wr .i64 (ad (wr .i64 (ad 1 y0)) (ni (tn (mn (ni (len a0.2.1)) a1))))) st0.1))))) fun y1 => (br (ix st0.1 (ni (len st0.2.1))) (ob (F_r20_Bring (rd st0.2.1 (tn st0.1) (0, 0)).2 (wr .i64 (ml 2 (wr .i64 (ad (wr .i64 (ad (wr .i64 (ad 1 y0)) (ni (tn (mn (ni (len a0.2.1)) a1))))) st0.1))))) fun y2 => (br (ix st0.1 (ni (len st0.2.1))) (some (.inl ((wr .i64 (ad st0.1 1)), ((put st0.2.1 (tn st0.1) (y1, y2)), ())))) none)) none)) none) (some (.inr (.inl (st0.1, (st0.2.1, ()))))))
def F_r20_Fit_l1 (a0 : TAig) (a1 : Int) (y0 : Int) (y3 : (Int × ((List (Int × Int)) × Unit))) (y4 : Int) (st1 : (Int × ((List (Int × Int)) × Unit))) : (Option ((Int × ((List (Int × Int)) × Unit)) ⊕ ((Int × ((List (Int × Int)) × Unit)) ⊕ TAig))) :=
 (br (lt st1.1 (ni (len st1.2.1))) (br (ix st1.1 (ni (len st1.2.1))) (ob (F_r20_Bring (rd st1.2.1 (tn st1.1) (0, 0)).1 (wr .i64 (ml 2 y4))) fun y5 => (br (ix st1.1 (ni (len st1.2.1))) (br (ix st1.1 (ni (len st1.2.1))) (some (.inl ((wr .i64 (ad st1.1 1)), ((put st1.2.1 (tn st1.1) (y5, (md (rd st1.2.1 (tn st1.1) (0, 0)).2 2))), ())))) none) none)) none) (some (.inr (.inl (st1.1, (st1.2.1, ()))))))
def F_r20_Fit_l2 (a0 : TAig) (a1 : Int) (y0 : Int) (y3 : (Int × ((List (Int × Int)) × Unit))) (y4 : Int) (y6 : (Int × ((List (Int × Int)) × Unit))) (st2 : (Int × (LI × Unit))) : (Option ((Int × (LI × Unit)) ⊕ ((Int × (LI × Unit)) ⊕ TAig))) :=
 (br (lt st2.1 (ni (len st2.2.1))) (br (ix st2.1 (ni (len st2.2.1))) (ob (F_r20_Bring (rd st2.2.1 (tn st2.1) 0) (wr .i64 (ml 2 y4))) fun y7 => (br (ix st2.1 (ni (len st2.2.1))) (some (.inl ((wr .i64 (ad st2.1 1)), ((put st2.2.1 (tn st2.1) y7), ())))) none)) none) (some (.inr (.inl (st2.1, (st2.2.1, ()))))))
def F_r20_Fit (a0 : TAig) (a1 : Int) : (Option TAig) :=
 (br (fits 0 (len a0.2.1) 8796093022208) (br (fits 0 (len a0.2.2.1) 8796093022208) (br (fits 0 (len a0.2.2.2) 17592186044416) (br (rg 0 (mn (ni (len a0.2.1)) a1) (ni (len a0.2.1))) (br (rg 0 (mn (ni (len a0.2.2.1)) a1) (ni (len a0.2.2.1))) (br (rg 0 (mn (ni (len a0.2.2.2)) a1) (ni (len a0.2.2.2))) (ob (F_r20_Bring a0.1 (wr .i64 (ad a1 1))) fun y0 => (oj (iterS (F_r20_Fit_l0 a0 a1 y0) (0, ((cut a0.2.2.1 0 (tn (mn (ni (len a0.2.2.1)) a1))), ()))) fun y3 => (ob (F_r20_Nodes (y0, ((cut a0.2.1 0 (tn (mn (ni (len a0.2.1)) a1))), (y3.2.1, (cut a0.2.2.2 0 (tn (mn (ni (len a0.2.2.2)) a1))))))) fun y4 => (oj (iterS (F_r20_Fit_l1 a0 a1 y0 y3 y4) (0, ((cut a0.2.1 0 (tn (mn (ni (len a0.2.1)) a1))), ()))) fun y6 => (oj (iterS (F_r20_Fit_l2 a0 a1 y0 y3 y4 y6) (0, ((cut a0.2.2.2 0 (tn (mn (ni (len a0.2.2.2)) a1))), ()))) fun y8 => (some (y0, (y6.2.1, (y3.2.1, y8.2.1))))))))) none) none) none) none) none) none)
def F_r20_Bits_l0 (a0 : Int) (a1 : Int) (st0 : (Int × (LB × Unit))) : (Option ((Int × (LB × Unit)) ⊕ ((Int × (LB × Unit)) ⊕ LB))) :=
 (br (lt st0.1 a1) (br (le 0 (md st0.1 64)) (br (fits (len st0.2.1) (len ([(eq (md (shr .u64 a0 (md st0.1 64)) 2) 1)] : LB)) 140737488355328) (some (.inl ((wr .i64 (ad st0.1 1)), ((app st0.2.1 ([(eq (md (shr .u64 a0 (md st0.1 64)) 2) 1)] : LB)), ())))) none) none) (some (.inr (.inl (st0.1, (st0.2.1, ()))))))
def F_r20_Bits (a0 : Int) (a1 : Int) : (Option LB) :=
 (oj (iterS (F_r20_Bits_l0 a0 a1) (0, ([], ()))) fun y0 => (some y0.2.1))
def F_w36_cycles_l0 (a0 : TAig) (a1 : LI) (st0 : (Int × (LLB × Unit))) : (Option ((Int × (LLB × Unit)) ⊕ ((Int × (LLB × Unit)) ⊕ LLB))) :=
 (br (lt st0.1 (ni (len a1))) (br (lt st0.1 12) (br (ix st0.1 (ni (len a1))) (ob (F_r20_Bits (rd a1 (tn st0.1) 0) a0.1) fun y0 => (br (fits (len st0.2.1) (len ([y0] : LLB)) 5864062014805) (some (.inl ((wr .i64 (ad st0.1 1)), ((app st0.2.1 ([y0] : LLB)), ())))) none)) none) (some (.inr (.inl (st0.1, (st0.2.1, ())))))) (some (.inr (.inl (st0.1, (st0.2.1, ()))))))
def F_w36_cycles (a0 : TAig) (a1 : LI) : (Option LLB) :=
 (oj (iterS (F_w36_cycles_l0 a0 a1) (0, ([], ()))) fun y1 => (some y1.2.1))
def F_vcd_Id_l0 (a0 : Int) (st0 : (Int × (LI × Unit))) : (Option ((Int × (LI × Unit)) ⊕ ((Int × (LI × Unit)) ⊕ Str))) :=
 (br (le 0 st0.1) (br (fits (len st0.2.1) (len ([(wr .u8 (wr .i64 (ad 33 (md st0.1 94))))] : LI)) 140737488355328) (some (.inl ((wr .i64 (sb (wr .i64 (dv st0.1 94)) 1)), ((app st0.2.1 ([(wr .u8 (wr .i64 (ad 33 (md st0.1 94))))] : LI)), ())))) none) (some (.inr (.inl (st0.1, (st0.2.1, ()))))))
def F_vcd_Id (a0 : Int) : (Option Str) :=
 (oj (iterS (F_vcd_Id_l0 a0) (a0, ([], ()))) fun y0 => (br (isb y0.2.1) (some (bstr y0.2.1)) none))
def F_aig_first (a0 : TAig) : (Option Int) :=
 (some (wr .i64 (ad (wr .i64 (ad 1 a0.1)) (ni (len a0.2.1)))))
def F_aig_size (a0 : TAig) : (Option Int) :=
 (ob (F_aig_first (a0.1, (a0.2.1, (a0.2.2.1, a0.2.2.2)))) fun y0 => (some (wr .i64 (ad y0 (ni (len a0.2.2.1))))))

def F_aig_Check_1 (a0 : Int) (a1 : Int) : (Option Bool) :=
 (br (le 0 a0) (some (lt a0 (wr .i64 (ml 2 a1)))) (some false))
def F_aig_Check_l0 (a0 : TAig) (y0 : Int) (st0 : (Int × Unit)) : (Option ((Int × Unit) ⊕ ((Int × Unit) ⊕ Int))) :=
 (br (lt st0.1 (ni (len a0.2.2.1))) (br (ix st0.1 (ni (len a0.2.2.1))) (ob (F_aig_first (a0.1, (a0.2.1, (a0.2.2.1, a0.2.2.2)))) fun y1 => (ob (F_aig_Check_1 (rd a0.2.2.1 (tn st0.1) (0, 0)).1 (wr .i64 (ad y1 st0.1))) fun y2 => (br (nt y2) (inR (some (.inr 1))) (ob (F_aig_Check_1 (rd a0.2.2.1 (tn st0.1) (0, 0)).2 (wr .i64 (ad y1 st0.1))) fun y3 => (br (nt y3) (inR (some (.inr 1))) (some (.inl ((wr .i64 (ad st0.1 1)), ())))))))) none) (some (.inr (.inl (st0.1, ())))))
def F_aig_Check_l1 (a0 : TAig) (y0 : Int) (y4 : (Int × Unit)) (st1 : (Int × Unit)) : (Option ((Int × Unit) ⊕ ((Int × Unit) ⊕ Int))) :=
 (br (lt st1.1 (ni (len a0.2.1))) (br (ix st1.1 (ni (len a0.2.1))) (ob (F_aig_size (a0.1, (a0.2.1, (a0.2.2.1, a0.2.2.2)))) fun y5 => (ob (F_aig_Check_1 (rd a0.2.1 (tn st1.1) (0, 0)).1 y5) fun y6 => (br (nt y6) (inR (some (.inr 1))) (br (lt 1 (rd a0.2.1 (tn st1.1) (0, 0)).2) (inR (some (.inr 1))) (some (.inl ((wr .i64 (ad st1.1 1)), ()))))))) none) (some (.inr (.inl (st1.1, ())))))
def F_aig_Check_l2 (a0 : TAig) (y0 : Int) (y4 : (Int × Unit)) (y7 : (Int × Unit)) (st2 : (Int × Unit)) : (Option ((Int × Unit) ⊕ ((Int × Unit) ⊕ Int))) :=
 (br (lt st2.1 (ni (len a0.2.2.2))) (br (ix st2.1 (ni (len a0.2.2.2))) (ob (F_aig_size (a0.1, (a0.2.1, (a0.2.2.1, a0.2.2.2)))) fun y8 => (ob (F_aig_Check_1 (rd a0.2.2.2 (tn st2.1) 0) y8) fun y9 => (br (nt y9) (inR (some (.inr 1))) (some (.inl ((wr .i64 (ad st2.1 1)), ())))))) none) (some (.inr (.inl (st2.1, ())))))
def F_aig_Check (a0 : TAig) : (Option Int) :=
 (br (lt a0.1 0) (some 1) (br (lt 4096 a0.1) (some 5) (ob (F_aig_size (a0.1, (a0.2.1, (a0.2.2.1, a0.2.2.2)))) fun y0 => (br (lt 4096 y0) (some 5) (br (lt 4096 (ni (len a0.2.2.2))) (some 5) (oj (iterS (F_aig_Check_l0 a0 y0) (0, ())) fun y4 => (oj (iterS (F_aig_Check_l1 a0 y0 y4) (0, ())) fun y7 => (oj (iterS (F_aig_Check_l2 a0 y0 y4 y7) (0, ())) fun y10 => (some 0)))))))))
def F_aig_Start_l0 (a0 : TAig) (y0 : Int) (st0 : (Int × (LB × Unit))) : (Option ((Int × (LB × Unit)) ⊕ ((Int × (LB × Unit)) ⊕ LB))) :=
 (br (lt st0.1 (ni (len a0.2.1))) (br (ix st0.1 (ni (len a0.2.1))) (br (ix st0.1 (ni (len st0.2.1))) (some (.inl ((wr .i64 (ad st0.1 1)), ((put st0.2.1 (tn st0.1) (eq (rd a0.2.1 (tn st0.1) (0, 0)).2 1)), ())))) none) none) (some (.inr (.inl (st0.1, (st0.2.1, ()))))))
def F_aig_Start (a0 : TAig) : (Option LB) :=
 (ob (F_aig_Check (a0.1, (a0.2.1, (a0.2.2.1, a0.2.2.2)))) fun y0 => (br (ne y0 0) (some []) (br (rg 0 (ni (len a0.2.1)) (ni (len a0.2.1))) (br (le (ni (len a0.2.1)) 281474976710656) (br (le (ml 1 (ni (len a0.2.1))) 281474976710656) (oj (iterS (F_aig_Start_l0 a0 y0) (0, ((rept (tn (ni (len a0.2.1))) (false : Bool)), ()))) fun y1 => (some y1.2.1)) none) none) none)))
def F_aig_values_of (a0 : LB) (a1 : Int) : (Option Bool) :=
 (br (ix (shr .i64 a1 1) (ni (len a0))) (some (nt (bq (rd a0 (tn (shr .i64 a1 1)) false) (eq (band .i64 a1 1) 1)))) none)
def F_aig_ends_l0 (a0 : TAig) (a1 : LB) (st0 : (Int × (LB × Unit))) : (Option ((Int × (LB × Unit)) ⊕ ((Int × (LB × Unit)) ⊕ (LB × LB)))) :=
 (br (lt st0.1 (ni (len a0.2.2.2))) (br (ix st0.1 (ni (len a0.2.2.2))) (ob (F_aig_values_of a1 (rd a0.2.2.2 (tn st0.1) 0)) fun y0 => (br (fits (len st0.2.1) (len ([y0] : LB)) 140737488355328) (some (.inl ((wr .i64 (ad st0.1 1)), ((app st0.2.1 ([y0] : LB)), ())))) none)) none) (some (.inr (.inl (st0.1, (st0.2.1, ()))))))
def F_aig_ends_l1 (a0 : TAig) (a1 : LB) (y1 : (Int × (LB × Unit))) (st1 : (Int × (LB × Unit))) : (Option ((Int × (LB × Unit)) ⊕ ((Int × (LB × Unit)) ⊕ (LB × LB)))) :=
 (br (lt st1.1 (ni (len a0.2.1))) (br (ix st1.1 (ni (len a0.2.1))) (ob (F_aig_values_of a1 (rd a0.2.1 (tn st1.1) (0, 0)).1) fun y2 => (br (fits (len st1.2.1) (len ([y2] : LB)) 140737488355328) (some (.inl ((wr .i64 (ad st1.1 1)), ((app st1.2.1 ([y2] : LB)), ())))) none)) none) (some (.inr (.inl (st1.1, (st1.2.1, ()))))))
def F_aig_ends (a0 : TAig) (a1 : LB) : (Option (LB × LB)) :=
 (oj (iterS (F_aig_ends_l0 a0 a1) (0, ([], ()))) fun y1 => (oj (iterS (F_aig_ends_l1 a0 a1 y1) (0, ([], ()))) fun y3 => (some (y1.2.1, y3.2.1))))
def F_aig_all_l0 (a0 : TAig) (a1 : LB) (a2 : LB) (y0 : Int) (st0 : (Int × (LB × Unit))) : (Option ((Int × (LB × Unit)) ⊕ ((Int × (LB × Unit)) ⊕ LB))) :=
 (br (lt st0.1 (ni (len a0.2.2.1))) (br (ix st0.1 (ni (len a0.2.2.1))) (ob (F_aig_values_of st0.2.1 (rd a0.2.2.1 (tn st0.1) (0, 0)).1) fun y1 => (br y1 (ob (F_aig_values_of st0.2.1 (rd a0.2.2.1 (tn st0.1) (0, 0)).2) fun y2 => (br (fits (len st0.2.1) (len ([y2] : LB)) 140737488355328) (some (.inl ((wr .i64 (ad st0.1 1)), ((app st0.2.1 ([y2] : LB)), ())))) none)) (br (fits (len st0.2.1) (len ([false] : LB)) 140737488355328) (some (.inl ((wr .i64 (ad st0.1 1)), ((app st0.2.1 ([false] : LB)), ())))) none))) none) (some (.inr (.inl (st0.1, (st0.2.1, ()))))))
def F_aig_all (a0 : TAig) (a1 : LB) (a2 : LB) : (Option LB) :=
 (ob (F_aig_size (a0.1, (a0.2.1, (a0.2.2.1, a0.2.2.2)))) fun y0 => (br (rg 0 1 y0) (br (le y0 281474976710656) (br (le (ml 1 y0) 281474976710656) (br (fits (len (rept (tn 1) (false : Bool))) (len a1) 140737488355328) (br (fits (len (app (rept (tn 1) (false : Bool)) a1)) (len a2) 140737488355328) (oj (iterS (F_aig_all_l0 a0 a1 a2 y0) (0, ((app (app (rept (tn 1) (false : Bool)) a1) a2), ()))) fun y3 => (some y3.2.1)) none) none) none) none) none))
def F_aig_Run_l1 (a0 : TAig) (a1 : LLB) (y0 : Int) (st0 : (Int × Unit)) (y1 : LB) (st1 : (Int × (LB × (LLB × (LLB × Unit))))) : (Option ((Int × (LB × (LLB × (LLB × Unit)))) ⊕ ((Int × (LB × (LLB × (LLB × Unit)))) ⊕ (LLB × (LLB × Int))))) :=
 (br (lt st1.1 (ni (len a1))) (br (ix st1.1 (ni (len a1))) (ob (F_aig_all (a0.1, (a0.2.1, (a0.2.2.1, a0.2.2.2))) (rd a1 (tn st1.1) []) st1.2.1) fun y2 => (ob (F_aig_ends (a0.1, (a0.2.1, (a0.2.2.1, a0.2.2.2))) y2) fun y3 => (br (fits (len st1.2.2.1) (len ([y3.1] : LLB)) 5864062014805) (br (fits (len st1.2.2.2.1) (len ([y3.2] : LLB)) 5864062014805) (some (.inl ((wr .i64 (ad st1.1 1)), (y3.2, ((app st1.2.2.1 ([y3.1] : LLB)), ((app st1.2.2.2.1 ([y3.2] : LLB)), ())))))) none) none))) none) (some (.inr (.inl (st1.1, (st1.2.1, (st1.2.2.1, (st1.2.2.2.1, ()))))))))
def F_aig_Run_l0 (a0 : TAig) (a1 : LLB) (y0 : Int) (st0 : (Int × Unit)) : (Option ((Int × Unit) ⊕ ((Int × Unit) ⊕ (LLB × (LLB × Int))))) :=
 (br (lt st0.1 (ni (len a1))) (br (ix st0.1 (ni (len a1))) (br (ne (ni (len (rd a1 (tn st0.1) []))) a0.1) (inR (inR (br (le 0 st0.1) (some ([], ([], 12))) (ob (F_aig_Start (a0.1, (a0.2.1, (a0.2.2.1, a0.2.2.2)))) fun y1 => (br (fits 0 (len ([y1] : LLB)) 5864062014805) (oj (iterS (F_aig_Run_l1 a0 a1 y0 st0 y1) (0, (y1, ([], (([y1] : LLB), ()))))) fun y4 => (some (y4.2.2.1, (y4.2.2.2.1, 0)))) none))))) (some (.inl ((wr .i64 (ad st0.1 1)), ())))) none) (some (.inr (.inl (st0.1, ())))))
def F_aig_Run_l2 (a0 : TAig) (a1 : LLB) (y0 : Int) (y5 : (Int × Unit)) (y6 : LB) (st2 : (Int × (LB × (LLB × (LLB × Unit))))) : (Option ((Int × (LB × (LLB × (LLB × Unit)))) ⊕ ((Int × (LB × (LLB × (LLB × Unit)))) ⊕ (LLB × (LLB × Int))))) :=
 (br (lt st2.1 (ni (len a1))) (br (ix st2.1 (ni (len a1))) (ob (F_aig_all (a0.1, (a0.2.1, (a0.2.2.1, a0.2.2.2))) (rd a1 (tn st2.1) []) st2.2.1) fun y7 => (ob (F_aig_ends (a0.1, (a0.2.1, (a0.2.2.1, a0.2.2.2))) y7) fun y8 => (br (fits (len st2.2.2.1) (len ([y8.1] : LLB)) 5864062014805) (br (fits (len st2.2.2.2.1) (len ([y8.2] : LLB)) 5864062014805) (some (.inl ((wr .i64 (ad st2.1 1)), (y8.2, ((app st2.2.2.1 ([y8.1] : LLB)), ((app st2.2.2.2.1 ([y8.2] : LLB)), ())))))) none) none))) none) (some (.inr (.inl (st2.1, (st2.2.1, (st2.2.2.1, (st2.2.2.2.1, ()))))))))
def F_aig_Run (a0 : TAig) (a1 : LLB) : (Option (LLB × (LLB × Int))) :=
 (ob (F_aig_Check (a0.1, (a0.2.1, (a0.2.2.1, a0.2.2.2)))) fun y0 => (br (ne y0 0) (some ([], ([], y0))) (br (lt 64 (ni (len a1))) (some ([], ([], 5))) (oj (iterS (F_aig_Run_l0 a0 a1 y0) (0, ())) fun y5 => (ob (F_aig_Start (a0.1, (a0.2.1, (a0.2.2.1, a0.2.2.2)))) fun y6 => (br (fits 0 (len ([y6] : LLB)) 5864062014805) (oj (iterS (F_aig_Run_l2 a0 a1 y0 y5 y6) (0, (y6, ([], (([y6] : LLB), ()))))) fun y9 => (some (y9.2.2.1, (y9.2.2.2.1, 0)))) none))))))
def F_slices_Concat_string_string_l0 (a0 : (List LStr)) (st0 : (Int × (Int × Unit))) : (Option ((Int × (Int × Unit)) ⊕ ((Int × (Int × Unit)) ⊕ LStr))) :=
 (br (lt st0.1 (ni (len a0))) (br (ix st0.1 (ni (len a0))) (br (lt (wr .i64 (ad st0.2.1 (ni (len (rd a0 (tn st0.1) []))))) 0) none (some (.inl ((wr .i64 (ad st0.1 1)), ((wr .i64 (ad st0.2.1 (ni (len (rd a0 (tn st0.1) []))))), ()))))) none) (some (.inr (.inl (st0.1, (st0.2.1, ()))))))
def F_slices_Concat_string_string_l1 (a0 : (List LStr)) (y0 : (Int × (Int × Unit))) (st1 : (Int × (LStr × Unit))) : (Option ((Int × (LStr × Unit)) ⊕ ((Int × (LStr × Unit)) ⊕ LStr))) :=
 (br (lt st1.1 (ni (len a0))) (br (ix st1.1 (ni (len a0))) (br (fits (len st1.2.1) (len (rd a0 (tn st1.1) [])) 8796093022208) (some (.inl ((wr .i64 (ad st1.1 1)), ((app st1.2.1 (rd a0 (tn st1.1) [])), ())))) none) none) (some (.inr (.inl (st1.1, (st1.2.1, ()))))))
def F_slices_Concat_string_string_l2 (a0 : (List LStr)) (y0 : (Int × (Int × Unit))) (st2 : (Int × (LStr × Unit))) : (Option ((Int × (LStr × Unit)) ⊕ ((Int × (LStr × Unit)) ⊕ LStr))) :=
 (br (lt st2.1 (ni (len a0))) (br (ix st2.1 (ni (len a0))) (br (fits (len st2.2.1) (len (rd a0 (tn st2.1) [])) 8796093022208) (some (.inl ((wr .i64 (ad st2.1 1)), ((app st2.2.1 (rd a0 (tn st2.1) [])), ())))) none) none) (some (.inr (.inl (st2.1, (st2.2.1, ()))))))
def F_slices_Concat_string_string (a0 : (List LStr)) : (Option LStr) :=
 (oj (iterS (F_slices_Concat_string_string_l0 a0) (0, (0, ()))) fun y0 => (br (lt y0.2.1 0) none (br (lt 0 (wr .i64 (sb y0.2.1 (wr .i64 (sb 0 (ni 0)))))) (br (lt 0 (wr .i64 (sb y0.2.1 (wr .i64 (sb 0 (ni 0)))))) (br (fits 0 (tn (wr .i64 (sb y0.2.1 (wr .i64 (sb 0 (ni 0)))))) 8796093022208) (br (rg 0 (ni 0) (ni (len (rept (tn (wr .i64 (sb y0.2.1 (wr .i64 (sb 0 (ni 0)))))) ([] : Str))))) (oj (iterS (F_slices_Concat_string_string_l1 a0 y0) (0, ((cut (rept (tn (wr .i64 (sb y0.2.1 (wr .i64 (sb 0 (ni 0)))))) ([] : Str)) 0 (tn (ni 0))), ()))) fun y1 => (some y1.2.1)) none) none) none) (oj (iterS (F_slices_Concat_string_string_l2 a0 y0) (0, ([], ()))) fun y2 => (some y2.2.1)))))
def F_slices_Concat_bool_bool_l0 (a0 : LLB) (st0 : (Int × (Int × Unit))) : (Option ((Int × (Int × Unit)) ⊕ ((Int × (Int × Unit)) ⊕ LB))) :=
 (br (lt st0.1 (ni (len a0))) (br (ix st0.1 (ni (len a0))) (br (lt (wr .i64 (ad st0.2.1 (ni (len (rd a0 (tn st0.1) []))))) 0) none (some (.inl ((wr .i64 (ad st0.1 1)), ((wr .i64 (ad st0.2.1 (ni (len (rd a0 (tn st0.1) []))))), ()))))) none) (some (.inr (.inl (st0.1, (st0.2.1, ()))))))
def F_slices_Concat_bool_bool_l1 (a0 : LLB) (y0 : (Int × (Int × Unit))) (st1 : (Int × (LB × Unit))) : (Option ((Int × (LB × Unit)) ⊕ ((Int × (LB × Unit)) ⊕ LB))) :=
 (br (lt st1.1 (ni (len a0))) (br (ix st1.1 (ni (len a0))) (br (fits (len st1.2.1) (len (rd a0 (tn st1.1) [])) 140737488355328) (some (.inl ((wr .i64 (ad st1.1 1)), ((app st1.2.1 (rd a0 (tn st1.1) [])), ())))) none) none) (some (.inr (.inl (st1.1, (st1.2.1, ()))))))
def F_slices_Concat_bool_bool_l2 (a0 : LLB) (y0 : (Int × (Int × Unit))) (st2 : (Int × (LB × Unit))) : (Option ((Int × (LB × Unit)) ⊕ ((Int × (LB × Unit)) ⊕ LB))) :=
 (br (lt st2.1 (ni (len a0))) (br (ix st2.1 (ni (len a0))) (br (fits (len st2.2.1) (len (rd a0 (tn st2.1) [])) 140737488355328) (some (.inl ((wr .i64 (ad st2.1 1)), ((app st2.2.1 (rd a0 (tn st2.1) [])), ())))) none) none) (some (.inr (.inl (st2.1, (st2.2.1, ()))))))
def F_slices_Concat_bool_bool (a0 : LLB) : (Option LB) :=
 (oj (iterS (F_slices_Concat_bool_bool_l0 a0) (0, (0, ()))) fun y0 => (br (lt y0.2.1 0) none (br (lt 0 (wr .i64 (sb y0.2.1 (wr .i64 (sb 0 (ni 0)))))) (br (lt 0 (wr .i64 (sb y0.2.1 (wr .i64 (sb 0 (ni 0)))))) (br (fits 0 (tn (wr .i64 (sb y0.2.1 (wr .i64 (sb 0 (ni 0)))))) 140737488355328) (br (rg 0 (ni 0) (ni (len (rept (tn (wr .i64 (sb y0.2.1 (wr .i64 (sb 0 (ni 0)))))) (false : Bool))))) (oj (iterS (F_slices_Concat_bool_bool_l1 a0 y0) (0, ((cut (rept (tn (wr .i64 (sb y0.2.1 (wr .i64 (sb 0 (ni 0)))))) (false : Bool)) 0 (tn (ni 0))), ()))) fun y1 => (some y1.2.1)) none) none) none) (oj (iterS (F_slices_Concat_bool_bool_l2 a0 y0) (0, ([], ()))) fun y2 => (some y2.2.1)))))
def F_trace_bit (a0 : Bool) : (Option Int) :=
 (br a0 (some 1) (some 0))
def F_trace_Wave_l0 (a0 : (TAig × (LStr × (LStr × LStr)))) (a1 : LLB) (y0 : Int) (y1 : (LLB × (LLB × Int))) (y2 : LStr) (st0 : (Int × ((List TVar) × Unit))) : (Option ((Int × ((List TVar) × Unit)) ⊕ ((Int × ((List TVar) × Unit)) ⊕ (TWave × Int)))) :=
 (br (lt st0.1 (ni (len y2))) (br (ix st0.1 (ni (len y2))) (br (fits (len st0.2.1) (len ([([], ((rd y2 (tn st0.1) []), 1))] : (List TVar))) 2932031007402) (some (.inl ((wr .i64 (ad st0.1 1)), ((app st0.2.1 ([([], ((rd y2 (tn st0.1) []), 1))] : (List TVar))), ())))) none) none) (some (.inr (.inl (st0.1, (st0.2.1, ()))))))
def F_trace_Wave_l2 (a0 : (TAig × (LStr × (LStr × LStr)))) (a1 : LLB) (y0 : Int) (y1 : (LLB × (LLB × Int))) (y2 : LStr) (y3 : (Int × ((List TVar) × Unit))) (st1 : (Int × (LB × ((List TChg) × Unit)))) (y4 : LB) (st2 : (Int × ((List TChg) × Unit))) : (Option ((Int × ((List TChg) × Unit)) ⊕ ((Int × ((List TChg) × Unit)) ⊕ ((Int × (LB × ((List TChg) × Unit))) ⊕ ((Int × (LB × ((List TChg) × Unit))) ⊕ (TWave × Int)))))) :=
 (br (lt st2.1 (ni (len y4))) (br (ix st2.1 (ni (len y4))) (br (lt 0 st1.1) (br (ix st2.1 (ni (len st1.2.1))) (br (bq (rd y4 (tn st2.1) false) (rd st1.2.1 (tn st2.1) false)) (some (.inl ((wr .i64 (ad st2.1 1)), (st2.2.1, ())))) (ob (F_trace_bit (rd y4 (tn st2.1) false)) fun y5 => (ob (F_trace_bit (rd y4 (tn st2.1) false)) fun y6 => (br (rg y5 (wr .u8 (ad y6 1)) (ni (len ([48, 49, 120] : Str)))) (br (fits (len st2.2.1) (len ([(st1.1, (st2.1, (cut ([48, 49, 120] : Str) (tn y5) (nsub (tn (wr .u8 (ad y6 1))) (tn y5)))))] : (List TChg))) 4398046511104) (some (.inl ((wr .i64 (ad st2.1 1)), ((app st2.2.1 ([(st1.1, (st2.1, (cut ([48, 49, 120] : Str) (tn y5) (nsub (tn (wr .u8 (ad y6 1))) (tn y5)))))] : (List TChg))), ())))) none) none)))) none) (ob (F_trace_bit (rd y4 (tn st2.1) false)) fun y7 => (ob (F_trace_bit (rd y4 (tn st2.1) false)) fun y8 => (br (rg y7 (wr .u8 (ad y8 1)) (ni (len ([48, 49, 120] : Str)))) (br (fits (len st2.2.1) (len ([(st1.1, (st2.1, (cut ([48, 49, 120] : Str) (tn y7) (nsub (tn (wr .u8 (ad y8 1))) (tn y7)))))] : (List TChg))) 4398046511104) (some (.inl ((wr .i64 (ad st2.1 1)), ((app st2.2.1 ([(st1.1, (st2.1, (cut ([48, 49, 120] : Str) (tn y7) (nsub (tn (wr .u8 (ad y8 1))) (tn y7)))))] : (List TChg))), ())))) none) none)))) none) (some (.inr (.inl (st2.1, (st2.2.1, ()))))))
def F_trace_Wave_l1 (a0 : (TAig × (LStr × (LStr × LStr)))) (a1 : LLB) (y0 : Int) (y1 : (LLB × (LLB × Int))) (y2 : LStr) (y3 : (Int × ((List TVar) × Unit))) (st1 : (Int × (LB × ((List TChg) × Unit)))) : (Option ((Int × (LB × ((List TChg) × Unit))) ⊕ ((Int × (LB × ((List TChg) × Unit))) ⊕ (TWave × Int)))) :=
 (br (lt st1.1 (ni (len a1))) (br (ix st1.1 (ni (len a1))) (br (ix st1.1 (ni (len y1.2.1))) (br (ix st1.1 (ni (len y1.1))) (ob (F_slices_Concat_bool_bool ([(rd a1 (tn st1.1) []), (rd y1.2.1 (tn st1.1) []), (rd y1.1 (tn st1.1) [])] : LLB)) fun y4 => (oj (iterS (F_trace_Wave_l2 a0 a1 y0 y1 y2 y3 st1 y4) (0, (st1.2.2.1, ()))) fun y9 => (some (.inl ((wr .i64 (ad st1.1 1)), (y4, (y9.2.1, ()))))))) none) none) none) (some (.inr (.inl (st1.1, (st1.2.1, (st1.2.2.1, ())))))))
def F_trace_Wave (a0 : (TAig × (LStr × (LStr × LStr)))) (a1 : LLB) : (Option (TWave × Int)) :=
 (ob (F_aig_Check (a0.1.1, (a0.1.2.1, (a0.1.2.2.1, a0.1.2.2.2)))) fun y0 => (br (ne y0 0) (some (([], ([], [])), y0)) (br (ne (ni (len a0.2.1)) a0.1.1) (some (([], ([], [])), 12)) (br (ne (ni (len a0.2.2.1)) (ni (len a0.1.2.1))) (some (([], ([], [])), 12)) (br (ne (ni (len a0.2.2.2)) (ni (len a0.1.2.2.2))) (some (([], ([], [])), 12)) (ob (F_aig_Run (a0.1.1, (a0.1.2.1, (a0.1.2.2.1, a0.1.2.2.2))) a1) fun y1 => (br (ne y1.2.2 0) (some (([], ([], [])), y1.2.2)) (ob (F_slices_Concat_string_string ([a0.2.1, a0.2.2.1, a0.2.2.2] : (List LStr))) fun y2 => (oj (iterS (F_trace_Wave_l0 a0 a1 y0 y1 y2) (0, ([], ()))) fun y3 => (oj (iterS (F_trace_Wave_l1 a0 a1 y0 y1 y2 y3) (0, ([], ([], ())))) fun y10 => (some ((([49, 110, 115] : Str), (y3.2.1, y10.2.2.1)), 0))))))))))))
def F_stringslite_HasSuffix (a0 : Str) (a1 : Str) : (Option Bool) :=
 (br (le (ni (len a1)) (ni (len a0))) (br (rg (wr .i64 (sb (ni (len a0)) (ni (len a1)))) (ni (len a0)) (ni (len a0))) (some (sq (cut a0 (tn (wr .i64 (sb (ni (len a0)) (ni (len a1))))) (nsub (tn (ni (len a0))) (tn (wr .i64 (sb (ni (len a0)) (ni (len a1))))))) a1)) none) (some false))
def F_stringslite_CutSuffix (a0 : Str) (a1 : Str) : (Option (Str × Bool)) :=
 (ob (F_stringslite_HasSuffix a0 a1) fun y0 => (br (nt y0) (some (a0, false)) (br (rg 0 (wr .i64 (sb (ni (len a0)) (ni (len a1)))) (ni (len a0))) (some ((cut a0 0 (tn (wr .i64 (sb (ni (len a0)) (ni (len a1)))))), true)) none)))
def F_strings_CutSuffix (a0 : Str) (a1 : Str) : (Option (Str × Bool)) :=
 (ob (F_stringslite_CutSuffix a0 a1) fun y0 => (some (y0.1, y0.2)))
def F_vcd_unit_l0 (a0 : Str) (st0 : (Int × Unit)) : (Option ((Int × Unit) ⊕ ((Int × Unit) ⊕ Bool))) :=
 (br (lt st0.1 (ni (len ([([109, 115] : Str), ([117, 115] : Str), ([110, 115] : Str), ([112, 115] : Str), ([102, 115] : Str), ([115] : Str)] : LStr)))) (br (ix st0.1 (ni (len ([([109, 115] : Str), ([117, 115] : Str), ([110, 115] : Str), ([112, 115] : Str), ([102, 115] : Str), ([115] : Str)] : LStr)))) (ob (F_strings_CutSuffix a0 (rd ([([109, 115] : Str), ([117, 115] : Str), ([110, 115] : Str), ([112, 115] : Str), ([102, 115] : Str), ([115] : Str)] : LStr) (tn st0.1) [])) fun y0 => (br y0.2 (br (sq y0.1 ([49] : Str)) (inR (some (.inr true))) (br (sq y0.1 ([49, 48] : Str)) (inR (some (.inr true))) (inR (some (.inr (sq y0.1 ([49, 48, 48] : Str))))))) (some (.inl ((wr .i64 (ad st0.1 1)), ()))))) none) (some (.inr (.inl (st0.1, ())))))
def F_vcd_unit (a0 : Str) : (Option Bool) :=
 (oj (iterS (F_vcd_unit_l0 a0) (0, ())) fun y1 => (some false))
def F_vcd_named_1 (a0 : Int) : (Option Bool) :=
 (br (lt a0 33) (some true) (some (lt 126 a0)))
def F_vcd_named_l0 (a0 : Str) (st0 : (Nat × Unit)) : (Option ((Nat × Unit) ⊕ ((Nat × Unit) ⊕ Bool))) :=
 (br (nlt st0.1 (len a0)) (ob (F_vcd_named_1 (rune a0 st0.1)) fun y0 => (br (bq y0 true) (inR (some (.inr (nt (le 0 (ni st0.1)))))) (some (.inl ((nadd st0.1 (runw a0 st0.1)), ()))))) (some (.inr (.inl (st0.1, ())))))
def F_vcd_named (a0 : Str) : (Option Bool) :=
 (br (nt (sq a0 [])) (br (le (ni (len a0)) 64) (oj (iterS (F_vcd_named_l0 a0) (0, ())) fun y1 => (some (nt (le 0 (-1))))) (some false)) (some false))
def F_vcd_checkVar_1 (a0 : Str) : (Option Bool) :=
 (ob (F_vcd_named a0) fun y0 => (some (nt y0)))

def F_slices_Equal_string_string_l0 (a0 : LStr) (a1 : LStr) (st0 : (Int × Unit)) : (Option ((Int × Unit) ⊕ ((Int × Unit) ⊕ Bool))) :=
 (br (lt st0.1 (ni (len a0))) (br (ix st0.1 (ni (len a0))) (br (ix st0.1 (ni (len a1))) (br (nt (sq (rd a0 (tn st0.1) []) (rd a1 (tn st0.1) []))) (inR (some (.inr false))) (some (.inl ((wr .i64 (ad st0.1 1)), ())))) none) none) (some (.inr (.inl (st0.1, ())))))
def F_slices_Equal_string_string (a0 : LStr) (a1 : LStr) : (Option Bool) :=
 (br (ne (ni (len a0)) (ni (len a1))) (some false) (oj (iterS (F_slices_Equal_string_string_l0 a0 a1) (0, ())) fun y0 => (some true)))
def F_vcd_same (a0 : TVar) (a1 : TVar) : (Option Bool) :=
 (br (sq a0.2.1 a1.2.1) (ob (F_slices_Equal_string_string a0.1 a1.1) fun y0 => (some y0)) (some false))
def F_vcd_checkVar_l1 (a0 : TVar) (a1 : (List TVar)) (st0 : (Int × Unit)) (y0 : Bool) (y1 : Bool) (st1 : (Int × Unit)) : (Option ((Int × Unit) ⊕ ((Int × Unit) ⊕ Int))) :=
 (br (lt st1.1 (ni (len a1))) (br (ix st1.1 (ni (len a1))) (ob (F_vcd_same ((rd a1 (tn st1.1) ([], ([], 0))).1, ((rd a1 (tn st1.1) ([], ([], 0))).2.1, (rd a1 (tn st1.1) ([], ([], 0))).2.2)) (a0.1, (a0.2.1, a0.2.2))) fun y2 => (br y2 (inR (inR (br (le 0 st1.1) (some 10) (some 0)))) (some (.inl ((wr .i64 (ad st1.1 1)), ()))))) none) (some (.inr (.inl (st1.1, ())))))
def F_vcd_checkVar_l0 (a0 : TVar) (a1 : (List TVar)) (st0 : (Int × Unit)) : (Option ((Int × Unit) ⊕ ((Int × Unit) ⊕ Int))) :=
 (br (lt st0.1 (ni (len a0.1))) (br (ix st0.1 (ni (len a0.1))) (ob (F_vcd_checkVar_1 (rd a0.1 (tn st0.1) [])) fun y0 => (br y0 (inR (inR (br (le 0 st0.1) (some 9) (ob (F_vcd_named a0.2.1) fun y1 => (br (nt y1) (some 9) (oj (iterS (F_vcd_checkVar_l1 a0 a1 st0 y0 y1) (0, ())) fun y3 => (some 0))))))) (some (.inl ((wr .i64 (ad st0.1 1)), ()))))) none) (some (.inr (.inl (st0.1, ())))))
def F_vcd_checkVar_l2 (a0 : TVar) (a1 : (List TVar)) (y4 : (Int × Unit)) (y5 : Bool) (st2 : (Int × Unit)) : (Option ((Int × Unit) ⊕ ((Int × Unit) ⊕ Int))) :=
 (br (lt st2.1 (ni (len a1))) (br (ix st2.1 (ni (len a1))) (ob (F_vcd_same ((rd a1 (tn st2.1) ([], ([], 0))).1, ((rd a1 (tn st2.1) ([], ([], 0))).2.1, (rd a1 (tn st2.1) ([], ([], 0))).2.2)) (a0.1, (a0.2.1, a0.2.2))) fun y6 => (br y6 (inR (inR (br (le 0 st2.1) (some 10) (some 0)))) (some (.inl ((wr .i64 (ad st2.1 1)), ()))))) none) (some (.inr (.inl (st2.1, ())))))
def F_vcd_checkVar (a0 : TVar) (a1 : (List TVar)) : (Option Int) :=
 (br (lt a0.2.2 1) (some 12) (br (lt 128 a0.2.2) (some 12) (br (lt 8 (ni (len a0.1))) (some 5) (oj (iterS (F_vcd_checkVar_l0 a0 a1) (0, ())) fun y4 => (ob (F_vcd_named a0.2.1) fun y5 => (br (nt y5) (some 9) (oj (iterS (F_vcd_checkVar_l2 a0 a1 y4 y5) (0, ())) fun y7 => (some 0))))))))
def F_vcd_Check_l0 (a0 : TWave) (y0 : Bool) (st0 : (Int × Unit)) : (Option ((Int × Unit) ⊕ ((Int × Unit) ⊕ Int))) :=
 (br (lt st0.1 (ni (len a0.2.1))) (br (ix st0.1 (ni (len a0.2.1))) (br (rg 0 st0.1 (ni (len a0.2.1))) (ob (F_vcd_checkVar ((rd a0.2.1 (tn st0.1) ([], ([], 0))).1, ((rd a0.2.1 (tn st0.1) ([], ([], 0))).2.1, (rd a0.2.1 (tn st0.1) ([], ([], 0))).2.2)) (cut a0.2.1 0 (tn st0.1))) fun y1 => (br (ne y1 0) (inR (some (.inr y1))) (some (.inl ((wr .i64 (ad st0.1 1)), ()))))) none) none) (some (.inr (.inl (st0.1, ())))))
def F_vcd_Check_l1 (a0 : TWave) (y0 : Bool) (y2 : (Int × Unit)) (st1 : (Int × (Int × Unit))) : (Option ((Int × (Int × Unit)) ⊕ ((Int × (Int × Unit)) ⊕ Int))) :=
 (br (lt st1.1 (ni (len a0.2.2))) (br (ix st1.1 (ni (len a0.2.2))) (br (lt (rd a0.2.2 (tn st1.1) (0, (0, []))).1 0) (inR (some (.inr 1))) (br (lt 1000000000000 (rd a0.2.2 (tn st1.1) (0, (0, []))).1) (inR (some (.inr 1))) (br (lt (rd a0.2.2 (tn st1.1) (0, (0, []))).2.1 0) (inR (some (.inr 1))) (br (le (ni (len a0.2.1)) (rd a0.2.2 (tn st1.1) (0, (0, []))).2.1) (inR (some (.inr 1))) (br (ix (rd a0.2.2 (tn st1.1) (0, (0, []))).2.1 (ni (len a0.2.1))) (br (ne (ni (len (rd a0.2.2 (tn st1.1) (0, (0, []))).2.2)) (rd a0.2.1 (tn (rd a0.2.2 (tn st1.1) (0, (0, []))).2.1) ([], ([], 0))).2.2) (inR (some (.inr 12))) (ob (F_strings_Trim (rd a0.2.2 (tn st1.1) (0, (0, []))).2.2 ([48, 49, 120, 122] : Str)) fun y3 => (br (nt (sq y3 [])) (inR (some (.inr 3))) (br (lt (rd a0.2.2 (tn st1.1) (0, (0, []))).1 st1.2.1) (inR (some (.inr 22))) (some (.inl ((wr .i64 (ad st1.1 1)), ((rd a0.2.2 (tn st1.1) (0, (0, []))).1, ())))))))) none))))) none) (some (.inr (.inl (st1.1, (st1.2.1, ()))))))
def F_vcd_Check (a0 : TWave) : (Option Int) :=
 (ob (F_vcd_unit a0.1) fun y0 => (br (nt y0) (some 3) (br (lt 256 (ni (len a0.2.1))) (some 5) (br (lt 4096 (ni (len a0.2.2))) (some 5) (oj (iterS (F_vcd_Check_l0 a0 y0) (0, ())) fun y2 => (oj (iterS (F_vcd_Check_l1 a0 y0 y2) (0, (0, ()))) fun y4 => (some 0)))))))
def F_vcd_initial_l0 (a0 : TWave) (st0 : (Int × (LStr × Unit))) : (Option ((Int × (LStr × Unit)) ⊕ ((Int × (LStr × Unit)) ⊕ LStr))) :=
 (br (lt st0.1 (ni (len a0.2.1))) (br (ix st0.1 (ni (len a0.2.1))) (ob (F_strings_Repeat ([120] : Str) (rd a0.2.1 (tn st0.1) ([], ([], 0))).2.2) fun y0 => (br (ix st0.1 (ni (len st0.2.1))) (some (.inl ((wr .i64 (ad st0.1 1)), ((put st0.2.1 (tn st0.1) y0), ())))) none)) none) (some (.inr (.inl (st0.1, (st0.2.1, ()))))))
def F_vcd_initial (a0 : TWave) : (Option LStr) :=
 (br (rg 0 (ni (len a0.2.1)) (ni (len a0.2.1))) (br (le (ni (len a0.2.1)) 281474976710656) (br (le (ml 16 (ni (len a0.2.1))) 281474976710656) (oj (iterS (F_vcd_initial_l0 a0) (0, ((rept (tn (ni (len a0.2.1))) ([] : Str)), ()))) fun y1 => (some y1.2.1)) none) none) none)
def F_vcd_Normal_l0 (a0 : TWave) (y0 : Int) (st0 : (Int × ((List TVar) × Unit))) : (Option ((Int × ((List TVar) × Unit)) ⊕ ((Int × ((List TVar) × Unit)) ⊕ (TWave × Int)))) :=
 (br (lt st0.1 (ni (len a0.2.1))) (br (ix st0.1 (ni (len a0.2.1))) (ob (F_slices_Clone_string_string (rd a0.2.1 (tn st0.1) ([], ([], 0))).1) fun y1 => (br (fits (len st0.2.1) (len ([(y1, ((rd a0.2.1 (tn st0.1) ([], ([], 0))).2.1, (rd a0.2.1 (tn st0.1) ([], ([], 0))).2.2))] : (List TVar))) 2932031007402) (some (.inl ((wr .i64 (ad st0.1 1)), ((app st0.2.1 ([(y1, ((rd a0.2.1 (tn st0.1) ([], ([], 0))).2.1, (rd a0.2.1 (tn st0.1) ([], ([], 0))).2.2))] : (List TVar))), ())))) none)) none) (some (.inr (.inl (st0.1, (st0.2.1, ()))))))
def F_vcd_Normal_l2 (a0 : TWave) (y0 : Int) (y2 : (Int × ((List TVar) × Unit))) (y3 : LStr) (st1 : (Int × (LStr × ((List TChg) × Unit)))) (y4 : LStr) (st2 : (Int × (LStr × Unit))) : (Option ((Int × (LStr × Unit)) ⊕ ((Int × (LStr × Unit)) ⊕ ((Int × (LStr × ((List TChg) × Unit))) ⊕ ((Int × (LStr × ((List TChg) × Unit))) ⊕ (TWave × Int)))))) :=
 (br (lt st2.1 (ni (len a0.2.2))) (br (ix st2.1 (ni (len a0.2.2))) (br (eq (rd a0.2.2 (tn st2.1) (0, (0, []))).1 (rd a0.2.2 (tn st1.1) (0, (0, []))).1) (br (ix st2.1 (ni (len a0.2.2))) (br (ix st2.1 (ni (len a0.2.2))) (br (ix (rd a0.2.2 (tn st2.1) (0, (0, []))).2.1 (ni (len st2.2.1))) (some (.inl ((wr .i64 (ad st2.1 1)), ((put st2.2.1 (tn (rd a0.2.2 (tn st2.1) (0, (0, []))).2.1) (rd a0.2.2 (tn st2.1) (0, (0, []))).2.2), ())))) none) none) none) (some (.inr (.inl (st2.1, (st2.2.1, ())))))) none) (some (.inr (.inl (st2.1, (st2.2.1, ()))))))
def F_vcd_Normal_l3 (a0 : TWave) (y0 : Int) (y2 : (Int × ((List TVar) × Unit))) (y3 : LStr) (st1 : (Int × (LStr × ((List TChg) × Unit)))) (y4 : LStr) (y5 : (Int × (LStr × Unit))) (st3 : (Int × ((List TChg) × Unit))) : (Option ((Int × ((List TChg) × Unit)) ⊕ ((Int × ((List TChg) × Unit)) ⊕ ((Int × (LStr × ((List TChg) × Unit))) ⊕ ((Int × (LStr × ((List TChg) × Unit))) ⊕ (TWave × Int)))))) :=
 (br (lt st3.1 (ni (len y5.2.1))) (br (ix st3.1 (ni (len y5.2.1))) (br (ix st3.1 (ni (len y4))) (br (nt (sq (rd y5.2.1 (tn st3.1) []) (rd y4 (tn st3.1) []))) (br (ix st3.1 (ni (len y5.2.1))) (br (fits (len st3.2.1) (len ([((rd a0.2.2 (tn st1.1) (0, (0, []))).1, (st3.1, (rd y5.2.1 (tn st3.1) [])))] : (List TChg))) 4398046511104) (some (.inl ((wr .i64 (ad st3.1 1)), ((app st3.2.1 ([((rd a0.2.2 (tn st1.1) (0, (0, []))).1, (st3.1, (rd y5.2.1 (tn st3.1) [])))] : (List TChg))), ())))) none) none) (some (.inl ((wr .i64 (ad st3.1 1)), (st3.2.1, ()))))) none) none) (some (.inr (.inl (st3.1, (st3.2.1, ()))))))
def F_vcd_Normal_l1 (a0 : TWave) (y0 : Int) (y2 : (Int × ((List TVar) × Unit))) (y3 : LStr) (st1 : (Int × (LStr × ((List TChg) × Unit)))) : (Option ((Int × (LStr × ((List TChg) × Unit))) ⊕ ((Int × (LStr × ((List TChg) × Unit))) ⊕ (TWave × Int)))) :=
 (br (lt st1.1 (ni (len a0.2.2))) (br (ix st1.1 (ni (len a0.2.2))) (ob (F_slices_Clone_string_string st1.2.1) fun y4 => (oj (iterS (F_vcd_Normal_l2 a0 y0 y2 y3 st1 y4) (st1.1, (st1.2.1, ()))) fun y5 => (oj (iterS (F_vcd_Normal_l3 a0 y0 y2 y3 st1 y4 y5) (0, (st1.2.2.1, ()))) fun y6 => (some (.inl (y5.1, (y5.2.1, (y6.2.1, ())))))))) none) (some (.inr (.inl (st1.1, (st1.2.1, (st1.2.2.1, ())))))))
def F_vcd_Normal (a0 : TWave) : (Option (TWave × Int)) :=
 (ob (F_vcd_Check (a0.1, (a0.2.1, a0.2.2))) fun y0 => (br (ne y0 0) (some (([], ([], [])), y0)) (oj (iterS (F_vcd_Normal_l0 a0 y0) (0, ([], ()))) fun y2 => (ob (F_vcd_initial (a0.1, (a0.2.1, a0.2.2))) fun y3 => (oj (iterS (F_vcd_Normal_l1 a0 y0 y2 y3) (0, (y3, ([], ())))) fun y7 => (some ((a0.1, (y2.2.1, y7.2.2.1)), 0)))))))
def F_vcd_Diff_1 (a0 : TVar) (a1 : TVar) : (Option Bool) :=
 (ob (F_vcd_same (a0.1, (a0.2.1, a0.2.2)) (a1.1, (a1.2.1, a1.2.2))) fun y0 => (br y0 (some (eq a0.2.2 a1.2.2)) (some false)))
def F_slices_Concat_Change_Change_l0 (a0 : (List (List TChg))) (st0 : (Int × (Int × Unit))) : (Option ((Int × (Int × Unit)) ⊕ ((Int × (Int × Unit)) ⊕ (List TChg)))) :=
 (br (lt st0.1 (ni (len a0))) (br (ix st0.1 (ni (len a0))) (br (lt (wr .i64 (ad st0.2.1 (ni (len (rd a0 (tn st0.1) []))))) 0) none (some (.inl ((wr .i64 (ad st0.1 1)), ((wr .i64 (ad st0.2.1 (ni (len (rd a0 (tn st0.1) []))))), ()))))) none) (some (.inr (.inl (st0.1, (st0.2.1, ()))))))
def F_slices_Concat_Change_Change_l1 (a0 : (List (List TChg))) (y0 : (Int × (Int × Unit))) (st1 : (Int × ((List TChg) × Unit))) : (Option ((Int × ((List TChg) × Unit)) ⊕ ((Int × ((List TChg) × Unit)) ⊕ (List TChg)))) :=
 (br (lt st1.1 (ni (len a0))) (br (ix st1.1 (ni (len a0))) (br (fits (len st1.2.1) (len (rd a0 (tn st1.1) [])) 4398046511104) (some (.inl ((wr .i64 (ad st1.1 1)), ((app st1.2.1 (rd a0 (tn st1.1) [])), ())))) none) none) (some (.inr (.inl (st1.1, (st1.2.1, ()))))))
def F_slices_Concat_Change_Change_l2 (a0 : (List (List TChg))) (y0 : (Int × (Int × Unit))) (st2 : (Int × ((List TChg) × Unit))) : (Option ((Int × ((List TChg) × Unit)) ⊕ ((Int × ((List TChg) × Unit)) ⊕ (List TChg)))) :=
 (br (lt st2.1 (ni (len a0))) (br (ix st2.1 (ni (len a0))) (br (fits (len st2.2.1) (len (rd a0 (tn st2.1) [])) 4398046511104) (some (.inl ((wr .i64 (ad st2.1 1)), ((app st2.2.1 (rd a0 (tn st2.1) [])), ())))) none) none) (some (.inr (.inl (st2.1, (st2.2.1, ()))))))
def F_slices_Concat_Change_Change (a0 : (List (List TChg))) : (Option (List TChg)) :=
 (oj (iterS (F_slices_Concat_Change_Change_l0 a0) (0, (0, ()))) fun y0 => (br (lt y0.2.1 0) none (br (lt 0 (wr .i64 (sb y0.2.1 (wr .i64 (sb 0 (ni 0)))))) (br (lt 0 (wr .i64 (sb y0.2.1 (wr .i64 (sb 0 (ni 0)))))) (br (fits 0 (tn (wr .i64 (sb y0.2.1 (wr .i64 (sb 0 (ni 0)))))) 4398046511104) (br (rg 0 (ni 0) (ni (len (rept (tn (wr .i64 (sb y0.2.1 (wr .i64 (sb 0 (ni 0)))))) ((0, (0, [])) : TChg))))) (oj (iterS (F_slices_Concat_Change_Change_l1 a0 y0) (0, ((cut (rept (tn (wr .i64 (sb y0.2.1 (wr .i64 (sb 0 (ni 0)))))) ((0, (0, [])) : TChg)) 0 (tn (ni 0))), ()))) fun y1 => (some y1.2.1)) none) none) none) (oj (iterS (F_slices_Concat_Change_Change_l2 a0 y0) (0, ([], ()))) fun y2 => (some y2.2.1)))))
def F_vcd_Diff_l0 (a0 : TWave) (a1 : TWave) (y0 : (TWave × Int)) (y1 : (TWave × Int)) (st0 : (Int × Unit)) : (Option ((Int × Unit) ⊕ ((Int × Unit) ⊕ (Int × (Int × (Bool × Int)))))) :=
 (br (lt st0.1 (ni (len y0.1.2.1))) (br (ix st0.1 (ni (len y0.1.2.1))) (br (ix st0.1 (ni (len y1.1.2.1))) (ob (F_vcd_Diff_1 ((rd y0.1.2.1 (tn st0.1) ([], ([], 0))).1, ((rd y0.1.2.1 (tn st0.1) ([], ([], 0))).2.1, (rd y0.1.2.1 (tn st0.1) ([], ([], 0))).2.2)) ((rd y1.1.2.1 (tn st0.1) ([], ([], 0))).1, ((rd y1.1.2.1 (tn st0.1) ([], ([], 0))).2.1, (rd y1.1.2.1 (tn st0.1) ([], ([], 0))).2.2))) fun y2 => (br (nt y2) (inR (some (.inr (0, (0, (false, 12)))))) (some (.inl ((wr .i64 (ad st0.1 1)), ()))))) none) none) (some (.inr (.inl (st0.1, ())))))
def F_vcd_Diff_l1 (a0 : TWave) (a1 : TWave) (y0 : (TWave × Int)) (y1 : (TWave × Int)) (y3 : (Int × Unit)) (st1 : (Int × Unit)) : (Option ((Int × Unit) ⊕ ((Int × Unit) ⊕ (Int × (Int × (Bool × Int)))))) :=
 (br (lt st1.1 (ni (len y0.1.2.2))) (br (lt st1.1 (ni (len y1.1.2.2))) (br (ix st1.1 (ni (len y0.1.2.2))) (br (ix st1.1 (ni (len y1.1.2.2))) (br (ba (eq (rd y0.1.2.2 (tn st1.1) (0, (0, []))).1 (rd y1.1.2.2 (tn st1.1) (0, (0, []))).1) (ba (eq (rd y0.1.2.2 (tn st1.1) (0, (0, []))).2.1 (rd y1.1.2.2 (tn st1.1) (0, (0, []))).2.1) (sq (rd y0.1.2.2 (tn st1.1) (0, (0, []))).2.2 (rd y1.1.2.2 (tn st1.1) (0, (0, []))).2.2))) (some (.inl ((wr .i64 (ad st1.1 1)), ()))) (some (.inr (.inl (st1.1, ()))))) none) none) (some (.inr (.inl (st1.1, ()))))) (some (.inr (.inl (st1.1, ())))))
def F_vcd_Diff (a0 : TWave) (a1 : TWave) : (Option (Int × (Int × (Bool × Int)))) :=
 (ob (F_vcd_Normal (a0.1, (a0.2.1, a0.2.2))) fun y0 => (br (ne y0.2 0) (some (0, (0, (false, y0.2)))) (ob (F_vcd_Normal (a1.1, (a1.2.1, a1.2.2))) fun y1 => (br (ne y1.2 0) (some (0, (0, (false, y1.2)))) (br (nt (sq y0.1.1 y1.1.1)) (some (0, (0, (false, 12)))) (br (ne (ni (len y0.1.2.1)) (ni (len y1.1.2.1))) (some (0, (0, (false, 12)))) (oj (iterS (F_vcd_Diff_l0 a0 a1 y0 y1) (0, ())) fun y3 => (oj (iterS (F_vcd_Diff_l1 a0 a1 y0 y1 y3) (0, ())) fun y4 => (br (rg y4.1 (mn (wr .i64 (ad y4.1 1)) (ni (len y0.1.2.2))) (ni (len y0.1.2.2))) (br (rg y4.1 (mn (wr .i64 (ad y4.1 1)) (ni (len y1.1.2.2))) (ni (len y1.1.2.2))) (ob (F_slices_Concat_Change_Change ([(cut y0.1.2.2 (tn y4.1) (nsub (tn (mn (wr .i64 (ad y4.1 1)) (ni (len y0.1.2.2)))) (tn y4.1))), (cut y1.1.2.2 (tn y4.1) (nsub (tn (mn (wr .i64 (ad y4.1 1)) (ni (len y1.1.2.2)))) (tn y4.1)))] : (List (List TChg)))) fun y5 => (br (eq (ni (len y5)) 0) (some (0, (0, (false, 0)))) (br (ix 0 (ni (len y5))) (br (ix (wr .i64 (sb (ni (len y5)) 1)) (ni (len y5))) (br (lt (rd y5 (tn (wr .i64 (sb (ni (len y5)) 1))) (0, (0, []))).1 (rd y5 (tn 0) (0, (0, []))).1) (some ((rd y5 (tn (wr .i64 (sb (ni (len y5)) 1))) (0, (0, []))).1, ((rd y5 (tn (wr .i64 (sb (ni (len y5)) 1))) (0, (0, []))).2.1, (true, 0)))) (br (eq (rd y5 (tn (wr .i64 (sb (ni (len y5)) 1))) (0, (0, []))).1 (rd y5 (tn 0) (0, (0, []))).1) (br (lt (rd y5 (tn (wr .i64 (sb (ni (len y5)) 1))) (0, (0, []))).2.1 (rd y5 (tn 0) (0, (0, []))).2.1) (some ((rd y5 (tn (wr .i64 (sb (ni (len y5)) 1))) (0, (0, []))).1, ((rd y5 (tn (wr .i64 (sb (ni (len y5)) 1))) (0, (0, []))).2.1, (true, 0)))) (some ((rd y5 (tn 0) (0, (0, []))).1, ((rd y5 (tn 0) (0, (0, []))).2.1, (true, 0))))) (some ((rd y5 (tn 0) (0, (0, []))).1, ((rd y5 (tn 0) (0, (0, []))).2.1, (true, 0)))))) none) none))) none) none)))))))))
def F_vcd_At_l1 (a0 : TWave) (a1 : Int) (a2 : Int) (y0 : Int) (y1 : LStr) (y2 : LStr) (st0 : (Int × (LStr × (Str × Unit)))) (y3 : LStr) (st1 : (Int × (LStr × Unit))) : (Option ((Int × (LStr × Unit)) ⊕ ((Int × (LStr × Unit)) ⊕ ((Int × (LStr × (Str × Unit))) ⊕ ((Int × (LStr × (Str × Unit))) ⊕ (Str × Int)))))) :=
 (br (lt st1.1 (ni (len a0.2.2))) (br (ix st1.1 (ni (len a0.2.2))) (br (eq (rd a0.2.2 (tn st1.1) (0, (0, []))).1 (rd a0.2.2 (tn st0.1) (0, (0, []))).1) (br (ix st1.1 (ni (len a0.2.2))) (br (ix st1.1 (ni (len a0.2.2))) (br (ix (rd a0.2.2 (tn st1.1) (0, (0, []))).2.1 (ni (len st1.2.1))) (some (.inl ((wr .i64 (ad st1.1 1)), ((put st1.2.1 (tn (rd a0.2.2 (tn st1.1) (0, (0, []))).2.1) (rd a0.2.2 (tn st1.1) (0, (0, []))).2.2), ())))) none) none) none) (some (.inr (.inl (st1.1, (st1.2.1, ())))))) none) (some (.inr (.inl (st1.1, (st1.2.1, ()))))))
def F_vcd_At_l0 (a0 : TWave) (a1 : Int) (a2 : Int) (y0 : Int) (y1 : LStr) (y2 : LStr) (st0 : (Int × (LStr × (Str × Unit)))) : (Option ((Int × (LStr × (Str × Unit))) ⊕ ((Int × (LStr × (Str × Unit))) ⊕ (Str × Int)))) :=
 (br (lt st0.1 (ni (len a0.2.2))) (br (ix st0.1 (ni (len a0.2.2))) (ob (F_slices_Clone_string_string st0.2.1) fun y3 => (oj (iterS (F_vcd_At_l1 a0 a1 a2 y0 y1 y2 st0 y3) (st0.1, (st0.2.1, ()))) fun y4 => (br (le (rd a0.2.2 (tn st0.1) (0, (0, []))).1 a2) (br (ix a1 (ni (len y4.2.1))) (some (.inl (y4.1, (y4.2.1, ((rd y4.2.1 (tn a1) []), ()))))) none) (some (.inl (y4.1, (y4.2.1, (st0.2.2.1, ())))))))) none) (some (.inr (.inl (st0.1, (st0.2.1, (st0.2.2.1, ())))))))
def F_vcd_At (a0 : TWave) (a1 : Int) (a2 : Int) : (Option (Str × Int)) :=
 (ob (F_vcd_Check (a0.1, (a0.2.1, a0.2.2))) fun y0 => (br (ne y0 0) (some ([], y0)) (br (lt a1 0) (some ([], 1)) (br (le (ni (len a0.2.1)) a1) (some ([], 1)) (ob (F_vcd_initial (a0.1, (a0.2.1, a0.2.2))) fun y1 => (br (ix a1 (ni (len y1))) (ob (F_vcd_initial (a0.1, (a0.2.1, a0.2.2))) fun y2 => (oj (iterS (F_vcd_At_l0 a0 a1 a2 y0 y1 y2) (0, (y2, ((rd y1 (tn a1) []), ())))) fun y5 => (some (y5.2.2.1, 0)))) none))))))
def F_w36_TraceShows_l0 (a0 : TAig) (a1 : LI) (y0 : TAig) (y1 : LLB) (st0 : (Int × (LStr × (LStr × (LStr × Unit))))) : (Option ((Int × (LStr × (LStr × (LStr × Unit)))) ⊕ ((Int × (LStr × (LStr × (LStr × Unit)))) ⊕ Bool))) :=
 (br (lt st0.1 36) (ob (F_vcd_Id st0.1) fun y2 => (br (fits (len ([110] : Str)) (len y2) 9223372036854775807) (br (lt st0.1 y0.1) (br (fits (len st0.2.1) (len ([(app ([110] : Str) y2)] : LStr)) 8796093022208) (some (.inl ((wr .i64 (ad st0.1 1)), ((app st0.2.1 ([(app ([110] : Str) y2)] : LStr)), (st0.2.2.1, (st0.2.2.2.1, ())))))) none) (br (lt st0.1 (wr .i64 (ad y0.1 (ni (len y0.2.1))))) (br (fits (len st0.2.2.1) (len ([(app ([110] : Str) y2)] : LStr)) 8796093022208) (some (.inl ((wr .i64 (ad st0.1 1)), (st0.2.1, ((app st0.2.2.1 ([(app ([110] : Str) y2)] : LStr)), (st0.2.2.2.1, ())))))) none) (br (lt st0.1 (wr .i64 (ad (wr .i64 (ad y0.1 (ni (len y0.2.1)))) (ni (len y0.2.2.2))))) (br (fits (len st0.2.2.2.1) (len ([(app ([110] : Str) y2)] : LStr)) 8796093022208) (some (.inl ((wr .i64 (ad st0.1 1)), (st0.2.1, (st0.2.2.1, ((app st0.2.2.2.1 ([(app ([110] : Str) y2)] : LStr)), ())))))) none) (some (.inl ((wr .i64 (ad st0.1 1)), (st0.2.1, (st0.2.2.1, (st0.2.2.2.1, ()))))))))) none)) (some (.inr (.inl (st0.1, (st0.2.1, (st0.2.2.1, (st0.2.2.2.1, ()))))))))
def F_w36_TraceShows_l2 (a0 : TAig) (a1 : LI) (y0 : TAig) (y1 : LLB) (y3 : (Int × (LStr × (LStr × (LStr × Unit))))) (y4 : (TWave × Int)) (y5 : (TWave × Int)) (y6 : (Int × (Int × (Bool × Int)))) (y7 : (LLB × (LLB × Int))) (st1 : (Int × Unit)) (st2 : (Int × Unit)) : (Option ((Int × Unit) ⊕ ((Int × Unit) ⊕ ((Int × Unit) ⊕ ((Int × Unit) ⊕ Bool))))) :=
 (br (lt st2.1 (ni (len (app (app (rd y1 (tn st1.1) []) (rd y7.2.1 (tn st1.1) [])) (rd y7.1 (tn st1.1) []))))) (br (ix st2.1 (ni (len (app (app (rd y1 (tn st1.1) []) (rd y7.2.1 (tn st1.1) [])) (rd y7.1 (tn st1.1) []))))) (br (rd (app (app (rd y1 (tn st1.1) []) (rd y7.2.1 (tn st1.1) [])) (rd y7.1 (tn st1.1) [])) (tn st2.1) false) (ob (F_vcd_At (y4.1.1, (y4.1.2.1, y4.1.2.2)) st2.1 st1.1) fun y8 => (br (ne y8.2 0) (inR (inR (inR (some (.inr false))))) (br (nt (sq y8.1 ([49] : Str))) (inR (inR (inR (some (.inr false))))) (some (.inl ((wr .i64 (ad st2.1 1)), ())))))) (ob (F_vcd_At (y4.1.1, (y4.1.2.1, y4.1.2.2)) st2.1 st1.1) fun y9 => (br (ne y9.2 0) (inR (inR (inR (some (.inr false))))) (br (nt (sq y9.1 ([48] : Str))) (inR (inR (inR (some (.inr false))))) (some (.inl ((wr .i64 (ad st2.1 1)), ()))))))) none) (some (.inr (.inl (st2.1, ())))))
def F_w36_TraceShows_l1 (a0 : TAig) (a1 : LI) (y0 : TAig) (y1 : LLB) (y3 : (Int × (LStr × (LStr × (LStr × Unit))))) (y4 : (TWave × Int)) (y5 : (TWave × Int)) (y6 : (Int × (Int × (Bool × Int)))) (y7 : (LLB × (LLB × Int))) (st1 : (Int × Unit)) : (Option ((Int × Unit) ⊕ ((Int × Unit) ⊕ Bool))) :=
 (br (lt st1.1 (ni (len y1))) (br (ix st1.1 (ni (len y1))) (br (fits 0 (len (rd y1 (tn st1.1) [])) 140737488355328) (br (ix st1.1 (ni (len y7.2.1))) (br (fits (len (rd y1 (tn st1.1) [])) (len (rd y7.2.1 (tn st1.1) [])) 140737488355328) (br (ix st1.1 (ni (len y7.1))) (br (fits (len (app (rd y1 (tn st1.1) []) (rd y7.2.1 (tn st1.1) []))) (len (rd y7.1 (tn st1.1) [])) 140737488355328) (oj (iterS (F_w36_TraceShows_l2 a0 a1 y0 y1 y3 y4 y5 y6 y7 st1) (0, ())) fun y10 => (some (.inl ((wr .i64 (ad st1.1 1)), ())))) none) none) none) none) none) none) (some (.inr (.inl (st1.1, ())))))
def F_w36_TraceShows (a0 : TAig) (a1 : LI) : (Option Bool) :=
 (ob (F_r20_Fit (a0.1, (a0.2.1, (a0.2.2.1, a0.2.2.2))) 12) fun y0 => (ob (F_w36_cycles (y0.1, (y0.2.1, (y0.2.2.1, y0.2.2.2))) a1) fun y1 => (oj (iterS (F_w36_TraceShows_l0 a0 a1 y0 y1) (0, ([], ([], ([], ()))))) fun y3 => (ob (F_trace_Wave ((y0.1, (y0.2.1, (y0.2.2.1, y0.2.2.2))), (y3.2.1, (y3.2.2.1, y3.2.2.2.1))) y1) fun y4 => (ob (F_vcd_Normal (y4.1.1, (y4.1.2.1, y4.1.2.2))) fun y5 => (ob (F_vcd_Diff (y4.1.1, (y4.1.2.1, y4.1.2.2)) (y5.1.1, (y5.1.2.1, y5.1.2.2))) fun y6 => (ob (F_aig_Run (y0.1, (y0.2.1, (y0.2.2.1, y0.2.2.2))) y1) fun y7 => (br (ne y4.2 0) (some false) (br (ne y5.2 0) (some false) (br (ne y6.2.2.2 0) (some false) (br y6.2.2.1 (some false) (br (ne (ni (len y5.1.2.2)) (ni (len y4.1.2.2))) (some false) (br (ne y7.2.2 0) (some false) (br (ne (ni (len y7.1)) (ni (len y1))) (some false) (br (lt (ni (len y7.2.1)) (ni (len y1))) (some false) (oj (iterS (F_w36_TraceShows_l1 a0 a1 y0 y1 y3 y4 y5 y6 y7) (0, ())) fun y11 => (ob (F_w36_awake) fun y12 => (some y12))))))))))))))))))
def effs : Nat → Option (List TV → THp → Res) := fun _ => none
def L0 : List (Nat × FSpec) := [(14, ⟨[], [.bool], [.no], fun _ => F_w36_awake ⟩),
 (72, ⟨[.str, .str], [.str], [.no], fun x => F_strings_Trim x.1 x.2⟩),
 (85, ⟨[.str, (.int .i64)], [.str], [.no], fun x => F_strings_Repeat x.1 x.2⟩),
 (38, ⟨[(.slice .str)], [(.slice .str)], [.cp], fun x => F_slices_Clone_string_string x⟩)]
def L_r20_Bring : List (Nat × FSpec) := (30, ⟨[(.int .i64), (.int .i64)], [(.int .i64)], [.no], fun x => F_r20_Bring x.1 x.2⟩) :: L0
def L_r20_Nodes : List (Nat × FSpec) := (31, ⟨[TyA], [(.int .i64)], [.no], fun x => F_r20_Nodes x⟩) :: L_r20_Bring
def L_r20_Fit : List (Nat × FSpec) := (6, ⟨[TyA, (.int .i64)], [TyA], [.no], fun x => F_r20_Fit x.1 x.2⟩) :: L_r20_Nodes
def L_r20_Bits : List (Nat × FSpec) := (32, ⟨[(.int .u64), (.int .i64)], [(.slice .bool)], [.row 4], fun x => F_r20_Bits x.1 x.2⟩) :: L_r20_Fit
def L_w36_cycles : List (Nat × FSpec) := (7, ⟨[TyA, (.slice (.int .u64))], [(.slice (.slice .bool))], [.row 48], fun x => F_w36_cycles x.1 x.2⟩) :: L_r20_Bits
def L_vcd_Id : List (Nat × FSpec) := (8, ⟨[(.int .i64)], [.str], [.no], fun x => F_vcd_Id x⟩) :: L_w36_cycles
def L_aig_first : List (Nat × FSpec) := (78, ⟨[TyA], [(.int .i64)], [.no], fun x => F_aig_first x⟩) :: L_vcd_Id
def L_aig_size : List (Nat × FSpec) := (76, ⟨[TyA], [(.int .i64)], [.no], fun x => F_aig_size x⟩) :: L_aig_first
def L_aig_Check_1 : List (Nat × FSpec) := (77, ⟨[(.int .i64), (.int .i64)], [.bool], [.no], fun x => F_aig_Check_1 x.1 x.2⟩) :: L_aig_size
def L_aig_Check : List (Nat × FSpec) := (33, ⟨[TyA], [(.int .i64)], [.no], fun x => F_aig_Check x⟩) :: L_aig_Check_1
def L_aig_Start : List (Nat × FSpec) := (47, ⟨[TyA], [(.slice .bool)], [.row 4], fun x => F_aig_Start x⟩) :: L_aig_Check
def L_aig_values_of : List (Nat × FSpec) := (84, ⟨[(.slice .bool), (.int .i64)], [.bool], [.no], fun x => F_aig_values_of x.1 x.2⟩) :: L_aig_Start
def L_aig_ends : List (Nat × FSpec) := (48, ⟨[TyA, (.slice .bool)], [(.slice .bool), (.slice .bool)], [.row 4, .row 4], fun x => F_aig_ends x.1 x.2⟩) :: L_aig_values_of
def L_aig_all : List (Nat × FSpec) := (49, ⟨[TyA, (.slice .bool), (.slice .bool)], [(.slice .bool)], [.row 4], fun x => F_aig_all x.1 x.2.1 x.2.2⟩) :: L_aig_ends
def L_aig_Run : List (Nat × FSpec) := (12, ⟨[TyA, (.slice (.slice .bool))], [(.slice (.slice .bool)), (.slice (.slice .bool)), (.int .i64)], [.row 48, .row 48, .no], fun x => F_aig_Run x.1 x.2⟩) :: L_aig_all
def L_slices_Concat_string_string : List (Nat × FSpec) := (35, ⟨[(.slice (.slice .str))], [(.slice .str)], [.row 9], fun x => F_slices_Concat_string_string x⟩) :: L_aig_Run
def L_slices_Concat_bool_bool : List (Nat × FSpec) := (36, ⟨[(.slice (.slice .bool))], [(.slice .bool)], [.row 4], fun x => F_slices_Concat_bool_bool x⟩) :: L_slices_Concat_string_string
def L_trace_bit : List (Nat × FSpec) := (37, ⟨[.bool], [(.int .u8)], [.no], fun x => F_trace_bit x⟩) :: L_slices_Concat_bool_bool
def L_trace_Wave : List (Nat × FSpec) := (9, ⟨[(.st (.pair TyA (.pair (.slice .str) (.pair (.slice .str) (.slice .str))))), (.slice (.slice .bool))], [TyW, (.int .i64)], [.no, .no], fun x => F_trace_Wave x.1 x.2⟩) :: L_trace_bit
def L_stringslite_HasSuffix : List (Nat × FSpec) := (152, ⟨[.str, .str], [.bool], [.no], fun x => F_stringslite_HasSuffix x.1 x.2⟩) :: L_trace_Wave
def L_stringslite_CutSuffix : List (Nat × FSpec) := (135, ⟨[.str, .str], [.str, .bool], [.no, .no], fun x => F_stringslite_CutSuffix x.1 x.2⟩) :: L_stringslite_HasSuffix
def L_strings_CutSuffix : List (Nat × FSpec) := (106, ⟨[.str, .str], [.str, .bool], [.no, .no], fun x => F_strings_CutSuffix x.1 x.2⟩) :: L_stringslite_CutSuffix
def L_vcd_unit : List (Nat × FSpec) := (70, ⟨[.str], [.bool], [.no], fun x => F_vcd_unit x⟩) :: L_strings_CutSuffix
def L_vcd_named_1 : List (Nat × FSpec) := (137, ⟨[(.int .i32)], [.bool], [.no], fun x => F_vcd_named_1 x⟩) :: L_vcd_unit
def L_vcd_named : List (Nat × FSpec) := (109, ⟨[.str], [.bool], [.no], fun x => F_vcd_named x⟩) :: L_vcd_named_1
def L_vcd_checkVar_1 : List (Nat × FSpec) := (108, ⟨[.str], [.bool], [.no], fun x => F_vcd_checkVar_1 x⟩) :: L_vcd_named
def L_slices_Equal_string_string : List (Nat × FSpec) := (81, ⟨[(.slice .str), (.slice .str)], [.bool], [.no], fun x => F_slices_Equal_string_string x.1 x.2⟩) :: L_vcd_checkVar_1
def L_vcd_same : List (Nat × FSpec) := (42, ⟨[TyV, TyV], [.bool], [.no], fun x => F_vcd_same x.1 x.2⟩) :: L_slices_Equal_string_string
def L_vcd_checkVar : List (Nat × FSpec) := (71, ⟨[TyV, (.slice TyV)], [(.int .i64)], [.no], fun x => F_vcd_checkVar x.1 x.2⟩) :: L_vcd_same
def L_vcd_Check : List (Nat × FSpec) := (26, ⟨[TyW], [(.int .i64)], [.no], fun x => F_vcd_Check x⟩) :: L_vcd_checkVar
def L_vcd_initial : List (Nat × FSpec) := (50, ⟨[TyW], [(.slice .str)], [.row 9], fun x => F_vcd_initial x⟩) :: L_vcd_Check
def L_vcd_Normal : List (Nat × FSpec) := (10, ⟨[TyW], [TyW, (.int .i64)], [.no, .no], fun x => F_vcd_Normal x⟩) :: L_vcd_initial
def L_vcd_Diff_1 : List (Nat × FSpec) := (41, ⟨[TyV, TyV], [.bool], [.no], fun x => F_vcd_Diff_1 x.1 x.2⟩) :: L_vcd_Normal
def L_slices_Concat_Change_Change : List (Nat × FSpec) := (44, ⟨[(.slice (.slice TyC))], [(.slice TyC)], [.row 84], fun x => F_slices_Concat_Change_Change x⟩) :: L_vcd_Diff_1
def L_vcd_Diff : List (Nat × FSpec) := (11, ⟨[TyW, TyW], [(.int .i64), (.int .i64), .bool, (.int .i64)], [.no, .no, .no, .no], fun x => F_vcd_Diff x.1 x.2⟩) :: L_slices_Concat_Change_Change
def L_vcd_At : List (Nat × FSpec) := (13, ⟨[TyW, (.int .i64), (.int .i64)], [.str, (.int .i64)], [.no, .no], fun x => F_vcd_At x.1 x.2.1 x.2.2⟩) :: L_vcd_Diff
def L_w36_TraceShows : List (Nat × FSpec) := (3, ⟨[TyA, (.slice (.int .u64))], [.bool], [.no], fun x => F_w36_TraceShows x.1 x.2⟩) :: L_vcd_At
end
end Go.Proofs.YtgpligmjbecbjaaGreatDoor
