/- What varies in the loops, laid variables; the functions, as the typed machine prints them; what was printed is what the typed machine comes to. -/

import Derived.Test.YtiiancghhloalaaGreatDoorIx
import Derived.Test.YtiiancghhloalaaGreatDoorTmList
set_option linter.unusedVariables false
set_option linter.unusedSimpArgs false
set_option linter.unusedSectionVars false
open Go Go.AM Go.TM
namespace Go.Proofs.YtiiancghhloalaaGreatDoor
noncomputable section
abbrev TAig : Type := (Int × ((List (Int × Int)) × ((List (Int × Int)) × (List Int))))
abbrev LI : Type := (List Int)
abbrev LLI : Type := (List LI)
abbrev LB : Type := (List Bool)
abbrev LLB : Type := (List LB)
abbrev Str : Type := (List UInt8)
abbrev LStr : Type := (List Str)
def annL : List (List Nat × Nat × List Sh) := [([39], 1, [.val 33 (.int .i64)]),
 ([39], 3, [.val 60 (.int .i64)]),
 ([39], 5, [.val 80 (.int .i64)]),
 ([34], 0, [.val 16 (.int .i64), .own 3 .bool 4]),
 ([67], 0, [.val 13 (.int .i64), .own 4 .bool 4]),
 ([67], 2, [.val 27 (.int .i64), .own 5 .bool 4]),
 ([68], 0, [.val 21 (.int .i64), .own 7 .bool 4]),
 ([103, 65, 15], 0, [.val 8 (.int .i64)]),
 ([15], 0, [.val 32 (.int .i64), .val 8 (.deep .bool), .own 4 (.slice .bool) 49, .own 5 (.slice .bool) 49]),
 ([32], 0, [.val 5 (.int .i64)]),
 ([17], 0, [.val 5 (.int .i64)]),
 ([19], 0, [.val 7 (.int .i64), .ownC [5] 2 (.st (.pair (.int .i64) (.int .i64))) 68]),
 ([19], 2, [.val 10 (.int .i64), .ownC [5] 1 (.st (.pair (.int .i64) (.int .u8))) 62]),
 ([19], 4, [.val 11 (.int .i64), .ownC [5] 3 (.int .i64) 56]),
 ([29], 0, [.val 6 (.int .i64), .own 5 .bool 4]),
 ([7], 0, [.val 9 (.int .i64), .own 8 (.slice .bool) 49]),
 ([7], 2, [.val 18 (.int .i64), .ownC [17] 1 (.st (.pair (.int .i64) (.int .u8))) 62])]
def annJ : List (List Nat × Nat × List Sh) := []
def ann (c : List Nat) (b : Nat) : Option (List Sh) := cond (Nat.ble 999999 b) (findA c b annJ) (findA c b annL)
def gl : Nat → Option (List TV) := fun g => match g with
 | _ => none
def F_w20_awake : Option Bool := some true
def F_aig_first (a0 : TAig) : (Option Int) :=
 (some (wr .i64 (ad (wr .i64 (ad 1 a0.1)) (ni (len a0.2.1)))))

def F_aig_size (a0 : TAig) : (Option Int) :=
 (ob (F_aig_first (a0.1, (a0.2.1, (a0.2.2.1, a0.2.2.2)))) fun y0 => (some (wr .i64 (ad y0 (ni (len a0.2.2.1))))))
def F_aig_Check_1 (a0 : Int) (a1 : Int) : (Option Bool) :=
 (br (le 0 a0) (some (lt a0 (wr .i64 (ml 2 a1)))) (some false))
def F_aig_Check_l0 (a0 : TAig) (y0 : Int) (st0 : (Int × Unit)) : (Option ((Int × Unit) ⊕ ((Int × Unit) ⊕ Int))) :=
 (br (lt st0.1 (ni (len a0.2.2.1))) (br (ix st0.1 (ni (len a0.2.2.1))) (ob (F_aig_first (a0.1, (a0.2.1, (a0.2.2.1, a0.2.2.2)))) fun y1 => (ob (F_aig_Check_1 (rd a0.2.2.1 (tn st0.1) (0, 0)).1 (wr .i64 (ad y1 st0.1))) fun y2 => (br (nt y2) (inR (some (.inr 1))) (ob (F_aig_Check_1 (rd a0.2.2.1 (tn st0.1) (0, 0)).2 (wr .i64 (ad y1 st0.1))) fun y3 => (br (nt y3) (inR (some (.inr 1))) (some (.inl ((wr .i64 (ad st0.1 1)), ())))))))) none) (some (.inr (.inl (st0.1, ())))))
def F_aig_Check_l1 (a0 : TAig) (y0 : Int) (y4 : (Int × Unit)) (st1 : (Int × Unit)) : (Option ((Int × Unit) ⊕ ((Int × Unit) ⊕ Int))) :=
 (br (lt st1.1 (ni (len a0.2.1))) (br (ix st1.1 (ni (len a0.2.1))) (ob (F_aig_size (a0.1, (a0.2.1, (a0.2.2.1, a0.2.2.2)))) fun y5 => (ob (F_aig_Check_1 (rd a0.2.1 (tn st1.1) (0, 0)).1 y5) fun y6 => (br (nt y6) (inR (some (.inr 1))) (br (lt 1 (rd a0.2.1 (tn st1.1) (0, 0)).2) (inR (some (.inr 1))) (some (.inl ((wr .i64 (ad st1.1 1)), ()))))))) none) (some (.inr (.inl (st1.1, ())))))
def F_aig_Check_l2 (a0 : TAig) (y0 : Int) (y4 : (Int × Unit)) (y7 : (Int × Unit)) (st2 : (Int × Unit)) : (Option ((Int × Unit) ⊕ ((Int × Unit) ⊕ Int))) :=
 (br (lt st2.1 (ni (len a0.2.2.2))) (br (ix st2.1 (ni (len a0.2.2.2))) (ob (F_aig_size (a0.1, (a0.2.1, (a0.2.2.1, a0.2.2.2)))) fun y8 => (ob (F_aig_Check_1 (rd a0.2.2.2 (tn st2.1) 0) y8) fun y9 => (br (nt y9) (inR (some (.inr 1))) (some (.inl ((wr .i64 (ad st2.1 1)), ())))))) none) (some (.inr (.inl (st2.1, ())))))
def F_aig_Check (a0 : TAig) : (Option Int) :=
 (br (lt a0.1 0) (some 1) (br (lt 4096 a0.1) (some 5) (ob (F_aig_size (a0.1, (a0.2.1, (a0.2.2.1, a0.2.2.2)))) fun y0 => (br (lt 4096 y0) (some 5) (br (lt 4096 (ni (len a0.2.2.2))) (some 5) (oj (iterS (F_aig_Check_l0 a0 y0) (0, ())) fun y4 => (oj (iterS (F_aig_Check_l1 a0 y0 y4) (0, ())) fun y7 => (oj (iterS (F_aig_Check_l2 a0 y0 y4 y7) (0, ())) fun y10 => (some 0)))))))))
def F_aig_Start_l0 (a0 : TAig) (y0 : Int) (st0 : (Int × (LB × Unit))) : (Option ((Int × (LB × Unit)) ⊕ ((Int × (LB × Unit)) ⊕ LB))) :=
 (br (lt st0.1 (ni (len a0.2.1))) (br (ix st0.1 (ni (len a0.2.1))) (br (ix st0.1 (ni (len st0.2.1))) (some (.inl ((wr .i64 (ad st0.1 1)), ((put st0.2.1 (tn st0.1) (eq (rd a0.2.1 (tn st0.1) (0, 0)).2 1)), ())))) none) none) (some (.inr (.inl (st0.1, (st0.2.1, ()))))))
def F_aig_Start (a0 : TAig) : (Option LB) :=
 (ob (F_aig_Check (a0.1, (a0.2.1, (a0.2.2.1, a0.2.2.2)))) fun y0 => (br (ne y0 0) (some []) (br (rg 0 (ni (len a0.2.1)) (ni (len a0.2.1))) (br (le (ni (len a0.2.1)) 281474976710656) (br (le (ml 1 (ni (len a0.2.1))) 281474976710656) (oj (iterS (F_aig_Start_l0 a0 y0) (0, ((rept (tn (ni (len a0.2.1))) (false : Bool)), ()))) fun y1 => (some y1.2.1)) none) none) none)))
def F_aig_values_of (a0 : LB) (a1 : Int) : (Option Bool) :=
 (br (ix (shr .i64 a1 1) (ni (len a0))) (some (nt (bq (rd a0 (tn (shr .i64 a1 1)) false) (eq (band .i64 a1 1) 1)))) none)

def F_aig_ends_l0 (a0 : TAig) (a1 : LB) (st0 : (Int × (LB × Unit))) : (Option ((Int × (LB × Unit)) ⊕ ((Int × (LB × Unit)) ⊕ (LB × LB)))) :=
 (br (lt st0.1 (ni (len a0.2.2.2))) (br (ix st0.1 (ni (len a0.2.2.2))) (ob (F_aig_values_of a1 (rd a0.2.2.2 (tn st0.1) 0)) fun y0 => (br (fits (len st0.2.1) (len ([y0] : LB)) 140737488355328) (some (.inl ((wr .i64 (ad st0.1 1)), ((app st0.2.1 ([y0] : LB)), ())))) none)) none) (some (.inr (.inl (st0.1, (st0.2.1, ()))))))
def F_aig_ends_l1 (a0 : TAig) (a1 : LB) (y1 : (Int × (LB × Unit))) (st1 : (Int × (LB × Unit))) : (Option ((Int × (LB × Unit)) ⊕ ((Int × (LB × Unit)) ⊕ (LB × LB)))) :=
 (br (lt st1.1 (ni (len a0.2.1))) (br (ix st1.1 (ni (len a0.2.1))) (ob (F_aig_values_of a1 (rd a0.2.1 (tn st1.1) (0, 0)).1) fun y2 => (br (fits (len st1.2.1) (len ([y2] : LB)) 140737488355328) (some (.inl ((wr .i64 (ad st1.1 1)), ((app st1.2.1 ([y2] : LB)), ())))) none)) none) (some (.inr (.inl (st1.1, (st1.2.1, ()))))))
def F_aig_ends (a0 : TAig) (a1 : LB) : (Option (LB × LB)) :=
 (oj (iterS (F_aig_ends_l0 a0 a1) (0, ([], ()))) fun y1 => (oj (iterS (F_aig_ends_l1 a0 a1 y1) (0, ([], ()))) fun y3 => (some (y1.2.1, y3.2.1))))
def F_aig_all_l0 (a0 : TAig) (a1 : LB) (a2 : LB) (y0 : Int) (st0 : (Int × (LB × Unit))) : (Option ((Int × (LB × Unit)) ⊕ ((Int × (LB × Unit)) ⊕ LB))) :=
 (br (lt st0.1 (ni (len a0.2.2.1))) (br (ix st0.1 (ni (len a0.2.2.1))) (ob (F_aig_values_of st0.2.1 (rd a0.2.2.1 (tn st0.1) (0, 0)).1) fun y1 => (br y1 (ob (F_aig_values_of st0.2.1 (rd a0.2.2.1 (tn st0.1) (0, 0)).2) fun y2 => (br (fits (len st0.2.1) (len ([y2] : LB)) 140737488355328) (some (.inl ((wr .i64 (ad st0.1 1)), ((app st0.2.1 ([y2] : LB)), ())))) none)) (br (fits (len st0.2.1) (len ([false] : LB)) 140737488355328) (some (.inl ((wr .i64 (ad st0.1 1)), ((app st0.2.1 ([false] : LB)), ())))) none))) none) (some (.inr (.inl (st0.1, (st0.2.1, ()))))))
def F_aig_all (a0 : TAig) (a1 : LB) (a2 : LB) : (Option LB) :=
 (ob (F_aig_size (a0.1, (a0.2.1, (a0.2.2.1, a0.2.2.2)))) fun y0 => (br (rg 0 1 y0) (br (le y0 281474976710656) (br (le (ml 1 y0) 281474976710656) (br (fits (len (rept (tn 1) (false : Bool))) (len a1) 140737488355328) (br (fits (len (app (rept (tn 1) (false : Bool)) a1)) (len a2) 140737488355328) (oj (iterS (F_aig_all_l0 a0 a1 a2 y0) (0, ((app (app (rept (tn 1) (false : Bool)) a1) a2), ()))) fun y3 => (some y3.2.1)) none) none) none) none) none))
def F_aig_Run_l1 (a0 : TAig) (a1 : LLB) (y0 : Int) (st0 : (Int × Unit)) (y1 : LB) (st1 : (Int × (LB × (LLB × (LLB × Unit))))) : (Option ((Int × (LB × (LLB × (LLB × Unit)))) ⊕ ((Int × (LB × (LLB × (LLB × Unit)))) ⊕ (LLB × (LLB × Int))))) :=
 (br (lt st1.1 (ni (len a1))) (br (ix st1.1 (ni (len a1))) (ob (F_aig_all (a0.1, (a0.2.1, (a0.2.2.1, a0.2.2.2))) (rd a1 (tn st1.1) []) st1.2.1) fun y2 => (ob (F_aig_ends (a0.1, (a0.2.1, (a0.2.2.1, a0.2.2.2))) y2) fun y3 => (br (fits (len st1.2.2.1) (len ([y3.1] : LLB)) 5864062014805) (br (fits (len st1.2.2.2.1) (len ([y3.2] : LLB)) 5864062014805) (some (.inl ((wr .i64 (ad st1.1 1)), (y3.2, ((app st1.2.2.1 ([y3.1] : LLB)), ((app st1.2.2.2.1 ([y3.2] : LLB)), ())))))) none) none))) none) (some (.inr (.inl (st1.1, (st1.2.1, (st1.2.2.1, (st1.2.2.2.1, ()))))))))
def F_aig_Run_l0 (a0 : TAig) (a1 : LLB) (y0 : Int) (st0 : (Int × Unit)) : (Option ((Int × Unit) ⊕ ((Int × Unit) ⊕ (LLB × (LLB × Int))))) :=
 (br (lt st0.1 (ni (len a1))) (br (ix st0.1 (ni (len a1))) (br (ne (ni (len (rd a1 (tn st0.1) []))) a0.1) (inR (inR (br (le 0 st0.1) (some ([], ([], 12))) (ob (F_aig_Start (a0.1, (a0.2.1, (a0.2.2.1, a0.2.2.2)))) fun y1 => (br (fits 0 (len ([y1] : LLB)) 5864062014805) (oj (iterS (F_aig_Run_l1 a0 a1 y0 st0 y1) (0, (y1, ([], (([y1] : LLB), ()))))) fun y4 => (some (y4.2.2.1, (y4.2.2.2.1, 0)))) none))))) (some (.inl ((wr .i64 (ad st0.1 1)), ())))) none) (some (.inr (.inl (st0.1, ())))))
def F_aig_Run_l2 (a0 : TAig) (a1 : LLB) (y0 : Int) (y5 : (Int × Unit)) (y6 : LB) (st2 : (Int × (LB × (LLB × (LLB × Unit))))) : (Option ((Int × (LB × (LLB × (LLB × Unit)))) ⊕ ((Int × (LB × (LLB × (LLB × Unit)))) ⊕ (LLB × (LLB × Int))))) :=
 (br (lt st2.1 (ni (len a1))) (br (ix st2.1 (ni (len a1))) (ob (F_aig_all (a0.1, (a0.2.1, (a0.2.2.1, a0.2.2.2))) (rd a1 (tn st2.1) []) st2.2.1) fun y7 => (ob (F_aig_ends (a0.1, (a0.2.1, (a0.2.2.1, a0.2.2.2))) y7) fun y8 => (br (fits (len st2.2.2.1) (len ([y8.1] : LLB)) 5864062014805) (br (fits (len st2.2.2.2.1) (len ([y8.2] : LLB)) 5864062014805) (some (.inl ((wr .i64 (ad st2.1 1)), (y8.2, ((app st2.2.2.1 ([y8.1] : LLB)), ((app st2.2.2.2.1 ([y8.2] : LLB)), ())))))) none) none))) none) (some (.inr (.inl (st2.1, (st2.2.1, (st2.2.2.1, (st2.2.2.2.1, ()))))))))
def F_aig_Run (a0 : TAig) (a1 : LLB) : (Option (LLB × (LLB × Int))) :=
 (ob (F_aig_Check (a0.1, (a0.2.1, (a0.2.2.1, a0.2.2.2)))) fun y0 => (br (ne y0 0) (some ([], ([], y0))) (br (lt 64 (ni (len a1))) (some ([], ([], 5))) (oj (iterS (F_aig_Run_l0 a0 a1 y0) (0, ())) fun y5 => (ob (F_aig_Start (a0.1, (a0.2.1, (a0.2.2.1, a0.2.2.2)))) fun y6 => (br (fits 0 (len ([y6] : LLB)) 5864062014805) (oj (iterS (F_aig_Run_l2 a0 a1 y0 y5 y6) (0, (y6, ([], (([y6] : LLB), ()))))) fun y9 => (some (y9.2.2.1, (y9.2.2.2.1, 0)))) none))))))
def F_r20_EqBools_l0 (a0 : LB) (a1 : LB) (st0 : (Int × Unit)) : (Option ((Int × Unit) ⊕ ((Int × Unit) ⊕ Bool))) :=
 (br (lt st0.1 (ni (len a0))) (br (ix st0.1 (ni (len a0))) (br (ix st0.1 (ni (len a1))) (br (nt (bq (rd a0 (tn st0.1) false) (rd a1 (tn st0.1) false))) (inR (some (.inr false))) (some (.inl ((wr .i64 (ad st0.1 1)), ())))) none) none) (some (.inr (.inl (st0.1, ())))))
def F_r20_EqBools (a0 : LB) (a1 : LB) : (Option Bool) :=
 (br (ne (ni (len a0)) (ni (len a1))) (some false) (oj (iterS (F_r20_EqBools_l0 a0 a1) (0, ())) fun y0 => (some true)))
def F_r20_EqStates_l0 (a0 : LLB) (a1 : LLB) (st0 : (Int × Unit)) : (Option ((Int × Unit) ⊕ ((Int × Unit) ⊕ Bool))) :=
 (br (lt st0.1 (ni (len a0))) (br (ix st0.1 (ni (len a0))) (br (ix st0.1 (ni (len a1))) (ob (F_r20_EqBools (rd a0 (tn st0.1) []) (rd a1 (tn st0.1) [])) fun y0 => (br (nt y0) (inR (some (.inr false))) (some (.inl ((wr .i64 (ad st0.1 1)), ()))))) none) none) (some (.inr (.inl (st0.1, ())))))
def F_r20_EqStates (a0 : LLB) (a1 : LLB) : (Option Bool) :=
 (br (ne (ni (len a0)) (ni (len a1))) (some false) (oj (iterS (F_r20_EqStates_l0 a0 a1) (0, ())) fun y1 => (some true)))
def F_r20_Bring (a0 : Int) (a1 : Int) : (Option Int) :=
 (br (ne a1 0) (br (ne a1 0) (some (md (wr .i64 (ad (md a0 a1) a1)) a1)) none) none)
def F_r20_Nodes (a0 : TAig) : (Option Int) :=
 (some (wr .i64 (ad (wr .i64 (ad (wr .i64 (ad 1 a0.1)) (ni (len a0.2.1)))) (ni (len a0.2.2.1)))))
def F_r20_Fit_l0 (a0 : TAig) (a1 : Int) (y0 : Int) (st0 : (Int × ((List (Int × Int)) × Unit))) : (Option ((Int × ((List (Int × Int)) × Unit)) ⊕ ((Int × ((List (Int × Int)) × Unit)) ⊕ TAig))) :=
 (br (lt st0.1 (ni (len st0.2.1))) (br (ix st0.1 (ni (len st0.2.1))) (ob (F_r20_Bring (rd st0.2.1 (tn st0.1) (0, 0)).1 (wr .i64 (ml 2 (wr .i64 (ad (wr .i64 (ad (wr .i64 (ad 1 y0)) (ni (tn (mn (ni (len a0.2.1)) a1))))) st0.1))))) fun y1 => (br (ix st0.1 (ni (len st0.2.1))) (ob (F_r20_Bring (rd st0.2.1 (tn st0.1) (0, 0)).2 (wr .i64 (ml 2 (wr .i64 (ad (wr .i64 (ad (wr .i64 (ad 1 y0)) (ni (tn (mn (ni (len a0.2.1)) a1))))) st0.1))))) fun y2 => (br (ix st0.1 (ni (len st0.2.1))) (some (.inl ((wr .i64 (ad st0.1 1)), ((put st0.2.1 (tn st0.1) (y1, y2)), ())))) none)) none)) none) (some (.inr (.inl (st0.1, (st0.2.1, ()))))))
def F_r20_Fit_l1 (a0 : TAig) (a1 : Int) (y0 : Int) (y3 : (Int × ((List (Int × Int)) × Unit))) (y4 : Int) (st1 : (Int × ((List (Int × Int)) × Unit))) : (Option ((Int × ((List (Int × Int)) × Unit)) ⊕ ((Int × ((List (Int × Int)) × Unit)) ⊕ TAig))) :=
 (br (lt st1.1 (ni (len st1.2.1))) (br (ix st1.1 (ni (len st1.2.1))) (ob (F_r20_Bring (rd st1.2.1 (tn st1.1) (0, 0)).1 (wr .i64 (ml 2 y4))) fun y5 => (br (ix st1.1 (ni (len st1.2.1))) (br (ix st1.1 (ni (len st1.2.1))) (some (.inl ((wr .i64 (ad st1.1 1)), ((put st1.2.1 (tn st1.1) (y5, (md (rd st1.2.1 (tn st1.1) (0, 0)).2 2))), ())))) none) none)) none) (some (.inr (.inl (st1.1, (st1.2.1, ()))))))
def F_r20_Fit_l2 (a0 : TAig) (a1 : Int) (y0 : Int) (y3 : (Int × ((List (Int × Int)) × Unit))) (y4 : Int) (y6 : (Int × ((List (Int × Int)) × Unit))) (st2 : (Int × (LI × Unit))) : (Option ((Int × (LI × Unit)) ⊕ ((Int × (LI × Unit)) ⊕ TAig))) :=
 (br (lt st2.1 (ni (len st2.2.1))) (br (ix st2.1 (ni (len st2.2.1))) (ob (F_r20_Bring (rd st2.2.1 (tn st2.1) 0) (wr .i64 (ml 2 y4))) fun y7 => (br (ix st2.1 (ni (len st2.2.1))) (some (.inl ((wr .i64 (ad st2.1 1)), ((put st2.2.1 (tn st2.1) y7), ())))) none)) none) (some (.inr (.inl (st2.1, (st2.2.1, ()))))))
def F_r20_Fit (a0 : TAig) (a1 : Int) : (Option TAig) :=
 (br (fits 0 (len a0.2.1) 8796093022208) (br (fits 0 (len a0.2.2.1) 8796093022208) (br (fits 0 (len a0.2.2.2) 17592186044416) (br (rg 0 (mn (ni (len a0.2.1)) a1) (ni (len a0.2.1))) (br (rg 0 (mn (ni (len a0.2.2.1)) a1) (ni (len a0.2.2.1))) (br (rg 0 (mn (ni (len a0.2.2.2)) a1) (ni (len a0.2.2.2))) (ob (F_r20_Bring a0.1 (wr .i64 (ad a1 1))) fun y0 => (oj (iterS (F_r20_Fit_l0 a0 a1 y0) (0, ((cut a0.2.2.1 0 (tn (mn (ni (len a0.2.2.1)) a1))), ()))) fun y3 => (ob (F_r20_Nodes (y0, ((cut a0.2.1 0 (tn (mn (ni (len a0.2.1)) a1))), (y3.2.1, (cut a0.2.2.2 0 (tn (mn (ni (len a0.2.2.2)) a1))))))) fun y4 => (oj (iterS (F_r20_Fit_l1 a0 a1 y0 y3 y4) (0, ((cut a0.2.1 0 (tn (mn (ni (len a0.2.1)) a1))), ()))) fun y6 => (oj (iterS (F_r20_Fit_l2 a0 a1 y0 y3 y4 y6) (0, ((cut a0.2.2.2 0 (tn (mn (ni (len a0.2.2.2)) a1))), ()))) fun y8 => (some (y0, (y6.2.1, (y3.2.1, y8.2.1))))))))) none) none) none) none) none) none)
def F_r20_Bits_l0 (a0 : Int) (a1 : Int) (st0 : (Int × (LB × Unit))) : (Option ((Int × (LB × Unit)) ⊕ ((Int × (LB × Unit)) ⊕ LB))) :=
 (br (lt st0.1 a1) (br (le 0 (md st0.1 64)) (br (fits (len st0.2.1) (len ([(eq (md (shr .u64 a0 (md st0.1 64)) 2) 1)] : LB)) 140737488355328) (some (.inl ((wr .i64 (ad st0.1 1)), ((app st0.2.1 ([(eq (md (shr .u64 a0 (md st0.1 64)) 2) 1)] : LB)), ())))) none) none) (some (.inr (.inl (st0.1, (st0.2.1, ()))))))
def F_r20_Bits (a0 : Int) (a1 : Int) : (Option LB) :=
 (oj (iterS (F_r20_Bits_l0 a0 a1) (0, ([], ()))) fun y0 => (some y0.2.1))
def F_w20_AigParts_l0 (a0 : TAig) (a1 : LI) (a2 : Int) (y0 : TAig) (st0 : (Int × (LLB × Unit))) : (Option ((Int × (LLB × Unit)) ⊕ ((Int × (LLB × Unit)) ⊕ Bool))) :=
 (br (lt st0.1 (ni (len a1))) (br (lt st0.1 60) (br (ix st0.1 (ni (len a1))) (ob (F_r20_Bits (rd a1 (tn st0.1) 0) y0.1) fun y1 => (br (fits (len st0.2.1) (len ([y1] : LLB)) 5864062014805) (some (.inl ((wr .i64 (ad st0.1 1)), ((app st0.2.1 ([y1] : LLB)), ())))) none)) none) (some (.inr (.inl (st0.1, (st0.2.1, ())))))) (some (.inr (.inl (st0.1, (st0.2.1, ()))))))
def F_w20_AigParts_l1 (a0 : TAig) (a1 : LI) (a2 : Int) (y0 : TAig) (y2 : (Int × (LLB × Unit))) (y3 : Int) (y4 : (LLB × (LLB × Int))) (y5 : (LLB × (LLB × Int))) (y6 : LB) (y7 : Bool) (y8 : Bool) (y9 : Bool) (st1 : (Int × ((List (Int × Int)) × Unit))) : (Option ((Int × ((List (Int × Int)) × Unit)) ⊕ ((Int × ((List (Int × Int)) × Unit)) ⊕ Bool))) :=
 (br (lt st1.1 (ni (len st1.2.1))) (br (ix st1.1 (ni (len st1.2.1))) (br (ix y3 (ni (len y5.2.1))) (br (ix st1.1 (ni (len (rd y5.2.1 (tn y3) [])))) (br (rd (rd y5.2.1 (tn y3) []) (tn st1.1) false) (br (ix st1.1 (ni (len (put st1.2.1 (tn st1.1) ((rd st1.2.1 (tn st1.1) (0, 0)).1, 0))))) (some (.inl ((wr .i64 (ad st1.1 1)), ((put (put st1.2.1 (tn st1.1) ((rd st1.2.1 (tn st1.1) (0, 0)).1, 0)) (tn st1.1) ((rd (put st1.2.1 (tn st1.1) ((rd st1.2.1 (tn st1.1) (0, 0)).1, 0)) (tn st1.1) (0, 0)).1, 1)), ())))) none) (some (.inl ((wr .i64 (ad st1.1 1)), ((put st1.2.1 (tn st1.1) ((rd st1.2.1 (tn st1.1) (0, 0)).1, 0)), ()))))) none) none) none) (some (.inr (.inl (st1.1, (st1.2.1, ()))))))
def F_w20_AigParts (a0 : TAig) (a1 : LI) (a2 : Int) : (Option Bool) :=
 (ob (F_r20_Fit (a0.1, (a0.2.1, (a0.2.2.1, a0.2.2.2))) 40) fun y0 => (oj (iterS (F_w20_AigParts_l0 a0 a1 a2 y0) (0, ([], ()))) fun y2 => (ob (F_r20_Bring a2 (wr .i64 (ad (ni (len y2.2.1)) 1))) fun y3 => (ob (F_aig_Run (y0.1, (y0.2.1, (y0.2.2.1, y0.2.2.2))) y2.2.1) fun y4 => (br (rg 0 y3 (ni (len y2.2.1))) (ob (F_aig_Run (y0.1, (y0.2.1, (y0.2.2.1, y0.2.2.2))) (cut y2.2.1 0 (tn y3))) fun y5 => (br (ne y4.2.2 0) (some false) (br (ne y5.2.2 0) (some false) (br (ne (ni (len y4.2.1)) (wr .i64 (ad (ni (len y2.2.1)) 1))) (some false) (br (ne (ni (len y5.2.1)) (wr .i64 (ad y3 1))) (some false) (br (ix 0 (ni (len y4.2.1))) (ob (F_aig_Start (y0.1, (y0.2.1, (y0.2.2.1, y0.2.2.2)))) fun y6 => (ob (F_r20_EqBools (rd y4.2.1 (tn 0) []) y6) fun y7 => (br (nt y7) (some false) (br (rg 0 (wr .i64 (ad y3 1)) (ni (len y4.2.1))) (ob (F_r20_EqStates (cut y4.2.1 0 (tn (wr .i64 (ad y3 1)))) y5.2.1) fun y8 => (br (nt y8) (some false) (br (rg 0 y3 (ni (len y4.1))) (ob (F_r20_EqStates (cut y4.1 0 (tn y3)) y5.1) fun y9 => (br (nt y9) (some false) (br (fits 0 (len y0.2.1) 8796093022208) (br (fits 0 (len y0.2.2.1) 8796093022208) (br (fits 0 (len y0.2.2.2) 17592186044416) (oj (iterS (F_w20_AigParts_l1 a0 a1 a2 y0 y2 y3 y4 y5 y6 y7 y8 y9) (0, (y0.2.1, ()))) fun y10 => (br (rg y3 (ni (len y2.2.1)) (ni (len y2.2.1))) (ob (F_aig_Run (y0.1, (y10.2.1, (y0.2.2.1, y0.2.2.2))) (cut y2.2.1 (tn y3) (nsub (tn (ni (len y2.2.1))) (tn y3)))) fun y11 => (br (eq y11.2.2 0) (br (rg y3 (ni (len y4.1)) (ni (len y4.1))) (ob (F_r20_EqStates (cut y4.1 (tn y3) (nsub (tn (ni (len y4.1))) (tn y3))) y11.1) fun y12 => (br y12 (br (rg y3 (ni (len y4.2.1)) (ni (len y4.2.1))) (ob (F_r20_EqStates (cut y4.2.1 (tn y3) (nsub (tn (ni (len y4.2.1))) (tn y3))) y11.2.1) fun y13 => (br y13 (ob (F_w20_awake) fun y14 => (some y14)) (some false))) none) (some false))) none) (some false))) none)) none) none) none))) none))) none)))) none)))))) none)))))
def effs : Nat → Option (List TV → THp → Res) := fun _ => none
def L0 : List (Nat × FSpec) := [(18, ⟨[], [.bool], [.no], fun _ => F_w20_awake ⟩)]
def L_aig_first : List (Nat × FSpec) := (75, ⟨[(.st (.pair (.int .i64) (.pair (.slice (.st (.pair (.int .i64) (.int .u8)))) (.pair (.slice (.st (.pair (.int .i64) (.int .i64)))) (.slice (.int .i64))))))], [(.int .i64)], [.no], fun x => F_aig_first x⟩) :: L0
def L_aig_size : List (Nat × FSpec) := (82, ⟨[(.st (.pair (.int .i64) (.pair (.slice (.st (.pair (.int .i64) (.int .u8)))) (.pair (.slice (.st (.pair (.int .i64) (.int .i64)))) (.slice (.int .i64))))))], [(.int .i64)], [.no], fun x => F_aig_size x⟩) :: L_aig_first
def L_aig_Check_1 : List (Nat × FSpec) := (95, ⟨[(.int .i64), (.int .i64)], [.bool], [.no], fun x => F_aig_Check_1 x.1 x.2⟩) :: L_aig_size
def L_aig_Check : List (Nat × FSpec) := (39, ⟨[(.st (.pair (.int .i64) (.pair (.slice (.st (.pair (.int .i64) (.int .u8)))) (.pair (.slice (.st (.pair (.int .i64) (.int .i64)))) (.slice (.int .i64))))))], [(.int .i64)], [.no], fun x => F_aig_Check x⟩) :: L_aig_Check_1
def L_aig_Start : List (Nat × FSpec) := (34, ⟨[(.st (.pair (.int .i64) (.pair (.slice (.st (.pair (.int .i64) (.int .u8)))) (.pair (.slice (.st (.pair (.int .i64) (.int .i64)))) (.slice (.int .i64))))))], [(.slice .bool)], [.row 4], fun x => F_aig_Start x⟩) :: L_aig_Check
def L_aig_values_of : List (Nat × FSpec) := (104, ⟨[(.slice .bool), (.int .i64)], [.bool], [.no], fun x => F_aig_values_of x.1 x.2⟩) :: L_aig_Start
def L_aig_ends : List (Nat × FSpec) := (67, ⟨[(.st (.pair (.int .i64) (.pair (.slice (.st (.pair (.int .i64) (.int .u8)))) (.pair (.slice (.st (.pair (.int .i64) (.int .i64)))) (.slice (.int .i64)))))), (.slice .bool)], [(.slice .bool), (.slice .bool)], [.row 4, .row 4], fun x => F_aig_ends x.1 x.2⟩) :: L_aig_values_of
def L_aig_all : List (Nat × FSpec) := (68, ⟨[(.st (.pair (.int .i64) (.pair (.slice (.st (.pair (.int .i64) (.int .u8)))) (.pair (.slice (.st (.pair (.int .i64) (.int .i64)))) (.slice (.int .i64)))))), (.slice .bool), (.slice .bool)], [(.slice .bool)], [.row 4], fun x => F_aig_all x.1 x.2.1 x.2.2⟩) :: L_aig_ends
def L_aig_Run : List (Nat × FSpec) := (15, ⟨[(.st (.pair (.int .i64) (.pair (.slice (.st (.pair (.int .i64) (.int .u8)))) (.pair (.slice (.st (.pair (.int .i64) (.int .i64)))) (.slice (.int .i64)))))), (.slice (.slice .bool))], [(.slice (.slice .bool)), (.slice (.slice .bool)), (.int .i64)], [.row 49, .row 49, .no], fun x => F_aig_Run x.1 x.2⟩) :: L_aig_all
def L_r20_EqBools : List (Nat × FSpec) := (32, ⟨[(.slice .bool), (.slice .bool)], [.bool], [.no], fun x => F_r20_EqBools x.1 x.2⟩) :: L_aig_Run
def L_r20_EqStates : List (Nat × FSpec) := (17, ⟨[(.slice (.slice .bool)), (.slice (.slice .bool))], [.bool], [.no], fun x => F_r20_EqStates x.1 x.2⟩) :: L_r20_EqBools
def L_r20_Bring : List (Nat × FSpec) := (33, ⟨[(.int .i64), (.int .i64)], [(.int .i64)], [.no], fun x => F_r20_Bring x.1 x.2⟩) :: L_r20_EqStates
def L_r20_Nodes : List (Nat × FSpec) := (36, ⟨[(.st (.pair (.int .i64) (.pair (.slice (.st (.pair (.int .i64) (.int .u8)))) (.pair (.slice (.st (.pair (.int .i64) (.int .i64)))) (.slice (.int .i64))))))], [(.int .i64)], [.no], fun x => F_r20_Nodes x⟩) :: L_r20_Bring
def L_r20_Fit : List (Nat × FSpec) := (19, ⟨[(.st (.pair (.int .i64) (.pair (.slice (.st (.pair (.int .i64) (.int .u8)))) (.pair (.slice (.st (.pair (.int .i64) (.int .i64)))) (.slice (.int .i64)))))), (.int .i64)], [(.st (.pair (.int .i64) (.pair (.slice (.st (.pair (.int .i64) (.int .u8)))) (.pair (.slice (.st (.pair (.int .i64) (.int .i64)))) (.slice (.int .i64))))))], [.no], fun x => F_r20_Fit x.1 x.2⟩) :: L_r20_Nodes
def L_r20_Bits : List (Nat × FSpec) := (29, ⟨[(.int .u64), (.int .i64)], [(.slice .bool)], [.row 4], fun x => F_r20_Bits x.1 x.2⟩) :: L_r20_Fit
def L_w20_AigParts : List (Nat × FSpec) := (7, ⟨[(.st (.pair (.int .i64) (.pair (.slice (.st (.pair (.int .i64) (.int .u8)))) (.pair (.slice (.st (.pair (.int .i64) (.int .i64)))) (.slice (.int .i64)))))), (.slice (.int .u64)), (.int .i64)], [.bool], [.no], fun x => F_w20_AigParts x.1 x.2.1 x.2.2⟩) :: L_r20_Bits
end
end Go.Proofs.YtiiancghhloalaaGreatDoor
