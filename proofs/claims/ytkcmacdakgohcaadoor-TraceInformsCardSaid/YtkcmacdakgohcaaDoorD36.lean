/- What varies in the loops, laid variables; the functions, as the typed machine prints them; what was printed is what the typed machine comes to. -/

import Derived.Test.YtkcmacdakgohcaaDoorIx
import Derived.Test.YtkcmacdakgohcaaDoorTmList
set_option linter.unusedVariables false
set_option linter.unusedSimpArgs false
set_option linter.unusedSectionVars false
open Go Go.AM Go.TM
namespace Go.Proofs.YtkcmacdakgohcaaDoor
noncomputable section
abbrev TAig : Type := (Int × ((List (Int × Int)) × ((List (Int × Int)) × (List Int))))
abbrev LI : Type := (List Int)
abbrev LLI : Type := (List LI)
abbrev LB : Type := (List Bool)
abbrev LLB : Type := (List LB)
abbrev Str : Type := (List UInt8)
abbrev LStr : Type := (List Str)
def annL : List (List Nat × Nat × List Sh) := [([16], 0, [.val 5 (.int .i64)]),
 ([16], 2, [.val 6 (.int .i64)]),
 ([55], 1, [.val 33 (.int .i64)]),
 ([55], 3, [.val 60 (.int .i64)]),
 ([55], 5, [.val 80 (.int .i64)]),
 ([73], 0, [.val 16 (.int .i64), .own 3 .bool 4]),
 ([74], 0, [.val 13 (.int .i64), .own 4 .bool 4]),
 ([74], 2, [.val 27 (.int .i64), .own 5 .bool 4]),
 ([75], 0, [.val 21 (.int .i64), .own 7 .bool 4]),
 ([96, 63, 36], 0, [.val 8 (.int .i64)]),
 ([36], 0, [.val 32 (.int .i64), .val 8 (.deep .bool), .own 4 (.slice .bool) 60, .own 5 (.slice .bool) 60]),
 ([107], 0, [.val 11 (.int .i64), .val 3 (.int .i64)]),
 ([107], 2, [.val 27 (.int .i64), .own 6 (.int .u8) 33]),
 ([61], 0, [.val 19 (.int .i64), .own 6 (.int .u8) 33]),
 ([61], 2, [.val 33 (.int .i64), .own 6 (.int .u8) 33, .ownC [5] 4 (.int .u8) 33, .ownM 4 (.slice (.int .u8)) 24 [33]]),
 ([93, 61], 0, [.val 28 (.int .i64), .ownC [0] 4 (.int .u8) 33]),
 ([93, 61], 2, [.val 57 (.int .i64), .own 6 (.int .u8) 33]),
 ([93, 61], 4, [.val 74 (.int .i64), .own 7 (.int .u8) 33]),
 ([26], 0, [.val 19 (.int .i64)]),
 ([80, 43, 26], 0, [.val 8 (.int .i64)]),
 ([67, 28], 0, [.val 17 (.int .i64)]),
 ([92, 28], 0, [.val 9 (.int .i64), .cell [0, 4] 0 .bool]),
 ([92, 28], 2, [.val 16 (.int .i64), .cell [0, 4] 0 .bool]),
 ([32], 0, [.val 7 (.int .i64), .ownC [5] 2 (.st (.pair (.int .i64) (.int .i64))) 111]),
 ([32], 2, [.val 10 (.int .i64), .ownC [5] 1 (.st (.pair (.int .i64) (.int .u8))) 78]),
 ([32], 4, [.val 11 (.int .i64), .ownC [5] 3 (.int .i64) 76]),
 ([71], 0, [.val 6 (.int .i64), .own 5 .bool 4]),
 ([34], 0, [.val 6 (.int .i64), .own 5 (.slice .bool) 60]),
 ([35], 0, [.val 7 (.int .i64), .val 6 (.int .i64), .own 5 (.slice .bool) 60]),
 ([35], 2, [.val 9 (.int .i64), .val 6 (.int .i64), .own 8 .bool 4]),
 ([30], 0, [.val 10 (.int .i64), .ownM 2 (.slice (.int .u8)) 24 [33]]),
 ([30], 2, [.val 19 (.int .i64), .own 5 (.int .u8) 33]),
 ([11, 8], 0, [.val 4 (.int .i64), .ownM 3 (.slice (.int .u8)) 24 [33]]),
 ([8], 0, [.val 18 (.int .i64), .matS 17]),
 ([8], 2, [.val 19 (.int .i64), .matS 17])]
def annJ : List (List Nat × Nat × List Sh) := []
def ann (c : List Nat) (b : Nat) : Option (List Sh) := cond (Nat.ble 999999 b) (findA c b annJ) (findA c b annL)
def gl : Nat → Option (List TV) := fun g => match g with
 | 2 => some [.int .u8 1, .int .u8 0, .int .u8 2]
 | 1 => some [.int .u8 0, .int .u8 0, .int .u8 0, .int .u8 0, .int .u8 1, .int .u8 2, .int .u8 0, .int .u8 2, .int .u8 2]
 | _ => none
def F_w36_awake : Option Bool := some true
noncomputable def F_bytealg_IndexByteString (s : List UInt8) (c : Int) : Option Int := if 0 ≤ c ∧ c < 256 then some (idxL c.toNat s 0) else none
def F_trace_wrong (a0 : Int) : (Option Bool) :=
 (some (lt 2 a0))

def F_r36_Same_l1 (a0 : LLI) (a1 : LLI) (st0 : (Int × Unit)) (st1 : (Int × Unit)) : (Option ((Int × Unit) ⊕ ((Int × Unit) ⊕ ((Int × Unit) ⊕ ((Int × Unit) ⊕ Bool))))) :=
 (br (ix st0.1 (ni (len a0))) (br (lt st1.1 (ni (len (rd a0 (tn st0.1) [])))) (br (ix st0.1 (ni (len a0))) (br (ix st1.1 (ni (len (rd a0 (tn st0.1) [])))) (br (ix st0.1 (ni (len a1))) (br (ix st1.1 (ni (len (rd a1 (tn st0.1) [])))) (br (ne (rd (rd a0 (tn st0.1) []) (tn st1.1) 0) (rd (rd a1 (tn st0.1) []) (tn st1.1) 0)) (inR (inR (inR (some (.inr false))))) (some (.inl ((wr .i64 (ad st1.1 1)), ())))) none) none) none) none) (some (.inr (.inl (st1.1, ()))))) none)
def F_r36_Same_l0 (a0 : LLI) (a1 : LLI) (st0 : (Int × Unit)) : (Option ((Int × Unit) ⊕ ((Int × Unit) ⊕ Bool))) :=
 (br (lt st0.1 (ni (len a0))) (br (ix st0.1 (ni (len a0))) (br (ix st0.1 (ni (len a1))) (br (ne (ni (len (rd a0 (tn st0.1) []))) (ni (len (rd a1 (tn st0.1) [])))) (inR (some (.inr false))) (oj (iterS (F_r36_Same_l1 a0 a1 st0) (0, ())) fun y0 => (some (.inl ((wr .i64 (ad st0.1 1)), ()))))) none) none) (some (.inr (.inl (st0.1, ())))))
def F_r36_Same (a0 : LLI) (a1 : LLI) : (Option Bool) :=
 (br (ne (ni (len a0)) (ni (len a1))) (some false) (oj (iterS (F_r36_Same_l0 a0 a1) (0, ())) fun y1 => (some true)))
def F_aig_first (a0 : TAig) : (Option Int) :=
 (some (wr .i64 (ad (wr .i64 (ad 1 a0.1)) (ni (len a0.2.1)))))
def F_aig_size (a0 : TAig) : (Option Int) :=
 (ob (F_aig_first (a0.1, (a0.2.1, (a0.2.2.1, a0.2.2.2)))) fun y0 => (some (wr .i64 (ad y0 (ni (len a0.2.2.1))))))
def F_aig_Check_1 (a0 : Int) (a1 : Int) : (Option Bool) :=
 (br (le 0 a0) (some (lt a0 (wr .i64 (ml 2 a1)))) (some false))
def F_aig_Check_l0 (a0 : TAig) (y0 : Int) (st0 : (Int × Unit)) : (Option ((Int × Unit) ⊕ ((Int × Unit) ⊕ Int))) :=
 (br (lt st0.1 (ni (len a0.2.2.1))) (br (ix st0.1 (ni (len a0.2.2.1))) (ob (F_aig_first (a0.1, (a0.2.1, (a0.2.2.1, a0.2.2.2)))) fun y1 => (ob (F_aig_Check_1 (rd a0.2.2.1 (tn st0.1) (0, 0)).1 (wr .i64 (ad y1 st0.1))) fun y2 => (br (nt y2) (inR (some (.inr 1))) (ob (F_aig_Check_1 (rd a0.2.2.1 (tn st0.1) (0, 0)).2 (wr .i64 (ad y1 st0.1))) fun y3 => (br (nt y3) (inR (some (.inr 1))) (some (.inl ((wr .i64 (ad st0.1 1)), ())))))))) none) (some (.inr (.inl (st0.1, ())))))
def F_aig_Check_l1 (a0 : TAig) (y0 : Int) (y4 : (Int × Unit)) (st1 : (Int × Unit)) : (Option ((Int × Unit) ⊕ ((Int × Unit) ⊕ Int))) :=
 (br (lt st1.1 (ni (len a0.2.1))) (br (ix st1.1 (ni (len a0.2.1))) (ob (F_aig_size (a0.1, (a0.2.1, (a0.2.2.1, a0.2.2.2)))) fun y5 => (ob (F_aig_Check_1 (rd a0.2.1 (tn st1.1) (0, 0)).1 y5) fun y6 => (br (nt y6) (inR (some (.inr 1))) (br (lt 1 (rd a0.2.1 (tn st1.1) (0, 0)).2) (inR (some (.inr 1))) (some (.inl ((wr .i64 (ad st1.1 1)), ()))))))) none) (some (.inr (.inl (st1.1, ())))))
def F_aig_Check_l2 (a0 : TAig) (y0 : Int) (y4 : (Int × Unit)) (y7 : (Int × Unit)) (st2 : (Int × Unit)) : (Option ((Int × Unit) ⊕ ((Int × Unit) ⊕ Int))) :=
 (br (lt st2.1 (ni (len a0.2.2.2))) (br (ix st2.1 (ni (len a0.2.2.2))) (ob (F_aig_size (a0.1, (a0.2.1, (a0.2.2.1, a0.2.2.2)))) fun y8 => (ob (F_aig_Check_1 (rd a0.2.2.2 (tn st2.1) 0) y8) fun y9 => (br (nt y9) (inR (some (.inr 1))) (some (.inl ((wr .i64 (ad st2.1 1)), ())))))) none) (some (.inr (.inl (st2.1, ())))))
def F_aig_Check (a0 : TAig) : (Option Int) :=
 (br (lt a0.1 0) (some 1) (br (lt 4096 a0.1) (some 5) (ob (F_aig_size (a0.1, (a0.2.1, (a0.2.2.1, a0.2.2.2)))) fun y0 => (br (lt 4096 y0) (some 5) (br (lt 4096 (ni (len a0.2.2.2))) (some 5) (oj (iterS (F_aig_Check_l0 a0 y0) (0, ())) fun y4 => (oj (iterS (F_aig_Check_l1 a0 y0 y4) (0, ())) fun y7 => (oj (iterS (F_aig_Check_l2 a0 y0 y4 y7) (0, ())) fun y10 => (some 0)))))))))
def F_aig_Start_l0 (a0 : TAig) (y0 : Int) (st0 : (Int × (LB × Unit))) : (Option ((Int × (LB × Unit)) ⊕ ((Int × (LB × Unit)) ⊕ LB))) :=
 (br (lt st0.1 (ni (len a0.2.1))) (br (ix st0.1 (ni (len a0.2.1))) (br (ix st0.1 (ni (len st0.2.1))) (some (.inl ((wr .i64 (ad st0.1 1)), ((put st0.2.1 (tn st0.1) (eq (rd a0.2.1 (tn st0.1) (0, 0)).2 1)), ())))) none) none) (some (.inr (.inl (st0.1, (st0.2.1, ()))))))
def F_aig_Start (a0 : TAig) : (Option LB) :=
 (ob (F_aig_Check (a0.1, (a0.2.1, (a0.2.2.1, a0.2.2.2)))) fun y0 => (br (ne y0 0) (some []) (br (rg 0 (ni (len a0.2.1)) (ni (len a0.2.1))) (br (le (ni (len a0.2.1)) 281474976710656) (br (le (ml 1 (ni (len a0.2.1))) 281474976710656) (oj (iterS (F_aig_Start_l0 a0 y0) (0, ((rept (tn (ni (len a0.2.1))) (false : Bool)), ()))) fun y1 => (some y1.2.1)) none) none) none)))
def F_aig_values_of (a0 : LB) (a1 : Int) : (Option Bool) :=
 (br (ix (shr .i64 a1 1) (ni (len a0))) (some (nt (bq (rd a0 (tn (shr .i64 a1 1)) false) (eq (band .i64 a1 1) 1)))) none)
def F_aig_ends_l0 (a0 : TAig) (a1 : LB) (st0 : (Int × (LB × Unit))) : (Option ((Int × (LB × Unit)) ⊕ ((Int × (LB × Unit)) ⊕ (LB × LB)))) :=
 (br (lt st0.1 (ni (len a0.2.2.2))) (br (ix st0.1 (ni (len a0.2.2.2))) (ob (F_aig_values_of a1 (rd a0.2.2.2 (tn st0.1) 0)) fun y0 => (br (fits (len st0.2.1) (len ([y0] : LB)) 140737488355328) (some (.inl ((wr .i64 (ad st0.1 1)), ((app st0.2.1 ([y0] : LB)), ())))) none)) none) (some (.inr (.inl (st0.1, (st0.2.1, ()))))))
def F_aig_ends_l1 (a0 : TAig) (a1 : LB) (y1 : (Int × (LB × Unit))) (st1 : (Int × (LB × Unit))) : (Option ((Int × (LB × Unit)) ⊕ ((Int × (LB × Unit)) ⊕ (LB × LB)))) :=
 (br (lt st1.1 (ni (len a0.2.1))) (br (ix st1.1 (ni (len a0.2.1))) (ob (F_aig_values_of a1 (rd a0.2.1 (tn st1.1) (0, 0)).1) fun y2 => (br (fits (len st1.2.1) (len ([y2] : LB)) 140737488355328) (some (.inl ((wr .i64 (ad st1.1 1)), ((app st1.2.1 ([y2] : LB)), ())))) none)) none) (some (.inr (.inl (st1.1, (st1.2.1, ()))))))
def F_aig_ends (a0 : TAig) (a1 : LB) : (Option (LB × LB)) :=
 (oj (iterS (F_aig_ends_l0 a0 a1) (0, ([], ()))) fun y1 => (oj (iterS (F_aig_ends_l1 a0 a1 y1) (0, ([], ()))) fun y3 => (some (y1.2.1, y3.2.1))))
def F_aig_all_l0 (a0 : TAig) (a1 : LB) (a2 : LB) (y0 : Int) (st0 : (Int × (LB × Unit))) : (Option ((Int × (LB × Unit)) ⊕ ((Int × (LB × Unit)) ⊕ LB))) :=
 (br (lt st0.1 (ni (len a0.2.2.1))) (br (ix st0.1 (ni (len a0.2.2.1))) (ob (F_aig_values_of st0.2.1 (rd a0.2.2.1 (tn st0.1) (0, 0)).1) fun y1 => (br y1 (ob (F_aig_values_of st0.2.1 (rd a0.2.2.1 (tn st0.1) (0, 0)).2) fun y2 => (br (fits (len st0.2.1) (len ([y2] : LB)) 140737488355328) (some (.inl ((wr .i64 (ad st0.1 1)), ((app st0.2.1 ([y2] : LB)), ())))) none)) (br (fits (len st0.2.1) (len ([false] : LB)) 140737488355328) (some (.inl ((wr .i64 (ad st0.1 1)), ((app st0.2.1 ([false] : LB)), ())))) none))) none) (some (.inr (.inl (st0.1, (st0.2.1, ()))))))
def F_aig_all (a0 : TAig) (a1 : LB) (a2 : LB) : (Option LB) :=
 (ob (F_aig_size (a0.1, (a0.2.1, (a0.2.2.1, a0.2.2.2)))) fun y0 => (br (rg 0 1 y0) (br (le y0 281474976710656) (br (le (ml 1 y0) 281474976710656) (br (fits (len (rept (tn 1) (false : Bool))) (len a1) 140737488355328) (br (fits (len (app (rept (tn 1) (false : Bool)) a1)) (len a2) 140737488355328) (oj (iterS (F_aig_all_l0 a0 a1 a2 y0) (0, ((app (app (rept (tn 1) (false : Bool)) a1) a2), ()))) fun y3 => (some y3.2.1)) none) none) none) none) none))
def F_aig_Run_l1 (a0 : TAig) (a1 : LLB) (y0 : Int) (st0 : (Int × Unit)) (y1 : LB) (st1 : (Int × (LB × (LLB × (LLB × Unit))))) : (Option ((Int × (LB × (LLB × (LLB × Unit)))) ⊕ ((Int × (LB × (LLB × (LLB × Unit)))) ⊕ (LLB × (LLB × Int))))) :=
 (br (lt st1.1 (ni (len a1))) (br (ix st1.1 (ni (len a1))) (ob (F_aig_all (a0.1, (a0.2.1, (a0.2.2.1, a0.2.2.2))) (rd a1 (tn st1.1) []) st1.2.1) fun y2 => (ob (F_aig_ends (a0.1, (a0.2.1, (a0.2.2.1, a0.2.2.2))) y2) fun y3 => (br (fits (len st1.2.2.1) (len ([y3.1] : LLB)) 5864062014805) (br (fits (len st1.2.2.2.1) (len ([y3.2] : LLB)) 5864062014805) (some (.inl ((wr .i64 (ad st1.1 1)), (y3.2, ((app st1.2.2.1 ([y3.1] : LLB)), ((app st1.2.2.2.1 ([y3.2] : LLB)), ())))))) none) none))) none) (some (.inr (.inl (st1.1, (st1.2.1, (st1.2.2.1, (st1.2.2.2.1, ()))))))))
def F_aig_Run_l0 (a0 : TAig) (a1 : LLB) (y0 : Int) (st0 : (Int × Unit)) : (Option ((Int × Unit) ⊕ ((Int × Unit) ⊕ (LLB × (LLB × Int))))) :=
 (br (lt st0.1 (ni (len a1))) (br (ix st0.1 (ni (len a1))) (br (ne (ni (len (rd a1 (tn st0.1) []))) a0.1) (inR (inR (br (le 0 st0.1) (some ([], ([], 12))) (ob (F_aig_Start (a0.1, (a0.2.1, (a0.2.2.1, a0.2.2.2)))) fun y1 => (br (fits 0 (len ([y1] : LLB)) 5864062014805) (oj (iterS (F_aig_Run_l1 a0 a1 y0 st0 y1) (0, (y1, ([], (([y1] : LLB), ()))))) fun y4 => (some (y4.2.2.1, (y4.2.2.2.1, 0)))) none))))) (some (.inl ((wr .i64 (ad st0.1 1)), ())))) none) (some (.inr (.inl (st0.1, ())))))
def F_aig_Run_l2 (a0 : TAig) (a1 : LLB) (y0 : Int) (y5 : (Int × Unit)) (y6 : LB) (st2 : (Int × (LB × (LLB × (LLB × Unit))))) : (Option ((Int × (LB × (LLB × (LLB × Unit)))) ⊕ ((Int × (LB × (LLB × (LLB × Unit)))) ⊕ (LLB × (LLB × Int))))) :=
 (br (lt st2.1 (ni (len a1))) (br (ix st2.1 (ni (len a1))) (ob (F_aig_all (a0.1, (a0.2.1, (a0.2.2.1, a0.2.2.2))) (rd a1 (tn st2.1) []) st2.2.1) fun y7 => (ob (F_aig_ends (a0.1, (a0.2.1, (a0.2.2.1, a0.2.2.2))) y7) fun y8 => (br (fits (len st2.2.2.1) (len ([y8.1] : LLB)) 5864062014805) (br (fits (len st2.2.2.2.1) (len ([y8.2] : LLB)) 5864062014805) (some (.inl ((wr .i64 (ad st2.1 1)), (y8.2, ((app st2.2.2.1 ([y8.1] : LLB)), ((app st2.2.2.2.1 ([y8.2] : LLB)), ())))))) none) none))) none) (some (.inr (.inl (st2.1, (st2.2.1, (st2.2.2.1, (st2.2.2.2.1, ()))))))))
def F_aig_Run (a0 : TAig) (a1 : LLB) : (Option (LLB × (LLB × Int))) :=
 (ob (F_aig_Check (a0.1, (a0.2.1, (a0.2.2.1, a0.2.2.2)))) fun y0 => (br (ne y0 0) (some ([], ([], y0))) (br (lt 64 (ni (len a1))) (some ([], ([], 5))) (oj (iterS (F_aig_Run_l0 a0 a1 y0) (0, ())) fun y5 => (ob (F_aig_Start (a0.1, (a0.2.1, (a0.2.2.1, a0.2.2.2)))) fun y6 => (br (fits 0 (len ([y6] : LLB)) 5864062014805) (oj (iterS (F_aig_Run_l2 a0 a1 y0 y5 y6) (0, (y6, ([], (([y6] : LLB), ()))))) fun y9 => (some (y9.2.2.1, (y9.2.2.2.1, 0)))) none))))))
def F_trace_bit (a0 : Bool) : (Option Int) :=
 (br a0 (some 1) (some 0))
def F_slices_Concat_Bit_Bit_l0 (a0 : LLI) (st0 : (Int × (Int × Unit))) : (Option ((Int × (Int × Unit)) ⊕ ((Int × (Int × Unit)) ⊕ LI))) :=
 (br (lt st0.1 (ni (len a0))) (br (ix st0.1 (ni (len a0))) (br (lt (wr .i64 (ad st0.2.1 (ni (len (rd a0 (tn st0.1) []))))) 0) none (some (.inl ((wr .i64 (ad st0.1 1)), ((wr .i64 (ad st0.2.1 (ni (len (rd a0 (tn st0.1) []))))), ()))))) none) (some (.inr (.inl (st0.1, (st0.2.1, ()))))))
def F_slices_Concat_Bit_Bit_l1 (a0 : LLI) (y0 : (Int × (Int × Unit))) (st1 : (Int × (LI × Unit))) : (Option ((Int × (LI × Unit)) ⊕ ((Int × (LI × Unit)) ⊕ LI))) :=
 (br (lt st1.1 (ni (len a0))) (br (ix st1.1 (ni (len a0))) (br (fits (len st1.2.1) (len (rd a0 (tn st1.1) [])) 140737488355328) (some (.inl ((wr .i64 (ad st1.1 1)), ((app st1.2.1 (rd a0 (tn st1.1) [])), ())))) none) none) (some (.inr (.inl (st1.1, (st1.2.1, ()))))))
def F_slices_Concat_Bit_Bit_l2 (a0 : LLI) (y0 : (Int × (Int × Unit))) (st2 : (Int × (LI × Unit))) : (Option ((Int × (LI × Unit)) ⊕ ((Int × (LI × Unit)) ⊕ LI))) :=
 (br (lt st2.1 (ni (len a0))) (br (ix st2.1 (ni (len a0))) (br (fits (len st2.2.1) (len (rd a0 (tn st2.1) [])) 140737488355328) (some (.inl ((wr .i64 (ad st2.1 1)), ((app st2.2.1 (rd a0 (tn st2.1) [])), ())))) none) none) (some (.inr (.inl (st2.1, (st2.2.1, ()))))))
def F_slices_Concat_Bit_Bit (a0 : LLI) : (Option LI) :=
 (oj (iterS (F_slices_Concat_Bit_Bit_l0 a0) (0, (0, ()))) fun y0 => (br (lt y0.2.1 0) none (br (lt 0 (wr .i64 (sb y0.2.1 (wr .i64 (sb 0 (ni 0)))))) (br (lt 0 (wr .i64 (sb y0.2.1 (wr .i64 (sb 0 (ni 0)))))) (br (fits 0 (tn (wr .i64 (sb y0.2.1 (wr .i64 (sb 0 (ni 0)))))) 140737488355328) (br (rg 0 (ni 0) (ni (len (rept (tn (wr .i64 (sb y0.2.1 (wr .i64 (sb 0 (ni 0)))))) (0 : Int))))) (oj (iterS (F_slices_Concat_Bit_Bit_l1 a0 y0) (0, ((cut (rept (tn (wr .i64 (sb y0.2.1 (wr .i64 (sb 0 (ni 0)))))) (0 : Int)) 0 (tn (ni 0))), ()))) fun y1 => (some y1.2.1)) none) none) none) (oj (iterS (F_slices_Concat_Bit_Bit_l2 a0 y0) (0, ([], ()))) fun y2 => (some y2.2.1)))))
def F_trace_and (a0 : Int) (a1 : Int) : (Option Int) :=
 (br (ix a0 3) (br (ix a1 3) (some (rd ([(rd ([(0, (0, 0)), (0, (1, 2)), (0, (2, 2))] : (List (Int × (Int × Int)))) (tn a0) (0, (0, 0))).1, (rd ([(0, (0, 0)), (0, (1, 2)), (0, (2, 2))] : (List (Int × (Int × Int)))) (tn a0) (0, (0, 0))).2.1, (rd ([(0, (0, 0)), (0, (1, 2)), (0, (2, 2))] : (List (Int × (Int × Int)))) (tn a0) (0, (0, 0))).2.2] : LI) (tn a1) 0)) none) none)
def F_trace_not (a0 : Int) : (Option Int) :=
 (br (ix a0 3) (some (rd ([1, 0, 2] : LI) (tn a0) 0)) none)
def F_trace_simulate_l0 (a0 : TAig) (a1 : LLI) (st0 : (Int × (LI × Unit))) : (Option ((Int × (LI × Unit)) ⊕ ((Int × (LI × Unit)) ⊕ LLI))) :=
 (br (lt st0.1 (ni (len a0.2.1))) (br (ix st0.1 (ni (len a0.2.1))) (ob (F_trace_bit (eq (rd a0.2.1 (tn st0.1) (0, 0)).2 1)) fun y0 => (br (fits (len st0.2.1) (len ([y0] : LI)) 140737488355328) (some (.inl ((wr .i64 (ad st0.1 1)), ((app st0.2.1 ([y0] : LI)), ())))) none)) none) (some (.inr (.inl (st0.1, (st0.2.1, ()))))))
def F_trace_simulate_l2 (a0 : TAig) (a1 : LLI) (y1 : (Int × (LI × Unit))) (st1 : (Int × (LI × (LI × (LLI × Unit))))) (y2 : LI) (st2 : (Int × (LI × Unit))) : (Option ((Int × (LI × Unit)) ⊕ ((Int × (LI × Unit)) ⊕ ((Int × (LI × (LI × (LLI × Unit)))) ⊕ ((Int × (LI × (LI × (LLI × Unit)))) ⊕ LLI))))) :=
 (br (lt st2.1 (ni (len a0.2.2.1))) (br (ix st2.1 (ni (len a0.2.2.1))) (br (ix (shr .i64 (rd a0.2.2.1 (tn st2.1) (0, 0)).1 1) (ni (len st2.2.1))) (br (eq (band .i64 (rd a0.2.2.1 (tn st2.1) (0, 0)).1 1) 0) (br (ix (shr .i64 (rd a0.2.2.1 (tn st2.1) (0, 0)).2 1) (ni (len st2.2.1))) (br (eq (band .i64 (rd a0.2.2.1 (tn st2.1) (0, 0)).2 1) 0) (ob (F_trace_and (rd st2.2.1 (tn (shr .i64 (rd a0.2.2.1 (tn st2.1) (0, 0)).1 1)) 0) (rd st2.2.1 (tn (shr .i64 (rd a0.2.2.1 (tn st2.1) (0, 0)).2 1)) 0)) fun y3 => (br (fits (len st2.2.1) (len ([y3] : LI)) 140737488355328) (some (.inl ((wr .i64 (ad st2.1 1)), ((app st2.2.1 ([y3] : LI)), ())))) none)) (br (ix (shr .i64 (rd a0.2.2.1 (tn st2.1) (0, 0)).2 1) (ni (len st2.2.1))) (ob (F_trace_not (rd st2.2.1 (tn (shr .i64 (rd a0.2.2.1 (tn st2.1) (0, 0)).2 1)) 0)) fun y4 => (ob (F_trace_and (rd st2.2.1 (tn (shr .i64 (rd a0.2.2.1 (tn st2.1) (0, 0)).1 1)) 0) y4) fun y5 => (br (fits (len st2.2.1) (len ([y5] : LI)) 140737488355328) (some (.inl ((wr .i64 (ad st2.1 1)), ((app st2.2.1 ([y5] : LI)), ())))) none))) none)) none) (br (ix (shr .i64 (rd a0.2.2.1 (tn st2.1) (0, 0)).1 1) (ni (len st2.2.1))) (ob (F_trace_not (rd st2.2.1 (tn (shr .i64 (rd a0.2.2.1 (tn st2.1) (0, 0)).1 1)) 0)) fun y6 => (br (ix (shr .i64 (rd a0.2.2.1 (tn st2.1) (0, 0)).2 1) (ni (len st2.2.1))) (br (eq (band .i64 (rd a0.2.2.1 (tn st2.1) (0, 0)).2 1) 0) (ob (F_trace_and y6 (rd st2.2.1 (tn (shr .i64 (rd a0.2.2.1 (tn st2.1) (0, 0)).2 1)) 0)) fun y7 => (br (fits (len st2.2.1) (len ([y7] : LI)) 140737488355328) (some (.inl ((wr .i64 (ad st2.1 1)), ((app st2.2.1 ([y7] : LI)), ())))) none)) (br (ix (shr .i64 (rd a0.2.2.1 (tn st2.1) (0, 0)).2 1) (ni (len st2.2.1))) (ob (F_trace_not (rd st2.2.1 (tn (shr .i64 (rd a0.2.2.1 (tn st2.1) (0, 0)).2 1)) 0)) fun y8 => (ob (F_trace_and y6 y8) fun y9 => (br (fits (len st2.2.1) (len ([y9] : LI)) 140737488355328) (some (.inl ((wr .i64 (ad st2.1 1)), ((app st2.2.1 ([y9] : LI)), ())))) none))) none)) none)) none)) none) none) (some (.inr (.inl (st2.1, (st2.2.1, ()))))))
def F_trace_simulate_l3 (a0 : TAig) (a1 : LLI) (y1 : (Int × (LI × Unit))) (st1 : (Int × (LI × (LI × (LLI × Unit))))) (y2 : LI) (y10 : (Int × (LI × Unit))) (st3 : (Int × (LI × Unit))) : (Option ((Int × (LI × Unit)) ⊕ ((Int × (LI × Unit)) ⊕ ((Int × (LI × (LI × (LLI × Unit)))) ⊕ ((Int × (LI × (LI × (LLI × Unit)))) ⊕ LLI))))) :=
 (br (lt st3.1 (ni (len a0.2.2.2))) (br (ix st3.1 (ni (len a0.2.2.2))) (br (ix (shr .i64 (rd a0.2.2.2 (tn st3.1) 0) 1) (ni (len y10.2.1))) (br (eq (band .i64 (rd a0.2.2.2 (tn st3.1) 0) 1) 0) (br (fits (len st3.2.1) (len ([(rd y10.2.1 (tn (shr .i64 (rd a0.2.2.2 (tn st3.1) 0) 1)) 0)] : LI)) 140737488355328) (some (.inl ((wr .i64 (ad st3.1 1)), ((app st3.2.1 ([(rd y10.2.1 (tn (shr .i64 (rd a0.2.2.2 (tn st3.1) 0) 1)) 0)] : LI)), ())))) none) (br (ix (shr .i64 (rd a0.2.2.2 (tn st3.1) 0) 1) (ni (len y10.2.1))) (ob (F_trace_not (rd y10.2.1 (tn (shr .i64 (rd a0.2.2.2 (tn st3.1) 0) 1)) 0)) fun y11 => (br (fits (len st3.2.1) (len ([y11] : LI)) 140737488355328) (some (.inl ((wr .i64 (ad st3.1 1)), ((app st3.2.1 ([y11] : LI)), ())))) none)) none)) none) none) (some (.inr (.inl (st3.1, (st3.2.1, ()))))))
def F_trace_simulate_l4 (a0 : TAig) (a1 : LLI) (y1 : (Int × (LI × Unit))) (st1 : (Int × (LI × (LI × (LLI × Unit))))) (y2 : LI) (y10 : (Int × (LI × Unit))) (y12 : (Int × (LI × Unit))) (st4 : (Int × (LI × Unit))) : (Option ((Int × (LI × Unit)) ⊕ ((Int × (LI × Unit)) ⊕ ((Int × (LI × (LI × (LLI × Unit)))) ⊕ ((Int × (LI × (LI × (LLI × Unit)))) ⊕ LLI))))) :=
 (br (lt st4.1 (ni (len a0.2.1))) (br (ix st4.1 (ni (len a0.2.1))) (br (ix (shr .i64 (rd a0.2.1 (tn st4.1) (0, 0)).1 1) (ni (len y10.2.1))) (br (eq (band .i64 (rd a0.2.1 (tn st4.1) (0, 0)).1 1) 0) (br (fits (len st4.2.1) (len ([(rd y10.2.1 (tn (shr .i64 (rd a0.2.1 (tn st4.1) (0, 0)).1 1)) 0)] : LI)) 140737488355328) (some (.inl ((wr .i64 (ad st4.1 1)), ((app st4.2.1 ([(rd y10.2.1 (tn (shr .i64 (rd a0.2.1 (tn st4.1) (0, 0)).1 1)) 0)] : LI)), ())))) none) (br (ix (shr .i64 (rd a0.2.1 (tn st4.1) (0, 0)).1 1) (ni (len y10.2.1))) (ob (F_trace_not (rd y10.2.1 (tn (shr .i64 (rd a0.2.1 (tn st4.1) (0, 0)).1 1)) 0)) fun y13 => (br (fits (len st4.2.1) (len ([y13] : LI)) 140737488355328) (some (.inl ((wr .i64 (ad st4.1 1)), ((app st4.2.1 ([y13] : LI)), ())))) none)) none)) none) none) (some (.inr (.inl (st4.1, (st4.2.1, ()))))))
def F_trace_simulate_l1 (a0 : TAig) (a1 : LLI) (y1 : (Int × (LI × Unit))) (st1 : (Int × (LI × (LI × (LLI × Unit))))) : (Option ((Int × (LI × (LI × (LLI × Unit)))) ⊕ ((Int × (LI × (LI × (LLI × Unit)))) ⊕ LLI))) :=
 (br (lt st1.1 (ni (len a1))) (br (ix st1.1 (ni (len a1))) (ob (F_slices_Concat_Bit_Bit ([([0] : LI), (rd a1 (tn st1.1) []), st1.2.1] : LLI)) fun y2 => (oj (iterS (F_trace_simulate_l2 a0 a1 y1 st1 y2) (0, (y2, ()))) fun y10 => (oj (iterS (F_trace_simulate_l3 a0 a1 y1 st1 y2 y10) (0, ([], ()))) fun y12 => (oj (iterS (F_trace_simulate_l4 a0 a1 y1 st1 y2 y10 y12) (0, ([], ()))) fun y14 => (br (fits (len st1.2.2.2.1) (len ([y12.2.1] : LLI)) 5864062014805) (some (.inl ((wr .i64 (ad st1.1 1)), (y14.2.1, (y10.2.1, ((app st1.2.2.2.1 ([y12.2.1] : LLI)), ())))))) none))))) none) (some (.inr (.inl (st1.1, (st1.2.1, (st1.2.2.1, (st1.2.2.2.1, ()))))))))
def F_trace_simulate (a0 : TAig) (a1 : LLI) : (Option LLI) :=
 (oj (iterS (F_trace_simulate_l0 a0 a1) (0, ([], ()))) fun y1 => (oj (iterS (F_trace_simulate_l1 a0 a1 y1) (0, (y1.2.1, ([], ([], ()))))) fun y15 => (some y15.2.2.2.1)))
def F_trace_Run_l1 (a0 : TAig) (a1 : LLI) (y0 : Int) (st0 : (Int × Unit)) (st1 : (Int × Unit)) : (Option ((Int × Unit) ⊕ ((Int × Unit) ⊕ ((Int × Unit) ⊕ ((Int × Unit) ⊕ (LLI × Int)))))) :=
 (br (lt st1.1 (ni (len (rd a1 (tn st0.1) [])))) (br (ix st1.1 (ni (len (rd a1 (tn st0.1) [])))) (ob (F_trace_wrong (rd (rd a1 (tn st0.1) []) (tn st1.1) 0)) fun y1 => (br y1 (inR (inR (br (le 0 st1.1) (inR (some (.inr ([], 3)))) (some (.inl ((wr .i64 (ad st0.1 1)), ())))))) (some (.inl ((wr .i64 (ad st1.1 1)), ()))))) none) (some (.inr (.inl (st1.1, ())))))
def F_trace_Run_l0 (a0 : TAig) (a1 : LLI) (y0 : Int) (st0 : (Int × Unit)) : (Option ((Int × Unit) ⊕ ((Int × Unit) ⊕ (LLI × Int)))) :=
 (br (lt st0.1 (ni (len a1))) (br (ix st0.1 (ni (len a1))) (br (ne (ni (len (rd a1 (tn st0.1) []))) a0.1) (inR (some (.inr ([], 12)))) (oj (iterS (F_trace_Run_l1 a0 a1 y0 st0) (0, ())) fun y2 => (some (.inl ((wr .i64 (ad st0.1 1)), ()))))) none) (some (.inr (.inl (st0.1, ())))))
def F_trace_Run (a0 : TAig) (a1 : LLI) : (Option (LLI × Int)) :=
 (ob (F_aig_Check (a0.1, (a0.2.1, (a0.2.2.1, a0.2.2.2)))) fun y0 => (br (ne y0 0) (some ([], y0)) (br (lt 64 (ni (len a1))) (some ([], 5)) (oj (iterS (F_trace_Run_l0 a0 a1 y0) (0, ())) fun y3 => (ob (F_trace_simulate (a0.1, (a0.2.1, (a0.2.2.1, a0.2.2.2))) a1) fun y4 => (some (y4, 0)))))))
def F_trace_Matches_1 (a0 : LI) (a1 : LB) : (Option Bool) :=
 (some (eq (ni (len a0)) (ni (len a1))))
def F_trace_Matches_l0 (a0 : LLI) (a1 : LLB) (st0 : (Int × Unit)) : (Option ((Int × Unit) ⊕ ((Int × Unit) ⊕ Bool))) :=
 (br (lt st0.1 (ni (len a0))) (br (ix st0.1 (ni (len a0))) (br (ix st0.1 (ni (len a1))) (ob (F_trace_Matches_1 (rd a0 (tn st0.1) []) (rd a1 (tn st0.1) [])) fun y0 => (br (nt y0) (inR (some (.inr false))) (some (.inl ((wr .i64 (ad st0.1 1)), ()))))) none) none) (some (.inr (.inl (st0.1, ())))))
def F_trace_Matches_l2 (a0 : LLI) (a1 : LLB) (y1 : (Int × Unit)) (st1 : (Int × (Bool × Unit))) (st2 : (Int × (Bool × Unit))) : (Option ((Int × (Bool × Unit)) ⊕ ((Int × (Bool × Unit)) ⊕ ((Int × (Bool × Unit)) ⊕ ((Int × (Bool × Unit)) ⊕ Bool))))) :=
 (br (lt st2.1 (ni (len (rd a0 (tn st1.1) [])))) (br (ix st2.1 (ni (len (rd a0 (tn st1.1) [])))) (br (ix st1.1 (ni (len a1))) (br (ix st2.1 (ni (len (rd a1 (tn st1.1) [])))) (br (eq (rd (rd a0 (tn st1.1) []) (tn st2.1) 0) 0) (br (rd (rd a1 (tn st1.1) []) (tn st2.1) false) (inR (inR (inR (some (.inr false))))) (br (eq (rd (rd a0 (tn st1.1) []) (tn st2.1) 0) 1) (br (nt (rd (rd a1 (tn st1.1) []) (tn st2.1) false)) (inR (inR (inR (some (.inr false))))) (some (.inl ((wr .i64 (ad st2.1 1)), (st2.2.1, ()))))) (some (.inl ((wr .i64 (ad st2.1 1)), (st2.2.1, ())))))) (br (eq (rd (rd a0 (tn st1.1) []) (tn st2.1) 0) 1) (br (nt (rd (rd a1 (tn st1.1) []) (tn st2.1) false)) (inR (inR (inR (some (.inr false))))) (some (.inl ((wr .i64 (ad st2.1 1)), (st2.2.1, ()))))) (some (.inl ((wr .i64 (ad st2.1 1)), (st2.2.1, ())))))) none) none) none) (some (.inr (.inl (st2.1, (st2.2.1, ()))))))
def F_trace_Matches_l1 (a0 : LLI) (a1 : LLB) (y1 : (Int × Unit)) (st1 : (Int × (Bool × Unit))) : (Option ((Int × (Bool × Unit)) ⊕ ((Int × (Bool × Unit)) ⊕ Bool))) :=
 (br (lt st1.1 (ni (len a0))) (br (ix st1.1 (ni (len a0))) (oj (iterS (F_trace_Matches_l2 a0 a1 y1 st1) (0, (st1.2.1, ()))) fun y2 => (some (.inl ((wr .i64 (ad st1.1 1)), (y2.2.1, ()))))) none) (some (.inr (.inl (st1.1, (st1.2.1, ()))))))
def F_trace_Matches (a0 : LLI) (a1 : LLB) : (Option Bool) :=
 (br (ne (ni (len a0)) (ni (len a1))) (some false) (oj (iterS (F_trace_Matches_l0 a0 a1) (0, ())) fun y1 => (oj (iterS (F_trace_Matches_l1 a0 a1 y1) (0, (false, ()))) fun y3 => (some true))))
def F_r20_Bring (a0 : Int) (a1 : Int) : (Option Int) :=
 (br (ne a1 0) (br (ne a1 0) (some (md (wr .i64 (ad (md a0 a1) a1)) a1)) none) none)
def F_r20_Nodes (a0 : TAig) : (Option Int) :=
 (some (wr .i64 (ad (wr .i64 (ad (wr .i64 (ad 1 a0.1)) (ni (len a0.2.1)))) (ni (len a0.2.2.1)))))
def F_r20_Fit_l0 (a0 : TAig) (a1 : Int) (y0 : Int) (st0 : (Int × ((List (Int × Int)) × Unit))) : (Option ((Int × ((List (Int × Int)) × Unit)) ⊕ ((Int × ((List (Int × Int)) × Unit)) ⊕ TAig))) :=
 (br (lt st0.1 (ni (len st0.2.1))) (br (ix st0.1 (ni (len st0.2.1))) (ob (F_r20_Bring (rd st0.2.1 (tn st0.1) (0, 0)).1 (wr .i64 (ml 2 (wr .i64 (ad (wr .i64 (ad (wr .i64 (ad 1 y0)) (ni (tn (mn (ni (len a0.2.1)) a1))))) st0.1))))) fun y1 => (br (ix st0.1 (ni (len st0.2.1))) (ob (F_r20_Bring (rd st0.2.1 (tn st0.1) (0, 0)).2 (wr .i64 (ml 2 (wr .i64 (ad (wr .i64 (ad (wr .i64 (ad 1 y0)) (ni (tn (mn (ni (len a0.2.1)) a1))))) st0.1))))) fun y2 => (br (ix st0.1 (ni (len st0.2.1))) (some (.inl ((wr .i64 (ad st0.1 1)), ((put st0.2.1 (tn st0.1) (y1, y2)), ())))) none)) none)) none) (some (.inr (.inl (st0.1, (st0.2.1, ()))))))
def F_r20_Fit_l1 (a0 : TAig) (a1 : Int) (y0 : Int) (y3 : (Int × ((List (Int × Int)) × Unit))) (y4 : Int) (st1 : (Int × ((List (Int × Int)) × Unit))) : (Option ((Int × ((List (Int × Int)) × Unit)) ⊕ ((Int × ((List (Int × Int)) × Unit)) ⊕ TAig))) :=
 (br (lt st1.1 (ni (len st1.2.1))) (br (ix st1.1 (ni (len st1.2.1))) (ob (F_r20_Bring (rd st1.2.1 (tn st1.1) (0, 0)).1 (wr .i64 (ml 2 y4))) fun y5 => (br (ix st1.1 (ni (len st1.2.1))) (br (ix st1.1 (ni (len st1.2.1))) (some (.inl ((wr .i64 (ad st1.1 1)), ((put st1.2.1 (tn st1.1) (y5, (md (rd st1.2.1 (tn st1.1) (0, 0)).2 2))), ())))) none) none)) none) (some (.inr (.inl (st1.1, (st1.2.1, ()))))))
def F_r20_Fit_l2 (a0 : TAig) (a1 : Int) (y0 : Int) (y3 : (Int × ((List (Int × Int)) × Unit))) (y4 : Int) (y6 : (Int × ((List (Int × Int)) × Unit))) (st2 : (Int × (LI × Unit))) : (Option ((Int × (LI × Unit)) ⊕ ((Int × (LI × Unit)) ⊕ TAig))) :=
 (br (lt st2.1 (ni (len st2.2.1))) (br (ix st2.1 (ni (len st2.2.1))) (ob (F_r20_Bring (rd st2.2.1 (tn st2.1) 0) (wr .i64 (ml 2 y4))) fun y7 => (br (ix st2.1 (ni (len st2.2.1))) (some (.inl ((wr .i64 (ad st2.1 1)), ((put st2.2.1 (tn st2.1) y7), ())))) none)) none) (some (.inr (.inl (st2.1, (st2.2.1, ()))))))
def F_r20_Fit (a0 : TAig) (a1 : Int) : (Option TAig) :=
 (br (fits 0 (len a0.2.1) 8796093022208) (br (fits 0 (len a0.2.2.1) 8796093022208) (br (fits 0 (len a0.2.2.2) 17592186044416) (br (rg 0 (mn (ni (len a0.2.1)) a1) (ni (len a0.2.1))) (br (rg 0 (mn (ni (len a0.2.2.1)) a1) (ni (len a0.2.2.1))) (br (rg 0 (mn (ni (len a0.2.2.2)) a1) (ni (len a0.2.2.2))) (ob (F_r20_Bring a0.1 (wr .i64 (ad a1 1))) fun y0 => (oj (iterS (F_r20_Fit_l0 a0 a1 y0) (0, ((cut a0.2.2.1 0 (tn (mn (ni (len a0.2.2.1)) a1))), ()))) fun y3 => (ob (F_r20_Nodes (y0, ((cut a0.2.1 0 (tn (mn (ni (len a0.2.1)) a1))), (y3.2.1, (cut a0.2.2.2 0 (tn (mn (ni (len a0.2.2.2)) a1))))))) fun y4 => (oj (iterS (F_r20_Fit_l1 a0 a1 y0 y3 y4) (0, ((cut a0.2.1 0 (tn (mn (ni (len a0.2.1)) a1))), ()))) fun y6 => (oj (iterS (F_r20_Fit_l2 a0 a1 y0 y3 y4 y6) (0, ((cut a0.2.2.2 0 (tn (mn (ni (len a0.2.2.2)) a1))), ()))) fun y8 => (some (y0, (y6.2.1, (y3.2.1, y8.2.1))))))))) none) none) none) none) none) none)
def F_r20_Bits_l0 (a0 : Int) (a1 : Int) (st0 : (Int × (LB × Unit))) : (Option ((Int × (LB × Unit)) ⊕ ((Int × (LB × Unit)) ⊕ LB))) :=
 (br (lt st0.1 a1) (br (le 0 (md st0.1 64)) (br (fits (len st0.2.1) (len ([(eq (md (shr .u64 a0 (md st0.1 64)) 2) 1)] : LB)) 140737488355328) (some (.inl ((wr .i64 (ad st0.1 1)), ((app st0.2.1 ([(eq (md (shr .u64 a0 (md st0.1 64)) 2) 1)] : LB)), ())))) none) none) (some (.inr (.inl (st0.1, (st0.2.1, ()))))))
def F_r20_Bits (a0 : Int) (a1 : Int) : (Option LB) :=
 (oj (iterS (F_r20_Bits_l0 a0 a1) (0, ([], ()))) fun y0 => (some y0.2.1))
def F_w36_cycles_l0 (a0 : TAig) (a1 : LI) (st0 : (Int × (LLB × Unit))) : (Option ((Int × (LLB × Unit)) ⊕ ((Int × (LLB × Unit)) ⊕ LLB))) :=
 (br (lt st0.1 (ni (len a1))) (br (lt st0.1 12) (br (ix st0.1 (ni (len a1))) (ob (F_r20_Bits (rd a1 (tn st0.1) 0) a0.1) fun y0 => (br (fits (len st0.2.1) (len ([y0] : LLB)) 5864062014805) (some (.inl ((wr .i64 (ad st0.1 1)), ((app st0.2.1 ([y0] : LLB)), ())))) none)) none) (some (.inr (.inl (st0.1, (st0.2.1, ())))))) (some (.inr (.inl (st0.1, (st0.2.1, ()))))))
def F_w36_cycles (a0 : TAig) (a1 : LI) : (Option LLB) :=
 (oj (iterS (F_w36_cycles_l0 a0 a1) (0, ([], ()))) fun y1 => (some y1.2.1))
def F_w36_filled_l1 (a0 : LLI) (a1 : Int) (st0 : (Int × (Int × (LLB × Unit)))) (st1 : (Int × (Int × (LB × Unit)))) : (Option ((Int × (Int × (LB × Unit))) ⊕ ((Int × (Int × (LB × Unit))) ⊕ ((Int × (Int × (LLB × Unit))) ⊕ ((Int × (Int × (LLB × Unit))) ⊕ LLB))))) :=
 (br (ix st0.1 (ni (len a0))) (br (lt st1.1 (ni (len (rd a0 (tn st0.1) [])))) (br (ix st0.1 (ni (len a0))) (br (ix st1.1 (ni (len (rd a0 (tn st0.1) [])))) (br (ix st0.1 (ni (len a0))) (br (ix st1.1 (ni (len (rd a0 (tn st0.1) [])))) (br (lt 1 (rd (rd a0 (tn st0.1) []) (tn st1.1) 0)) (br (le 0 (md st1.2.1 64)) (br (fits (len st1.2.2.1) (len ([(eq (md (shr .u64 a1 (md st1.2.1 64)) 2) 1)] : LB)) 140737488355328) (some (.inl ((wr .i64 (ad st1.1 1)), ((wr .i64 (ad st1.2.1 1)), ((app st1.2.2.1 ([(eq (md (shr .u64 a1 (md st1.2.1 64)) 2) 1)] : LB)), ()))))) none) none) (br (fits (len st1.2.2.1) (len ([(eq (rd (rd a0 (tn st0.1) []) (tn st1.1) 0) 1)] : LB)) 140737488355328) (some (.inl ((wr .i64 (ad st1.1 1)), (st1.2.1, ((app st1.2.2.1 ([(eq (rd (rd a0 (tn st0.1) []) (tn st1.1) 0) 1)] : LB)), ()))))) none)) none) none) none) none) (some (.inr (.inl (st1.1, (st1.2.1, (st1.2.2.1, ()))))))) none)
def F_w36_filled_l0 (a0 : LLI) (a1 : Int) (st0 : (Int × (Int × (LLB × Unit)))) : (Option ((Int × (Int × (LLB × Unit))) ⊕ ((Int × (Int × (LLB × Unit))) ⊕ LLB))) :=
 (br (lt st0.1 (ni (len a0))) (oj (iterS (F_w36_filled_l1 a0 a1 st0) (0, (st0.2.1, ([], ())))) fun y0 => (br (fits (len st0.2.2.1) (len ([y0.2.2.1] : LLB)) 5864062014805) (some (.inl ((wr .i64 (ad st0.1 1)), (y0.2.1, ((app st0.2.2.1 ([y0.2.2.1] : LLB)), ()))))) none)) (some (.inr (.inl (st0.1, (st0.2.1, (st0.2.2.1, ())))))))
def F_w36_filled (a0 : LLI) (a1 : Int) : (Option LLB) :=
 (oj (iterS (F_w36_filled_l0 a0 a1) (0, (0, ([], ())))) fun y1 => (some y1.2.2.1))
def F_trace_Pattern_l1 (a0 : LLB) (st0 : (Int × (LLI × Unit))) (st1 : (Int × (LI × Unit))) : (Option ((Int × (LI × Unit)) ⊕ ((Int × (LI × Unit)) ⊕ ((Int × (LLI × Unit)) ⊕ ((Int × (LLI × Unit)) ⊕ LLI))))) :=
 (br (lt st1.1 (ni (len (rd a0 (tn st0.1) [])))) (br (ix st1.1 (ni (len (rd a0 (tn st0.1) [])))) (ob (F_trace_bit (rd (rd a0 (tn st0.1) []) (tn st1.1) false)) fun y0 => (br (ix st1.1 (ni (len st1.2.1))) (some (.inl ((wr .i64 (ad st1.1 1)), ((put st1.2.1 (tn st1.1) y0), ())))) none)) none) (some (.inr (.inl (st1.1, (st1.2.1, ()))))))
def F_trace_Pattern_l0 (a0 : LLB) (st0 : (Int × (LLI × Unit))) : (Option ((Int × (LLI × Unit)) ⊕ ((Int × (LLI × Unit)) ⊕ LLI))) :=
 (br (lt st0.1 (ni (len a0))) (br (ix st0.1 (ni (len a0))) (br (rg 0 (ni (len (rd a0 (tn st0.1) []))) (ni (len (rd a0 (tn st0.1) [])))) (br (le (ni (len (rd a0 (tn st0.1) []))) 281474976710656) (br (le (ml 1 (ni (len (rd a0 (tn st0.1) [])))) 281474976710656) (oj (iterS (F_trace_Pattern_l1 a0 st0) (0, ((rept (tn (ni (len (rd a0 (tn st0.1) [])))) (0 : Int)), ()))) fun y1 => (br (fits (len st0.2.1) (len ([y1.2.1] : LLI)) 5864062014805) (some (.inl ((wr .i64 (ad st0.1 1)), ((app st0.2.1 ([y1.2.1] : LLI)), ())))) none)) none) none) none) none) (some (.inr (.inl (st0.1, (st0.2.1, ()))))))
def F_trace_Pattern (a0 : LLB) : (Option LLI) :=
 (oj (iterS (F_trace_Pattern_l0 a0) (0, ([], ()))) fun y2 => (some y2.2.1))
def F_w36_TraceInforms_l0 (a0 : TAig) (a1 : LI) (a2 : LI) (a3 : Int) (y0 : TAig) (y1 : LLB) (y2 : LLI) (y3 : (LLI × Int)) (y4 : (LLB × (LLB × Int))) (y5 : LLI) (y6 : Bool) (st0 : (Int × (LLI × Unit))) : (Option ((Int × (LLI × Unit)) ⊕ ((Int × (LLI × Unit)) ⊕ Bool))) :=
 (br (lt st0.1 (ni (len y2))) (br (ix st0.1 (ni (len y2))) (br (fits 0 (len (rd y2 (tn st0.1) [])) 140737488355328) (br (fits (len st0.2.1) (len ([(rd y2 (tn st0.1) [])] : LLI)) 5864062014805) (some (.inl ((wr .i64 (ad st0.1 1)), ((app st0.2.1 ([(rd y2 (tn st0.1) [])] : LLI)), ())))) none) none) none) (some (.inr (.inl (st0.1, (st0.2.1, ()))))))
def F_w36_TraceInforms_l2 (a0 : TAig) (a1 : LI) (a2 : LI) (a3 : Int) (y0 : TAig) (y1 : LLB) (y2 : LLI) (y3 : (LLI × Int)) (y4 : (LLB × (LLB × Int))) (y5 : LLI) (y6 : Bool) (y7 : (Int × (LLI × Unit))) (st1 : (Int × (LLI × Unit))) (st2 : (Int × (LLI × Unit))) : (Option ((Int × (LLI × Unit)) ⊕ ((Int × (LLI × Unit)) ⊕ ((Int × (LLI × Unit)) ⊕ ((Int × (LLI × Unit)) ⊕ Bool))))) :=
 (br (ix st1.1 (ni (len st2.2.1))) (br (lt st2.1 (ni (len (rd st2.2.1 (tn st1.1) [])))) (br (lt st1.1 (ni (len a2))) (br (ix st1.1 (ni (len a2))) (br (le 0 (md st2.1 64)) (br (eq (md (shr .u64 (rd a2 (tn st1.1) 0) (md st2.1 64)) 2) 1) (br (ix st1.1 (ni (len st2.2.1))) (br (ix st2.1 (ni (len (rd st2.2.1 (tn st1.1) [])))) (some (.inl ((wr .i64 (ad st2.1 1)), ((put st2.2.1 (tn st1.1) (put (rd st2.2.1 (tn st1.1) []) (tn st2.1) 2)), ())))) none) none) (some (.inl ((wr .i64 (ad st2.1 1)), (st2.2.1, ()))))) none) none) (some (.inl ((wr .i64 (ad st2.1 1)), (st2.2.1, ()))))) (some (.inr (.inl (st2.1, (st2.2.1, ())))))) none)
def F_w36_TraceInforms_l1 (a0 : TAig) (a1 : LI) (a2 : LI) (a3 : Int) (y0 : TAig) (y1 : LLB) (y2 : LLI) (y3 : (LLI × Int)) (y4 : (LLB × (LLB × Int))) (y5 : LLI) (y6 : Bool) (y7 : (Int × (LLI × Unit))) (st1 : (Int × (LLI × Unit))) : (Option ((Int × (LLI × Unit)) ⊕ ((Int × (LLI × Unit)) ⊕ Bool))) :=
 (br (lt st1.1 (ni (len st1.2.1))) (oj (iterS (F_w36_TraceInforms_l2 a0 a1 a2 a3 y0 y1 y2 y3 y4 y5 y6 y7 st1) (0, (st1.2.1, ()))) fun y8 => (some (.inl ((wr .i64 (ad st1.1 1)), (y8.2.1, ()))))) (some (.inr (.inl (st1.1, (st1.2.1, ()))))))
def F_w36_TraceInforms (a0 : TAig) (a1 : LI) (a2 : LI) (a3 : Int) : (Option Bool) :=
 (ob (F_r20_Fit (a0.1, (a0.2.1, (a0.2.2.1, a0.2.2.2))) 30) fun y0 => (ob (F_w36_cycles (y0.1, (y0.2.1, (y0.2.2.1, y0.2.2.2))) a1) fun y1 => (ob (F_trace_Pattern y1) fun y2 => (ob (F_trace_Run (y0.1, (y0.2.1, (y0.2.2.1, y0.2.2.2))) y2) fun y3 => (ob (F_aig_Run (y0.1, (y0.2.1, (y0.2.2.1, y0.2.2.2))) y1) fun y4 => (br (ne y3.2 0) (some false) (br (ne y4.2.2 0) (some false) (ob (F_trace_Pattern y4.1) fun y5 => (ob (F_r36_Same y3.1 y5) fun y6 => (br (nt y6) (some false) (oj (iterS (F_w36_TraceInforms_l0 a0 a1 a2 a3 y0 y1 y2 y3 y4 y5 y6) (0, ([], ()))) fun y7 => (oj (iterS (F_w36_TraceInforms_l1 a0 a1 a2 a3 y0 y1 y2 y3 y4 y5 y6 y7) (0, (y7.2.1, ()))) fun y9 => (ob (F_trace_Run (y0.1, (y0.2.1, (y0.2.2.1, y0.2.2.2))) y9.2.1) fun y10 => (ob (F_w36_filled y9.2.1 a3) fun y11 => (ob (F_aig_Run (y0.1, (y0.2.1, (y0.2.2.1, y0.2.2.2))) y11) fun y12 => (br (eq y10.2 0) (br (eq y12.2.2 0) (ob (F_trace_Matches y9.2.1 y1) fun y13 => (br y13 (ob (F_trace_Matches y10.1 y4.1) fun y14 => (br y14 (ob (F_trace_Matches y10.1 y12.1) fun y15 => (br y15 (ob (F_w36_awake) fun y16 => (some y16)) (some false))) (some false))) (some false))) (some false)) (some false)))))))))))))))))
def effs : Nat → Option (List TV → THp → Res) := fun g => cond (Nat.beq g 101) (some idEff) none
def L0 : List (Nat × FSpec) := [(17, ⟨[], [.bool], [.no], fun _ => F_w36_awake ⟩),
 (105, ⟨[.str, (.int .u8)], [(.int .i64)], [.no], fun x => F_bytealg_IndexByteString x.1 x.2⟩)]
def L_trace_wrong : List (Nat × FSpec) := (44, ⟨[(.int .u8)], [.bool], [.no], fun x => F_trace_wrong x⟩) :: L0
def L_r36_Same : List (Nat × FSpec) := (16, ⟨[(.slice (.slice (.int .u8))), (.slice (.slice (.int .u8)))], [.bool], [.no], fun x => F_r36_Same x.1 x.2⟩) :: L_trace_wrong
def L_aig_first : List (Nat × FSpec) := (89, ⟨[(.st (.pair (.int .i64) (.pair (.slice (.st (.pair (.int .i64) (.int .u8)))) (.pair (.slice (.st (.pair (.int .i64) (.int .i64)))) (.slice (.int .i64))))))], [(.int .i64)], [.no], fun x => F_aig_first x⟩) :: L_r36_Same
def L_aig_size : List (Nat × FSpec) := (87, ⟨[(.st (.pair (.int .i64) (.pair (.slice (.st (.pair (.int .i64) (.int .u8)))) (.pair (.slice (.st (.pair (.int .i64) (.int .i64)))) (.slice (.int .i64))))))], [(.int .i64)], [.no], fun x => F_aig_size x⟩) :: L_aig_first
def L_aig_Check_1 : List (Nat × FSpec) := (88, ⟨[(.int .i64), (.int .i64)], [.bool], [.no], fun x => F_aig_Check_1 x.1 x.2⟩) :: L_aig_size
def L_aig_Check : List (Nat × FSpec) := (55, ⟨[(.st (.pair (.int .i64) (.pair (.slice (.st (.pair (.int .i64) (.int .u8)))) (.pair (.slice (.st (.pair (.int .i64) (.int .i64)))) (.slice (.int .i64))))))], [(.int .i64)], [.no], fun x => F_aig_Check x⟩) :: L_aig_Check_1
def L_aig_Start : List (Nat × FSpec) := (73, ⟨[(.st (.pair (.int .i64) (.pair (.slice (.st (.pair (.int .i64) (.int .u8)))) (.pair (.slice (.st (.pair (.int .i64) (.int .i64)))) (.slice (.int .i64))))))], [(.slice .bool)], [.row 4], fun x => F_aig_Start x⟩) :: L_aig_Check
def L_aig_values_of : List (Nat × FSpec) := (97, ⟨[(.slice .bool), (.int .i64)], [.bool], [.no], fun x => F_aig_values_of x.1 x.2⟩) :: L_aig_Start
def L_aig_ends : List (Nat × FSpec) := (74, ⟨[(.st (.pair (.int .i64) (.pair (.slice (.st (.pair (.int .i64) (.int .u8)))) (.pair (.slice (.st (.pair (.int .i64) (.int .i64)))) (.slice (.int .i64)))))), (.slice .bool)], [(.slice .bool), (.slice .bool)], [.row 4, .row 4], fun x => F_aig_ends x.1 x.2⟩) :: L_aig_values_of
def L_aig_all : List (Nat × FSpec) := (75, ⟨[(.st (.pair (.int .i64) (.pair (.slice (.st (.pair (.int .i64) (.int .u8)))) (.pair (.slice (.st (.pair (.int .i64) (.int .i64)))) (.slice (.int .i64)))))), (.slice .bool), (.slice .bool)], [(.slice .bool)], [.row 4], fun x => F_aig_all x.1 x.2.1 x.2.2⟩) :: L_aig_ends
def L_aig_Run : List (Nat × FSpec) := (36, ⟨[(.st (.pair (.int .i64) (.pair (.slice (.st (.pair (.int .i64) (.int .u8)))) (.pair (.slice (.st (.pair (.int .i64) (.int .i64)))) (.slice (.int .i64)))))), (.slice (.slice .bool))], [(.slice (.slice .bool)), (.slice (.slice .bool)), (.int .i64)], [.row 60, .row 60, .no], fun x => F_aig_Run x.1 x.2⟩) :: L_aig_all
def L_trace_bit : List (Nat × FSpec) := (68, ⟨[.bool], [(.int .u8)], [.no], fun x => F_trace_bit x⟩) :: L_aig_Run
def L_slices_Concat_Bit_Bit : List (Nat × FSpec) := (107, ⟨[(.slice (.slice (.int .u8)))], [(.slice (.int .u8))], [.row 33], fun x => F_slices_Concat_Bit_Bit x⟩) :: L_trace_bit
def L_trace_and : List (Nat × FSpec) := (108, ⟨[(.int .u8), (.int .u8)], [(.int .u8)], [.no], fun x => F_trace_and x.1 x.2⟩) :: L_slices_Concat_Bit_Bit
def L_trace_not : List (Nat × FSpec) := (115, ⟨[(.int .u8)], [(.int .u8)], [.no], fun x => F_trace_not x⟩) :: L_trace_and
def L_trace_simulate : List (Nat × FSpec) := (61, ⟨[(.st (.pair (.int .i64) (.pair (.slice (.st (.pair (.int .i64) (.int .u8)))) (.pair (.slice (.st (.pair (.int .i64) (.int .i64)))) (.slice (.int .i64)))))), (.slice (.slice (.int .u8)))], [(.slice (.slice (.int .u8)))], [.mat 24 [33]], fun x => F_trace_simulate x.1 x.2⟩) :: L_trace_not
def L_trace_Run : List (Nat × FSpec) := (26, ⟨[(.st (.pair (.int .i64) (.pair (.slice (.st (.pair (.int .i64) (.int .u8)))) (.pair (.slice (.st (.pair (.int .i64) (.int .i64)))) (.slice (.int .i64)))))), (.slice (.slice (.int .u8)))], [(.slice (.slice (.int .u8))), (.int .i64)], [.mat 24 [33], .no], fun x => F_trace_Run x.1 x.2⟩) :: L_trace_simulate
def L_trace_Matches_1 : List (Nat × FSpec) := (66, ⟨[(.slice (.int .u8)), (.slice .bool)], [.bool], [.no], fun x => F_trace_Matches_1 x.1 x.2⟩) :: L_trace_Run
def L_trace_Matches : List (Nat × FSpec) := (28, ⟨[(.slice (.slice (.int .u8))), (.slice (.slice .bool))], [.bool], [.no], fun x => F_trace_Matches x.1 x.2⟩) :: L_trace_Matches_1
def L_r20_Bring : List (Nat × FSpec) := (33, ⟨[(.int .i64), (.int .i64)], [(.int .i64)], [.no], fun x => F_r20_Bring x.1 x.2⟩) :: L_trace_Matches
def L_r20_Nodes : List (Nat × FSpec) := (70, ⟨[(.st (.pair (.int .i64) (.pair (.slice (.st (.pair (.int .i64) (.int .u8)))) (.pair (.slice (.st (.pair (.int .i64) (.int .i64)))) (.slice (.int .i64))))))], [(.int .i64)], [.no], fun x => F_r20_Nodes x⟩) :: L_r20_Bring
def L_r20_Fit : List (Nat × FSpec) := (32, ⟨[(.st (.pair (.int .i64) (.pair (.slice (.st (.pair (.int .i64) (.int .u8)))) (.pair (.slice (.st (.pair (.int .i64) (.int .i64)))) (.slice (.int .i64)))))), (.int .i64)], [(.st (.pair (.int .i64) (.pair (.slice (.st (.pair (.int .i64) (.int .u8)))) (.pair (.slice (.st (.pair (.int .i64) (.int .i64)))) (.slice (.int .i64))))))], [.no], fun x => F_r20_Fit x.1 x.2⟩) :: L_r20_Nodes
def L_r20_Bits : List (Nat × FSpec) := (71, ⟨[(.int .u64), (.int .i64)], [(.slice .bool)], [.row 4], fun x => F_r20_Bits x.1 x.2⟩) :: L_r20_Fit
def L_w36_cycles : List (Nat × FSpec) := (34, ⟨[(.st (.pair (.int .i64) (.pair (.slice (.st (.pair (.int .i64) (.int .u8)))) (.pair (.slice (.st (.pair (.int .i64) (.int .i64)))) (.slice (.int .i64)))))), (.slice (.int .u64))], [(.slice (.slice .bool))], [.row 60], fun x => F_w36_cycles x.1 x.2⟩) :: L_r20_Bits
def L_w36_filled : List (Nat × FSpec) := (35, ⟨[(.slice (.slice (.int .u8))), (.int .u64)], [(.slice (.slice .bool))], [.row 60], fun x => F_w36_filled x.1 x.2⟩) :: L_w36_cycles
def L_trace_Pattern : List (Nat × FSpec) := (30, ⟨[(.slice (.slice .bool))], [(.slice (.slice (.int .u8)))], [.mat 24 [33]], fun x => F_trace_Pattern x⟩) :: L_w36_filled
def L_w36_TraceInforms : List (Nat × FSpec) := (8, ⟨[(.st (.pair (.int .i64) (.pair (.slice (.st (.pair (.int .i64) (.int .u8)))) (.pair (.slice (.st (.pair (.int .i64) (.int .i64)))) (.slice (.int .i64)))))), (.slice (.int .u64)), (.slice (.int .u64)), (.int .u64)], [.bool], [.no], fun x => F_w36_TraceInforms x.1 x.2.1 x.2.2.1 x.2.2.2⟩) :: L_trace_Pattern
end
end Go.Proofs.YtkcmacdakgohcaaDoor
