/- What varies in the loops, laid variables; the functions, as the typed machine prints them; what was printed is what the typed machine comes to. -/
import Derived.Test.YtkcmacdakgohcaaDoorTmList
import Derived.KernelRfl
import Derived.Test.YtkcmacdakgohcaaDoorProg
set_option linter.unusedVariables false
set_option linter.unusedSimpArgs false
set_option linter.unusedSectionVars false
open Go Go.AM Go.TM
namespace Go.Proofs.YtkcmacdakgohcaaDoor
abbrev TAig : Type := (Int × ((List (Int × Int)) × ((List (Int × Int)) × (List Int))))
abbrev LI : Type := (List Int)
abbrev LLI : Type := (List LI)
abbrev LB : Type := (List Bool)
abbrev LLB : Type := (List LB)
def annL : List (List Nat × Nat × List Sh) := [([11], 0, [.val 4 (.int .i64), .own 3 (.slice (.int .u8)) 24]),
  ([16], 0, [.val 5 (.int .i64)]),
  ([16], 2, [.val 6 (.int .i64)]),
  ([55], 1, [.val 33 (.int .i64)]),
  ([55], 3, [.val 60 (.int .i64)]),
  ([55], 5, [.val 80 (.int .i64)]),
  ([107], 0, [.val 11 (.int .i64), .val 3 (.int .i64)]),
  ([107], 2, [.val 27 (.int .i64), .own 6 (.int .u8) 33]),
  ([61], 0, [.val 19 (.int .i64), .own 6 (.int .u8) 33]),
  ([61], 2, [.val 33 (.int .i64), .own 6 (.int .u8) 33, .ownC [5] 4 (.int .u8) 33, .own 4 (.slice (.int .u8)) 24]),
  ([93, 61], 0, [.val 28 (.int .i64), .ownC [0] 4 (.int .u8) 33]),
  ([93, 61], 2, [.val 57 (.int .i64), .own 6 (.int .u8) 33]),
  ([93, 61], 4, [.val 74 (.int .i64), .own 7 (.int .u8) 33]),
  ([26], 0, [.val 19 (.int .i64)]),
  ([80, 43, 26], 0, [.val 8 (.int .i64)]),
  ([58], 0, [.val 3 (.int .i64)]),
  ([58], 2, [.val 7 (.int .i64)]),
  ([58], 4, [.val 8 (.int .i64)]),
  ([62], 0, [.val 6 (.int .i64), .own 5 (.int .u8) 33]),
  ([62], 2, [.val 8 (.int .i64), .own 5 (.int .u8) 33, .own 7 (.slice (.int .u8)) 24]),
  ([62], 4, [.val 10 (.int .i64), .own 9 (.int .u8) 33]),
  ([62], 6, [.val 15 (.int .i64), .own 13 (.int .u8) 33]),
  ([62], 8, [.val 16 (.int .i64), .own 14 (.int .u8) 33]),
  ([27], 0, [.val 7 (.int .i64)]),
  ([27], 2, [.val 8 (.int .i64)]),
  ([67, 28], 0, [.val 17 (.int .i64)]),
  ([92, 28], 0, [.val 9 (.int .i64), .cell [0, 4] 0 .bool]),
  ([92, 28], 2, [.val 16 (.int .i64), .cell [0, 4] 0 .bool]),
  ([29], 0, [.val 5 (.int .i64)]),
  ([29], 2, [.val 6 (.int .i64)]),
  ([30], 0, [.val 10 (.int .i64), .own 2 (.slice (.int .u8)) 24]),
  ([30], 2, [.val 19 (.int .i64), .own 5 (.int .u8) 33]),
  ([31], 0, [.val 4 (.int .i64), .own 3 (.slice (.int .u8)) 24]),
  ([31], 2, [.val 6 (.int .i64), .own 5 (.int .u8) 33]),
  ([73], 0, [.val 16 (.int .i64), .own 3 .bool 4]),
  ([74], 0, [.val 13 (.int .i64), .own 4 .bool 4]),
  ([74], 2, [.val 27 (.int .i64), .own 5 .bool 4]),
  ([75], 0, [.val 21 (.int .i64), .own 7 .bool 4]),
  ([96, 63, 36], 0, [.val 8 (.int .i64)]),
  ([36], 0, [.val 32 (.int .i64), .val 8 (.deep .bool), .own 4 (.slice .bool) 60, .own 5 (.slice .bool) 60]),
  ([77], 0, [.val 11 (.int .i64), .val 3 (.int .i64)]),
  ([77], 2, [.val 27 (.int .i64), .own 6 .str 9]),
  ([78], 0, [.val 11 (.int .i64), .val 3 (.int .i64)]),
  ([78], 2, [.val 27 (.int .i64), .own 6 .bool 4]),
  ([76, 38], 0, [.val 8 (.int .i64), .ownC [0] 1 (.st (.pair (.slice .str) (.pair .str (.int .i64)))) 130]),
  ([38], 0, [.val 73 (.int .i64), .own 12 .bool 4, .ownC [11] 2 (.st (.pair (.int .i64) (.pair (.int .i64) .str))) 128]),
  ([38], 2, [.val 92 (.int .i64), .ownC [11] 2 (.st (.pair (.int .i64) (.pair (.int .i64) .str))) 128]),
  ([116], 0, [.val 8 (.int .i64), .own 7 .bool 4]),
  ([106], 0, [.val 13 (.int .i64), .own 11 .bool 4]),
  ([106], 2, [.val 14 (.int .i64), .own 12 .bool 4]),
  ([90], 0, [.val 10 (.int .i64), .val 2 (.deep .bool), .own 8 (.slice .bool) 60, .own 9 (.slice .bool) 60]),
  ([91], 0, [.val 4 (.int .i64), .own 3 .bool 4]),
  ([59], 0, [.val 8 (.int .i64)]),
  ([39], 0, [.val 13 (.int .i64), .ownC [12] 1 (.st (.pair (.slice .str) (.pair .str (.int .i64)))) 130]),
  ([39], 2, [.val 15 (.int .i64), .ownC [12] 2 (.st (.pair (.int .i64) (.pair (.int .i64) .str))) 128, .own 14 .str 9]),
  ([39], 4, [.val 17 (.int .i64), .ownC [12] 2 (.st (.pair (.int .i64) (.pair (.int .i64) .str))) 128, .own 14 .str 9]),
  ([111], 0, [.val 5 (.int .i64)]),
  ([79], 0, [.val 5 (.int .i64)]),
  ([40], 0, [.val 5 (.int .i64)])]
def annJ : List (List Nat × Nat × List Sh) := []
def ann (c : List Nat) (b : Nat) : Option (List Sh) := cond (Nat.ble 999999 b) (findA c b annJ) (findA c b annL)
def gl : Nat → Option (List TV) := fun g => match g with
  | 2 => some [.int .u8 1, .int .u8 0, .int .u8 2]
  | 1 => some [.int .u8 0, .int .u8 0, .int .u8 0, .int .u8 0, .int .u8 1, .int .u8 2, .int .u8 0, .int .u8 2, .int .u8 2]
  | _ => none
def F17 : Option Bool := some true
/-- netlab/netlabref36.Copy -/
def F11_l0 (a0 : LLI) (st0 : (Int × (LLI × Unit))) : (Option ((Int × (LLI × Unit)) ⊕ ((Int × (LLI × Unit)) ⊕ LLI))) :=
  (br (lt st0.1 (ni (len a0))) (br (ix st0.1 (ni (len a0))) (br (fits 0 (len (rd a0 (tn st0.1) [])) 140737488355328) (br (fits (len st0.2.1) (len ([(rd a0 (tn st0.1) [])] : LLI)) 5864062014805) (some (.inl ((wr .i64 (ad st0.1 1)), ((app st0.2.1 ([(rd a0 (tn st0.1) [])] : LLI)), ())))) none) none) none) (some (.inr (.inl (st0.1, (st0.2.1, ()))))))
def F11 (a0 : LLI) : (Option LLI) :=
  (oj (iterS (F11_l0 a0) (0, ([], ()))) fun y0 => (some y0.2.1))
/-- netlab/netlabref36.Same -/
def F16_l1 (a0 : LLI) (a1 : LLI) (st0 : (Int × Unit)) (st1 : (Int × Unit)) : (Option ((Int × Unit) ⊕ ((Int × Unit) ⊕ ((Int × Unit) ⊕ ((Int × Unit) ⊕ Bool))))) :=
  (br (ix st0.1 (ni (len a0))) (br (lt st1.1 (ni (len (rd a0 (tn st0.1) [])))) (br (ix st0.1 (ni (len a0))) (br (ix st1.1 (ni (len (rd a0 (tn st0.1) [])))) (br (ix st0.1 (ni (len a1))) (br (ix st1.1 (ni (len (rd a1 (tn st0.1) [])))) (br (ne (rd (rd a0 (tn st0.1) []) (tn st1.1) 0) (rd (rd a1 (tn st0.1) []) (tn st1.1) 0)) (inR (inR (inR (some (.inr false))))) (some (.inl ((wr .i64 (ad st1.1 1)), ())))) none) none) none) none) (some (.inr (.inl (st1.1, ()))))) none)
def F16_l0 (a0 : LLI) (a1 : LLI) (st0 : (Int × Unit)) : (Option ((Int × Unit) ⊕ ((Int × Unit) ⊕ Bool))) :=
  (br (lt st0.1 (ni (len a0))) (br (ix st0.1 (ni (len a0))) (br (ix st0.1 (ni (len a1))) (br (ne (ni (len (rd a0 (tn st0.1) []))) (ni (len (rd a1 (tn st0.1) [])))) (inR (some (.inr false))) (oj (iterS (F16_l1 a0 a1 st0) (0, ())) fun y0 => (some (.inl ((wr .i64 (ad st0.1 1)), ()))))) none) none) (some (.inr (.inl (st0.1, ())))))
def F16 (a0 : LLI) (a1 : LLI) : (Option Bool) :=
  (br (ne (ni (len a0)) (ni (len a1))) (some false) (oj (iterS (F16_l0 a0 a1) (0, ())) fun y1 => (some true)))
/-- netlab/trace.wrong -/
def F44 (a0 : Int) : (Option Bool) :=
  (some (lt 2 a0))
/-- netlab/aig.first -/
def F89 (a0 : TAig) : (Option Int) :=
  (some (wr .i64 (ad (wr .i64 (ad 1 a0.1)) (ni (len a0.2.1)))))
/-- netlab/aig.size -/
def F87 (a0 : TAig) : (Option Int) :=
  (ob (F89 (a0.1, (a0.2.1, (a0.2.2.1, a0.2.2.2)))) fun y0 => (some (wr .i64 (ad y0 (ni (len a0.2.2.1))))))
/-- netlab/aig.Check$1 -/
def F88 (a0 : Int) (a1 : Int) : (Option Bool) :=
  (br (le 0 a0) (some (lt a0 (wr .i64 (ml 2 a1)))) (some false))
/-- netlab/aig.Check -/
def F55_l0 (a0 : TAig) (y0 : Int) (st0 : (Int × Unit)) : (Option ((Int × Unit) ⊕ ((Int × Unit) ⊕ Int))) :=
  (br (lt st0.1 (ni (len a0.2.2.1))) (br (ix st0.1 (ni (len a0.2.2.1))) (ob (F89 (a0.1, (a0.2.1, (a0.2.2.1, a0.2.2.2)))) fun y1 => (ob (F88 (rd a0.2.2.1 (tn st0.1) (0, 0)).1 (wr .i64 (ad y1 st0.1))) fun y2 => (br (nt y2) (inR (some (.inr 1))) (ob (F88 (rd a0.2.2.1 (tn st0.1) (0, 0)).2 (wr .i64 (ad y1 st0.1))) fun y3 => (br (nt y3) (inR (some (.inr 1))) (some (.inl ((wr .i64 (ad st0.1 1)), ())))))))) none) (some (.inr (.inl (st0.1, ())))))
def F55_l1 (a0 : TAig) (y0 : Int) (y4 : (Int × Unit)) (st1 : (Int × Unit)) : (Option ((Int × Unit) ⊕ ((Int × Unit) ⊕ Int))) :=
  (br (lt st1.1 (ni (len a0.2.1))) (br (ix st1.1 (ni (len a0.2.1))) (ob (F87 (a0.1, (a0.2.1, (a0.2.2.1, a0.2.2.2)))) fun y5 => (ob (F88 (rd a0.2.1 (tn st1.1) (0, 0)).1 y5) fun y6 => (br (nt y6) (inR (some (.inr 1))) (br (lt 1 (rd a0.2.1 (tn st1.1) (0, 0)).2) (inR (some (.inr 1))) (some (.inl ((wr .i64 (ad st1.1 1)), ()))))))) none) (some (.inr (.inl (st1.1, ())))))
def F55_l2 (a0 : TAig) (y0 : Int) (y4 : (Int × Unit)) (y7 : (Int × Unit)) (st2 : (Int × Unit)) : (Option ((Int × Unit) ⊕ ((Int × Unit) ⊕ Int))) :=
  (br (lt st2.1 (ni (len a0.2.2.2))) (br (ix st2.1 (ni (len a0.2.2.2))) (ob (F87 (a0.1, (a0.2.1, (a0.2.2.1, a0.2.2.2)))) fun y8 => (ob (F88 (rd a0.2.2.2 (tn st2.1) 0) y8) fun y9 => (br (nt y9) (inR (some (.inr 1))) (some (.inl ((wr .i64 (ad st2.1 1)), ())))))) none) (some (.inr (.inl (st2.1, ())))))
def F55 (a0 : TAig) : (Option Int) :=
  (br (lt a0.1 0) (some 1) (br (lt 4096 a0.1) (some 5) (ob (F87 (a0.1, (a0.2.1, (a0.2.2.1, a0.2.2.2)))) fun y0 => (br (lt 4096 y0) (some 5) (br (lt 4096 (ni (len a0.2.2.2))) (some 5) (oj (iterS (F55_l0 a0 y0) (0, ())) fun y4 => (oj (iterS (F55_l1 a0 y0 y4) (0, ())) fun y7 => (oj (iterS (F55_l2 a0 y0 y4 y7) (0, ())) fun y10 => (some 0)))))))))
/-- netlab/trace.bit -/
def F68 (a0 : Bool) : (Option Int) :=
  (br a0 (some 1) (some 0))
/-- slices.Concat[[]netlab/api.Bit,netlab/api.Bit] -/
def F107_l0 (a0 : LLI) (st0 : (Int × (Int × Unit))) : (Option ((Int × (Int × Unit)) ⊕ ((Int × (Int × Unit)) ⊕ LI))) :=
  (br (lt st0.1 (ni (len a0))) (br (ix st0.1 (ni (len a0))) (br (lt (wr .i64 (ad st0.2.1 (ni (len (rd a0 (tn st0.1) []))))) 0) none (some (.inl ((wr .i64 (ad st0.1 1)), ((wr .i64 (ad st0.2.1 (ni (len (rd a0 (tn st0.1) []))))), ()))))) none) (some (.inr (.inl (st0.1, (st0.2.1, ()))))))
def F107_l1 (a0 : LLI) (y0 : (Int × (Int × Unit))) (st1 : (Int × (LI × Unit))) : (Option ((Int × (LI × Unit)) ⊕ ((Int × (LI × Unit)) ⊕ LI))) :=
  (br (lt st1.1 (ni (len a0))) (br (ix st1.1 (ni (len a0))) (br (fits (len st1.2.1) (len (rd a0 (tn st1.1) [])) 140737488355328) (some (.inl ((wr .i64 (ad st1.1 1)), ((app st1.2.1 (rd a0 (tn st1.1) [])), ())))) none) none) (some (.inr (.inl (st1.1, (st1.2.1, ()))))))
def F107_l2 (a0 : LLI) (y0 : (Int × (Int × Unit))) (st2 : (Int × (LI × Unit))) : (Option ((Int × (LI × Unit)) ⊕ ((Int × (LI × Unit)) ⊕ LI))) :=
  (br (lt st2.1 (ni (len a0))) (br (ix st2.1 (ni (len a0))) (br (fits (len st2.2.1) (len (rd a0 (tn st2.1) [])) 140737488355328) (some (.inl ((wr .i64 (ad st2.1 1)), ((app st2.2.1 (rd a0 (tn st2.1) [])), ())))) none) none) (some (.inr (.inl (st2.1, (st2.2.1, ()))))))
def F107 (a0 : LLI) : (Option LI) :=
  (oj (iterS (F107_l0 a0) (0, (0, ()))) fun y0 => (br (lt y0.2.1 0) none (br (lt 0 (wr .i64 (sb y0.2.1 (wr .i64 (sb 0 (ni 0)))))) (br (lt 0 (wr .i64 (sb y0.2.1 (wr .i64 (sb 0 (ni 0)))))) (br (fits 0 (tn (wr .i64 (sb y0.2.1 (wr .i64 (sb 0 (ni 0)))))) 140737488355328) (br (rg 0 (ni 0) (ni (len (rept (tn (wr .i64 (sb y0.2.1 (wr .i64 (sb 0 (ni 0)))))) (0 : Int))))) (oj (iterS (F107_l1 a0 y0) (0, ((cut (rept (tn (wr .i64 (sb y0.2.1 (wr .i64 (sb 0 (ni 0)))))) (0 : Int)) 0 (tn (ni 0))), ()))) fun y1 => (some y1.2.1)) none) none) none) (oj (iterS (F107_l2 a0 y0) (0, ([], ()))) fun y2 => (some y2.2.1)))))
/-- netlab/trace.and -/
def F108 (a0 : Int) (a1 : Int) : (Option Int) :=
  (br (ix a0 3) (br (ix a1 3) (some (rd ([(rd ([(0, (0, 0)), (0, (1, 2)), (0, (2, 2))] : (List (Int × (Int × Int)))) (tn a0) (0, (0, 0))).1, (rd ([(0, (0, 0)), (0, (1, 2)), (0, (2, 2))] : (List (Int × (Int × Int)))) (tn a0) (0, (0, 0))).2.1, (rd ([(0, (0, 0)), (0, (1, 2)), (0, (2, 2))] : (List (Int × (Int × Int)))) (tn a0) (0, (0, 0))).2.2] : LI) (tn a1) 0)) none) none)
/-- netlab/trace.not -/
def F115 (a0 : Int) : (Option Int) :=
  (br (ix a0 3) (some (rd ([1, 0, 2] : LI) (tn a0) 0)) none)
/-- netlab/trace.simulate -/
def F61_l0 (a0 : TAig) (a1 : LLI) (st0 : (Int × (LI × Unit))) : (Option ((Int × (LI × Unit)) ⊕ ((Int × (LI × Unit)) ⊕ LLI))) :=
  (br (lt st0.1 (ni (len a0.2.1))) (br (ix st0.1 (ni (len a0.2.1))) (ob (F68 (eq (rd a0.2.1 (tn st0.1) (0, 0)).2 1)) fun y0 => (br (fits (len st0.2.1) (len ([y0] : LI)) 140737488355328) (some (.inl ((wr .i64 (ad st0.1 1)), ((app st0.2.1 ([y0] : LI)), ())))) none)) none) (some (.inr (.inl (st0.1, (st0.2.1, ()))))))
def F61_l2 (a0 : TAig) (a1 : LLI) (y1 : (Int × (LI × Unit))) (st1 : (Int × (LI × (LI × (LLI × Unit))))) (y2 : LI) (st2 : (Int × (LI × Unit))) : (Option ((Int × (LI × Unit)) ⊕ ((Int × (LI × Unit)) ⊕ ((Int × (LI × (LI × (LLI × Unit)))) ⊕ ((Int × (LI × (LI × (LLI × Unit)))) ⊕ LLI))))) :=
  (br (lt st2.1 (ni (len a0.2.2.1))) (br (ix st2.1 (ni (len a0.2.2.1))) (br (ix (shr .i64 (rd a0.2.2.1 (tn st2.1) (0, 0)).1 1) (ni (len st2.2.1))) (br (eq (band .i64 (rd a0.2.2.1 (tn st2.1) (0, 0)).1 1) 0) (br (ix (shr .i64 (rd a0.2.2.1 (tn st2.1) (0, 0)).2 1) (ni (len st2.2.1))) (br (eq (band .i64 (rd a0.2.2.1 (tn st2.1) (0, 0)).2 1) 0) (ob (F108 (rd st2.2.1 (tn (shr .i64 (rd a0.2.2.1 (tn st2.1) (0, 0)).1 1)) 0) (rd st2.2.1 (tn (shr .i64 (rd a0.2.2.1 (tn st2.1) (0, 0)).2 1)) 0)) fun y3 => (br (fits (len st2.2.1) (len ([y3] : LI)) 140737488355328) (some (.inl ((wr .i64 (ad st2.1 1)), ((app st2.2.1 ([y3] : LI)), ())))) none)) (br (ix (shr .i64 (rd a0.2.2.1 (tn st2.1) (0, 0)).2 1) (ni (len st2.2.1))) (ob (F115 (rd st2.2.1 (tn (shr .i64 (rd a0.2.2.1 (tn st2.1) (0, 0)).2 1)) 0)) fun y4 => (ob (F108 (rd st2.2.1 (tn (shr .i64 (rd a0.2.2.1 (tn st2.1) (0, 0)).1 1)) 0) y4) fun y5 => (br (fits (len st2.2.1) (len ([y5] : LI)) 140737488355328) (some (.inl ((wr .i64 (ad st2.1 1)), ((app st2.2.1 ([y5] : LI)), ())))) none))) none)) none) (br (ix (shr .i64 (rd a0.2.2.1 (tn st2.1) (0, 0)).1 1) (ni (len st2.2.1))) (ob (F115 (rd st2.2.1 (tn (shr .i64 (rd a0.2.2.1 (tn st2.1) (0, 0)).1 1)) 0)) fun y6 => (br (ix (shr .i64 (rd a0.2.2.1 (tn st2.1) (0, 0)).2 1) (ni (len st2.2.1))) (br (eq (band .i64 (rd a0.2.2.1 (tn st2.1) (0, 0)).2 1) 0) (ob (F108 y6 (rd st2.2.1 (tn (shr .i64 (rd a0.2.2.1 (tn st2.1) (0, 0)).2 1)) 0)) fun y7 => (br (fits (len st2.2.1) (len ([y7] : LI)) 140737488355328) (some (.inl ((wr .i64 (ad st2.1 1)), ((app st2.2.1 ([y7] : LI)), ())))) none)) (br (ix (shr .i64 (rd a0.2.2.1 (tn st2.1) (0, 0)).2 1) (ni (len st2.2.1))) (ob (F115 (rd st2.2.1 (tn (shr .i64 (rd a0.2.2.1 (tn st2.1) (0, 0)).2 1)) 0)) fun y8 => (ob (F108 y6 y8) fun y9 => (br (fits (len st2.2.1) (len ([y9] : LI)) 140737488355328) (some (.inl ((wr .i64 (ad st2.1 1)), ((app st2.2.1 ([y9] : LI)), ())))) none))) none)) none)) none)) none) none) (some (.inr (.inl (st2.1, (st2.2.1, ()))))))
def F61_l3 (a0 : TAig) (a1 : LLI) (y1 : (Int × (LI × Unit))) (st1 : (Int × (LI × (LI × (LLI × Unit))))) (y2 : LI) (y10 : (Int × (LI × Unit))) (st3 : (Int × (LI × Unit))) : (Option ((Int × (LI × Unit)) ⊕ ((Int × (LI × Unit)) ⊕ ((Int × (LI × (LI × (LLI × Unit)))) ⊕ ((Int × (LI × (LI × (LLI × Unit)))) ⊕ LLI))))) :=
  (br (lt st3.1 (ni (len a0.2.2.2))) (br (ix st3.1 (ni (len a0.2.2.2))) (br (ix (shr .i64 (rd a0.2.2.2 (tn st3.1) 0) 1) (ni (len y10.2.1))) (br (eq (band .i64 (rd a0.2.2.2 (tn st3.1) 0) 1) 0) (br (fits (len st3.2.1) (len ([(rd y10.2.1 (tn (shr .i64 (rd a0.2.2.2 (tn st3.1) 0) 1)) 0)] : LI)) 140737488355328) (some (.inl ((wr .i64 (ad st3.1 1)), ((app st3.2.1 ([(rd y10.2.1 (tn (shr .i64 (rd a0.2.2.2 (tn st3.1) 0) 1)) 0)] : LI)), ())))) none) (br (ix (shr .i64 (rd a0.2.2.2 (tn st3.1) 0) 1) (ni (len y10.2.1))) (ob (F115 (rd y10.2.1 (tn (shr .i64 (rd a0.2.2.2 (tn st3.1) 0) 1)) 0)) fun y11 => (br (fits (len st3.2.1) (len ([y11] : LI)) 140737488355328) (some (.inl ((wr .i64 (ad st3.1 1)), ((app st3.2.1 ([y11] : LI)), ())))) none)) none)) none) none) (some (.inr (.inl (st3.1, (st3.2.1, ()))))))
def F61_l4 (a0 : TAig) (a1 : LLI) (y1 : (Int × (LI × Unit))) (st1 : (Int × (LI × (LI × (LLI × Unit))))) (y2 : LI) (y10 : (Int × (LI × Unit))) (y12 : (Int × (LI × Unit))) (st4 : (Int × (LI × Unit))) : (Option ((Int × (LI × Unit)) ⊕ ((Int × (LI × Unit)) ⊕ ((Int × (LI × (LI × (LLI × Unit)))) ⊕ ((Int × (LI × (LI × (LLI × Unit)))) ⊕ LLI))))) :=
  (br (lt st4.1 (ni (len a0.2.1))) (br (ix st4.1 (ni (len a0.2.1))) (br (ix (shr .i64 (rd a0.2.1 (tn st4.1) (0, 0)).1 1) (ni (len y10.2.1))) (br (eq (band .i64 (rd a0.2.1 (tn st4.1) (0, 0)).1 1) 0) (br (fits (len st4.2.1) (len ([(rd y10.2.1 (tn (shr .i64 (rd a0.2.1 (tn st4.1) (0, 0)).1 1)) 0)] : LI)) 140737488355328) (some (.inl ((wr .i64 (ad st4.1 1)), ((app st4.2.1 ([(rd y10.2.1 (tn (shr .i64 (rd a0.2.1 (tn st4.1) (0, 0)).1 1)) 0)] : LI)), ())))) none) (br (ix (shr .i64 (rd a0.2.1 (tn st4.1) (0, 0)).1 1) (ni (len y10.2.1))) (ob (F115 (rd y10.2.1 (tn (shr .i64 (rd a0.2.1 (tn st4.1) (0, 0)).1 1)) 0)) fun y13 => (br (fits (len st4.2.1) (len ([y13] : LI)) 140737488355328) (some (.inl ((wr .i64 (ad st4.1 1)), ((app st4.2.1 ([y13] : LI)), ())))) none)) none)) none) none) (some (.inr (.inl (st4.1, (st4.2.1, ()))))))
def F61_l1 (a0 : TAig) (a1 : LLI) (y1 : (Int × (LI × Unit))) (st1 : (Int × (LI × (LI × (LLI × Unit))))) : (Option ((Int × (LI × (LI × (LLI × Unit)))) ⊕ ((Int × (LI × (LI × (LLI × Unit)))) ⊕ LLI))) :=
  (br (lt st1.1 (ni (len a1))) (br (ix st1.1 (ni (len a1))) (ob (F107 ([([0] : LI), (rd a1 (tn st1.1) []), st1.2.1] : LLI)) fun y2 => (oj (iterS (F61_l2 a0 a1 y1 st1 y2) (0, (y2, ()))) fun y10 => (oj (iterS (F61_l3 a0 a1 y1 st1 y2 y10) (0, ([], ()))) fun y12 => (oj (iterS (F61_l4 a0 a1 y1 st1 y2 y10 y12) (0, ([], ()))) fun y14 => (br (fits (len st1.2.2.2.1) (len ([y12.2.1] : LLI)) 5864062014805) (some (.inl ((wr .i64 (ad st1.1 1)), (y14.2.1, (y10.2.1, ((app st1.2.2.2.1 ([y12.2.1] : LLI)), ())))))) none))))) none) (some (.inr (.inl (st1.1, (st1.2.1, (st1.2.2.1, (st1.2.2.2.1, ()))))))))
def F61 (a0 : TAig) (a1 : LLI) : (Option LLI) :=
  (oj (iterS (F61_l0 a0 a1) (0, ([], ()))) fun y1 => (oj (iterS (F61_l1 a0 a1 y1) (0, (y1.2.1, ([], ([], ()))))) fun y15 => (some y15.2.2.2.1)))
/-- netlab/trace.Run -/
def F26_l1 (a0 : TAig) (a1 : LLI) (y0 : Int) (st0 : (Int × Unit)) (st1 : (Int × Unit)) : (Option ((Int × Unit) ⊕ ((Int × Unit) ⊕ ((Int × Unit) ⊕ ((Int × Unit) ⊕ (LLI × Int)))))) :=
  (br (lt st1.1 (ni (len (rd a1 (tn st0.1) [])))) (br (ix st1.1 (ni (len (rd a1 (tn st0.1) [])))) (ob (F44 (rd (rd a1 (tn st0.1) []) (tn st1.1) 0)) fun y1 => (br y1 (inR (inR (br (le 0 st1.1) (inR (some (.inr ([], 3)))) (some (.inl ((wr .i64 (ad st0.1 1)), ())))))) (some (.inl ((wr .i64 (ad st1.1 1)), ()))))) none) (some (.inr (.inl (st1.1, ())))))
def F26_l0 (a0 : TAig) (a1 : LLI) (y0 : Int) (st0 : (Int × Unit)) : (Option ((Int × Unit) ⊕ ((Int × Unit) ⊕ (LLI × Int)))) :=
  (br (lt st0.1 (ni (len a1))) (br (ix st0.1 (ni (len a1))) (br (ne (ni (len (rd a1 (tn st0.1) []))) a0.1) (inR (some (.inr ([], 12)))) (oj (iterS (F26_l1 a0 a1 y0 st0) (0, ())) fun y2 => (some (.inl ((wr .i64 (ad st0.1 1)), ()))))) none) (some (.inr (.inl (st0.1, ())))))
def F26 (a0 : TAig) (a1 : LLI) : (Option (LLI × Int)) :=
  (ob (F55 (a0.1, (a0.2.1, (a0.2.2.1, a0.2.2.2)))) fun y0 => (br (ne y0 0) (some ([], y0)) (br (lt 64 (ni (len a1))) (some ([], 5)) (oj (iterS (F26_l0 a0 a1 y0) (0, ())) fun y3 => (ob (F61 (a0.1, (a0.2.1, (a0.2.2.1, a0.2.2.2))) a1) fun y4 => (some (y4, 0)))))))
/-- netlab/netlabref20.Nodes -/
def F70 (a0 : TAig) : (Option Int) :=
  (some (wr .i64 (ad (wr .i64 (ad (wr .i64 (ad 1 a0.1)) (ni (len a0.2.1)))) (ni (len a0.2.2.1)))))
/-- netlab/netlabref20.Check -/
def F58_l0 (a0 : TAig) (y0 : Int) (st0 : (Int × Unit)) : (Option ((Int × Unit) ⊕ ((Int × Unit) ⊕ Int))) :=
  (br (lt st0.1 (ni (len a0.2.2.1))) (br (ix st0.1 (ni (len a0.2.2.1))) (br (lt (rd a0.2.2.1 (tn st0.1) (0, 0)).1 0) (inR (some (.inr 1))) (br (le (wr .i64 (ml 2 (wr .i64 (ad (wr .i64 (ad (wr .i64 (ad 1 a0.1)) (ni (len a0.2.1)))) st0.1)))) (rd a0.2.2.1 (tn st0.1) (0, 0)).1) (inR (some (.inr 1))) (br (lt (rd a0.2.2.1 (tn st0.1) (0, 0)).2 0) (inR (some (.inr 1))) (br (le (wr .i64 (ml 2 (wr .i64 (ad (wr .i64 (ad (wr .i64 (ad 1 a0.1)) (ni (len a0.2.1)))) st0.1)))) (rd a0.2.2.1 (tn st0.1) (0, 0)).2) (inR (some (.inr 1))) (some (.inl ((wr .i64 (ad st0.1 1)), ()))))))) none) (some (.inr (.inl (st0.1, ())))))
def F58_l1 (a0 : TAig) (y0 : Int) (y1 : (Int × Unit)) (y2 : Int) (st1 : (Int × Unit)) : (Option ((Int × Unit) ⊕ ((Int × Unit) ⊕ Int))) :=
  (br (lt st1.1 (ni (len a0.2.1))) (br (ix st1.1 (ni (len a0.2.1))) (br (lt (rd a0.2.1 (tn st1.1) (0, 0)).1 0) (inR (some (.inr 1))) (br (ix st1.1 (ni (len a0.2.1))) (br (le (wr .i64 (ml 2 y2)) (rd a0.2.1 (tn st1.1) (0, 0)).1) (inR (some (.inr 1))) (br (ix st1.1 (ni (len a0.2.1))) (br (lt 1 (rd a0.2.1 (tn st1.1) (0, 0)).2) (inR (some (.inr 1))) (some (.inl ((wr .i64 (ad st1.1 1)), ())))) none)) none)) none) (some (.inr (.inl (st1.1, ())))))
def F58_l2 (a0 : TAig) (y0 : Int) (y1 : (Int × Unit)) (y2 : Int) (y3 : (Int × Unit)) (st2 : (Int × Unit)) : (Option ((Int × Unit) ⊕ ((Int × Unit) ⊕ Int))) :=
  (br (lt st2.1 (ni (len a0.2.2.2))) (br (ix st2.1 (ni (len a0.2.2.2))) (br (lt (rd a0.2.2.2 (tn st2.1) 0) 0) (inR (some (.inr 1))) (br (ix st2.1 (ni (len a0.2.2.2))) (br (le (wr .i64 (ml 2 y2)) (rd a0.2.2.2 (tn st2.1) 0)) (inR (some (.inr 1))) (some (.inl ((wr .i64 (ad st2.1 1)), ())))) none)) none) (some (.inr (.inl (st2.1, ())))))
def F58 (a0 : TAig) : (Option Int) :=
  (br (lt a0.1 0) (some 1) (br (lt 4096 a0.1) (some 5) (br (lt 4096 (ni (len a0.2.1))) (some 5) (br (lt 4096 (ni (len a0.2.2.1))) (some 5) (ob (F70 (a0.1, (a0.2.1, (a0.2.2.1, a0.2.2.2)))) fun y0 => (br (lt 4096 y0) (some 5) (br (lt 4096 (ni (len a0.2.2.2))) (some 5) (oj (iterS (F58_l0 a0 y0) (0, ())) fun y1 => (ob (F70 (a0.1, (a0.2.1, (a0.2.2.1, a0.2.2.2)))) fun y2 => (oj (iterS (F58_l1 a0 y0 y1 y2) (0, ())) fun y3 => (oj (iterS (F58_l2 a0 y0 y1 y2 y3) (0, ())) fun y4 => (some 0))))))))))))
/-- netlab/netlabref36.bit -/
def F69 (a0 : Bool) : (Option Int) :=
  (br a0 (some 1) (some 0))
/-- netlab/netlabref36.not -/
def F110 (a0 : Int) : (Option Int) :=
  (br (eq a0 0) (some 1) (br (eq a0 1) (some 0) (some 2)))
/-- netlab/netlabref36.of -/
def F94 (a0 : LI) (a1 : Int) : (Option Int) :=
  (br (eq (md a1 2) 1) (br (ix (wr .i64 (dv a1 2)) (ni (len a0))) (ob (F110 (rd a0 (tn (wr .i64 (dv a1 2))) 0)) fun y0 => (some y0)) none) (br (ix (wr .i64 (dv a1 2)) (ni (len a0))) (some (rd a0 (tn (wr .i64 (dv a1 2))) 0)) none))
/-- netlab/netlabref36.and -/
def F95 (a0 : Int) (a1 : Int) : (Option Int) :=
  (br (eq a0 0) (some 0) (br (eq a1 0) (some 0) (br (eq a0 1) (br (eq a1 1) (some 1) (some 2)) (some 2))))
/-- netlab/netlabref36.simulate -/
def F62_l0 (a0 : TAig) (a1 : LLI) (st0 : (Int × (LI × Unit))) : (Option ((Int × (LI × Unit)) ⊕ ((Int × (LI × Unit)) ⊕ LLI))) :=
  (br (lt st0.1 (ni (len a0.2.1))) (br (ix st0.1 (ni (len a0.2.1))) (ob (F69 (eq (rd a0.2.1 (tn st0.1) (0, 0)).2 1)) fun y0 => (br (fits (len st0.2.1) (len ([y0] : LI)) 140737488355328) (some (.inl ((wr .i64 (ad st0.1 1)), ((app st0.2.1 ([y0] : LI)), ())))) none)) none) (some (.inr (.inl (st0.1, (st0.2.1, ()))))))
def F62_l2 (a0 : TAig) (a1 : LLI) (y1 : (Int × (LI × Unit))) (st1 : (Int × (LI × (LLI × Unit)))) (st2 : (Int × (LI × Unit))) : (Option ((Int × (LI × Unit)) ⊕ ((Int × (LI × Unit)) ⊕ ((Int × (LI × (LLI × Unit))) ⊕ ((Int × (LI × (LLI × Unit))) ⊕ LLI))))) :=
  (br (lt st2.1 (ni (len a0.2.2.1))) (br (ix st2.1 (ni (len a0.2.2.1))) (ob (F94 st2.2.1 (rd a0.2.2.1 (tn st2.1) (0, 0)).1) fun y2 => (br (ix st2.1 (ni (len a0.2.2.1))) (ob (F94 st2.2.1 (rd a0.2.2.1 (tn st2.1) (0, 0)).2) fun y3 => (ob (F95 y2 y3) fun y4 => (br (fits (len st2.2.1) (len ([y4] : LI)) 140737488355328) (some (.inl ((wr .i64 (ad st2.1 1)), ((app st2.2.1 ([y4] : LI)), ())))) none))) none)) none) (some (.inr (.inl (st2.1, (st2.2.1, ()))))))
def F62_l3 (a0 : TAig) (a1 : LLI) (y1 : (Int × (LI × Unit))) (st1 : (Int × (LI × (LLI × Unit)))) (y5 : (Int × (LI × Unit))) (st3 : (Int × (LI × Unit))) : (Option ((Int × (LI × Unit)) ⊕ ((Int × (LI × Unit)) ⊕ ((Int × (LI × (LLI × Unit))) ⊕ ((Int × (LI × (LLI × Unit))) ⊕ LLI))))) :=
  (br (lt st3.1 (ni (len a0.2.2.2))) (br (ix st3.1 (ni (len a0.2.2.2))) (ob (F94 y5.2.1 (rd a0.2.2.2 (tn st3.1) 0)) fun y6 => (br (fits (len st3.2.1) (len ([y6] : LI)) 140737488355328) (some (.inl ((wr .i64 (ad st3.1 1)), ((app st3.2.1 ([y6] : LI)), ())))) none)) none) (some (.inr (.inl (st3.1, (st3.2.1, ()))))))
def F62_l4 (a0 : TAig) (a1 : LLI) (y1 : (Int × (LI × Unit))) (st1 : (Int × (LI × (LLI × Unit)))) (y5 : (Int × (LI × Unit))) (y7 : (Int × (LI × Unit))) (st4 : (Int × (LI × Unit))) : (Option ((Int × (LI × Unit)) ⊕ ((Int × (LI × Unit)) ⊕ ((Int × (LI × (LLI × Unit))) ⊕ ((Int × (LI × (LLI × Unit))) ⊕ LLI))))) :=
  (br (lt st4.1 (ni (len a0.2.1))) (br (ix st4.1 (ni (len a0.2.1))) (ob (F94 y5.2.1 (rd a0.2.1 (tn st4.1) (0, 0)).1) fun y8 => (br (fits (len st4.2.1) (len ([y8] : LI)) 140737488355328) (some (.inl ((wr .i64 (ad st4.1 1)), ((app st4.2.1 ([y8] : LI)), ())))) none)) none) (some (.inr (.inl (st4.1, (st4.2.1, ()))))))
def F62_l1 (a0 : TAig) (a1 : LLI) (y1 : (Int × (LI × Unit))) (st1 : (Int × (LI × (LLI × Unit)))) : (Option ((Int × (LI × (LLI × Unit))) ⊕ ((Int × (LI × (LLI × Unit))) ⊕ LLI))) :=
  (br (lt st1.1 (ni (len a1))) (br (ix st1.1 (ni (len a1))) (br (fits (len ([0] : LI)) (len (rd a1 (tn st1.1) [])) 140737488355328) (br (fits (len (app ([0] : LI) (rd a1 (tn st1.1) []))) (len st1.2.1) 140737488355328) (oj (iterS (F62_l2 a0 a1 y1 st1) (0, ((app (app ([0] : LI) (rd a1 (tn st1.1) [])) st1.2.1), ()))) fun y5 => (oj (iterS (F62_l3 a0 a1 y1 st1 y5) (0, ([], ()))) fun y7 => (oj (iterS (F62_l4 a0 a1 y1 st1 y5 y7) (0, ([], ()))) fun y9 => (br (fits (len st1.2.2.1) (len ([y7.2.1] : LLI)) 5864062014805) (some (.inl ((wr .i64 (ad st1.1 1)), (y9.2.1, ((app st1.2.2.1 ([y7.2.1] : LLI)), ()))))) none)))) none) none) none) (some (.inr (.inl (st1.1, (st1.2.1, (st1.2.2.1, ())))))))
def F62 (a0 : TAig) (a1 : LLI) : (Option LLI) :=
  (oj (iterS (F62_l0 a0 a1) (0, ([], ()))) fun y1 => (oj (iterS (F62_l1 a0 a1 y1) (0, (y1.2.1, ([], ())))) fun y10 => (some y10.2.2.1)))
/-- netlab/netlabref36.Run -/
def F27_l1 (a0 : TAig) (a1 : LLI) (y0 : Int) (st0 : (Int × Unit)) (st1 : (Int × Unit)) : (Option ((Int × Unit) ⊕ ((Int × Unit) ⊕ ((Int × Unit) ⊕ ((Int × Unit) ⊕ (LLI × Int)))))) :=
  (br (ix st0.1 (ni (len a1))) (br (lt st1.1 (ni (len (rd a1 (tn st0.1) [])))) (br (ix st0.1 (ni (len a1))) (br (ix st1.1 (ni (len (rd a1 (tn st0.1) [])))) (br (lt 2 (rd (rd a1 (tn st0.1) []) (tn st1.1) 0)) (inR (inR (inR (some (.inr ([], 3)))))) (some (.inl ((wr .i64 (ad st1.1 1)), ())))) none) none) (some (.inr (.inl (st1.1, ()))))) none)
def F27_l0 (a0 : TAig) (a1 : LLI) (y0 : Int) (st0 : (Int × Unit)) : (Option ((Int × Unit) ⊕ ((Int × Unit) ⊕ (LLI × Int)))) :=
  (br (lt st0.1 (ni (len a1))) (br (ix st0.1 (ni (len a1))) (br (ne (ni (len (rd a1 (tn st0.1) []))) a0.1) (inR (some (.inr ([], 12)))) (oj (iterS (F27_l1 a0 a1 y0 st0) (0, ())) fun y1 => (some (.inl ((wr .i64 (ad st0.1 1)), ()))))) none) (some (.inr (.inl (st0.1, ())))))
def F27 (a0 : TAig) (a1 : LLI) : (Option (LLI × Int)) :=
  (ob (F58 (a0.1, (a0.2.1, (a0.2.2.1, a0.2.2.2)))) fun y0 => (br (ne y0 0) (some ([], y0)) (br (lt 64 (ni (len a1))) (some ([], 5)) (oj (iterS (F27_l0 a0 a1 y0) (0, ())) fun y2 => (ob (F62 (a0.1, (a0.2.1, (a0.2.2.1, a0.2.2.2))) a1) fun y3 => (some (y3, 0)))))))
/-- netlab/trace.Matches$1 -/
def F66 (a0 : LI) (a1 : LB) : (Option Bool) :=
  (some (eq (ni (len a0)) (ni (len a1))))
/-- netlab/trace.Matches -/
def F28_l0 (a0 : LLI) (a1 : LLB) (st0 : (Int × Unit)) : (Option ((Int × Unit) ⊕ ((Int × Unit) ⊕ Bool))) :=
  (br (lt st0.1 (ni (len a0))) (br (ix st0.1 (ni (len a0))) (br (ix st0.1 (ni (len a1))) (ob (F66 (rd a0 (tn st0.1) []) (rd a1 (tn st0.1) [])) fun y0 => (br (nt y0) (inR (some (.inr false))) (some (.inl ((wr .i64 (ad st0.1 1)), ()))))) none) none) (some (.inr (.inl (st0.1, ())))))
def F28_l2 (a0 : LLI) (a1 : LLB) (y1 : (Int × Unit)) (st1 : (Int × (Bool × Unit))) (st2 : (Int × (Bool × Unit))) : (Option ((Int × (Bool × Unit)) ⊕ ((Int × (Bool × Unit)) ⊕ ((Int × (Bool × Unit)) ⊕ ((Int × (Bool × Unit)) ⊕ Bool))))) :=
  (br (lt st2.1 (ni (len (rd a0 (tn st1.1) [])))) (br (ix st2.1 (ni (len (rd a0 (tn st1.1) [])))) (br (ix st1.1 (ni (len a1))) (br (ix st2.1 (ni (len (rd a1 (tn st1.1) [])))) (br (eq (rd (rd a0 (tn st1.1) []) (tn st2.1) 0) 0) (br (rd (rd a1 (tn st1.1) []) (tn st2.1) false) (inR (inR (inR (some (.inr false))))) (br (eq (rd (rd a0 (tn st1.1) []) (tn st2.1) 0) 1) (br (nt (rd (rd a1 (tn st1.1) []) (tn st2.1) false)) (inR (inR (inR (some (.inr false))))) (some (.inl ((wr .i64 (ad st2.1 1)), (st2.2.1, ()))))) (some (.inl ((wr .i64 (ad st2.1 1)), (st2.2.1, ())))))) (br (eq (rd (rd a0 (tn st1.1) []) (tn st2.1) 0) 1) (br (nt (rd (rd a1 (tn st1.1) []) (tn st2.1) false)) (inR (inR (inR (some (.inr false))))) (some (.inl ((wr .i64 (ad st2.1 1)), (st2.2.1, ()))))) (some (.inl ((wr .i64 (ad st2.1 1)), (st2.2.1, ())))))) none) none) none) (some (.inr (.inl (st2.1, (st2.2.1, ()))))))
def F28_l1 (a0 : LLI) (a1 : LLB) (y1 : (Int × Unit)) (st1 : (Int × (Bool × Unit))) : (Option ((Int × (Bool × Unit)) ⊕ ((Int × (Bool × Unit)) ⊕ Bool))) :=
  (br (lt st1.1 (ni (len a0))) (br (ix st1.1 (ni (len a0))) (oj (iterS (F28_l2 a0 a1 y1 st1) (0, (st1.2.1, ()))) fun y2 => (some (.inl ((wr .i64 (ad st1.1 1)), (y2.2.1, ()))))) none) (some (.inr (.inl (st1.1, (st1.2.1, ()))))))
def F28 (a0 : LLI) (a1 : LLB) : (Option Bool) :=
  (br (ne (ni (len a0)) (ni (len a1))) (some false) (oj (iterS (F28_l0 a0 a1) (0, ())) fun y1 => (oj (iterS (F28_l1 a0 a1 y1) (0, (false, ()))) fun y3 => (some true))))
/-- netlab/netlabref36.Matches -/
def F29_l1 (a0 : LLI) (a1 : LLB) (st0 : (Int × Unit)) (st1 : (Int × Unit)) : (Option ((Int × Unit) ⊕ ((Int × Unit) ⊕ ((Int × Unit) ⊕ ((Int × Unit) ⊕ Bool))))) :=
  (br (ix st0.1 (ni (len a0))) (br (lt st1.1 (ni (len (rd a0 (tn st0.1) [])))) (br (ix st0.1 (ni (len a0))) (br (ix st1.1 (ni (len (rd a0 (tn st0.1) [])))) (br (eq (rd (rd a0 (tn st0.1) []) (tn st1.1) 0) 0) (br (ix st0.1 (ni (len a1))) (br (ix st1.1 (ni (len (rd a1 (tn st0.1) [])))) (br (rd (rd a1 (tn st0.1) []) (tn st1.1) false) (inR (inR (inR (some (.inr false))))) (br (ix st0.1 (ni (len a0))) (br (ix st1.1 (ni (len (rd a0 (tn st0.1) [])))) (br (eq (rd (rd a0 (tn st0.1) []) (tn st1.1) 0) 1) (br (ix st0.1 (ni (len a1))) (br (ix st1.1 (ni (len (rd a1 (tn st0.1) [])))) (br (nt (rd (rd a1 (tn st0.1) []) (tn st1.1) false)) (inR (inR (inR (some (.inr false))))) (some (.inl ((wr .i64 (ad st1.1 1)), ())))) none) none) (some (.inl ((wr .i64 (ad st1.1 1)), ())))) none) none)) none) none) (br (ix st0.1 (ni (len a0))) (br (ix st1.1 (ni (len (rd a0 (tn st0.1) [])))) (br (eq (rd (rd a0 (tn st0.1) []) (tn st1.1) 0) 1) (br (ix st0.1 (ni (len a1))) (br (ix st1.1 (ni (len (rd a1 (tn st0.1) [])))) (br (nt (rd (rd a1 (tn st0.1) []) (tn st1.1) false)) (inR (inR (inR (some (.inr false))))) (some (.inl ((wr .i64 (ad st1.1 1)), ())))) none) none) (some (.inl ((wr .i64 (ad st1.1 1)), ())))) none) none)) none) none) (some (.inr (.inl (st1.1, ()))))) none)
def F29_l0 (a0 : LLI) (a1 : LLB) (st0 : (Int × Unit)) : (Option ((Int × Unit) ⊕ ((Int × Unit) ⊕ Bool))) :=
  (br (lt st0.1 (ni (len a0))) (br (ix st0.1 (ni (len a0))) (br (ix st0.1 (ni (len a1))) (br (ne (ni (len (rd a0 (tn st0.1) []))) (ni (len (rd a1 (tn st0.1) [])))) (inR (some (.inr false))) (oj (iterS (F29_l1 a0 a1 st0) (0, ())) fun y0 => (some (.inl ((wr .i64 (ad st0.1 1)), ()))))) none) none) (some (.inr (.inl (st0.1, ())))))
def F29 (a0 : LLI) (a1 : LLB) : (Option Bool) :=
  (br (ne (ni (len a0)) (ni (len a1))) (some false) (oj (iterS (F29_l0 a0 a1) (0, ())) fun y1 => (some true)))
/-- netlab/trace.Pattern -/
def F30_l1 (a0 : LLB) (st0 : (Int × (LLI × Unit))) (st1 : (Int × (LI × Unit))) : (Option ((Int × (LI × Unit)) ⊕ ((Int × (LI × Unit)) ⊕ ((Int × (LLI × Unit)) ⊕ ((Int × (LLI × Unit)) ⊕ LLI))))) :=
  (br (lt st1.1 (ni (len (rd a0 (tn st0.1) [])))) (br (ix st1.1 (ni (len (rd a0 (tn st0.1) [])))) (ob (F68 (rd (rd a0 (tn st0.1) []) (tn st1.1) false)) fun y0 => (br (ix st1.1 (ni (len st1.2.1))) (some (.inl ((wr .i64 (ad st1.1 1)), ((put st1.2.1 (tn st1.1) y0), ())))) none)) none) (some (.inr (.inl (st1.1, (st1.2.1, ()))))))
def F30_l0 (a0 : LLB) (st0 : (Int × (LLI × Unit))) : (Option ((Int × (LLI × Unit)) ⊕ ((Int × (LLI × Unit)) ⊕ LLI))) :=
  (br (lt st0.1 (ni (len a0))) (br (ix st0.1 (ni (len a0))) (br (rg 0 (ni (len (rd a0 (tn st0.1) []))) (ni (len (rd a0 (tn st0.1) [])))) (br (le (ni (len (rd a0 (tn st0.1) []))) 281474976710656) (br (le (ml 1 (ni (len (rd a0 (tn st0.1) [])))) 281474976710656) (oj (iterS (F30_l1 a0 st0) (0, ((rept (tn (ni (len (rd a0 (tn st0.1) [])))) (0 : Int)), ()))) fun y1 => (br (fits (len st0.2.1) (len ([y1.2.1] : LLI)) 5864062014805) (some (.inl ((wr .i64 (ad st0.1 1)), ((app st0.2.1 ([y1.2.1] : LLI)), ())))) none)) none) none) none) none) (some (.inr (.inl (st0.1, (st0.2.1, ()))))))
def F30 (a0 : LLB) : (Option LLI) :=
  (oj (iterS (F30_l0 a0) (0, ([], ()))) fun y2 => (some y2.2.1))
/-- netlab/netlabref36.Pattern -/
def F31_l1 (a0 : LLB) (st0 : (Int × (LLI × Unit))) (st1 : (Int × (LI × Unit))) : (Option ((Int × (LI × Unit)) ⊕ ((Int × (LI × Unit)) ⊕ ((Int × (LLI × Unit)) ⊕ ((Int × (LLI × Unit)) ⊕ LLI))))) :=
  (br (ix st0.1 (ni (len a0))) (br (lt st1.1 (ni (len (rd a0 (tn st0.1) [])))) (br (ix st0.1 (ni (len a0))) (br (ix st1.1 (ni (len (rd a0 (tn st0.1) [])))) (ob (F69 (rd (rd a0 (tn st0.1) []) (tn st1.1) false)) fun y0 => (br (fits (len st1.2.1) (len ([y0] : LI)) 140737488355328) (some (.inl ((wr .i64 (ad st1.1 1)), ((app st1.2.1 ([y0] : LI)), ())))) none)) none) none) (some (.inr (.inl (st1.1, (st1.2.1, ())))))) none)
def F31_l0 (a0 : LLB) (st0 : (Int × (LLI × Unit))) : (Option ((Int × (LLI × Unit)) ⊕ ((Int × (LLI × Unit)) ⊕ LLI))) :=
  (br (lt st0.1 (ni (len a0))) (oj (iterS (F31_l1 a0 st0) (0, ([], ()))) fun y1 => (br (fits (len st0.2.1) (len ([y1.2.1] : LLI)) 5864062014805) (some (.inl ((wr .i64 (ad st0.1 1)), ((app st0.2.1 ([y1.2.1] : LLI)), ())))) none)) (some (.inr (.inl (st0.1, (st0.2.1, ()))))))
def F31 (a0 : LLB) : (Option LLI) :=
  (oj (iterS (F31_l0 a0) (0, ([], ()))) fun y2 => (some y2.2.1))
/-- netlab/netlablaw36.TracePatternsMatch -/
def F6 (a0 : TAig) (a1 : LLI) (a2 : LLB) : (Option Bool) :=
  (br (fits 0 (len a0.2.1) 8796093022208) (br (fits 0 (len a0.2.2.1) 8796093022208) (br (fits 0 (len a0.2.2.2) 17592186044416) (br (rg 0 (mn (ni (len a0.2.1)) 30) (ni (len a0.2.1))) (br (rg 0 (mn (ni (len a0.2.2.1)) 30) (ni (len a0.2.2.1))) (br (rg 0 (mn (ni (len a0.2.2.2)) 30) (ni (len a0.2.2.2))) (br (rg 0 (mn (ni (len a1)) 66) (ni (len a1))) (ob (F11 (cut a1 0 (tn (mn (ni (len a1)) 66)))) fun y0 => (br (rg 0 (mn (ni (len a2)) 66) (ni (len a2))) (ob (F11 y0) fun y1 => (ob (F26 (a0.1, ((cut a0.2.1 0 (tn (mn (ni (len a0.2.1)) 30))), ((cut a0.2.2.1 0 (tn (mn (ni (len a0.2.2.1)) 30))), (cut a0.2.2.2 0 (tn (mn (ni (len a0.2.2.2)) 30)))))) y0) fun y2 => (ob (F27 (a0.1, ((cut a0.2.1 0 (tn (mn (ni (len a0.2.1)) 30))), ((cut a0.2.2.1 0 (tn (mn (ni (len a0.2.2.1)) 30))), (cut a0.2.2.2 0 (tn (mn (ni (len a0.2.2.2)) 30)))))) y0) fun y3 => (ob (F16 y2.1 y3.1) fun y4 => (br y4 (br (eq y2.2 y3.2) (ob (F28 y0 (cut a2 0 (tn (mn (ni (len a2)) 66)))) fun y5 => (ob (F29 y0 (cut a2 0 (tn (mn (ni (len a2)) 66)))) fun y6 => (br (bq y5 y6) (ob (F30 (cut a2 0 (tn (mn (ni (len a2)) 66)))) fun y7 => (ob (F31 (cut a2 0 (tn (mn (ni (len a2)) 66)))) fun y8 => (ob (F16 y7 y8) fun y9 => (br y9 (ob (F16 y0 y1) fun y10 => (br y10 (ob (F17) fun y11 => (some y11)) (some false))) (some false))))) (some false)))) (some false)) (some false)))))) none)) none) none) none) none) none) none) none)
/-- netlab/netlablaw36.few -/
def F37 (a0 : (List (List UInt8))) : (Option (List (List UInt8))) :=
  (br (rg 0 (mn (ni (len a0)) 40) (ni (len a0))) (some (cut a0 0 (tn (mn (ni (len a0)) 40)))) none)
/-- netlab/aig.Start -/
def F73_l0 (a0 : TAig) (y0 : Int) (st0 : (Int × (LB × Unit))) : (Option ((Int × (LB × Unit)) ⊕ ((Int × (LB × Unit)) ⊕ LB))) :=
  (br (lt st0.1 (ni (len a0.2.1))) (br (ix st0.1 (ni (len a0.2.1))) (br (ix st0.1 (ni (len st0.2.1))) (some (.inl ((wr .i64 (ad st0.1 1)), ((put st0.2.1 (tn st0.1) (eq (rd a0.2.1 (tn st0.1) (0, 0)).2 1)), ())))) none) none) (some (.inr (.inl (st0.1, (st0.2.1, ()))))))
def F73 (a0 : TAig) : (Option LB) :=
  (ob (F55 (a0.1, (a0.2.1, (a0.2.2.1, a0.2.2.2)))) fun y0 => (br (ne y0 0) (some []) (br (rg 0 (ni (len a0.2.1)) (ni (len a0.2.1))) (br (le (ni (len a0.2.1)) 281474976710656) (br (le (ml 1 (ni (len a0.2.1))) 281474976710656) (oj (iterS (F73_l0 a0 y0) (0, ((rept (tn (ni (len a0.2.1))) (false : Bool)), ()))) fun y1 => (some y1.2.1)) none) none) none)))
/-- (netlab/aig.values).of -/
def F97 (a0 : LB) (a1 : Int) : (Option Bool) :=
  (br (ix (shr .i64 a1 1) (ni (len a0))) (some (nt (bq (rd a0 (tn (shr .i64 a1 1)) false) (eq (band .i64 a1 1) 1)))) none)
/-- netlab/aig.ends -/
def F74_l0 (a0 : TAig) (a1 : LB) (st0 : (Int × (LB × Unit))) : (Option ((Int × (LB × Unit)) ⊕ ((Int × (LB × Unit)) ⊕ (LB × LB)))) :=
  (br (lt st0.1 (ni (len a0.2.2.2))) (br (ix st0.1 (ni (len a0.2.2.2))) (ob (F97 a1 (rd a0.2.2.2 (tn st0.1) 0)) fun y0 => (br (fits (len st0.2.1) (len ([y0] : LB)) 140737488355328) (some (.inl ((wr .i64 (ad st0.1 1)), ((app st0.2.1 ([y0] : LB)), ())))) none)) none) (some (.inr (.inl (st0.1, (st0.2.1, ()))))))
def F74_l1 (a0 : TAig) (a1 : LB) (y1 : (Int × (LB × Unit))) (st1 : (Int × (LB × Unit))) : (Option ((Int × (LB × Unit)) ⊕ ((Int × (LB × Unit)) ⊕ (LB × LB)))) :=
  (br (lt st1.1 (ni (len a0.2.1))) (br (ix st1.1 (ni (len a0.2.1))) (ob (F97 a1 (rd a0.2.1 (tn st1.1) (0, 0)).1) fun y2 => (br (fits (len st1.2.1) (len ([y2] : LB)) 140737488355328) (some (.inl ((wr .i64 (ad st1.1 1)), ((app st1.2.1 ([y2] : LB)), ())))) none)) none) (some (.inr (.inl (st1.1, (st1.2.1, ()))))))
def F74 (a0 : TAig) (a1 : LB) : (Option (LB × LB)) :=
  (oj (iterS (F74_l0 a0 a1) (0, ([], ()))) fun y1 => (oj (iterS (F74_l1 a0 a1 y1) (0, ([], ()))) fun y3 => (some (y1.2.1, y3.2.1))))
/-- netlab/aig.all -/
def F75_l0 (a0 : TAig) (a1 : LB) (a2 : LB) (y0 : Int) (st0 : (Int × (LB × Unit))) : (Option ((Int × (LB × Unit)) ⊕ ((Int × (LB × Unit)) ⊕ LB))) :=
  (br (lt st0.1 (ni (len a0.2.2.1))) (br (ix st0.1 (ni (len a0.2.2.1))) (ob (F97 st0.2.1 (rd a0.2.2.1 (tn st0.1) (0, 0)).1) fun y1 => (br y1 (ob (F97 st0.2.1 (rd a0.2.2.1 (tn st0.1) (0, 0)).2) fun y2 => (br (fits (len st0.2.1) (len ([y2] : LB)) 140737488355328) (some (.inl ((wr .i64 (ad st0.1 1)), ((app st0.2.1 ([y2] : LB)), ())))) none)) (br (fits (len st0.2.1) (len ([false] : LB)) 140737488355328) (some (.inl ((wr .i64 (ad st0.1 1)), ((app st0.2.1 ([false] : LB)), ())))) none))) none) (some (.inr (.inl (st0.1, (st0.2.1, ()))))))
def F75 (a0 : TAig) (a1 : LB) (a2 : LB) : (Option LB) :=
  (ob (F87 (a0.1, (a0.2.1, (a0.2.2.1, a0.2.2.2)))) fun y0 => (br (rg 0 1 y0) (br (le y0 281474976710656) (br (le (ml 1 y0) 281474976710656) (br (fits (len (rept (tn 1) (false : Bool))) (len a1) 140737488355328) (br (fits (len (app (rept (tn 1) (false : Bool)) a1)) (len a2) 140737488355328) (oj (iterS (F75_l0 a0 a1 a2 y0) (0, ((app (app (rept (tn 1) (false : Bool)) a1) a2), ()))) fun y3 => (some y3.2.1)) none) none) none) none) none))
/-- netlab/aig.Run -/
def F36_l0 (a0 : TAig) (a1 : LLB) (y0 : Int) (st0 : (Int × Unit)) : (Option ((Int × Unit) ⊕ ((Int × Unit) ⊕ (LLB × (LLB × Int))))) :=
  (br (lt st0.1 (ni (len a1))) (br (ix st0.1 (ni (len a1))) (br (ne (ni (len (rd a1 (tn st0.1) []))) a0.1) (inR (inR (br (le 0 st0.1) (some ([], ([], 12))) (ob (F73 (a0.1, (a0.2.1, (a0.2.2.1, a0.2.2.2)))) fun y1 => (br (fits 0 (len ([y1] : LLB)) 5864062014805) none none))))) (some (.inl ((wr .i64 (ad st0.1 1)), ())))) none) (some (.inr (.inl (st0.1, ())))))
def F36 (a0 : TAig) (a1 : LLB) : (Option (LLB × (LLB × Int))) :=
  (ob (F55 (a0.1, (a0.2.1, (a0.2.2.1, a0.2.2.2)))) fun y0 => (br (ne y0 0) (some ([], ([], y0))) (br (lt 64 (ni (len a1))) (some ([], ([], 5))) (oj (iterS (F36_l0 a0 a1 y0) (0, ())) fun y2 => (ob (F73 (a0.1, (a0.2.1, (a0.2.2.1, a0.2.2.2)))) fun y3 => (br (fits 0 (len ([y3] : LLB)) 5864062014805) none none))))))
/-- slices.Concat[[]string,string] -/
def F77_l0 (a0 : (List (List (List UInt8)))) (st0 : (Int × (Int × Unit))) : (Option ((Int × (Int × Unit)) ⊕ ((Int × (Int × Unit)) ⊕ (List (List UInt8))))) :=
  (br (lt st0.1 (ni (len a0))) (br (ix st0.1 (ni (len a0))) (br (lt (wr .i64 (ad st0.2.1 (ni (len (rd a0 (tn st0.1) []))))) 0) none (some (.inl ((wr .i64 (ad st0.1 1)), ((wr .i64 (ad st0.2.1 (ni (len (rd a0 (tn st0.1) []))))), ()))))) none) (some (.inr (.inl (st0.1, (st0.2.1, ()))))))
def F77_l1 (a0 : (List (List (List UInt8)))) (y0 : (Int × (Int × Unit))) (st1 : (Int × ((List (List UInt8)) × Unit))) : (Option ((Int × ((List (List UInt8)) × Unit)) ⊕ ((Int × ((List (List UInt8)) × Unit)) ⊕ (List (List UInt8))))) :=
  (br (lt st1.1 (ni (len a0))) (br (ix st1.1 (ni (len a0))) (br (fits (len st1.2.1) (len (rd a0 (tn st1.1) [])) 8796093022208) (some (.inl ((wr .i64 (ad st1.1 1)), ((app st1.2.1 (rd a0 (tn st1.1) [])), ())))) none) none) (some (.inr (.inl (st1.1, (st1.2.1, ()))))))
def F77_l2 (a0 : (List (List (List UInt8)))) (y0 : (Int × (Int × Unit))) (st2 : (Int × ((List (List UInt8)) × Unit))) : (Option ((Int × ((List (List UInt8)) × Unit)) ⊕ ((Int × ((List (List UInt8)) × Unit)) ⊕ (List (List UInt8))))) :=
  (br (lt st2.1 (ni (len a0))) (br (ix st2.1 (ni (len a0))) (br (fits (len st2.2.1) (len (rd a0 (tn st2.1) [])) 8796093022208) (some (.inl ((wr .i64 (ad st2.1 1)), ((app st2.2.1 (rd a0 (tn st2.1) [])), ())))) none) none) (some (.inr (.inl (st2.1, (st2.2.1, ()))))))
def F77 (a0 : (List (List (List UInt8)))) : (Option (List (List UInt8))) :=
  (oj (iterS (F77_l0 a0) (0, (0, ()))) fun y0 => (br (lt y0.2.1 0) none (br (lt 0 (wr .i64 (sb y0.2.1 (wr .i64 (sb 0 (ni 0)))))) (br (lt 0 (wr .i64 (sb y0.2.1 (wr .i64 (sb 0 (ni 0)))))) (br (fits 0 (tn (wr .i64 (sb y0.2.1 (wr .i64 (sb 0 (ni 0)))))) 8796093022208) (br (rg 0 (ni 0) (ni (len (rept (tn (wr .i64 (sb y0.2.1 (wr .i64 (sb 0 (ni 0)))))) ([] : (List UInt8)))))) (oj (iterS (F77_l1 a0 y0) (0, ((cut (rept (tn (wr .i64 (sb y0.2.1 (wr .i64 (sb 0 (ni 0)))))) ([] : (List UInt8))) 0 (tn (ni 0))), ()))) fun y1 => (some y1.2.1)) none) none) none) (oj (iterS (F77_l2 a0 y0) (0, ([], ()))) fun y2 => (some y2.2.1)))))
/-- slices.Concat[[]bool,bool] -/
def F78_l0 (a0 : LLB) (st0 : (Int × (Int × Unit))) : (Option ((Int × (Int × Unit)) ⊕ ((Int × (Int × Unit)) ⊕ LB))) :=
  (br (lt st0.1 (ni (len a0))) (br (ix st0.1 (ni (len a0))) (br (lt (wr .i64 (ad st0.2.1 (ni (len (rd a0 (tn st0.1) []))))) 0) none (some (.inl ((wr .i64 (ad st0.1 1)), ((wr .i64 (ad st0.2.1 (ni (len (rd a0 (tn st0.1) []))))), ()))))) none) (some (.inr (.inl (st0.1, (st0.2.1, ()))))))
def F78_l1 (a0 : LLB) (y0 : (Int × (Int × Unit))) (st1 : (Int × (LB × Unit))) : (Option ((Int × (LB × Unit)) ⊕ ((Int × (LB × Unit)) ⊕ LB))) :=
  (br (lt st1.1 (ni (len a0))) (br (ix st1.1 (ni (len a0))) (br (fits (len st1.2.1) (len (rd a0 (tn st1.1) [])) 140737488355328) (some (.inl ((wr .i64 (ad st1.1 1)), ((app st1.2.1 (rd a0 (tn st1.1) [])), ())))) none) none) (some (.inr (.inl (st1.1, (st1.2.1, ()))))))
def F78_l2 (a0 : LLB) (y0 : (Int × (Int × Unit))) (st2 : (Int × (LB × Unit))) : (Option ((Int × (LB × Unit)) ⊕ ((Int × (LB × Unit)) ⊕ LB))) :=
  (br (lt st2.1 (ni (len a0))) (br (ix st2.1 (ni (len a0))) (br (fits (len st2.2.1) (len (rd a0 (tn st2.1) [])) 140737488355328) (some (.inl ((wr .i64 (ad st2.1 1)), ((app st2.2.1 (rd a0 (tn st2.1) [])), ())))) none) none) (some (.inr (.inl (st2.1, (st2.2.1, ()))))))
def F78 (a0 : LLB) : (Option LB) :=
  (oj (iterS (F78_l0 a0) (0, (0, ()))) fun y0 => (br (lt y0.2.1 0) none (br (lt 0 (wr .i64 (sb y0.2.1 (wr .i64 (sb 0 (ni 0)))))) (br (lt 0 (wr .i64 (sb y0.2.1 (wr .i64 (sb 0 (ni 0)))))) (br (fits 0 (tn (wr .i64 (sb y0.2.1 (wr .i64 (sb 0 (ni 0)))))) 140737488355328) (br (rg 0 (ni 0) (ni (len (rept (tn (wr .i64 (sb y0.2.1 (wr .i64 (sb 0 (ni 0)))))) (false : Bool))))) (oj (iterS (F78_l1 a0 y0) (0, ((cut (rept (tn (wr .i64 (sb y0.2.1 (wr .i64 (sb 0 (ni 0)))))) (false : Bool)) 0 (tn (ni 0))), ()))) fun y1 => (some y1.2.1)) none) none) none) (oj (iterS (F78_l2 a0 y0) (0, ([], ()))) fun y2 => (some y2.2.1)))))
/-- netlab/trace.Wave -/
def F38_l0 (a0 : (TAig × ((List (List UInt8)) × ((List (List UInt8)) × (List (List UInt8)))))) (a1 : LLB) (y0 : Int) (y1 : (LLB × (LLB × Int))) (y2 : (List (List UInt8))) (st0 : (Int × ((List ((List (List UInt8)) × ((List UInt8) × Int))) × Unit))) : (Option ((Int × ((List ((List (List UInt8)) × ((List UInt8) × Int))) × Unit)) ⊕ ((Int × ((List ((List (List UInt8)) × ((List UInt8) × Int))) × Unit)) ⊕ (((List UInt8) × ((List ((List (List UInt8)) × ((List UInt8) × Int))) × (List (Int × (Int × (List UInt8)))))) × Int)))) :=
  (br (lt st0.1 (ni (len y2))) (br (ix st0.1 (ni (len y2))) (br (fits (len st0.2.1) (len ([([], ((rd y2 (tn st0.1) []), 1))] : (List ((List (List UInt8)) × ((List UInt8) × Int))))) 2932031007402) (some (.inl ((wr .i64 (ad st0.1 1)), ((app st0.2.1 ([([], ((rd y2 (tn st0.1) []), 1))] : (List ((List (List UInt8)) × ((List UInt8) × Int))))), ())))) none) none) (some (.inr (.inl (st0.1, (st0.2.1, ()))))))
def F38_l2 (a0 : (TAig × ((List (List UInt8)) × ((List (List UInt8)) × (List (List UInt8)))))) (a1 : LLB) (y0 : Int) (y1 : (LLB × (LLB × Int))) (y2 : (List (List UInt8))) (y3 : (Int × ((List ((List (List UInt8)) × ((List UInt8) × Int))) × Unit))) (st1 : (Int × (LB × ((List (Int × (Int × (List UInt8)))) × Unit)))) (y4 : LB) (st2 : (Int × ((List (Int × (Int × (List UInt8)))) × Unit))) : (Option ((Int × ((List (Int × (Int × (List UInt8)))) × Unit)) ⊕ ((Int × ((List (Int × (Int × (List UInt8)))) × Unit)) ⊕ ((Int × (LB × ((List (Int × (Int × (List UInt8)))) × Unit))) ⊕ ((Int × (LB × ((List (Int × (Int × (List UInt8)))) × Unit))) ⊕ (((List UInt8) × ((List ((List (List UInt8)) × ((List UInt8) × Int))) × (List (Int × (Int × (List UInt8)))))) × Int)))))) :=
  (br (lt st2.1 (ni (len y4))) (br (ix st2.1 (ni (len y4))) (br (lt 0 st1.1) (br (ix st2.1 (ni (len st1.2.1))) (br (bq (rd y4 (tn st2.1) false) (rd st1.2.1 (tn st2.1) false)) (some (.inl ((wr .i64 (ad st2.1 1)), (st2.2.1, ())))) (ob (F68 (rd y4 (tn st2.1) false)) fun y5 => (ob (F68 (rd y4 (tn st2.1) false)) fun y6 => (br (rg y5 (wr .u8 (ad y6 1)) (ni (len ([48, 49, 120] : (List UInt8))))) (br (fits (len st2.2.1) (len ([(st1.1, (st2.1, (cut ([48, 49, 120] : (List UInt8)) (tn y5) (nsub (tn (wr .u8 (ad y6 1))) (tn y5)))))] : (List (Int × (Int × (List UInt8)))))) 4398046511104) (some (.inl ((wr .i64 (ad st2.1 1)), ((app st2.2.1 ([(st1.1, (st2.1, (cut ([48, 49, 120] : (List UInt8)) (tn y5) (nsub (tn (wr .u8 (ad y6 1))) (tn y5)))))] : (List (Int × (Int × (List UInt8)))))), ())))) none) none)))) none) (ob (F68 (rd y4 (tn st2.1) false)) fun y7 => (ob (F68 (rd y4 (tn st2.1) false)) fun y8 => (br (rg y7 (wr .u8 (ad y8 1)) (ni (len ([48, 49, 120] : (List UInt8))))) (br (fits (len st2.2.1) (len ([(st1.1, (st2.1, (cut ([48, 49, 120] : (List UInt8)) (tn y7) (nsub (tn (wr .u8 (ad y8 1))) (tn y7)))))] : (List (Int × (Int × (List UInt8)))))) 4398046511104) (some (.inl ((wr .i64 (ad st2.1 1)), ((app st2.2.1 ([(st1.1, (st2.1, (cut ([48, 49, 120] : (List UInt8)) (tn y7) (nsub (tn (wr .u8 (ad y8 1))) (tn y7)))))] : (List (Int × (Int × (List UInt8)))))), ())))) none) none)))) none) (some (.inr (.inl (st2.1, (st2.2.1, ()))))))
def F38_l1 (a0 : (TAig × ((List (List UInt8)) × ((List (List UInt8)) × (List (List UInt8)))))) (a1 : LLB) (y0 : Int) (y1 : (LLB × (LLB × Int))) (y2 : (List (List UInt8))) (y3 : (Int × ((List ((List (List UInt8)) × ((List UInt8) × Int))) × Unit))) (st1 : (Int × (LB × ((List (Int × (Int × (List UInt8)))) × Unit)))) : (Option ((Int × (LB × ((List (Int × (Int × (List UInt8)))) × Unit))) ⊕ ((Int × (LB × ((List (Int × (Int × (List UInt8)))) × Unit))) ⊕ (((List UInt8) × ((List ((List (List UInt8)) × ((List UInt8) × Int))) × (List (Int × (Int × (List UInt8)))))) × Int)))) :=
  (br (lt st1.1 (ni (len a1))) (br (ix st1.1 (ni (len a1))) (br (ix st1.1 (ni (len y1.2.1))) (br (ix st1.1 (ni (len y1.1))) (ob (F78 ([(rd a1 (tn st1.1) []), (rd y1.2.1 (tn st1.1) []), (rd y1.1 (tn st1.1) [])] : LLB)) fun y4 => (oj (iterS (F38_l2 a0 a1 y0 y1 y2 y3 st1 y4) (0, (st1.2.2.1, ()))) fun y9 => (some (.inl ((wr .i64 (ad st1.1 1)), (y4, (y9.2.1, ()))))))) none) none) none) (some (.inr (.inl (st1.1, (st1.2.1, (st1.2.2.1, ())))))))
def F38 (a0 : (TAig × ((List (List UInt8)) × ((List (List UInt8)) × (List (List UInt8)))))) (a1 : LLB) : (Option (((List UInt8) × ((List ((List (List UInt8)) × ((List UInt8) × Int))) × (List (Int × (Int × (List UInt8)))))) × Int)) :=
  (ob (F55 (a0.1.1, (a0.1.2.1, (a0.1.2.2.1, a0.1.2.2.2)))) fun y0 => (br (ne y0 0) (some (([], ([], [])), y0)) (br (ne (ni (len a0.2.1)) a0.1.1) (some (([], ([], [])), 12)) (br (ne (ni (len a0.2.2.1)) (ni (len a0.1.2.1))) (some (([], ([], [])), 12)) (br (ne (ni (len a0.2.2.2)) (ni (len a0.1.2.2.2))) (some (([], ([], [])), 12)) (ob (F36 (a0.1.1, (a0.1.2.1, (a0.1.2.2.1, a0.1.2.2.2))) a1) fun y1 => (br (ne y1.2.2 0) (some (([], ([], [])), y1.2.2)) (ob (F77 ([a0.2.1, a0.2.2.1, a0.2.2.2] : (List (List (List UInt8))))) fun y2 => (oj (iterS (F38_l0 a0 a1 y0 y1 y2) (0, ([], ()))) fun y3 => (oj (iterS (F38_l1 a0 a1 y0 y1 y2 y3) (0, ([], ([], ())))) fun y10 => (some ((([49, 110, 115] : (List UInt8)), (y3.2.1, y10.2.2.1)), 0))))))))))))
/-- netlab/netlabref20.of -/
def F113 (a0 : LB) (a1 : Int) : (Option Bool) :=
  (br (ix (wr .i64 (dv a1 2)) (ni (len a0))) (some (nt (bq (rd a0 (tn (wr .i64 (dv a1 2))) false) (eq (md a1 2) 1)))) none)
/-- netlab/netlabref20.All -/
def F116_l0 (a0 : TAig) (a1 : LB) (a2 : LB) (st0 : (Int × (LB × Unit))) : (Option ((Int × (LB × Unit)) ⊕ ((Int × (LB × Unit)) ⊕ LB))) :=
  (br (lt st0.1 (ni (len a0.2.2.1))) (br (ix st0.1 (ni (len a0.2.2.1))) (ob (F113 st0.2.1 (rd a0.2.2.1 (tn st0.1) (0, 0)).1) fun y0 => (br (ix st0.1 (ni (len a0.2.2.1))) (ob (F113 st0.2.1 (rd a0.2.2.1 (tn st0.1) (0, 0)).2) fun y1 => (br y0 (br (fits (len st0.2.1) (len ([y1] : LB)) 140737488355328) (some (.inl ((wr .i64 (ad st0.1 1)), ((app st0.2.1 ([y1] : LB)), ())))) none) (br (fits (len st0.2.1) (len ([false] : LB)) 140737488355328) (some (.inl ((wr .i64 (ad st0.1 1)), ((app st0.2.1 ([false] : LB)), ())))) none))) none)) none) (some (.inr (.inl (st0.1, (st0.2.1, ()))))))
def F116 (a0 : TAig) (a1 : LB) (a2 : LB) : (Option LB) :=
  (br (fits (len ([false] : LB)) (len a1) 140737488355328) (br (fits (len (app ([false] : LB) a1)) (len a2) 140737488355328) (oj (iterS (F116_l0 a0 a1 a2) (0, ((app (app ([false] : LB) a1) a2), ()))) fun y2 => (some y2.2.1)) none) none)
/-- netlab/netlabref20.Values -/
def F112 (a0 : TAig) (a1 : LB) (a2 : LB) : (Option (LB × Int)) :=
  (ob (F58 (a0.1, (a0.2.1, (a0.2.2.1, a0.2.2.2)))) fun y0 => (br (ne y0 0) (some ([], y0)) (br (ne (ni (len a1)) a0.1) (some ([], 12)) (br (ne (ni (len a2)) (ni (len a0.2.1))) (some ([], 12)) (ob (F116 (a0.1, (a0.2.1, (a0.2.2.1, a0.2.2.2))) a1 a2) fun y1 => (some (y1, 0)))))))
/-- netlab/netlabref20.Eval -/
def F106_l0 (a0 : TAig) (a1 : LB) (a2 : LB) (y0 : (LB × Int)) (st0 : (Int × (LB × Unit))) : (Option ((Int × (LB × Unit)) ⊕ ((Int × (LB × Unit)) ⊕ (LB × (LB × Int))))) :=
  (br (lt st0.1 (ni (len a0.2.2.2))) (br (ix st0.1 (ni (len a0.2.2.2))) (ob (F113 y0.1 (rd a0.2.2.2 (tn st0.1) 0)) fun y1 => (br (fits (len st0.2.1) (len ([y1] : LB)) 140737488355328) (some (.inl ((wr .i64 (ad st0.1 1)), ((app st0.2.1 ([y1] : LB)), ())))) none)) none) (some (.inr (.inl (st0.1, (st0.2.1, ()))))))
def F106_l1 (a0 : TAig) (a1 : LB) (a2 : LB) (y0 : (LB × Int)) (y2 : (Int × (LB × Unit))) (st1 : (Int × (LB × Unit))) : (Option ((Int × (LB × Unit)) ⊕ ((Int × (LB × Unit)) ⊕ (LB × (LB × Int))))) :=
  (br (lt st1.1 (ni (len a0.2.1))) (br (ix st1.1 (ni (len a0.2.1))) (ob (F113 y0.1 (rd a0.2.1 (tn st1.1) (0, 0)).1) fun y3 => (br (fits (len st1.2.1) (len ([y3] : LB)) 140737488355328) (some (.inl ((wr .i64 (ad st1.1 1)), ((app st1.2.1 ([y3] : LB)), ())))) none)) none) (some (.inr (.inl (st1.1, (st1.2.1, ()))))))
def F106 (a0 : TAig) (a1 : LB) (a2 : LB) : (Option (LB × (LB × Int))) :=
  (ob (F112 (a0.1, (a0.2.1, (a0.2.2.1, a0.2.2.2))) a1 a2) fun y0 => (br (ne y0.2 0) (some ([], ([], y0.2))) (oj (iterS (F106_l0 a0 a1 a2 y0) (0, ([], ()))) fun y2 => (oj (iterS (F106_l1 a0 a1 a2 y0 y2) (0, ([], ()))) fun y4 => (some (y2.2.1, (y4.2.1, 0)))))))
/-- netlab/netlabref20.From -/
def F90_l0 (a0 : TAig) (a1 : LLB) (a2 : LB) (st0 : (Int × (LB × (LLB × (LLB × Unit))))) : (Option ((Int × (LB × (LLB × (LLB × Unit)))) ⊕ ((Int × (LB × (LLB × (LLB × Unit)))) ⊕ (LLB × LLB)))) :=
  (br (lt st0.1 (ni (len a1))) (br (ix st0.1 (ni (len a1))) (ob (F106 (a0.1, (a0.2.1, (a0.2.2.1, a0.2.2.2))) (rd a1 (tn st0.1) []) st0.2.1) fun y0 => (br (fits (len st0.2.2.1) (len ([y0.1] : LLB)) 5864062014805) (br (fits (len st0.2.2.2.1) (len ([y0.2.1] : LLB)) 5864062014805) none none) none)) none) (some (.inr (.inl (st0.1, (st0.2.1, (st0.2.2.1, (st0.2.2.2.1, ()))))))))
def F90 (a0 : TAig) (a1 : LLB) (a2 : LB) : (Option (LLB × LLB)) :=
  (oj (iterS (F90_l0 a0 a1 a2) (0, (a2, ([], (([a2] : LLB), ()))))) fun y1 => (some (y1.2.2.1, y1.2.2.2.1)))
/-- netlab/netlabref20.Start -/
def F91_l0 (a0 : TAig) (st0 : (Int × (LB × Unit))) : (Option ((Int × (LB × Unit)) ⊕ ((Int × (LB × Unit)) ⊕ LB))) :=
  (ob (F58 (a0.1, (a0.2.1, (a0.2.2.1, a0.2.2.2)))) fun y0 => (br (eq y0 0) (br (lt st0.1 (ni (len a0.2.1))) (br (ix st0.1 (ni (len a0.2.1))) (br (fits (len st0.2.1) (len ([(eq (rd a0.2.1 (tn st0.1) (0, 0)).2 1)] : LB)) 140737488355328) (some (.inl ((wr .i64 (ad st0.1 1)), ((app st0.2.1 ([(eq (rd a0.2.1 (tn st0.1) (0, 0)).2 1)] : LB)), ())))) none) none) (some (.inr (.inl (st0.1, (st0.2.1, ())))))) (some (.inr (.inl (st0.1, (st0.2.1, ())))))))
def F91 (a0 : TAig) : (Option LB) :=
  (oj (iterS (F91_l0 a0) (0, ([], ()))) fun y1 => (some y1.2.1))
/-- netlab/netlabref20.Run -/
def F59_l0 (a0 : TAig) (a1 : LLB) (y0 : Int) (st0 : (Int × Unit)) : (Option ((Int × Unit) ⊕ ((Int × Unit) ⊕ (LLB × (LLB × Int))))) :=
  (br (lt st0.1 (ni (len a1))) (br (ix st0.1 (ni (len a1))) (br (ne (ni (len (rd a1 (tn st0.1) []))) a0.1) (inR (some (.inr ([], ([], 12))))) (some (.inl ((wr .i64 (ad st0.1 1)), ())))) none) (some (.inr (.inl (st0.1, ())))))
def F59 (a0 : TAig) (a1 : LLB) : (Option (LLB × (LLB × Int))) :=
  (ob (F58 (a0.1, (a0.2.1, (a0.2.2.1, a0.2.2.2)))) fun y0 => (br (ne y0 0) (some ([], ([], y0))) (br (lt 64 (ni (len a1))) (some ([], ([], 5))) (oj (iterS (F59_l0 a0 a1 y0) (0, ())) fun y1 => (ob (F91 (a0.1, (a0.2.1, (a0.2.2.1, a0.2.2.2)))) fun y2 => (ob (F90 (a0.1, (a0.2.1, (a0.2.2.1, a0.2.2.2))) a1 y2) fun y3 => (some (y3.1, (y3.2, 0)))))))))
/-- netlab/netlabref36.Wave -/
def F39_l0 (a0 : (TAig × ((List (List UInt8)) × ((List (List UInt8)) × (List (List UInt8)))))) (a1 : LLB) (y0 : Int) (y1 : (LLB × (LLB × Int))) (st0 : (Int × ((List ((List (List UInt8)) × ((List UInt8) × Int))) × Unit))) : (Option ((Int × ((List ((List (List UInt8)) × ((List UInt8) × Int))) × Unit)) ⊕ ((Int × ((List ((List (List UInt8)) × ((List UInt8) × Int))) × Unit)) ⊕ (((List UInt8) × ((List ((List (List UInt8)) × ((List UInt8) × Int))) × (List (Int × (Int × (List UInt8)))))) × Int)))) :=
  (br (lt st0.1 (ni (len (app (app a0.2.1 a0.2.2.1) a0.2.2.2)))) (br (ix st0.1 (ni (len (app (app a0.2.1 a0.2.2.1) a0.2.2.2)))) (br (fits (len st0.2.1) (len ([([], ((rd (app (app a0.2.1 a0.2.2.1) a0.2.2.2) (tn st0.1) []), 1))] : (List ((List (List UInt8)) × ((List UInt8) × Int))))) 2932031007402) (some (.inl ((wr .i64 (ad st0.1 1)), ((app st0.2.1 ([([], ((rd (app (app a0.2.1 a0.2.2.1) a0.2.2.2) (tn st0.1) []), 1))] : (List ((List (List UInt8)) × ((List UInt8) × Int))))), ())))) none) none) (some (.inr (.inl (st0.1, (st0.2.1, ()))))))
def F39_l2 (a0 : (TAig × ((List (List UInt8)) × ((List (List UInt8)) × (List (List UInt8)))))) (a1 : LLB) (y0 : Int) (y1 : (LLB × (LLB × Int))) (y2 : (Int × ((List ((List (List UInt8)) × ((List UInt8) × Int))) × Unit))) (st1 : (Int × ((List (Int × (Int × (List UInt8)))) × ((List (List UInt8)) × Unit)))) (st2 : (Int × ((List (Int × (Int × (List UInt8)))) × ((List (List UInt8)) × Unit)))) : (Option ((Int × ((List (Int × (Int × (List UInt8)))) × ((List (List UInt8)) × Unit))) ⊕ ((Int × ((List (Int × (Int × (List UInt8)))) × ((List (List UInt8)) × Unit))) ⊕ ((Int × ((List (Int × (Int × (List UInt8)))) × ((List (List UInt8)) × Unit))) ⊕ ((Int × ((List (Int × (Int × (List UInt8)))) × ((List (List UInt8)) × Unit))) ⊕ (((List UInt8) × ((List ((List (List UInt8)) × ((List UInt8) × Int))) × (List (Int × (Int × (List UInt8)))))) × Int)))))) :=
  (br (lt st2.1 (ni (len (app (app (rd a1 (tn st1.1) []) (rd y1.2.1 (tn st1.1) [])) (rd y1.1 (tn st1.1) []))))) (br (ix st2.1 (ni (len (app (app (rd a1 (tn st1.1) []) (rd y1.2.1 (tn st1.1) [])) (rd y1.1 (tn st1.1) []))))) (br (rd (app (app (rd a1 (tn st1.1) []) (rd y1.2.1 (tn st1.1) [])) (rd y1.1 (tn st1.1) [])) (tn st2.1) false) (br (ix st2.1 (ni (len st2.2.2.1))) (br (nt (sq ([49] : (List UInt8)) (rd st2.2.2.1 (tn st2.1) []))) (br (fits (len st2.2.1) (len ([(st1.1, (st2.1, ([49] : (List UInt8))))] : (List (Int × (Int × (List UInt8)))))) 4398046511104) (br (ix st2.1 (ni (len st2.2.2.1))) (some (.inl ((wr .i64 (ad st2.1 1)), ((app st2.2.1 ([(st1.1, (st2.1, ([49] : (List UInt8))))] : (List (Int × (Int × (List UInt8)))))), ((put st2.2.2.1 (tn st2.1) ([49] : (List UInt8))), ()))))) none) none) (br (ix st2.1 (ni (len st2.2.2.1))) (some (.inl ((wr .i64 (ad st2.1 1)), (st2.2.1, ((put st2.2.2.1 (tn st2.1) ([49] : (List UInt8))), ()))))) none)) none) (br (ix st2.1 (ni (len st2.2.2.1))) (br (nt (sq ([48] : (List UInt8)) (rd st2.2.2.1 (tn st2.1) []))) (br (fits (len st2.2.1) (len ([(st1.1, (st2.1, ([48] : (List UInt8))))] : (List (Int × (Int × (List UInt8)))))) 4398046511104) (br (ix st2.1 (ni (len st2.2.2.1))) (some (.inl ((wr .i64 (ad st2.1 1)), ((app st2.2.1 ([(st1.1, (st2.1, ([48] : (List UInt8))))] : (List (Int × (Int × (List UInt8)))))), ((put st2.2.2.1 (tn st2.1) ([48] : (List UInt8))), ()))))) none) none) (br (ix st2.1 (ni (len st2.2.2.1))) (some (.inl ((wr .i64 (ad st2.1 1)), (st2.2.1, ((put st2.2.2.1 (tn st2.1) ([48] : (List UInt8))), ()))))) none)) none)) none) (some (.inr (.inl (st2.1, (st2.2.1, (st2.2.2.1, ())))))))
def F39_l1 (a0 : (TAig × ((List (List UInt8)) × ((List (List UInt8)) × (List (List UInt8)))))) (a1 : LLB) (y0 : Int) (y1 : (LLB × (LLB × Int))) (y2 : (Int × ((List ((List (List UInt8)) × ((List UInt8) × Int))) × Unit))) (st1 : (Int × ((List (Int × (Int × (List UInt8)))) × ((List (List UInt8)) × Unit)))) : (Option ((Int × ((List (Int × (Int × (List UInt8)))) × ((List (List UInt8)) × Unit))) ⊕ ((Int × ((List (Int × (Int × (List UInt8)))) × ((List (List UInt8)) × Unit))) ⊕ (((List UInt8) × ((List ((List (List UInt8)) × ((List UInt8) × Int))) × (List (Int × (Int × (List UInt8)))))) × Int)))) :=
  (br (lt st1.1 (ni (len a1))) (br (ix st1.1 (ni (len a1))) (br (fits 0 (len (rd a1 (tn st1.1) [])) 140737488355328) (br (ix st1.1 (ni (len y1.2.1))) (br (fits (len (rd a1 (tn st1.1) [])) (len (rd y1.2.1 (tn st1.1) [])) 140737488355328) (br (ix st1.1 (ni (len y1.1))) (br (fits (len (app (rd a1 (tn st1.1) []) (rd y1.2.1 (tn st1.1) []))) (len (rd y1.1 (tn st1.1) [])) 140737488355328) (oj (iterS (F39_l2 a0 a1 y0 y1 y2 st1) (0, (st1.2.1, (st1.2.2.1, ())))) fun y3 => (some (.inl ((wr .i64 (ad st1.1 1)), (y3.2.1, (y3.2.2.1, ())))))) none) none) none) none) none) none) (some (.inr (.inl (st1.1, (st1.2.1, (st1.2.2.1, ())))))))
def F39 (a0 : (TAig × ((List (List UInt8)) × ((List (List UInt8)) × (List (List UInt8)))))) (a1 : LLB) : (Option (((List UInt8) × ((List ((List (List UInt8)) × ((List UInt8) × Int))) × (List (Int × (Int × (List UInt8)))))) × Int)) :=
  (ob (F58 (a0.1.1, (a0.1.2.1, (a0.1.2.2.1, a0.1.2.2.2)))) fun y0 => (br (ne y0 0) (some (([], ([], [])), y0)) (br (ne (ni (len a0.2.1)) a0.1.1) (some (([], ([], [])), 12)) (br (ne (ni (len a0.2.2.1)) (ni (len a0.1.2.1))) (some (([], ([], [])), 12)) (br (ne (ni (len a0.2.2.2)) (ni (len a0.1.2.2.2))) (some (([], ([], [])), 12)) (ob (F59 (a0.1.1, (a0.1.2.1, (a0.1.2.2.1, a0.1.2.2.2))) a1) fun y1 => (br (ne y1.2.2 0) (some (([], ([], [])), y1.2.2)) (br (fits 0 (len a0.2.1) 8796093022208) (br (fits (len a0.2.1) (len a0.2.2.1) 8796093022208) (br (fits (len (app a0.2.1 a0.2.2.1)) (len a0.2.2.2) 8796093022208) (oj (iterS (F39_l0 a0 a1 y0 y1) (0, ([], ()))) fun y2 => (br (rg 0 (ni (len (app (app a0.2.1 a0.2.2.1) a0.2.2.2))) (ni (len (app (app a0.2.1 a0.2.2.1) a0.2.2.2)))) (br (le (ni (len (app (app a0.2.1 a0.2.2.1) a0.2.2.2))) 281474976710656) (br (le (ml 16 (ni (len (app (app a0.2.1 a0.2.2.1) a0.2.2.2)))) 281474976710656) (oj (iterS (F39_l1 a0 a1 y0 y1 y2) (0, ([], ((rept (tn (ni (len (app (app a0.2.1 a0.2.2.1) a0.2.2.2)))) ([] : (List UInt8))), ())))) fun y4 => (some ((([49, 110, 115] : (List UInt8)), (y2.2.1, y4.2.1)), 0))) none) none) none)) none) none) none))))))))
/-- netlab/netlabref19.EqTexts -/
def F111_l0 (a0 : (List (List UInt8))) (a1 : (List (List UInt8))) (st0 : (Int × Unit)) : (Option ((Int × Unit) ⊕ ((Int × Unit) ⊕ Bool))) :=
  (br (lt st0.1 (ni (len a0))) (br (ix st0.1 (ni (len a0))) (br (ix st0.1 (ni (len a1))) (br (nt (sq (rd a0 (tn st0.1) []) (rd a1 (tn st0.1) []))) (inR (some (.inr false))) (some (.inl ((wr .i64 (ad st0.1 1)), ())))) none) none) (some (.inr (.inl (st0.1, ())))))
def F111 (a0 : (List (List UInt8))) (a1 : (List (List UInt8))) : (Option Bool) :=
  (br (ne (ni (len a0)) (ni (len a1))) (some false) (oj (iterS (F111_l0 a0 a1) (0, ())) fun y0 => (some true)))
/-- netlab/netlabref19.sameVar -/
def F100 (a0 : ((List (List UInt8)) × ((List UInt8) × Int))) (a1 : ((List (List UInt8)) × ((List UInt8) × Int))) : (Option Bool) :=
  (br (sq a0.2.1 a1.2.1) (ob (F111 a0.1 a1.1) fun y0 => (some y0)) (some false))
/-- netlab/netlabref19.sameVars -/
def F79_l0 (a0 : ((List UInt8) × ((List ((List (List UInt8)) × ((List UInt8) × Int))) × (List (Int × (Int × (List UInt8))))))) (a1 : ((List UInt8) × ((List ((List (List UInt8)) × ((List UInt8) × Int))) × (List (Int × (Int × (List UInt8))))))) (st0 : (Int × Unit)) : (Option ((Int × Unit) ⊕ ((Int × Unit) ⊕ Bool))) :=
  (br (lt st0.1 (ni (len a0.2.1))) (br (ix st0.1 (ni (len a0.2.1))) (br (ix st0.1 (ni (len a1.2.1))) (br (ne (rd a0.2.1 (tn st0.1) ([], ([], 0))).2.2 (rd a1.2.1 (tn st0.1) ([], ([], 0))).2.2) (inR (some (.inr false))) (br (ix st0.1 (ni (len a0.2.1))) (br (ix st0.1 (ni (len a1.2.1))) (ob (F100 ((rd a0.2.1 (tn st0.1) ([], ([], 0))).1, ((rd a0.2.1 (tn st0.1) ([], ([], 0))).2.1, (rd a0.2.1 (tn st0.1) ([], ([], 0))).2.2)) ((rd a1.2.1 (tn st0.1) ([], ([], 0))).1, ((rd a1.2.1 (tn st0.1) ([], ([], 0))).2.1, (rd a1.2.1 (tn st0.1) ([], ([], 0))).2.2))) fun y0 => (br (nt y0) (inR (some (.inr false))) (some (.inl ((wr .i64 (ad st0.1 1)), ()))))) none) none)) none) none) (some (.inr (.inl (st0.1, ())))))
def F79 (a0 : ((List UInt8) × ((List ((List (List UInt8)) × ((List UInt8) × Int))) × (List (Int × (Int × (List UInt8))))))) (a1 : ((List UInt8) × ((List ((List (List UInt8)) × ((List UInt8) × Int))) × (List (Int × (Int × (List UInt8))))))) : (Option Bool) :=
  (br (nt (sq a0.1 a1.1)) (some false) (br (ne (ni (len a0.2.1)) (ni (len a1.2.1))) (some false) (oj (iterS (F79_l0 a0 a1) (0, ())) fun y1 => (some true))))
/-- netlab/netlabref19.Same -/
def F40_l0 (a0 : ((List UInt8) × ((List ((List (List UInt8)) × ((List UInt8) × Int))) × (List (Int × (Int × (List UInt8))))))) (a1 : ((List UInt8) × ((List ((List (List UInt8)) × ((List UInt8) × Int))) × (List (Int × (Int × (List UInt8))))))) (y0 : Bool) (st0 : (Int × Unit)) : (Option ((Int × Unit) ⊕ ((Int × Unit) ⊕ Bool))) :=
  (br (lt st0.1 (ni (len a0.2.2))) (br (ix st0.1 (ni (len a0.2.2))) (br (ix st0.1 (ni (len a1.2.2))) (br (nt (ba (eq (rd a0.2.2 (tn st0.1) (0, (0, []))).1 (rd a1.2.2 (tn st0.1) (0, (0, []))).1) (ba (eq (rd a0.2.2 (tn st0.1) (0, (0, []))).2.1 (rd a1.2.2 (tn st0.1) (0, (0, []))).2.1) (sq (rd a0.2.2 (tn st0.1) (0, (0, []))).2.2 (rd a1.2.2 (tn st0.1) (0, (0, []))).2.2)))) (inR (some (.inr false))) (some (.inl ((wr .i64 (ad st0.1 1)), ())))) none) none) (some (.inr (.inl (st0.1, ())))))
def F40 (a0 : ((List UInt8) × ((List ((List (List UInt8)) × ((List UInt8) × Int))) × (List (Int × (Int × (List UInt8))))))) (a1 : ((List UInt8) × ((List ((List (List UInt8)) × ((List UInt8) × Int))) × (List (Int × (Int × (List UInt8))))))) : (Option Bool) :=
  (ob (F79 (a0.1, (a0.2.1, a0.2.2)) (a1.1, (a1.2.1, a1.2.2))) fun y0 => (br (nt y0) (some false) (br (ne (ni (len a0.2.2)) (ni (len a1.2.2))) (some false) (oj (iterS (F40_l0 a0 a1 y0) (0, ())) fun y1 => (some true)))))
/-- netlab/netlablaw36.TraceWaves -/
def F9 (a0 : (TAig × ((List (List UInt8)) × ((List (List UInt8)) × (List (List UInt8)))))) (a1 : LLB) : (Option Bool) :=
  (br (fits 0 (len a0.1.2.1) 8796093022208) (br (fits 0 (len a0.1.2.2.1) 8796093022208) (br (fits 0 (len a0.1.2.2.2) 17592186044416) (br (rg 0 (mn (ni (len a0.1.2.1)) 30) (ni (len a0.1.2.1))) (br (rg 0 (mn (ni (len a0.1.2.2.1)) 30) (ni (len a0.1.2.2.1))) (br (rg 0 (mn (ni (len a0.1.2.2.2)) 30) (ni (len a0.1.2.2.2))) (ob (F37 a0.2.1) fun y0 => (ob (F37 a0.2.2.1) fun y1 => (ob (F37 a0.2.2.2) fun y2 => (br (rg 0 (mn (ni (len a1)) 66) (ni (len a1))) (ob (F38 ((a0.1.1, ((cut a0.1.2.1 0 (tn (mn (ni (len a0.1.2.1)) 30))), ((cut a0.1.2.2.1 0 (tn (mn (ni (len a0.1.2.2.1)) 30))), (cut a0.1.2.2.2 0 (tn (mn (ni (len a0.1.2.2.2)) 30)))))), (y0, (y1, y2))) (cut a1 0 (tn (mn (ni (len a1)) 66)))) fun y3 => (ob (F39 ((a0.1.1, ((cut a0.1.2.1 0 (tn (mn (ni (len a0.1.2.1)) 30))), ((cut a0.1.2.2.1 0 (tn (mn (ni (len a0.1.2.2.1)) 30))), (cut a0.1.2.2.2 0 (tn (mn (ni (len a0.1.2.2.2)) 30)))))), (y0, (y1, y2))) (cut a1 0 (tn (mn (ni (len a1)) 66)))) fun y4 => (br (eq y3.2 y4.2) (ob (F40 (y3.1.1, (y3.1.2.1, y3.1.2.2)) (y4.1.1, (y4.1.2.1, y4.1.2.2))) fun y5 => (br y5 (ob (F17) fun y6 => (some y6)) (some false))) (some false)))) none)))) none) none) none) none) none) none)
def effs : Nat → Option (List TV → THp → Res) := fun _ => none
def L0 : List (Nat × FSpec) := [(17, ⟨[], [.bool], [none], fun _ => F17 ⟩)]
def L11 : List (Nat × FSpec) := (11, ⟨[(.slice (.slice (.int .u8)))], [(.slice (.slice (.int .u8)))], [some 24], fun x => F11 x⟩) :: L0
def L16 : List (Nat × FSpec) := (16, ⟨[(.slice (.slice (.int .u8))), (.slice (.slice (.int .u8)))], [.bool], [none], fun x => F16 x.1 x.2⟩) :: L11
def L44 : List (Nat × FSpec) := (44, ⟨[(.int .u8)], [.bool], [none], fun x => F44 x⟩) :: L16
def L89 : List (Nat × FSpec) := (89, ⟨[(.st (.pair (.int .i64) (.pair (.slice (.st (.pair (.int .i64) (.int .u8)))) (.pair (.slice (.st (.pair (.int .i64) (.int .i64)))) (.slice (.int .i64))))))], [(.int .i64)], [none], fun x => F89 x⟩) :: L44
def L87 : List (Nat × FSpec) := (87, ⟨[(.st (.pair (.int .i64) (.pair (.slice (.st (.pair (.int .i64) (.int .u8)))) (.pair (.slice (.st (.pair (.int .i64) (.int .i64)))) (.slice (.int .i64))))))], [(.int .i64)], [none], fun x => F87 x⟩) :: L89
def L88 : List (Nat × FSpec) := (88, ⟨[(.int .i64), (.int .i64)], [.bool], [none], fun x => F88 x.1 x.2⟩) :: L87
def L55 : List (Nat × FSpec) := (55, ⟨[(.st (.pair (.int .i64) (.pair (.slice (.st (.pair (.int .i64) (.int .u8)))) (.pair (.slice (.st (.pair (.int .i64) (.int .i64)))) (.slice (.int .i64))))))], [(.int .i64)], [none], fun x => F55 x⟩) :: L88
def L68 : List (Nat × FSpec) := (68, ⟨[.bool], [(.int .u8)], [none], fun x => F68 x⟩) :: L55
def L107 : List (Nat × FSpec) := (107, ⟨[(.slice (.slice (.int .u8)))], [(.slice (.int .u8))], [some 33], fun x => F107 x⟩) :: L68
def L108 : List (Nat × FSpec) := (108, ⟨[(.int .u8), (.int .u8)], [(.int .u8)], [none], fun x => F108 x.1 x.2⟩) :: L107
def L115 : List (Nat × FSpec) := (115, ⟨[(.int .u8)], [(.int .u8)], [none], fun x => F115 x⟩) :: L108
def L61 : List (Nat × FSpec) := (61, ⟨[(.st (.pair (.int .i64) (.pair (.slice (.st (.pair (.int .i64) (.int .u8)))) (.pair (.slice (.st (.pair (.int .i64) (.int .i64)))) (.slice (.int .i64)))))), (.slice (.slice (.int .u8)))], [(.slice (.slice (.int .u8)))], [some 24], fun x => F61 x.1 x.2⟩) :: L115
def L26 : List (Nat × FSpec) := (26, ⟨[(.st (.pair (.int .i64) (.pair (.slice (.st (.pair (.int .i64) (.int .u8)))) (.pair (.slice (.st (.pair (.int .i64) (.int .i64)))) (.slice (.int .i64)))))), (.slice (.slice (.int .u8)))], [(.slice (.slice (.int .u8))), (.int .i64)], [some 24, none], fun x => F26 x.1 x.2⟩) :: L61
def L70 : List (Nat × FSpec) := (70, ⟨[(.st (.pair (.int .i64) (.pair (.slice (.st (.pair (.int .i64) (.int .u8)))) (.pair (.slice (.st (.pair (.int .i64) (.int .i64)))) (.slice (.int .i64))))))], [(.int .i64)], [none], fun x => F70 x⟩) :: L26
def L58 : List (Nat × FSpec) := (58, ⟨[(.st (.pair (.int .i64) (.pair (.slice (.st (.pair (.int .i64) (.int .u8)))) (.pair (.slice (.st (.pair (.int .i64) (.int .i64)))) (.slice (.int .i64))))))], [(.int .i64)], [none], fun x => F58 x⟩) :: L70
def L69 : List (Nat × FSpec) := (69, ⟨[.bool], [(.int .u8)], [none], fun x => F69 x⟩) :: L58
def L110 : List (Nat × FSpec) := (110, ⟨[(.int .u8)], [(.int .u8)], [none], fun x => F110 x⟩) :: L69
def L94 : List (Nat × FSpec) := (94, ⟨[(.slice (.int .u8)), (.int .i64)], [(.int .u8)], [none], fun x => F94 x.1 x.2⟩) :: L110
def L95 : List (Nat × FSpec) := (95, ⟨[(.int .u8), (.int .u8)], [(.int .u8)], [none], fun x => F95 x.1 x.2⟩) :: L94
def L62 : List (Nat × FSpec) := (62, ⟨[(.st (.pair (.int .i64) (.pair (.slice (.st (.pair (.int .i64) (.int .u8)))) (.pair (.slice (.st (.pair (.int .i64) (.int .i64)))) (.slice (.int .i64)))))), (.slice (.slice (.int .u8)))], [(.slice (.slice (.int .u8)))], [some 24], fun x => F62 x.1 x.2⟩) :: L95
def L27 : List (Nat × FSpec) := (27, ⟨[(.st (.pair (.int .i64) (.pair (.slice (.st (.pair (.int .i64) (.int .u8)))) (.pair (.slice (.st (.pair (.int .i64) (.int .i64)))) (.slice (.int .i64)))))), (.slice (.slice (.int .u8)))], [(.slice (.slice (.int .u8))), (.int .i64)], [some 24, none], fun x => F27 x.1 x.2⟩) :: L62
def L66 : List (Nat × FSpec) := (66, ⟨[(.slice (.int .u8)), (.slice .bool)], [.bool], [none], fun x => F66 x.1 x.2⟩) :: L27
def L28 : List (Nat × FSpec) := (28, ⟨[(.slice (.slice (.int .u8))), (.slice (.slice .bool))], [.bool], [none], fun x => F28 x.1 x.2⟩) :: L66
def L29 : List (Nat × FSpec) := (29, ⟨[(.slice (.slice (.int .u8))), (.slice (.slice .bool))], [.bool], [none], fun x => F29 x.1 x.2⟩) :: L28
def L30 : List (Nat × FSpec) := (30, ⟨[(.slice (.slice .bool))], [(.slice (.slice (.int .u8)))], [some 24], fun x => F30 x⟩) :: L29
def L31 : List (Nat × FSpec) := (31, ⟨[(.slice (.slice .bool))], [(.slice (.slice (.int .u8)))], [some 24], fun x => F31 x⟩) :: L30
def L6 : List (Nat × FSpec) := (6, ⟨[(.st (.pair (.int .i64) (.pair (.slice (.st (.pair (.int .i64) (.int .u8)))) (.pair (.slice (.st (.pair (.int .i64) (.int .i64)))) (.slice (.int .i64)))))), (.slice (.slice (.int .u8))), (.slice (.slice .bool))], [.bool], [none], fun x => F6 x.1 x.2.1 x.2.2⟩) :: L31
def L37 : List (Nat × FSpec) := (37, ⟨[(.slice .str)], [(.slice .str)], [none], fun x => F37 x⟩) :: L6
def L73 : List (Nat × FSpec) := (73, ⟨[(.st (.pair (.int .i64) (.pair (.slice (.st (.pair (.int .i64) (.int .u8)))) (.pair (.slice (.st (.pair (.int .i64) (.int .i64)))) (.slice (.int .i64))))))], [(.slice .bool)], [some 4], fun x => F73 x⟩) :: L37
def L97 : List (Nat × FSpec) := (97, ⟨[(.slice .bool), (.int .i64)], [.bool], [none], fun x => F97 x.1 x.2⟩) :: L73
def L74 : List (Nat × FSpec) := (74, ⟨[(.st (.pair (.int .i64) (.pair (.slice (.st (.pair (.int .i64) (.int .u8)))) (.pair (.slice (.st (.pair (.int .i64) (.int .i64)))) (.slice (.int .i64)))))), (.slice .bool)], [(.slice .bool), (.slice .bool)], [some 4, some 4], fun x => F74 x.1 x.2⟩) :: L97
def L75 : List (Nat × FSpec) := (75, ⟨[(.st (.pair (.int .i64) (.pair (.slice (.st (.pair (.int .i64) (.int .u8)))) (.pair (.slice (.st (.pair (.int .i64) (.int .i64)))) (.slice (.int .i64)))))), (.slice .bool), (.slice .bool)], [(.slice .bool)], [some 4], fun x => F75 x.1 x.2.1 x.2.2⟩) :: L74
def L36 : List (Nat × FSpec) := (36, ⟨[(.st (.pair (.int .i64) (.pair (.slice (.st (.pair (.int .i64) (.int .u8)))) (.pair (.slice (.st (.pair (.int .i64) (.int .i64)))) (.slice (.int .i64)))))), (.slice (.slice .bool))], [(.slice (.slice .bool)), (.slice (.slice .bool)), (.int .i64)], [some 60, some 60, none], fun x => F36 x.1 x.2⟩) :: L75
def L77 : List (Nat × FSpec) := (77, ⟨[(.slice (.slice .str))], [(.slice .str)], [some 9], fun x => F77 x⟩) :: L36
def L78 : List (Nat × FSpec) := (78, ⟨[(.slice (.slice .bool))], [(.slice .bool)], [some 4], fun x => F78 x⟩) :: L77
def L38 : List (Nat × FSpec) := (38, ⟨[(.st (.pair (.st (.pair (.int .i64) (.pair (.slice (.st (.pair (.int .i64) (.int .u8)))) (.pair (.slice (.st (.pair (.int .i64) (.int .i64)))) (.slice (.int .i64)))))) (.pair (.slice .str) (.pair (.slice .str) (.slice .str))))), (.slice (.slice .bool))], [(.st (.pair .str (.pair (.slice (.st (.pair (.slice .str) (.pair .str (.int .i64))))) (.slice (.st (.pair (.int .i64) (.pair (.int .i64) .str))))))), (.int .i64)], [none, none], fun x => F38 x.1 x.2⟩) :: L78
def L113 : List (Nat × FSpec) := (113, ⟨[(.slice .bool), (.int .i64)], [.bool], [none], fun x => F113 x.1 x.2⟩) :: L38
def L116 : List (Nat × FSpec) := (116, ⟨[(.st (.pair (.int .i64) (.pair (.slice (.st (.pair (.int .i64) (.int .u8)))) (.pair (.slice (.st (.pair (.int .i64) (.int .i64)))) (.slice (.int .i64)))))), (.slice .bool), (.slice .bool)], [(.slice .bool)], [some 4], fun x => F116 x.1 x.2.1 x.2.2⟩) :: L113
def L112 : List (Nat × FSpec) := (112, ⟨[(.st (.pair (.int .i64) (.pair (.slice (.st (.pair (.int .i64) (.int .u8)))) (.pair (.slice (.st (.pair (.int .i64) (.int .i64)))) (.slice (.int .i64)))))), (.slice .bool), (.slice .bool)], [(.slice .bool), (.int .i64)], [some 4, none], fun x => F112 x.1 x.2.1 x.2.2⟩) :: L116
def L106 : List (Nat × FSpec) := (106, ⟨[(.st (.pair (.int .i64) (.pair (.slice (.st (.pair (.int .i64) (.int .u8)))) (.pair (.slice (.st (.pair (.int .i64) (.int .i64)))) (.slice (.int .i64)))))), (.slice .bool), (.slice .bool)], [(.slice .bool), (.slice .bool), (.int .i64)], [some 4, some 4, none], fun x => F106 x.1 x.2.1 x.2.2⟩) :: L112
def L90 : List (Nat × FSpec) := (90, ⟨[(.st (.pair (.int .i64) (.pair (.slice (.st (.pair (.int .i64) (.int .u8)))) (.pair (.slice (.st (.pair (.int .i64) (.int .i64)))) (.slice (.int .i64)))))), (.slice (.slice .bool)), (.slice .bool)], [(.slice (.slice .bool)), (.slice (.slice .bool))], [some 60, some 60], fun x => F90 x.1 x.2.1 x.2.2⟩) :: L106
def L91 : List (Nat × FSpec) := (91, ⟨[(.st (.pair (.int .i64) (.pair (.slice (.st (.pair (.int .i64) (.int .u8)))) (.pair (.slice (.st (.pair (.int .i64) (.int .i64)))) (.slice (.int .i64))))))], [(.slice .bool)], [some 4], fun x => F91 x⟩) :: L90
def L59 : List (Nat × FSpec) := (59, ⟨[(.st (.pair (.int .i64) (.pair (.slice (.st (.pair (.int .i64) (.int .u8)))) (.pair (.slice (.st (.pair (.int .i64) (.int .i64)))) (.slice (.int .i64)))))), (.slice (.slice .bool))], [(.slice (.slice .bool)), (.slice (.slice .bool)), (.int .i64)], [some 60, some 60, none], fun x => F59 x.1 x.2⟩) :: L91
def L39 : List (Nat × FSpec) := (39, ⟨[(.st (.pair (.st (.pair (.int .i64) (.pair (.slice (.st (.pair (.int .i64) (.int .u8)))) (.pair (.slice (.st (.pair (.int .i64) (.int .i64)))) (.slice (.int .i64)))))) (.pair (.slice .str) (.pair (.slice .str) (.slice .str))))), (.slice (.slice .bool))], [(.st (.pair .str (.pair (.slice (.st (.pair (.slice .str) (.pair .str (.int .i64))))) (.slice (.st (.pair (.int .i64) (.pair (.int .i64) .str))))))), (.int .i64)], [none, none], fun x => F39 x.1 x.2⟩) :: L59
def L111 : List (Nat × FSpec) := (111, ⟨[(.slice .str), (.slice .str)], [.bool], [none], fun x => F111 x.1 x.2⟩) :: L39
def L100 : List (Nat × FSpec) := (100, ⟨[(.st (.pair (.slice .str) (.pair .str (.int .i64)))), (.st (.pair (.slice .str) (.pair .str (.int .i64))))], [.bool], [none], fun x => F100 x.1 x.2⟩) :: L111
def L79 : List (Nat × FSpec) := (79, ⟨[(.st (.pair .str (.pair (.slice (.st (.pair (.slice .str) (.pair .str (.int .i64))))) (.slice (.st (.pair (.int .i64) (.pair (.int .i64) .str))))))), (.st (.pair .str (.pair (.slice (.st (.pair (.slice .str) (.pair .str (.int .i64))))) (.slice (.st (.pair (.int .i64) (.pair (.int .i64) .str)))))))], [.bool], [none], fun x => F79 x.1 x.2⟩) :: L100
def L40 : List (Nat × FSpec) := (40, ⟨[(.st (.pair .str (.pair (.slice (.st (.pair (.slice .str) (.pair .str (.int .i64))))) (.slice (.st (.pair (.int .i64) (.pair (.int .i64) .str))))))), (.st (.pair .str (.pair (.slice (.st (.pair (.slice .str) (.pair .str (.int .i64))))) (.slice (.st (.pair (.int .i64) (.pair (.int .i64) .str)))))))], [.bool], [none], fun x => F40 x.1 x.2⟩) :: L79
def L9 : List (Nat × FSpec) := (9, ⟨[(.st (.pair (.st (.pair (.int .i64) (.pair (.slice (.st (.pair (.int .i64) (.int .u8)))) (.pair (.slice (.st (.pair (.int .i64) (.int .i64)))) (.slice (.int .i64)))))) (.pair (.slice .str) (.pair (.slice .str) (.slice .str))))), (.slice (.slice .bool))], [.bool], [none], fun x => F9 x.1 x.2⟩) :: L40
end Go.Proofs.YtkcmacdakgohcaaDoor
