/- What was printed is what the typed machine comes to. -/

import Derived.Test.YtkcmacdakgohcaaDoorD36
import Derived.KernelRfl
import Derived.Test.YtkcmacdakgohcaaDoorProg
set_option linter.unusedVariables false
set_option linter.unusedSimpArgs false
set_option linter.unusedSectionVars false
open Go Go.AM Go.TM
namespace Go.Proofs.YtkcmacdakgohcaaDoor
variable {S : Summ} [EqV]
theorem eq_trace_wrong (a0 : Int) : F_trace_wrong a0 = tmFun Go.Proofs.Tryd.prog gl ann itS (fun g => findS g L0) effs 40 44 false [(.int .u8)] [.bool] [.no] (a0) := by kernel_rfl
theorem ok_trace_wrong (B : TBase Go.Proofs.Tryd.prog S gl effs) (h : OKL Go.Proofs.Tryd.prog S effs L0) : OKL Go.Proofs.Tryd.prog S effs L_trace_wrong := OKL.cons B (h) (by kernel_rfl) (by kernel_rfl) fun x => eq_trace_wrong x
theorem eq_trace_Format (a0 : LLI) : F_trace_Format a0 = tmFun Go.Proofs.Tryd.prog gl ann itS (fun g => findS g L_trace_wrong) effs 40 12 false [(.slice (.slice (.int .u8)))] [.str, (.int .i64)] [.no, .no] (a0) := by kernel_rfl
theorem ok_trace_Format (B : TBase Go.Proofs.Tryd.prog S gl effs) (h : OKL Go.Proofs.Tryd.prog S effs L0) : OKL Go.Proofs.Tryd.prog S effs L_trace_Format := OKL.cons B (ok_trace_wrong B h) (by kernel_rfl) (by kernel_rfl) fun x => eq_trace_Format x
theorem eq_stringslite_IndexByte (a0 : Str) (a1 : Int) : F_stringslite_IndexByte a0 a1 = tmFun Go.Proofs.Tryd.prog gl ann itS (fun g => findS g L_trace_Format) effs 40 86 false [.str, (.int .u8)] [(.int .i64)] [.no] (a0, a1) := by kernel_rfl
theorem ok_stringslite_IndexByte (B : TBase Go.Proofs.Tryd.prog S gl effs) (h : OKL Go.Proofs.Tryd.prog S effs L0) : OKL Go.Proofs.Tryd.prog S effs L_stringslite_IndexByte := OKL.cons B (ok_trace_Format B h) (by kernel_rfl) (by kernel_rfl) fun x => eq_stringslite_IndexByte x.1 x.2
theorem eq_strings_IndexByte (a0 : Str) (a1 : Int) : F_strings_IndexByte a0 a1 = tmFun Go.Proofs.Tryd.prog gl ann itS (fun g => findS g L_stringslite_IndexByte) effs 40 52 false [.str, (.int .u8)] [(.int .i64)] [.no] (a0, a1) := by kernel_rfl
theorem ok_strings_IndexByte (B : TBase Go.Proofs.Tryd.prog S gl effs) (h : OKL Go.Proofs.Tryd.prog S effs L0) : OKL Go.Proofs.Tryd.prog S effs L_strings_IndexByte := OKL.cons B (ok_stringslite_IndexByte B h) (by kernel_rfl) (by kernel_rfl) fun x => eq_strings_IndexByte x.1 x.2
theorem eq_unicode_utf8_ValidRune (a0 : Int) : F_unicode_utf8_ValidRune a0 = tmFun Go.Proofs.Tryd.prog gl ann itS (fun g => findS g L_strings_IndexByte) effs 40 102 false [(.int .i32)] [.bool] [.no] (a0) := by kernel_rfl
theorem ok_unicode_utf8_ValidRune (B : TBase Go.Proofs.Tryd.prog S gl effs) (h : OKL Go.Proofs.Tryd.prog S effs L0) : OKL Go.Proofs.Tryd.prog S effs L_unicode_utf8_ValidRune := OKL.cons B (ok_strings_IndexByte B h) (by kernel_rfl) (by kernel_rfl) fun x => eq_unicode_utf8_ValidRune x
theorem eq_bytealg_Cutover (a0 : Int) : F_bytealg_Cutover a0 = tmFun Go.Proofs.Tryd.prog gl ann itS (fun g => findS g L_unicode_utf8_ValidRune) effs 40 103 false [(.int .i64)] [(.int .i64)] [.no] (a0) := by kernel_rfl
theorem ok_bytealg_Cutover (B : TBase Go.Proofs.Tryd.prog S gl effs) (h : OKL Go.Proofs.Tryd.prog S effs L0) : OKL Go.Proofs.Tryd.prog S effs L_bytealg_Cutover := OKL.cons B (ok_unicode_utf8_ValidRune B h) (by kernel_rfl) (by kernel_rfl) fun x => eq_bytealg_Cutover x
theorem eq_strings_IndexRune (a0 : Str) (a1 : Int) : F_strings_IndexRune a0 a1 = tmFun Go.Proofs.Tryd.prog gl ann itS (fun g => findS g L_bytealg_Cutover) effs 40 83 false [.str, (.int .i32)] [(.int .i64)] [.no] (a0, a1) := by kernel_rfl
theorem ok_strings_IndexRune (B : TBase Go.Proofs.Tryd.prog S gl effs) (h : OKL Go.Proofs.Tryd.prog S effs L0) : OKL Go.Proofs.Tryd.prog S effs L_strings_IndexRune := OKL.cons B (ok_bytealg_Cutover B h) (by kernel_rfl) (by kernel_rfl) fun x => eq_strings_IndexRune x.1 x.2
theorem eq_strings_ContainsRune (a0 : Str) (a1 : Int) : F_strings_ContainsRune a0 a1 = tmFun Go.Proofs.Tryd.prog gl ann itS (fun g => findS g L_strings_IndexRune) effs 40 49 false [.str, (.int .i32)] [.bool] [.no] (a0, a1) := by kernel_rfl
theorem ok_strings_ContainsRune (B : TBase Go.Proofs.Tryd.prog S gl effs) (h : OKL Go.Proofs.Tryd.prog S effs L0) : OKL Go.Proofs.Tryd.prog S effs L_strings_ContainsRune := OKL.cons B (ok_strings_IndexRune B h) (by kernel_rfl) (by kernel_rfl) fun x => eq_strings_ContainsRune x.1 x.2
theorem eq_trace_Parse_1 (a0 : Int) : F_trace_Parse_1 a0 = tmFun Go.Proofs.Tryd.prog gl ann itS (fun g => findS g L_strings_ContainsRune) effs 40 48 false [(.int .i32)] [.bool] [.no] (a0) := by kernel_rfl
theorem ok_trace_Parse_1 (B : TBase Go.Proofs.Tryd.prog S gl effs) (h : OKL Go.Proofs.Tryd.prog S effs L0) : OKL Go.Proofs.Tryd.prog S effs L_trace_Parse_1 := OKL.cons B (ok_strings_ContainsRune B h) (by kernel_rfl) (by kernel_rfl) fun x => eq_trace_Parse_1 x
theorem eq_stringslite_HasSuffix (a0 : Str) (a1 : Str) : F_stringslite_HasSuffix a0 a1 = tmFun Go.Proofs.Tryd.prog gl ann itS (fun g => findS g L_trace_Parse_1) effs 40 84 false [.str, .str] [.bool] [.no] (a0, a1) := by kernel_rfl
theorem ok_stringslite_HasSuffix (B : TBase Go.Proofs.Tryd.prog S gl effs) (h : OKL Go.Proofs.Tryd.prog S effs L0) : OKL Go.Proofs.Tryd.prog S effs L_stringslite_HasSuffix := OKL.cons B (ok_trace_Parse_1 B h) (by kernel_rfl) (by kernel_rfl) fun x => eq_stringslite_HasSuffix x.1 x.2
theorem eq_strings_HasSuffix (a0 : Str) (a1 : Str) : F_strings_HasSuffix a0 a1 = tmFun Go.Proofs.Tryd.prog gl ann itS (fun g => findS g L_stringslite_HasSuffix) effs 40 50 false [.str, .str] [.bool] [.no] (a0, a1) := by kernel_rfl
theorem ok_strings_HasSuffix (B : TBase Go.Proofs.Tryd.prog S gl effs) (h : OKL Go.Proofs.Tryd.prog S effs L0) : OKL Go.Proofs.Tryd.prog S effs L_strings_HasSuffix := OKL.cons B (ok_stringslite_HasSuffix B h) (by kernel_rfl) (by kernel_rfl) fun x => eq_strings_HasSuffix x.1 x.2
theorem eq_trace_Parse (a0 : Str) : F_trace_Parse a0 = tmFun Go.Proofs.Tryd.prog gl ann itS (fun g => findS g L_strings_HasSuffix) effs 40 14 false [.str] [(.slice (.slice (.int .u8))), (.int .i64), (.int .i64)] [.row 24, .no, .no] (a0) := by kernel_rfl
theorem ok_trace_Parse (B : TBase Go.Proofs.Tryd.prog S gl effs) (h : OKL Go.Proofs.Tryd.prog S effs L0) : OKL Go.Proofs.Tryd.prog S effs L_trace_Parse := OKL.cons B (ok_strings_HasSuffix B h) (by kernel_rfl) (by kernel_rfl) fun x => eq_trace_Parse x
theorem eq_r36_Same (a0 : LLI) (a1 : LLI) : F_r36_Same a0 a1 = tmFun Go.Proofs.Tryd.prog gl ann itS (fun g => findS g L_trace_Parse) effs 40 16 false [(.slice (.slice (.int .u8))), (.slice (.slice (.int .u8)))] [.bool] [.no] (a0, a1) := by kernel_rfl
theorem ok_r36_Same (B : TBase Go.Proofs.Tryd.prog S gl effs) (h : OKL Go.Proofs.Tryd.prog S effs L0) : OKL Go.Proofs.Tryd.prog S effs L_r36_Same := OKL.cons B (ok_trace_Parse B h) (by kernel_rfl) (by kernel_rfl) fun x => eq_r36_Same x.1 x.2
theorem eq_w36_TraceText (a0 : LLI) (a1 : Str) : F_w36_TraceText a0 a1 = tmFun Go.Proofs.Tryd.prog gl ann itS (fun g => findS g L_r36_Same) effs 40 4 true [(.slice (.slice (.int .u8))), .str] [.bool] [.no] (a0, a1) := by kernel_rfl
theorem ok_w36_TraceText (B : TBase Go.Proofs.Tryd.prog S gl effs) (h : OKL Go.Proofs.Tryd.prog S effs L0) : OKL Go.Proofs.Tryd.prog S effs L_w36_TraceText := OKL.cons B (ok_r36_Same B h) (by kernel_rfl) (by kernel_rfl) fun x => eq_w36_TraceText x.1 x.2
end Go.Proofs.YtkcmacdakgohcaaDoor
