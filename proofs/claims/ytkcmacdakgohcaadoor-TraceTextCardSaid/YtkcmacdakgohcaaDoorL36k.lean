/- Plain laws: characters, runes, the place of a byte. -/

import Derived.Test.YtkcmacdakgohcaaDoorL36j
set_option linter.unusedVariables false
set_option linter.unusedSimpArgs false
set_option linter.unusedSectionVars false
open Go Go.AM Go.TM
namespace Go.Proofs.YtkcmacdakgohcaaDoor
theorem idx_none {s : Str} {n : Nat} (h : ∀ c ∈ s, c.toNat ≠ n) : idxL n s 0 = -1 := by
 rcases idxL_spec n s 0 with ⟨h1, -⟩ | ⟨i, hi, h1, h2, -⟩
 ·exact h1
 ·exact absurd h2 (h _ (List.getElem_mem hi))
theorem idx_first {s : Str} {n i : Nat} (hi : i < s.length) (h : s[i].toNat = n) (h0 : ∀ (j : Nat) (hj : j < s.length), j < i → s[j].toNat ≠ n) : idxL n s 0 = (i : Int) := by
 rcases idxL_spec n s 0 with ⟨-, h2⟩ | ⟨k, hk, h1, h2, h3⟩
 ·exact absurd h (h2 i hi)
 ·have : k = i := by
   rcases Nat.lt_trichotomy k i with q | q | q
   ·exact absurd h2 (h0 k hk q)
   ·exact q
   ·exact absurd h (h3 i hi q)
  rw [h1, this]; simp
theorem ib_eq (s : Str) {c : Int} (h0 : 0 ≤ c) (h1 : c < 256) : F_strings_IndexByte s c = some (idxL c.toNat s 0) := by
 have e : F_bytealg_IndexByteString s c = some (idxL c.toNat s 0) := by unfold F_bytealg_IndexByteString; rw [if_pos ⟨h0, h1⟩]
 have e2 : F_stringslite_IndexByte s c = some (idxL c.toNat s 0) := by unfold F_stringslite_IndexByte; rw [e]; rfl
 unfold F_strings_IndexByte; rw [e2]; rfl
theorem dec_low {s : Str} {i : Nat} (hi : i < s.length) (h : s[i].toNat < 128) : rune s i = (s[i].toNat : Int) ∧ runw s i = 1 := by
 have hg : (ByteArray.mk s.toArray).get! (i + 0) = s[i] := by
  show (s.toArray)[i + 0]! = _
  rw [Nat.add_zero, getElem!_pos s.toArray i (by simpa using hi)]; simp
 have hd : Utf8.decode ⟨s.toArray⟩ i = (s[i].toNat, 1) := by
  unfold Utf8.decode
  simp only [hg]
  rw [if_pos h]
 unfold rune runw
 rw [hd]
 exact ⟨rfl, rfl⟩
theorem dec_high {s : Str} {i : Nat} (hi : i < s.length) (h : 128 ≤ s[i].toNat) : 128 ≤ rune s i := by
 have hg : (ByteArray.mk s.toArray).get! (i + 0) = s[i] := by
  show (s.toArray)[i + 0]! = _
  rw [Nat.add_zero, getElem!_pos s.toArray i (by simpa using hi)]; simp
 have hd : 128 ≤ (Utf8.decode ⟨s.toArray⟩ i).1 := by
  unfold Utf8.decode
  simp only [hg]
  rw [if_neg (by omega)]
  have hr : 128 ≤ Utf8.runeError := by decide
  split
  ·split
   ·assumption
   ·exact hr
  split
  ·split
   ·rename_i q; simp only [Bool.and_eq_true, decide_eq_true_eq] at q; omega
   ·exact hr
  split
  ·split
   ·rename_i q; simp only [Bool.and_eq_true, decide_eq_true_eq] at q; omega
   ·exact hr
  ·exact hr
 unfold rune
 omega
theorem enc_last {r : Int} (h : 128 ≤ r) : ∃ l c, runs r = l ++ [c] ∧ 1 ≤ l.length ∧ l.length ≤ 3 ∧ 128 ≤ c.toNat := by
 have hc : 128 ≤ (if Utf8.valid r then r.toNat else Utf8.runeError) := by
  split
  ·omega
  ·decide
 have hb : ∀ n : Nat, 128 ≤ (UInt8.ofNat (0x80 + n % 64)).toNat := fun n => by
  rw [UInt8.toNat_ofNat_of_lt' (show 0x80 + n % 64 < 256 by omega)]; omega
 unfold runs Utf8.encode
 generalize (if Utf8.valid r then r.toNat else Utf8.runeError) = c at hc
 simp only
 rw [if_neg (by omega)]
 split
 ·exact ⟨[_], _, rfl, by simp, by simp, hb c⟩
 split
 ·exact ⟨[_, _], _, rfl, by simp, by simp, hb c⟩
 ·exact ⟨[_, _, _], _, rfl, by simp, by simp, hb c⟩
def goodN (n : Nat) : Bool := n == 48 || n == 49 || n == 120 || n == 10
abbrev set4 : Str := [48, 49, 120, 10]
theorem set4_low : ∀ c ∈ set4, c.toNat < 128 := by decide
theorem ir_low {r : Int} (h0 : 0 ≤ r) (h1 : r < 128) : F_strings_IndexRune set4 r = some (idxL r.toNat set4 0) := by
 unfold F_strings_IndexRune
 simp only [br_def, le_def, lt_def, decide_eq_true_eq]
 rw [if_pos h0, if_pos h1, wr8 h0 (by omega), ib_eq _ h0 (by omega)]; rfl
theorem ir_high {r : Int} (h0 : 128 ≤ r) : F_strings_IndexRune set4 r = some (-1) := by
 unfold F_strings_IndexRune
 simp only [br_def, le_def, lt_def, eq_def, decide_eq_true_eq]
 rw [if_pos (by omega), if_neg (by omega)]
 split
 ·rename_i e
  have hs : ∀ i : Nat, i < 4 → F_strings_IndexRune_l0 set4 r (i, ()) = some (.inl (i + 1, ())) := fun i hi => by
   have hi' : i < set4.length := hi
   obtain ⟨d1, d2⟩ := dec_low hi' (set4_low _ (List.getElem_mem hi'))
   have := set4_low _ (List.getElem_mem hi')
   simp only [F_strings_IndexRune_l0, d1, d2, br_def, nlt_def, eq_def, nadd_def, len_def, decide_eq_true_eq]
   rw [if_pos hi', if_neg (by omega)]
  rw [show ((0 : Nat), ()) = (fun i : Nat => (i, ())) 0 from rfl, iterS_upto (f := F_strings_IndexRune_l0 set4 r) (fun i => (i, ())) 4 (r := .inl (4, ())) hs (by simp [F_strings_IndexRune_l0])]
  first | done | rfl
 ·have hv : ∃ b, F_unicode_utf8_ValidRune r = some b := by
   unfold F_unicode_utf8_ValidRune
   simp only [br_def]
   repeat' split
   all_goals exact ⟨_, rfl⟩
  obtain ⟨b, hb⟩ := hv
  rw [hb, ob_some]
  simp only [nt_def]
  cases b with
  | false => rfl
  | true =>
   rw [if_neg (by simp)]
   obtain ⟨l, c, e1, e2, e3, e4⟩ := enc_last h0
   have hlen : len (runs r) = l.length + 1 := by rw [e1]; simp
   have hw : wr .i64 (sb (ni (len (runs r))) 1) = (l.length : Int) := by
    rw [hlen]; simp only [ni_def, sb_def]; rw [wr64 (by omega) (by omega)]; omega
   have hc : rd (runs r) (tn (l.length : Int)) 0 = c := by rw [tn_nat, e1, rd_def, getD_lt (by simp)]; simp
   have hl4 : l.length < set4.length := by show l.length < 4; omega
   have hlow := set4_low _ (List.getElem_mem hl4)
   have hcut : ∀ x ∈ cut set4 (tn (wr .i64 (ad (l.length : Int) 1))) (nsub (tn (ni (len set4))) (tn (wr .i64 (ad (l.length : Int) 1)))), x ∈ set4 := fun x hx => by
    simp only [cut_def] at hx
    exact List.mem_of_mem_drop (List.mem_of_mem_take hx)
   have hidx : F_strings_IndexByte (cut set4 (tn (wr .i64 (ad (l.length : Int) 1))) (nsub (tn (ni (len set4))) (tn (wr .i64 (ad (l.length : Int) 1))))) (byt c) = some (-1) := by
    have hc2 : c.toNat < 256 := c.toNat_lt
    rw [ib_eq _ (by simp only [byt]; omega) (by simp only [byt]; omega), idx_none fun x hx => by
     have := set4_low x (hcut x hx)
     simp only [byt, Int.toNat_natCast]; omega]
   have hl : F_strings_IndexRune_l1 set4 r true ((l.length : Int), ()) = some (.inr (.inr (-1))) := by
    simp only [F_strings_IndexRune_l1, hw, hc]
    rw [hidx]
    simp only [br_def, lt_def, ni_def, len_def, ix_def, rg_def, ne_def, tn_nat, ob_some, rd_lt hl4, decide_eq_true_eq, ad_def, inR_some']
    have hlr : (runs r).length = l.length + 1 := hlen
    rw [if_pos (by omega), if_pos (by omega), if_pos (by omega), if_pos (by show ¬ ((set4[l.length].toNat : Int) = (c.toNat : Int)); omega), wr64 (by omega) (by omega), if_pos (by omega), if_pos (by omega), if_pos (by omega)]
   rw [hw, iterS_inr hl, oj_inr]
theorem parse1 {s : Str} {i : Nat} (hi : i < s.length) : F_trace_Parse_1 (rune s i) = some (!goodN s[i].toNat) := by
 unfold F_trace_Parse_1 F_strings_ContainsRune
 by_cases h : s[i].toNat < 128
 ·rw [(dec_low hi h).1, ir_low (by omega) (by omega), ob_some, ob_some, Int.toNat_natCast]
  have key : ∀ n : Nat, n < 128 → (decide ((0 : Int) ≤ idxL n set4 0)) = goodN n := by decide +kernel
  show some (!(decide ((0 : Int) ≤ idxL s[i].toNat set4 0))) = _
  rw [key _ h]
 ·have hh := dec_high hi (by omega)
  rw [ir_high hh, ob_some, ob_some]
  have : goodN s[i].toNat = false := by
   unfold goodN
   simp only [Bool.or_eq_false_iff, beq_eq_false_iff_ne]
   omega
  rw [this]; rfl
end Go.Proofs.YtkcmacdakgohcaaDoor
