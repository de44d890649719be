/- The rows: arguments as they lie in memory, read as data; a law's row out of what its function comes to. -/

import Derived.Test.YtgpligmjbecbjaaGreatDoorTmCall
import Derived.Handed
import Derived.Carry
import Derived.RowKit
import Derived.ChangeArms
import Derived.ChangeOld
import Derived.ChangeShapes
import Derived.WideShapes
import Derived.LaidLaws
import Derived.DataReads
import Derived.OpenShut
import Derived.Test.YtgpligmjbecbjaaGreatDoorAmEq
import Derived.Test.YtgpligmjbecbjaaGreatDoorAmRow
set_option linter.unusedVariables false
set_option linter.unusedSimpArgs false
set_option linter.unusedSectionVars false
namespace Go.TM
open Go Go.AM Go.RowKit
variable {P : Program}

def up (n a : Nat) : Nat := (n + a - 1) / a * a
def kindBytes (k : IntKind) : Nat := k.bits / 8
def Ty.align : Ty → Nat
 | .int k => kindBytes k
 | .bool => 1
 | .str => 8
 | .slice _ => 8
 | .unit => 1
 | .pair a b => max a.align b.align
 | .st a => a.align
mutual
def Ty.bytes : Ty → Nat
 | .int k => kindBytes k
 | .bool => 1
 | .str => 16
 | .slice _ => 24
 | .unit => 0
 | .pair a b => Ty.ends b (up a.bytes b.align)
 | .st a => up (Ty.ends a 0) a.align
def Ty.ends : Ty → Nat → Nat
 | .pair a b, off => Ty.ends b (up off a.align + a.bytes)
 | .unit, off => off
 | .int k, off => up off (kindBytes k) + kindBytes k
 | .bool, off => off + 1
 | .str, off => up off 8 + 16
 | .slice _, off => up off 8 + 24
 | .st a, off => up off a.align + up (Ty.ends a 0) a.align
end
def WfT : (t : Ty) → t.den → Prop
 | .int k, n => k.min ≤ n ∧ n ≤ k.max
 | .bool, _ => True
 | .str, s => s.length ≤ 140737488351232
 | .slice t, l => l.length * t.bytes ≤ 140737488351232 ∧ ∀ x ∈ l, WfT t x
 | .unit, _ => True
 | .pair a b, x => WfT a x.1 ∧ WfT b x.2
 | .st a, x => WfT a x
def WfTs : (ts : List Ty) → Tys ts → Prop
 | [], _ => True
 | [t], x => WfT t x
 | t :: u :: r, x => WfT t x.1 ∧ WfTs (u :: r) x.2

def okFs (P : Program) (ok : Ty → TypeId → Bool) : Ty → List Field → Nat → Bool
 | T, [f], off => f.offset == off && P.cellsOf f.type == T.size && ok T f.type
 | .pair a b, f :: r, off => f.offset == off && P.cellsOf f.type == a.size && ok a f.type && okFs P ok b r (off + a.size)
 | .unit, [], _ => true
 | _, _, _ => false
def okAr (ok : Ty → TypeId → Bool) (e : TypeId) : Ty → Nat → Bool
 | T, 1 => ok T e
 | .pair a b, n + 1 => ok a e && a.size == (match b with | .pair c _ => c.size | c => c.size) && okAr ok e b n
 | _, _ => false
def okTy (P : Program) : Nat → Ty → TypeId → Bool
 | 0, _, _ => false
 | n + 1, T, t => match P.underlying t with
  | some (.int k) => match T with
   | .int k' => k' == k
   | _ => false
  | some .bool => match T with
   | .bool => true
   | _ => false
  | some .string => match T with
   | .str => true
   | _ => false
  | some (.slice e) => match T with
   | .slice a => P.cellsOf e == a.size && P.bytesOf e == a.bytes && okTy P n a e
   | _ => false
  | some (.struct fs) => match T with
   | .st a => P.cellsOf t == a.size && okFs P (okTy P n) a fs.toList 0
   | _ => false
  | _ => false
def okTys (P : Program) : List Ty → List TypeId → Bool
 | [], [] => true
 | T :: r, t :: s => okTy P 12 T t && okTys P r s
 | _, _ => false

theorem cells_get {w : World} {base : Nat} {a : Addr} {n : Nat} {cs : List Value} (h : w.cells? base a n = some cs) : cs.length = n ∧ ∀ i, i < n → w.cell? (a.add i) = cs[i]? := by
 unfold World.cells? at h
 split at h
 ·exact ⟨by simpa using mapM_some_length h, fun i hi => mapM_some_get h i i (by simp [hi])⟩
 ·cases h
theorem add_off (a : Addr) (n : Nat) (h : a.spot = none) : a.add n = ⟨a.block, a.off + n, none⟩ := by
 obtain ⟨b, o, s⟩ := a
 simp only at h; subst h
 unfold Addr.add
 split
 ·rename_i e; subst e; rfl
 ·rfl
section
variable {H : Type} {enc : TypeId × Value → H} {W : World} {N : Nat}

theorem weights_all_mem {t : TypeId} : ∀ {l : List (DataW H)} {d : DataW H}, d ∈ l → ∀ n ∈ d.weights P t, n ∈ DataW.weightsAll P t l
 | x :: r, d, hd, n, hn => by
  simp only [DataW.weightsAll, List.mem_append]; rcases List.mem_cons.1 hd with rfl | hd
  ·exact .inl hn
  ·exact .inr (weights_all_mem hd n hn)

def Opens (W : World) (N : Nat) (T : Ty) (cs : List Value) : Prop := ∃ (y : T.den) (ds : List Value), DC (fun _ => none) T y ds ∧ VRL (inMap N W) ds cs ∧ WfT T y

theorem open_fs {ok : Ty → TypeId → Bool} {tr : TypeId → List Value → Option (DataW H × List MemPlace)} (ih : ∀ T t, ok T t = true → ∀ cs x, tr t cs = some x → (∀ n ∈ x.1.weights P t, n ≤ reachBytes) → cs.length = T.size → Opens W N T cs) :
  ∀ (fs : List Field) (T : Ty) (off : Nat) (cs : List Value) (xs : List (DataW H × List MemPlace)), okFs P ok T fs off = true → off + T.size = cs.length → xs.length = fs.length →
   (∀ (i : Nat) f, fs[i]? = some f → tr f.type ((cs.drop f.offset).take (P.cellsOf f.type)) = xs[i]?) → (∀ n ∈ DataW.weightsEach P (fs.map (·.type)) (xs.map (·.1)), n ≤ reachBytes) → Opens W N T (cs.drop off) := by
 intro fs
 induction fs with
 | nil =>
  intro T off cs xs hok hl _ _ _; cases T <;> simp [okFs] at hok
  refine ⟨(), [], rfl, ?_, trivial⟩; have : cs.drop off = [] := List.drop_of_length_le (by simp only [Ty.size] at hl; omega); rw [this]; exact .nil _
 | cons f r ihf =>
  intro T off cs xs hok hl hx htr hw; cases xs with
  | nil => simp at hx
  | cons x xs =>
   have h0 := htr 0 f rfl; simp only [List.getElem?_cons_zero] at h0; have hw0 : ∀ n ∈ x.1.weights P f.type, n ≤ reachBytes := fun n hn => hw n (by simp only [List.map_cons, DataW.weightsEach, List.mem_append]; exact .inl hn)
   have whole : (f.offset == off && P.cellsOf f.type == T.size && ok T f.type) = true → Opens W N T (cs.drop off) := fun h => by
    simp only [Bool.and_eq_true, beq_iff_eq] at h; obtain ⟨⟨e1, e2⟩, h3⟩ := h; rw [e1, e2, List.take_of_length_le (by simp; omega)] at h0; exact ih T f.type h3 _ x h0 hw0 (by simp; omega)
   cases r with
   | nil => cases T <;> exact whole hok
   | cons g r =>
    cases T <;> simp only [okFs, Bool.false_eq_true] at hok
    rename_i a b; simp only [Bool.and_eq_true, beq_iff_eq] at hok; obtain ⟨⟨⟨e1, e2⟩, h3⟩, h4⟩ := hok; simp only [Ty.size] at hl; rw [e1, e2] at h0; obtain ⟨y1, d1, k1, k2, k3⟩ := ih a f.type h3 _ x h0 hw0 (by simp; omega); obtain ⟨y2, d2, q1, q2, q3⟩ := ihf b (off + a.size) cs xs h4 (by omega) (by simpa using hx) (fun i f' hf' => by simpa using htr (i + 1) f' (by simpa using hf')) fun n hn => hw n (by simp only [List.map_cons, DataW.weightsEach, List.mem_append]; exact .inr hn)
    refine ⟨(y1, y2), d1 ++ d2, ⟨d1, d2, rfl, k1, q1⟩, ?_, k3, q3⟩; have e : cs.drop off = (cs.drop off).take a.size ++ cs.drop (off + a.size) := by rw [← List.drop_drop, List.take_append_drop]
    rw [e]; exact k2.append q2

theorem open_row {T : Ty} {k : Nat} {tr : List Value → Option (DataW H × List MemPlace)} {b off : Nat} {arr : Array Value} {ty : TypeId} {fr : Nat × Nat} (hb : W.heap[b]? = some (.cells arr ty fr)) (hk : k = T.size) :
  ∀ (len : Nat), (∀ i, i < len → ∃ cs x, W.cells? 0 ⟨b, off + i * k, none⟩ k = some cs ∧ tr cs = some x ∧ Opens W N T cs) →
   ∃ (l : List T.den) (ds : List Value), l.length = len ∧ ds.length = len * k ∧ Rows (DC (fun _ => none) T) T.size ds l ∧ (∀ x ∈ l, WfT T x) ∧ (len ≠ 0 → k ≠ 0 → off + len * k ≤ arr.size) ∧ ∀ i (h : i < ds.length) (h' : off + i < arr.size), VR (inMap N W) ds[i] arr[off + i] := by
 intro len
 induction len with
 | zero => intro _; exact ⟨[], [], rfl, by simp, .nil, fun x hx => (by cases hx), fun h => absurd rfl h, fun i h => by simp at h⟩
 | succ len ih =>
  intro h; obtain ⟨l, ds, h1, h2, h3, h4, h5, h6⟩ := ih fun i hi => h i (by omega)
  obtain ⟨cs, x, g1, g2, y, d, g3, g4, g5⟩ := h len (by omega); obtain ⟨c1, c2⟩ := cells_get g1; have dl : d.length = k := by rw [g3.length, hk]
  have at_ : ∀ i, i < k → ∃ hh : off + (len * k + i) < arr.size, ∃ h1 : i < d.length, VR (inMap N W) d[i] arr[off + (len * k + i)] := fun i hi => by
   have := c2 i hi; rw [add_off _ _ rfl] at this; simp only [World.cell?, hb, Option.isSome_none, Bool.false_eq_true, if_false] at this; have hlt : i < cs.length := by omega
   rw [List.getElem?_eq_getElem hlt] at this; obtain ⟨q1, q2⟩ := Array.getElem?_eq_some_iff.1 this; refine ⟨by omega, by omega, ?_⟩; have := g4.2 i (by omega) hlt; rw [← q2] at this; have e : off + len * k + i = off + (len * k + i) := by omega
   simpa only [e] using this
  refine ⟨l ++ [y], ds ++ d, by simp [h1], by simp [h2, dl, Nat.add_mul], ?_, fun x hx => ?_, fun _ hk0 => ?_, fun i p q => ?_⟩
  ·have r1 : Rows (DC (fun _ => none) T) T.size d [y] := fun i hi => by
    have : i = 0 := by simpa using hi
    subst this; refine ⟨by rw [dl, hk]; omega, ?_⟩; simp only [Nat.zero_mul, List.drop_zero, List.getElem_cons_zero]; rw [List.take_of_length_le (by omega)]; exact g3
   exact h3.append (by rw [h2, h1, hk]) r1
  ·rcases List.mem_append.1 hx with hx | hx
   ·exact h4 x hx
   ·simp at hx; subst hx; exact g5
  ·obtain ⟨hh, -, -⟩ := at_ (k - 1) (by omega)
   rw [Nat.add_mul]; omega
  ·by_cases hi : i < ds.length
   ·rw [List.getElem_append_left hi]
    exact h6 i hi q
   ·simp only [List.length_append] at p
    rw [List.getElem_append_right (by omega)]; obtain ⟨hh, h1', v⟩ := at_ (i - ds.length) (by omega); have e : off + (len * k + (i - ds.length)) = off + i := by omega
    simpa only [e] using v

theorem open_T : ∀ (n : Nat) (T : Ty) (t : TypeId), okTy P n T t = true → ∀ (fuel : Nat) (cs : List Value) (x : DataW H × List MemPlace), DataW.trod enc P W 0 (fun _ => true) true fuel t cs = some x → (∀ n ∈ x.1.weights P t, n ≤ reachBytes) → cs.length = T.size → Opens W N T cs := by
 intro n
 induction n with
 | zero => intro T t h; cases h
 | succ n ih =>
  intro T t hok fuel cs x hx hw hl; simp only [okTy] at hok; split at hok
  ·rename_i k hu
   split at hok
   ·rename_i k'
    have : k' = k := by simpa using hok
    subst this; obtain ⟨m, rfl, rfl, hwf⟩ := DataW.trod_int hu hx; refine ⟨m, _, rfl, .refl_flat rfl, ?_⟩; simp only [Lit.wf, Bool.and_eq_true, decide_eq_true_eq] at hwf; exact hwf
   ·cases hok
  ·rename_i hu
   split at hok
   ·obtain ⟨b, rfl, rfl⟩ := DataW.trod_bool hu hx
    exact ⟨b, _, rfl, .refl_flat rfl, trivial⟩
   ·cases hok
  ·rename_i hu
   split at hok
   ·obtain ⟨s, rfl, rfl, hs⟩ := DataW.trod_string hu hx
    refine ⟨s.data.toList, _, rfl, .refl_flat rfl, ?_⟩; exact hw _ (by simp [DataW.weights])
   ·cases hok
  ·rename_i e hu
   split at hok
   ·rename_i a
    simp only [Bool.and_eq_true, beq_iff_eq] at hok; obtain ⟨⟨h1, h2⟩, h3⟩ := hok; rcases DataW.trod_slice hu hx with ⟨rfl, rfl⟩ | ⟨ad, len, cap, elems, rest, fuel', rfl, rfl, rfl, -, hlc, hcm, hel, hat, -, -⟩
    ·exact ⟨[], _, ⟨_, rfl, .inl ⟨rfl, rfl⟩⟩, .refl_flat rfl, by simp, fun x hx => by cases hx⟩
    ·have hwl : (elems.map (·.1)).length * P.bytesOf e ≤ reachBytes := by
      have := hw (((elems.map (·.1)).length + (rest.map (·.1)).length) * P.bytesOf e) (by simp [DataW.weights, hu]); rw [Nat.add_mul] at this; omega
     have hwe : ∀ z ∈ elems, ∀ n ∈ z.1.weights P e, n ≤ reachBytes := fun z hz n hn => hw n (by
      simp only [DataW.weights, hu, List.mem_cons, List.mem_append]; exact .inr (.inl (weights_all_mem (List.mem_map_of_mem hz) n hn)))
     have each : ∀ i, i < len → ∃ cs z, W.cells? 0 (ad.add (i * P.cellsOf e)) (P.cellsOf e) = some cs ∧ DataW.trod enc P W 0 (fun _ => true) true fuel' e cs = some z ∧ Opens W N a cs := fun i hi => by
      have h := hat i hi; have hi' : i < elems.length := by omega
      rw [List.getElem?_eq_getElem hi'] at h; obtain ⟨cs, c1, c2⟩ := Option.bind_eq_some_iff.1 h; exact ⟨cs, _, c1, c2, ih a e h3 fuel' cs _ c2 (hwe _ (List.getElem_mem hi')) (by rw [(cells_get c1).1, h1])⟩
     by_cases hz : len * P.cellsOf e = 0
     ·-- no cell at all
      have : ∃ l : List a.den, l.length = len ∧ Rows (DC (fun _ => none) a) a.size [] l ∧ ∀ x ∈ l, WfT a x := by
       clear hel hlc hat hx hw hwl hl hcm; induction len with
       | zero => exact ⟨[], rfl, .nil, fun x hx => by cases hx⟩
       | succ m ihm =>
        have hc : P.cellsOf e = 0 := by
         rcases Nat.mul_eq_zero.1 hz with h | h
         ·omega
         ·exact h
        obtain ⟨l, l1, l2, l3⟩ := ihm (fun i hi => each i (by omega)) (by rw [hc, Nat.mul_zero]); obtain ⟨cs, z, c1, c2, y, d, d1, d2, d3⟩ := each m (by omega); have hcs : cs.length = 0 := by rw [(cells_get c1).1, hc]
        have hd : d = [] := List.eq_nil_of_length_eq_zero (by rw [d2.1, hcs]); subst hd; refine ⟨l ++ [y], by simp [l1], ?_, fun x hx => ?_⟩
        ·have ez : a.size = 0 := by rw [← h1, hc]
         intro i hi; refine ⟨by simp [ez], ?_⟩; by_cases hil : i < l.length
         ·rw [List.getElem_append_left hil]; exact (l2 i hil).2
         ·rw [List.getElem_append_right (by omega)]
          simp only [List.getElem_singleton]; simpa using d1
        ·rcases List.mem_append.1 hx with hx | hx
         ·exact l3 x hx
         ·simp at hx; subst hx; exact d3
      obtain ⟨l, l1, l2, l3⟩ := this
      refine ⟨l, [LST len #[]], ⟨_, rfl, .inr (.inl ⟨"s", #[], #[], by rw [l1], ?_, l2⟩)⟩, VRL.cons (.lst #[] len cap ad hlc (.inl rfl) (fun i h => by simp at h)) (.nil _), ?_, l3⟩
      ·rw [l1, ← h1, hz]; exact Nat.zero_le _
      ·rw [l1, ← hel, ← h2]; rw [List.length_map] at hwl; exact hwl
     ·have hlen : 0 < len := by
       rcases Nat.eq_zero_or_pos len with h | h
       ·rw [h, Nat.zero_mul] at hz; exact absurd rfl hz
       ·exact h
      have hc : P.cellsOf e ≠ 0 := fun h => hz (by rw [h, Nat.mul_zero])
      obtain ⟨cs0, z0, c0, -, -⟩ := each 0 hlen; have cell0 := (cells_get c0).2 0 (by omega); have hl0 : 0 < cs0.length := by rw [(cells_get c0).1]; omega
      rw [List.getElem?_eq_getElem hl0] at cell0; have hspot : ad.spot = none ∧ ∃ arr ty fr, W.heap[ad.block]? = some (.cells arr ty fr) := by
       rw [Nat.zero_mul] at cell0; have e0 : (ad.add 0).add 0 = ad := rfl; rw [e0] at cell0; unfold World.cell? at cell0; split at cell0
       ·rename_i arr ty fr hb
        split at cell0
        ·cases cell0
        ·rename_i hs
         exact ⟨by simpa using hs, arr, ty, fr, hb⟩
       ·cases cell0
      obtain ⟨hs, arr, ty, fr, hb⟩ := hspot; obtain ⟨l, ds, l1, l2, l3, l4, l5, l6⟩ := open_row (W := W) (N := N) (T := a) (tr := DataW.trod enc P W 0 (fun _ => true) true fuel' e) (off := ad.off) hb h1 len fun i hi => by
       obtain ⟨cs, z, c1, c2, c3⟩ := each i hi; rw [add_off _ _ hs] at c1; exact ⟨cs, z, c1, c2, c3⟩
      have hfit := l5 (by omega) hc; have hfro : (inMap N W).fro ad.block = some arr := by simp only [inMap, hb]
      refine ⟨l, [LST len ds.toArray], ⟨_, rfl, .inr (.inl ⟨"s", ds.toArray, #[], by rw [l1], ?_, by simpa using l3⟩)⟩, VRL.cons (.lst ds.toArray len cap ad hlc (.inr ⟨arr, hfro, hs, by simpa [l2] using hfit⟩) ?_) (.nil _), ?_, l4⟩
      ·rw [l1]; simp [l2, h1]
      ·intro i hi arr' h' hf'
       rw [hfro] at hf'; cases hf'; simpa using l6 i (by simpa using hi) h'
      ·rw [l1, ← hel, ← h2]; rw [List.length_map] at hwl; exact hwl
   ·cases hok
  ·rename_i fs hu
   split at hok
   ·rename_i a
    simp only [Bool.and_eq_true, beq_iff_eq] at hok; obtain ⟨h1, h2⟩ := hok; obtain ⟨xs, fuel', rfl, rfl, hlen, hxs, hat⟩ := DataW.trod_struct hu hx; have := open_fs (W := W) (N := N) (ok := okTy P n) (tr := DataW.trod enc P W 0 (fun _ => true) true fuel') (fun T t h cs x hx hw hl => ih T t h fuel' cs x hx hw hl) fs.toList a 0 cs xs h2 (by rw [hlen, h1]; omega) (by simpa using hxs) (fun i f hf => hat i f (by simpa using hf)) (by
     intro m hm; exact hw m (by simpa [DataW.weights, hu] using hm))
    simpa [Opens, DC, WfT] using this
   ·cases hok
  ·cases hok

theorem open_arg {base n : Nat} {T : Ty} {t : TypeId} {v : Value} {d : DataW H} {ps : List MemPlace} (hok : okTy P (n + 1) T t = true) (hv : Value.okWide P W .any base t v) (h : DataW.Trod enc P W 0 (fun _ => true) true t v d ps) (hw : ∀ n ∈ d.weights P t, n ≤ reachBytes) :
  ∃ (y : T.den) (u : Value), ValR (fun _ => none) T y u ∧ VR (inMap N W) u v ∧ WfT T y := by
 obtain ⟨fuel, hf⟩ := h
 have one : T.isSt = false → v.cells.toList.length = T.size → v.cells = #[v] → ∃ (y : T.den) (u : Value), ValR (fun _ => none) T y u ∧ VR (inMap N W) u v ∧ WfT T y := fun ht hl hc => by
  obtain ⟨y, ds, h1, h2, h3⟩ := open_T (N := N) (n + 1) T t hok fuel _ _ hf hw hl; rw [hc] at h2; have hl1 : ds.length = 1 := h2.1
  match ds, hl1 with
  | [u], _ => exact ⟨y, u, by unfold ValR; rw [if_neg (by rw [ht]; simp)]; exact h1, h2.head, h3⟩
 have hok' := hok
 simp only [okTy] at hok
 split at hok
 ·rename_i k hu
  split at hok
  ·obtain ⟨m, rfl⟩ := WideShapes.okWide_int hu hv
   exact one rfl rfl rfl
  ·cases hok
 ·rename_i hu
  split at hok
  ·obtain ⟨m, rfl⟩ := WideShapes.okWide_bool hu hv
   exact one rfl rfl rfl
  ·cases hok
 ·rename_i hu
  split at hok
  ·obtain ⟨m, rfl⟩ := WideShapes.okWide_string hu hv
   exact one rfl rfl rfl
  ·cases hok
 ·rename_i e hu
  split at hok
  ·obtain ⟨a, len, cap, rfl⟩ := WideShapes.okWide_slice hu hv
   exact one rfl rfl rfl
  ·cases hok
 ·rename_i fs hu
  split at hok
  ·rename_i a
   simp only [Bool.and_eq_true, beq_iff_eq] at hok; have : ∃ cs, v = .agg cs ∧ cs.size = P.cellsOf t := by
    simp only [Value.okWide, hu] at hv; obtain ⟨cs, h1, h2, -⟩ := hv; exact ⟨cs, h1, h2⟩
   obtain ⟨cs, rfl, hsz⟩ := this; obtain ⟨y, ds, h1, h2, h3⟩ := open_T (N := N) (n + 1) (.st a) t hok' fuel _ _ hf hw (by simp [Value.cells, hsz, hok.1, Ty.size]); exact ⟨y, .agg ds.toArray, by unfold ValR; rw [if_pos (show (Ty.st a).isSt = true from rfl)]; exact ⟨_, rfl, by simpa using h1⟩, .of_vrl_agg (by simpa [Value.cells] using h2), h3⟩
  ·cases hok
 ·cases hok
theorem open_args {base : Nat} : ∀ (Ts : List Ty) (ts : List TypeId) (vs : List Value) (ds : List (DataW H)) (ps : List MemPlace), okTys P Ts ts = true → (∀ (j : Nat) t v, ts[j]? = some t → vs[j]? = some v → Value.okWide P W .any base t v) →
  DataW.TrodAll enc P W 0 (fun _ => true) true ts vs ds ps → (∀ n ∈ DataW.weightsEach P ts ds, n ≤ reachBytes) → ∃ (y : Tys Ts) (us : List Value), ArgsR (fun _ => none) Ts y us ∧ VRL (inMap N W) us vs ∧ WfTs Ts y ∧ ds.length = ts.length := by
 intro Ts
 induction Ts with
 | nil =>
  intro ts vs ds ps hok hv h hw; cases ts with
  | cons => cases hok
  | nil =>
   cases vs <;> cases ds <;> first | exact h.elim | skip
   exact ⟨(), [], rfl, .nil _, trivial, rfl⟩
 | cons T Ts ih =>
  intro ts vs ds ps hok hv h hw; cases ts with
  | nil => cases hok
  | cons t ts =>
   simp only [okTys, Bool.and_eq_true] at hok; obtain ⟨v, vs', d, ds', p, q, rfl, rfl, rfl, h1, h2⟩ := ChangeShapes.trodAll_cons h; obtain ⟨y, u, k1, k2, k3⟩ := open_arg (N := N) hok.1 (hv 0 t v rfl rfl) h1 fun n hn => hw n (by simp only [DataW.weightsEach, List.mem_append]; exact .inl hn)
   obtain ⟨ys, us, q1, q2, q3, q4⟩ := ih ts vs' ds' q hok.2 (fun j t' v' e1 e2 => hv (j + 1) t' v' (by simpa using e1) (by simpa using e2)) h2 fun n hn => hw n (by simp only [DataW.weightsEach, List.mem_append]; exact .inr hn)
   cases Ts with
   | nil =>
    cases ts with
    | cons => cases hok.2
    | nil =>
     have e1 : us = [] := q1; subst e1; exact ⟨y, [u], ⟨u, rfl, k1⟩, .cons k2 q2, k3, by simpa using q4⟩
   | cons U Ts => exact ⟨(y, ys), u :: us, ⟨u, us, rfl, k1, q1⟩, .cons k2 q2, ⟨k3, q3⟩, by simpa using q4⟩

end
variable [EqV]
theorem law_calls (hP : POk2 P) {f : FuncId} {fn : Func} (hf : P.funcs[f]? = some fn) (hbody : fn.body.isSome = true) {args : Array Value} {W : World} (hN : P.globals.size ≤ W.heap.size) (hG : GOk P (inMap P.globals.size W)) {us : List Value} (hu : VRL (inMap P.globals.size W) us args.toList)
  {S : Summ} (hSo : SummOK P S) {H1 : AH} (h : evL P S (.fn f) us ⟨fun _ => .dead, P.globals.size⟩ = some (.bool true, H1)) : Calls P f args W fun e W' => e = .returned (.bool true) ∧ Below W.heap.size W W' := by
 have hL : LoopsOk P P.globals.size ⟨fun _ => .dead, P.globals.size⟩ := ⟨Nat.le_refl _, fun b tmps ps asg body st pend hh => by cases hh⟩
 obtain ⟨fn', hf', hc | ⟨h1, _⟩⟩ := (evL_sound hP hSo).fn P.globals.size f us ⟨fun _ => .dead, P.globals.size⟩ _ _ h hL (inMap P.globals.size W) W args (inRel hN) hG hu
 ·refine (callsIn_wide.1 hc.2).mono fun e W' he => ?_
  obtain ⟨v, e1, m', e2, e3⟩ := he; have := e2.bool_inv; subst this; refine ⟨e1, e3.os, e3.tape, e3.output, e3.size, fun k hk => e3.frame k hk fun ⟨b, pl, _, ho, _⟩ => ?_⟩; cases ho
 ·rw [hf] at hf'; cases hf'
  rw [hbody] at h1; cases h1

theorem law_lifted {C : Checked} (hP : POk2 C.prog) {f : FuncId} {fn : Func} {s : ChangeSpec} {X : World → Array Value → Prop} {os : Os} {Hh : Type} {enc : TypeId × Value → Hh} (own : ownKnob C.prog.godebug = none) (started : os.Started) (noInit : C.prog.inits.idxOf? f = none)
  (hf : C.prog.funcs[f]? = some fn) (hbody : fn.body.isSome = true) (hX : ∀ (w w' : World) (args : Array Value), w.heap = w'.heap → X w args → X w' args)
  (witness : ∃ (w : World) (tape : Tape) (i : Input), w.os = os ∧ (w.forCall tape i).Shaped C.prog ∧ i.vars = [] ∧ Input.okWide C.prog (w.forCall tape i) .any w.heap.size f i ∧
   ((s.pre enc C.prog fn [] false (w.forCall tape i).memory i.args ∧ X (w.forCall tape i).memory i.args) ∧ sizedMet enc C.prog fn (OpenSpec.ofChange s) false (w.forCall tape i).memory i.args) ∧ ({} : Assume).holds C.prog (lone (Frame.enter C.prog f i.args .normal) [] (w.forCall tape i)))
  (hvars : s.vars = []) (hs : ∀ ds : List (DataW Hh), ds.length = fn.params.size → s.fn Hh ds = { results := [.lit (.bool true)], args := ds })
  {Ts : List Ty} (hTs : okTys C.prog Ts fn.params.toList = true) (hread : (fn.params.toList.all fun t => C.prog.readableRec t && decide (t < C.prog.types.size)) = true) (hlaid : laidOutB C.prog = true) {rt : TypeId} (hres : fn.resultTypes = #[rt]) (hrt : C.prog.underlying rt = some .bool)
  (hN : ∀ W : World, W.ShapedOpen C.prog → C.prog.globals.size ≤ W.heap.size) (hG : ∀ (W : World) args, W.ShapedOpen C.prog → X W args → GOk C.prog (inMap C.prog.globals.size W))
  {F : Tys Ts → Option Bool} {S : Summ} (hSo : SummOK C.prog S) (hF : SpecOK (evL C.prog S) f ⟨Ts, [.bool], [.no], F⟩) (hpure : ∀ x : Tys Ts, WfTs Ts x → F x = some true) :
  ReturnsInHanded {} C os f .any (fun w args => (s.pre enc C.prog fn [] false w args ∧ X w args) ∧ sizedMet enc C.prog fn (OpenSpec.ofChange s) false w args) (s.post enc C.prog fn false true false false) := by
 refine returnsInHanded_of_calls own started noInit witness ?_
 intro w tape i _ hshape _ hok hpre _
 obtain ⟨_, _, _, fn', hfn', _, _, _, _, hval⟩ := hok
 have e : fn' = fn := Option.some.inj (hfn'.symm.trans hf)
 subst e
 obtain ⟨⟨⟨ds, gs, before, hw, -⟩, hx⟩, hz⟩ := hpre
 have hw' := DataW.Whole.of_heap (w' := w.forCall tape i) (by rfl) hw
 have hweights := hz.weights hw
 have hx' := hX _ (w.forCall tape i) _ (by rfl) hx
 have hww := hw'
 rw [hvars] at hw'
 obtain ⟨p, q, hA, hV, rfl, -, -⟩ := hw'
 obtain ⟨rfl, rfl⟩ := ChangeShapes.trodVars_none hV
 obtain ⟨y, us, k1, k2, k3, k4⟩ := open_args (N := C.prog.globals.size) Ts fn'.params.toList i.args.toList ds p hTs (fun j t v e1 e2 => hval j t v (by simpa using e1) (by simpa using e2)) hA (fun n hn => by
  have := List.all_eq_true.1 hweights n (by
   have : (OpenSpec.ofChange s).bare.plain.varTypes C.prog = [] := by simp [OpenSpec.ofChange, OpenSpec.bare, ChangeSpec.plain, DataSpec.varTypes, hvars]
   rw [this, List.append_nil, List.append_nil]; exact hn)
  simpa using this)
 obtain ⟨vs, H1, G1, rs, e1, e2, e3, e4, e5, e6, e7, e8⟩ := hF y true (hpure y k3) (fun _ => none) ⟨fun _ => .dead, C.prog.globals.size⟩ us (fun b c h => by cases h) k1
 obtain ⟨v, r, rfl, rfl, h7⟩ := e7
 have hv : v = .bool true := by
  have := h7.2; simp only [ValR, Ty.isSt, Bool.false_eq_true, if_false, DC, List.cons.injEq, and_true] at this; exact this
 subst hv
 refine (law_calls hP hf hbody (hN _ hshape) (hG _ _ hshape hx') k2 hSo e1).mono fun e W' ⟨he, bel⟩ => ?_
 subst he
 refine ChangeSpec.post_blind ⟨ds, [], p ++ [], [], p, [], hww, ?_, ?_, ?_, bel.frame _, fun h => by cases h⟩
 ·rw [List.append_nil, hs ds (by simpa using k4), hres]
  exact ChangeShapes.trodAll_mk1 (RowKit.shut_bool hrt _)
 ·rw [List.append_nil, hs ds (by simpa using k4)]
  exact trodAll_below hlaid bel _ _ _ _ hread hA
 ·rw [List.append_nil, hs ds (by simpa using k4), hvars]
  rfl
end Go.TM
