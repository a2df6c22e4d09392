/- The engine's rules: literals, slicing, parts of values. -/
import Derived.Test.YtldelbknkkeniaaGreatDoorK1
import Derived.Laws.FloatArith
import Derived.Laws.Shifts
namespace Go.Proofs.YtldelbknkkeniaaGreatDoor.E
set_option linter.unusedVariables false
set_option linter.unusedSimpArgs false
open Go Go.RowKit

variable {P : Program}

/-! ### a list's literal -/
/-- The parts of a literal, in order. -/
theorem fill_seq (e : Nat) : ∀ (vs : List Value) (k : Nat) (cells : Array Value), (∀ v ∈ vs, v.cells.size = e) → (k + vs.length) * e ≤ cells.size →
    ∃ out, Instr.fill (fun i => some (i * e, e)) cells ((List.range' k vs.length).zip vs) = some out ∧ out.size = cells.size ∧
      out.toList = cells.toList.take (k * e) ++ vs.flatMap (fun v => v.cells.toList) ++ cells.toList.drop ((k + vs.length) * e)
  | [], k, cells, _, _ => ⟨cells, rfl, rfl, by simp⟩
  | v :: vs, k, cells, h1, h2 => by
    have hv := h1 v (by simp)
    have hk : k * e + e ≤ cells.size := by
      have : (k + 1) * e ≤ (k + (v :: vs).length) * e := Nat.mul_le_mul_right e (by simp only [List.length_cons]; omega)
      rw [Nat.add_mul] at this; omega
    have key : ∀ (l : List Value) (o : Nat) (cs : Array Value), k * e + o + l.length ≤ cs.size →
        ((l.zipIdx o).foldl (fun cs (x : Value × Nat) => cs.setIfInBounds (k * e + x.2) x.1) cs).toList = cs.toList.take (k * e + o) ++ l ++ cs.toList.drop (k * e + o + l.length) := by
      intro l
      induction l with
      | nil => intro o cs _; simp
      | cons x l ih =>
        intro o cs hle
        simp only [List.zipIdx_cons, List.foldl_cons]
        have hle' : k * e + (o + 1) + l.length ≤ cs.size := by simp only [List.length_cons] at hle; omega
        rw [ih (o + 1) _ (by simpa using hle')]
        have h := list_seg_step cs.toList (k * e + o) x l (by simp only [Array.length_toList]; omega)
        simp only [Array.toList_setIfInBounds]
        rw [show k * e + (o + 1) = k * e + o + 1 from by omega]
        simpa using h
    have hcell : (v.cells.zipIdx.foldl (fun cs (x : Value × Nat) => cs.setIfInBounds (k * e + x.2) x.1) cells).toList = cells.toList.take (k * e) ++ v.cells.toList ++ cells.toList.drop (k * e + e) := by
      have := key v.cells.toList 0 cells (by simp; omega)
      rw [← Array.foldl_toList, Array.toList_zipIdx]
      simpa [hv] using this
    generalize hc' : v.cells.zipIdx.foldl (fun cs (x : Value × Nat) => cs.setIfInBounds (k * e + x.2) x.1) cells = cells' at hcell
    have hlen : cells'.size = cells.size := by
      have := congrArg List.length hcell
      simp at this; omega
    have h2' : (k + 1 + vs.length) * e ≤ cells'.size := by
      rw [hlen]; have : k + 1 + vs.length = k + (v :: vs).length := by simp; omega
      rw [this]; exact h2
    obtain ⟨out, o1, o2, o3⟩ := fill_seq e vs (k + 1) cells' (fun u hu => h1 u (by simp [hu])) h2'
    refine ⟨out, ?_, o2.trans hlen, ?_⟩
    · simp only [List.length_cons, List.range'_succ, List.zip_cons_cons, Instr.fill]
      rw [if_neg (by simp [hv]; omega)]
      rw [hc']; exact o1
    · rw [o3, hcell]
      have e1 : (cells.toList.take (k * e) ++ v.cells.toList ++ cells.toList.drop (k * e + e)).take ((k + 1) * e) = cells.toList.take (k * e) ++ v.cells.toList := by
        rw [List.take_append_of_le_length (by simp [hv, Nat.add_mul]; omega)]
        rw [List.take_of_length_le (by simp [hv, Nat.add_mul]; omega)]
      have e2 : (cells.toList.take (k * e) ++ v.cells.toList ++ cells.toList.drop (k * e + e)).drop ((k + 1 + vs.length) * e) = cells.toList.drop ((k + (v :: vs).length) * e) := by
        have hl : (cells.toList.take (k * e) ++ v.cells.toList).length = k * e + e := by simp [hv]; omega
        rw [List.drop_append, List.drop_eq_nil_of_le (by rw [hl, Nat.add_mul, Nat.add_mul]; omega), List.nil_append, hl, List.drop_drop]
        congr 1
        simp only [List.length_cons, Nat.add_mul]; omega
      rw [e1, e2]
      simp
/-- The operands of parts that are numbered one by one. -/
def inRow : Nat → List (Nat × Operand) → Bool
  | _, [] => true
  | k, (i, _) :: l => i == k && inRow (k + 1) l
theorem inRow_zip : ∀ (k : Nat) (l : List (Nat × Operand)), inRow k l = true → ∀ f : Operand → Value, l.map (fun x => (x.1, f x.2)) = (List.range' k l.length).zip (l.map fun x => f x.2)
  | _, [], _, _ => rfl
  | k, (i, x) :: l, h, f => by
    simp only [inRow, Bool.and_eq_true, beq_iff_eq] at h
    simp only [List.map_cons, List.length_cons, List.range'_succ, List.zip_cons_cons]
    rw [h.1, inRow_zip (k + 1) l h.2 f]
theorem flatMap_cells {F : FMem} {e : Nat} : ∀ {vs : List Value} {ys : List T}, ys.length = vs.length → (∀ (i : Nat) (v : Value) (y : T), vs[i]? = some v → ys[i]? = some y → TR F y v ∧ y.leaves.length = e ∧ y.flatL = true) →
    CellsOf F ys e (vs.flatMap fun v => v.cells.toList)
  | [], [], _, _ => ⟨by simp, fun i y h => by simp at h, fun i y j p h => by simp at h, fun _ h => by cases h⟩
  | v :: vs, y :: ys, hl, h => by
    obtain ⟨h1, h2, h3⟩ := h 0 v y rfl rfl
    obtain ⟨c1, c2⟩ := h1.cells
    have one : CellsOf F [y] e v.cells.toList := by
      refine ⟨by simp [← c1, h2], fun i x hx => ?_, fun i x j p hx hp => ?_, fun u hu => ?_⟩
      · cases i with
        | zero => simp at hx; subst hx; exact h2
        | succ i => simp at hx
      · cases i with
        | zero => simp at hx; subst hx; obtain ⟨u, hu, ht⟩ := c2 j p hp; exact ⟨u, by simpa using hu, ht⟩
        | succ i => simp at hx
      · obtain ⟨j, hj⟩ := List.mem_iff_getElem?.1 hu
        have hjl := (List.getElem?_eq_some_iff.1 hj).1
        have hjp : j < y.leaves.length := by simp at hjl; omega
        obtain ⟨u', hu', ht⟩ := c2 j _ (List.getElem?_eq_getElem hjp)
        rw [← Array.getElem?_toList, hj] at hu'; cases hu'
        refine ht.one ?_
        have := (List.all_eq_true.1 h3) _ (List.getElem_mem hjp)
        exact this
    exact one.append (flatMap_cells (by simpa using hl) (fun i u z hu hz => h (i + 1) u z (by simpa using hu) (by simpa using hz)))
  | [], _ :: _, hl, _ => by simp at hl
  | _ :: _, [], hl, _ => by simp at hl

section ops
variable {d ty : Nat} {pos : String} {af : Array Edge} {g : Option (Nat × Bool)} {K : St → Prop} {s : St} {H : Prop}

def flatAll (e : Nat) (ys : List T) : Bool := ys.all fun y => (y.leaves.length == e) && y.flatL
/-- '[]E{x, y, ..}': what it does. -/
theorem lit_run {t et : TypeId} {n : Nat} {parts : List (Nat × Operand)} {ps : List PV} {ys : List T} {sz bytes e ebytes : Nat} {z ez : Value} {ed : TypeDesc} [ht : TyIs P t (.slice et) sz bytes z] [he : TyIs P et ed e ebytes ez]
    (hp : parts.map (fun x => s.ev x.2) = ps) (hy : toTsAll ps = some ys) (hi : inRow 0 parts = true) (hn : parts.length = n) (hf : flatAll e ys = true) (hb : n * e ≤ 16777216) (he0 : 0 < e)
    {B0 : Fr} {w0 : World} {φ0 : Phi} {F0 : FMem} {F : FMem} {φ : Phi} {a : Act} {w : World} (hs : Sim B0 w0 φ0 F0 s F φ a w) :
    ∃ out : Array Value, ys.length = n ∧ CellsOf F ys e out.toList ∧ (execOp a.eval ⟨some d, .buildSlice t n parts.toArray, ty, pos, af, g⟩).run P w = .ok (.value (.slice (some ⟨w.heap.size, 0, none⟩) n n)) (w.alloc (.cells out.toList.toArray et)) := by
  subst hn
  obtain ⟨l1, l2⟩ := toTsAll_get hy
  have hpl : ps.length = parts.length := by rw [← hp]; simp
  have hc : CellsOf F ys e ((parts.map fun x => a.eval x.2).flatMap fun v => v.cells.toList) := by
    refine flatMap_cells (by simp [l1, hpl]) (fun i v y hv hy' => ?_)
    simp only [List.getElem?_map, Option.map_eq_some_iff] at hv
    obtain ⟨x, hx, rfl⟩ := hv
    have hpi : ps[i]? = some (s.ev x.2) := by rw [← hp]; simp [hx]
    obtain ⟨y', h3, h4⟩ := l2 i _ hpi
    rw [h3] at hy'; cases hy'
    have hfa := (List.all_eq_true.1 hf) y (List.mem_of_getElem? h3)
    simp only [Bool.and_eq_true, beq_iff_eq] at hfa
    exact ⟨PV.toT_tr (hs.ev x.2) h4, hfa.1, hfa.2⟩
  have hsize : ∀ v ∈ (parts.map fun x => a.eval x.2), v.cells.size = e := by
    intro v hv
    obtain ⟨i, hi'⟩ := List.mem_iff_getElem?.1 hv
    simp only [List.getElem?_map, Option.map_eq_some_iff] at hi'
    obtain ⟨x, hx, rfl⟩ := hi'
    have hpi : ps[i]? = some (s.ev x.2) := by rw [← hp]; simp [hx]
    obtain ⟨y, h3, h4⟩ := l2 i _ hpi
    have hfa := (List.all_eq_true.1 hf) y (List.mem_of_getElem? h3)
    simp only [Bool.and_eq_true, beq_iff_eq] at hfa
    rw [← (PV.toT_tr (hs.ev x.2) h4).cells.1]; exact hfa.1
  obtain ⟨out, o1, o2, o3⟩ := fill_seq e (parts.map fun x => a.eval x.2) 0 ((Array.range (parts.length * e)).map (ez.cells[· % ez.cells.size]!)) hsize (by simp)
  have hout : out.toList = (parts.map fun x => a.eval x.2).flatMap fun v => v.cells.toList := by
    rw [o3]; simp
  rw [← hout] at hc
  have hfill : Instr.fill (fun i => some (i * e, e)) ((Array.range (parts.length * e)).map (ez.cells[· % ez.cells.size]!)) (parts.map fun x => (x.1, a.eval x.2)) = some out := by
    rw [inRow_zip 0 parts hi]; simpa using o1
  have hyl : ys.length = parts.length := by rw [l1, hpl]
  refine ⟨out, hyl, hc, ?_⟩
  simp only [execOp, Instr.buildSlice, Sem.run_bind, ht.under, he.sizeOf, Result.andThen_ok]
  rw [if_neg (by omega)]
  by_cases h0 : parts.length * e = 0
  · simp only [h0, if_true, Sem.run_bind, Sem.run_pure, Result.andThen_ok]
    rw [show (parts.toArray.map fun (x : Nat × Operand) => (x.1, a.eval x.2)).toList = parts.map fun x => (x.1, a.eval x.2) from by simp]
    have hnil : parts = [] := by
      rcases Nat.mul_eq_zero.1 h0 with h | h
      · exact List.length_eq_zero_iff.1 h
      · omega
    subst hnil
    have : out.toList = [] := by rw [hout]; rfl
    rw [this]
    simp only [List.length_nil, List.map_nil, Instr.fill, newRow, newObj, Sem.run_bind, Sem.run, Result.andThen_ok, Sem.run_pure, Array.range_zero', List.map_toArray, Array.map_empty]
    rfl
  · simp only [h0, if_false, Sem.run_bind, he.zero, Sem.run_pure, Result.andThen_ok]
    rw [show (parts.toArray.map fun (x : Nat × Operand) => (x.1, a.eval x.2)).toList = parts.map fun x => (x.1, a.eval x.2) from by simp]
    rw [hfill]
    simp only [newRow, newObj, Sem.run_bind, Sem.run, Result.andThen_ok, Sem.run_pure, Array.toArray_toList]
    rfl
/-- '[]E{x, y, ..}'. -/
theorem TriO.lit {t et : TypeId} {n : Nat} {parts : List (Nat × Operand)} {ps : List PV} {ys : List T} {sz bytes e ebytes : Nat} {z ez : Value} {ed : TypeDesc} [ht : TyIs P t (.slice et) sz bytes z] [he : TyIs P et ed e ebytes ez]
    (hp : parts.map (fun x => s.ev x.2) = ps) (hy : toTsAll ps = some ys) (hi : inRow 0 parts = true) (hn : parts.length = n) (hf : flatAll e ys = true) (hb : n * e ≤ 16777216) (he0 : 0 < e) (hN : Nat.blt d s.N = true)
    (hK : K ((s.alloc (.row e ys false)).put d (.ref s.n e 0 n n))) : TriO P ⟨some d, .buildSlice t n parts.toArray, ty, pos, af, g⟩ K s := by
  refine .gen rfl hN (fun B0 w0 φ0 F0 F φ a w hs => ?_)
  obtain ⟨out, hl, hc, hr⟩ := lit_run (P := P) (ty := ty) (d := d) (pos := pos) (af := af) (g := g) (t := t) hp hy hi hn hf hb he0 hs
  obtain ⟨hle, hs'⟩ := hs.row (rest := []) (t := et) (fz := false) hc
  rw [List.append_nil] at hs' hle
  refine ⟨_, _, s.alloc (.row e ys false), F, _, .ref s.n e 0 n n, hr, rfl, rfl, hs', ?_, hK⟩
  have hcl := hc.len
  rw [hl] at hcl
  have := VR.ref (F := F) (φ := φ.new s.n (w.heap.size, out.toList.toArray.size)) (b := s.n) (e := e) (off := 0) (len := n) (cap := n) (B := w.heap.size) (sz := out.toList.toArray.size) (c := n)
    (if_pos rfl) (Nat.le_refl _) (Nat.le_refl _) (by simp at hcl ⊢; omega)
  simpa using this

/-! ### parts of values -/
theorem PO.ext {x : Operand} {ps : List PV} {i : Nat} {p : PV} (hx : EvH H s x (.tup ps)) (hp : ps[i]? = some p) : PO P H ⟨some d, .extract x i, ty, pos, af, g⟩ s p := by
  intro hH B0 w0 φ0 F0 F φ a w hs
  have hv := hx.vr hH hs
  generalize hq : a.eval x = q at hv
  cases hv with
  | @tup _ vs hn h =>
    have hi : i < vs.size := by rw [← hn]; exact (List.getElem?_eq_some_iff.1 hp).1
    refine ⟨vs[i], ?_, h i p _ hp (Array.getElem?_eq_getElem hi)⟩
    simp only [execOp, hq, Instr.extract, Array.getElem?_eq_getElem hi, Sem.run_bind, Sem.run_pure, Result.andThen_ok]
theorem PO.nilchk {x : Operand} {b o : Nat} (hx : EvH H s x (.ptr b o)) : PO P H ⟨some d, .nilCheck x, ty, pos, af, g⟩ s (.ptr b o) := by
  intro hH B0 w0 φ0 F0 F φ a w hs
  have hv := hx.vr hH hs
  generalize hq : a.eval x = q at hv
  cases hv with
  | ptr hφ =>
    refine ⟨_, ?_, .ptr hφ⟩
    simp only [execOp, hq]; rfl
def PV.isAgg : PV → Bool
  | .agg _ | .t (.agg _) => true
  | _ => false
/-- A field of a struct's value (of one cell). -/
theorem PO.field {t ft : TypeId} {x : Operand} {f : Nat} {fs : Array Field} {off : Nat} {sz bytes fsz fbytes : Nat} {z fz : Value} {fd : TypeDesc} {p q : PV} [ht : TyIs P t (.struct fs) sz bytes z] (hx : EvH H s x p) (hp : p.known = true) (ha : fldAt fs.toList f = some (ft, off))
    (hft' : TyIs P ft fd fsz fbytes fz) (hd : aggD fd = false) (hagg : p.isAgg = true) (hq : p.leaves[off]? = some q) :
    PO P H ⟨some d, .field t x f, ty, pos, af, g⟩ s q := by
  obtain ⟨fl, ha2, hft, rfl⟩ := fldAt_spec ha
  intro hH B0 w0 φ0 F0 F φ a w hs
  have hv := hx.vr hH hs
  obtain ⟨h1, h2⟩ := hv.cells hp
  obtain ⟨u, hu, hr⟩ := h2 _ _ hq
  generalize he : a.eval x = v at hv hu
  have hv' : ∃ cs, v = .agg cs := by
    cases hv with
    | agg => exact ⟨_, rfl⟩
    | t h => cases h with
      | agg => exact ⟨_, rfl⟩
      | _ => cases hagg
    | _ => cases hagg
  obtain ⟨cs, rfl⟩ := hv'
  subst hft
  refine ⟨u, ?_, hr⟩
  simp only [Value.cells] at hu
  simp only [execOp, he, Instr.field, Sem.run_bind, ht.under, Result.andThen_ok, ha2, asAgg, Sem.run_pure, part, isAgg_run hft', hd, Bool.false_eq_true, if_false, hu]

/-! ### slicing -/
theorem sub_row {F : FMem} {n : Bool} {xs : List T} {v : Value} (h : TR F (.sl n xs) v) : ∃ base c, v = .slice base xs.length c ∧ xs.length ≤ c ∧ (base = none → n = true ∧ xs = [] ∧ c = 0) ∧
    ∀ (size l k m : Nat), l ≤ k → k ≤ xs.length → k ≤ m → m ≤ c → (∀ (i : Nat) (x : T), xs[i]? = some x → x.leaves.length = size) →
      ∃ n', TR F (.sl n' ((xs.drop l).take (k - l))) (.slice (if m = l then base else base.map (·.add (l * size))) (k - l) (m - l)) ∧ n' = n := by
  cases h with
  | nil => exact ⟨none, 0, rfl, Nat.le_refl _, fun _ => ⟨rfl, rfl, rfl⟩, fun size l k m h1 h2 h3 h4 he => ⟨true, by
      obtain rfl : k = 0 := by simpa using h2
      obtain rfl : l = 0 := by omega
      obtain rfl : m = 0 := by omega
      simpa using TR.nil, rfl⟩⟩
  | @sl0 a0 c =>
    refine ⟨some a0, c, rfl, Nat.zero_le _, (fun h => by cases h), fun size l k m h1 h2 h3 h4 he => ⟨false, ?_, rfl⟩⟩
    obtain rfl : k = 0 := by simpa using h2
    obtain rfl : l = 0 := by omega
    split <;> exact .sl0
  | @sl _ B o e c us hc he' hF hu =>
    have hr : RowAt F xs B o e us := ⟨he', hF, hu⟩
    refine ⟨some ⟨B, o, none⟩, c, rfl, hc, (fun h => by cases h), fun size l k m h1 h2 h3 h4 he => ⟨false, ?_, rfl⟩⟩
    have hlen : ((xs.drop l).take (k - l)).length = k - l := by simp; omega
    by_cases hxs : xs = []
    · subst hxs
      have hk : k = 0 := by simpa using h2
      subst hk
      have hl : l = 0 := by omega
      subst hl
      split
      · exact RowAt.tr (xs := []) (us := us) (e := e) ⟨fun i x h => by simp at h, fun i x j p h => by simp at h, fun i x j p h => by simp at h⟩ (by simp)
      · simp only [Option.map_some, Addr.add_mid]
        exact RowAt.tr (xs := []) (us := us) (e := e) ⟨fun i x h => by simp at h, fun i x j p h => by simp at h, fun i x j p h => by simp at h⟩ (by simp)
    · have hse : size = e := by
        obtain ⟨x, hx⟩ : ∃ x, xs[0]? = some x := by
          cases xs with
          | nil => exact absurd rfl hxs
          | cons x t => exact ⟨x, rfl⟩
        rw [← he 0 x hx, he' 0 x hx]
      subst hse
      split
      · rename_i hm
        have : k - l = 0 := by omega
        rw [this, List.take_zero]
        exact RowAt.tr (xs := []) (us := us) (e := size) ⟨fun i x h => by simp at h, fun i x j p h => by simp at h, fun i x j p h => by simp at h⟩ (by simp)
      · simp only [Option.map_some, Addr.add_mid]
        have := (hr.part l (k - l)).tr (c := m - l) (by rw [hlen]; omega)
        rwa [hlen] at this
/-- The bounds of a cut. -/
structure Cut (H : Prop) (s : St) (len : Nat) (low high : Option Operand) (l k : Nat) : Prop where
  low : match low with | none => l = 0 | some x => ∃ q i, EvH H s x (.t (.v (.int q i))) ∧ 0 ≤ i ∧ l = i.toNat
  high : match high with | none => k = len | some x => ∃ q i, EvH H s x (.t (.v (.int q i))) ∧ 0 ≤ i ∧ k = i.toNat
theorem cut_run (hH : H) {B0 : Fr} {w0 : World} {φ0 : Phi} {F0 : FMem} {F : FMem} {φ : Phi} {a : Act} {w : World} (hs : Sim B0 w0 φ0 F0 s F φ a w) {len cap : Nat} {low high : Option Operand} {l k : Nat} (hc : Cut H s len low high l k) (h1 : l ≤ k) (h2 : k ≤ cap) (isS : Bool) :
    (Instr.sliceBounds isS len cap (low.map a.eval) (high.map a.eval) none).run P w = .ok (l, k, cap) w := by
  have hsb : ∀ (x : Operand) (n m : Nat) (code : BoundsCode), (∃ q i, EvH H s x (.t (.v (.int q i))) ∧ 0 ≤ i ∧ n = i.toNat) → n ≤ m → (Instr.sliceBound (a.eval x) m code).run P w = .ok n w := by
    rintro x n m code ⟨q, i, hx, h0, rfl⟩ hm
    have := (evv hH hs hx).1
    simp only [Instr.sliceBound, this, asIntOf, Sem.run_bind, Sem.run_pure, Result.andThen_ok]
    rw [if_pos ⟨h0, by omega⟩]; rfl
  cases high with
  | none =>
    have hk := hc.high; simp only at hk; subst hk
    cases low with
    | none => have hl := hc.low; simp only at hl; subst hl; simp [Instr.sliceBounds]
    | some x => simp [Instr.sliceBounds, hsb x l k _ hc.low h1]
  | some y =>
    cases low with
    | none => have hl := hc.low; simp only at hl; subst hl; simp [Instr.sliceBounds, hsb y k cap _ hc.high h2]
    | some x => simp [Instr.sliceBounds, hsb y k cap _ hc.high h2, hsb x l k _ hc.low h1]
/-- 'xs[l:k]' of a list that came in. -/
theorem PX.cut {t et : TypeId} {x : Operand} {low high : Option Operand} {n : Bool} {xs : List T} {l k : Nat} {sz bytes e ebytes : Nat} {z ez : Value} {ed : TypeDesc} [ht : TyIs P t (.slice et) sz bytes z] [he : TyIs P et ed e ebytes ez]
    (hx : EvH H s x (.t (.sl n xs))) (hc : Cut H s xs.length low high l k) (h1 : l ≤ k) (h2 : k ≤ xs.length) (hel : ∀ (i : Nat) (x : T), xs[i]? = some x → x.leaves.length = e) : PO P H ⟨some d, .slice t x low high none, ty, pos, af, g⟩ s (.t (.sl n ((xs.drop l).take (k - l)))) := by
  intro hH B0 w0 φ0 F0 F φ a w hs
  have hv := hx.vr hH hs
  generalize hq : a.eval x = q at hv
  cases hv with
  | t h =>
    obtain ⟨base, c, rfl, hcap, hnone, hsub⟩ := sub_row h
    obtain ⟨n', htr, rfl⟩ := hsub e l k c h1 h2 (by omega) (Nat.le_refl _) hel
    refine ⟨_, ?_, .t htr⟩
    simp only [execOp, hq, Instr.sliceAt, Instr.slice, Sem.run_bind, ht.under, Result.andThen_ok, Option.map_none]
    rw [cut_run hH hs hc h1 (by omega)]
    simp only [Result.andThen_ok, he.sizeOf]; rfl
/-- 's[l:k]' of a string. -/
theorem PX.cutS {t : TypeId} {x : Operand} {low high : Option Operand} {b : ByteArray} {l k : Nat} {sz bytes : Nat} {z : Value} [ht : TyIs P t .string sz bytes z]
    (hx : EvH H s x (.t (.v (.string b)))) (hc : Cut H s b.size low high l k) (h1 : l ≤ k) (h2 : k ≤ b.size) : PO P H ⟨some d, .slice t x low high none, ty, pos, af, g⟩ s (.t (.v (.string (b.extract l k)))) := by
  intro hH B0 w0 φ0 F0 F φ a w hs
  have hq := (evv hH hs hx).1
  refine ⟨_, ?_, .t (.v rfl)⟩
  simp only [execOp, hq, Instr.sliceAt, Instr.slice, Sem.run_bind, ht.under, Result.andThen_ok, Option.map_none, Option.isSome_none, Bool.false_eq_true, if_false, Sem.run_pure]
  rw [cut_run hH hs hc h1 h2]
  simp only [Result.andThen_ok, Sem.run_pure]
/-- 'xs[l:k]' of a row of our own. -/
theorem PX.cutR {t et : TypeId} {x : Operand} {low high : Option Operand} {b off len cap l k : Nat} {sz bytes e ebytes : Nat} {z ez : Value} {ed : TypeDesc} [ht : TyIs P t (.slice et) sz bytes z] [he : TyIs P et ed e ebytes ez]
    (hx : EvH H s x (.ref b e off len cap)) (hc : Cut H s len low high l k) (h1 : l ≤ k) (h2 : k ≤ cap) (h3 : l < cap) : PO P H ⟨some d, .slice t x low high none, ty, pos, af, g⟩ s (.ref b e (off + l) (k - l) (cap - l)) := by
  intro hH B0 w0 φ0 F0 F φ a w hs
  have hv := hx.vr hH hs
  generalize hq : a.eval x = q at hv
  cases hv with
  | @ref _ _ _ _ _ B sz' c hφ k1 k2 k3 =>
    refine ⟨.slice (some ⟨B, (off + l) * e, none⟩) (k - l) (c - l), ?_, .ref hφ (by omega) (by omega) ?_⟩
    · simp only [execOp, hq, Instr.sliceAt, Instr.slice, Sem.run_bind, ht.under, Result.andThen_ok, Option.map_none]
      rw [cut_run hH hs hc h1 (by omega)]
      simp only [Result.andThen_ok, he.sizeOf, Sem.run_pure, Sem.run_bind]
      rw [if_neg (by omega)]
      simp only [Option.map_some, Addr.add_mid, Nat.add_mul]
    · have : (off + l) * e + (c - l) * e = off * e + c * e := by rw [← Nat.add_mul, ← Nat.add_mul]; congr 1; omega
      omega
/-! the shapes -/
theorem PO.cutHi {t et : TypeId} {x y : Operand} {n : Bool} {xs : List T} {q : IntKind} {j : Int} {sz bytes e ebytes : Nat} {z ez : Value} {ed : TypeDesc} [ht : TyIs P t (.slice et) sz bytes z] [he : TyIs P et ed e ebytes ez]
    (hx : EvH H s x (.t (.sl n xs))) (hy : EvH H s y (.t (.v (.int q j)))) (h0 : H → 0 ≤ j) (h2 : H → j ≤ xs.length) (hel : H → ∀ (i : Nat) (x : T), xs[i]? = some x → x.leaves.length = e) :
    PO P H ⟨some d, .slice t x none (some y) none, ty, pos, af, g⟩ s (.t (.sl n (xs.take j.toNat))) := by
  intro hH
  have h1 := h0 hH; have h3 := h2 hH
  have := PX.cut (P := P) (d := d) (ty := ty) (pos := pos) (af := af) (g := g) (t := t) (low := none) (high := some y) (l := 0) (k := j.toNat) hx ⟨rfl, q, j, hy, h0 hH, rfl⟩ (Nat.zero_le _) (by omega) (hel hH) hH
  simpa using this
theorem PO.cutLo {t et : TypeId} {x y : Operand} {n : Bool} {xs : List T} {q : IntKind} {j : Int} {sz bytes e ebytes : Nat} {z ez : Value} {ed : TypeDesc} [ht : TyIs P t (.slice et) sz bytes z] [he : TyIs P et ed e ebytes ez]
    (hx : EvH H s x (.t (.sl n xs))) (hy : EvH H s y (.t (.v (.int q j)))) (h0 : H → 0 ≤ j) (h2 : H → j ≤ xs.length) (hel : H → ∀ (i : Nat) (x : T), xs[i]? = some x → x.leaves.length = e) :
    PO P H ⟨some d, .slice t x (some y) none none, ty, pos, af, g⟩ s (.t (.sl n (xs.drop j.toNat))) := by
  intro hH
  have h1 := h0 hH; have h3 := h2 hH
  have := PX.cut (P := P) (d := d) (ty := ty) (pos := pos) (af := af) (g := g) (t := t) (low := some y) (high := none) (l := j.toNat) (k := xs.length) hx ⟨⟨q, j, hy, h0 hH, rfl⟩, rfl⟩ (by omega) (Nat.le_refl _) (hel hH) hH
  rwa [List.take_of_length_le (by simp)] at this
theorem PO.cutLH {t et : TypeId} {x y u : Operand} {n : Bool} {xs : List T} {q q' : IntKind} {i j : Int} {sz bytes e ebytes : Nat} {z ez : Value} {ed : TypeDesc} [ht : TyIs P t (.slice et) sz bytes z] [he : TyIs P et ed e ebytes ez]
    (hx : EvH H s x (.t (.sl n xs))) (hy : EvH H s y (.t (.v (.int q i)))) (hu : EvH H s u (.t (.v (.int q' j)))) (h0 : H → 0 ≤ i) (hij : H → i ≤ j) (h2 : H → j ≤ xs.length) (hel : H → ∀ (i : Nat) (x : T), xs[i]? = some x → x.leaves.length = e) :
    PO P H ⟨some d, .slice t x (some y) (some u) none, ty, pos, af, g⟩ s (.t (.sl n ((xs.drop i.toNat).take (j.toNat - i.toNat)))) := by
  intro hH
  have h1 := h0 hH; have h3 := h2 hH; have h4 := hij hH
  exact PX.cut (P := P) (d := d) (ty := ty) (pos := pos) (af := af) (g := g) (t := t) (low := some y) (high := some u) (l := i.toNat) (k := j.toNat) hx ⟨⟨q, i, hy, h0 hH, rfl⟩, q', j, hu, by omega, rfl⟩ (by omega) (by omega) (hel hH) hH
theorem PO.cutSHi {t : TypeId} {x y : Operand} {b : ByteArray} {q : IntKind} {j : Int} {sz bytes : Nat} {z : Value} [ht : TyIs P t .string sz bytes z]
    (hx : EvH H s x (.t (.v (.string b)))) (hy : EvH H s y (.t (.v (.int q j)))) (h0 : H → 0 ≤ j) (h2 : H → j ≤ b.size) : PO P H ⟨some d, .slice t x none (some y) none, ty, pos, af, g⟩ s (.t (.v (.string (b.extract 0 j.toNat)))) := by
  intro hH
  have h1 := h0 hH; have h3 := h2 hH
  exact PX.cutS (P := P) (d := d) (ty := ty) (pos := pos) (af := af) (g := g) (t := t) (low := none) (high := some y) (l := 0) (k := j.toNat) hx ⟨rfl, q, j, hy, h0 hH, rfl⟩ (Nat.zero_le _) (by omega) hH
theorem PO.cutSLo {t : TypeId} {x y : Operand} {b : ByteArray} {q : IntKind} {j : Int} {sz bytes : Nat} {z : Value} [ht : TyIs P t .string sz bytes z]
    (hx : EvH H s x (.t (.v (.string b)))) (hy : EvH H s y (.t (.v (.int q j)))) (h0 : H → 0 ≤ j) (h2 : H → j ≤ b.size) : PO P H ⟨some d, .slice t x (some y) none none, ty, pos, af, g⟩ s (.t (.v (.string (b.extract j.toNat b.size)))) := by
  intro hH
  have h1 := h0 hH; have h3 := h2 hH
  exact PX.cutS (P := P) (d := d) (ty := ty) (pos := pos) (af := af) (g := g) (t := t) (low := some y) (high := none) (l := j.toNat) (k := b.size) hx ⟨⟨q, j, hy, h0 hH, rfl⟩, rfl⟩ (by omega) (Nat.le_refl _) hH
theorem PO.cutSLH {t : TypeId} {x y u : Operand} {b : ByteArray} {q q' : IntKind} {i j : Int} {sz bytes : Nat} {z : Value} [ht : TyIs P t .string sz bytes z]
    (hx : EvH H s x (.t (.v (.string b)))) (hy : EvH H s y (.t (.v (.int q i)))) (hu : EvH H s u (.t (.v (.int q' j)))) (h0 : H → 0 ≤ i) (h1 : H → i ≤ j) (h2 : H → j ≤ b.size) :
    PO P H ⟨some d, .slice t x (some y) (some u) none, ty, pos, af, g⟩ s (.t (.v (.string (b.extract i.toNat j.toNat)))) := by
  intro hH
  have h3 := h0 hH; have h4 := h1 hH; have h5 := h2 hH
  exact PX.cutS (P := P) (d := d) (ty := ty) (pos := pos) (af := af) (g := g) (t := t) (low := some y) (high := some u) (l := i.toNat) (k := j.toNat) hx ⟨⟨q, i, hy, h0 hH, rfl⟩, q', j, hu, by omega, rfl⟩ (by omega) (by omega) hH
/-- 'xs[:j]' of a row of our own. -/
theorem PO.cutRHi {t et : TypeId} {x y : Operand} {b off len cap : Nat} {q : IntKind} {j : Int} {sz bytes e ebytes : Nat} {z ez : Value} {ed : TypeDesc} [ht : TyIs P t (.slice et) sz bytes z] [he : TyIs P et ed e ebytes ez]
    (hx : EvH H s x (.ref b e off len cap)) (hy : EvH H s y (.t (.v (.int q j)))) (h0 : H → 0 ≤ j) (h2 : H → j ≤ cap) (h3 : 0 < cap) : PO P H ⟨some d, .slice t x none (some y) none, ty, pos, af, g⟩ s (.ref b e off j.toNat cap) := by
  intro hH
  have h1 := h0 hH; have h4 := h2 hH
  have := PX.cutR (P := P) (d := d) (ty := ty) (pos := pos) (af := af) (g := g) (t := t) (low := none) (high := some y) (l := 0) (k := j.toNat) hx ⟨rfl, q, j, hy, h0 hH, rfl⟩ (Nat.zero_le _) (by omega) h3 hH
  simpa using this

/-! ### max, min; floats; shifts -/
theorem PO.max {k : IntKind} {t t' : TypeId} {x y : Operand} {m n : Int} (hx : EvH H s x (.t (.v (.int k m)))) (hy : EvH H s y (.t (.v (.int k n)))) : PO P H ⟨some d, .call ⟨.builtin .max, #[x, y], #[t, t']⟩, ty, pos, af, g⟩ s (.t (.v (.int k (Max.max m n)))) := by
  refine .blt (fun hH _ _ _ _ _ _ a w hs => ⟨.int k (Max.max m n), ?_, .t (.v rfl)⟩)
  have e1 := (evv hH hs hx).1
  have e2 := (evv hH hs hy).1
  simp only [builtin, List.map_toArray, List.map_cons, List.map_nil, e1, e2, Builtin.max_, Builtin.max2, List.foldlM_cons, List.foldlM_nil, Sem.run_bind, Sem.run_pure, Result.andThen_ok, gt_iff_lt]
  by_cases h : m < n
  · simp [h, Int.max_eq_right (Int.le_of_lt h)]
  · simp [h, Int.max_eq_left (Int.not_lt.1 h)]
theorem PO.min {k : IntKind} {t t' : TypeId} {x y : Operand} {m n : Int} (hx : EvH H s x (.t (.v (.int k m)))) (hy : EvH H s y (.t (.v (.int k n)))) : PO P H ⟨some d, .call ⟨.builtin .min, #[x, y], #[t, t']⟩, ty, pos, af, g⟩ s (.t (.v (.int k (Min.min m n)))) := by
  refine .blt (fun hH _ _ _ _ _ _ a w hs => ⟨.int k (Min.min m n), ?_, .t (.v rfl)⟩)
  have e1 := (evv hH hs hx).1
  have e2 := (evv hH hs hy).1
  simp only [builtin, List.map_toArray, List.map_cons, List.map_nil, e1, e2, Builtin.min_, Builtin.min2, List.foldlM_cons, List.foldlM_nil, Sem.run_bind, Sem.run_pure, Result.andThen_ok]
  by_cases h : n < m
  · simp [h, Int.min_eq_right (Int.le_of_lt h)]
  · simp [h, Int.min_eq_left (Int.not_lt.1 h)]
theorem PO.imag {k : FloatKind} {t : TypeId} {x : Operand} {re im : Nat} (hx : EvH H s x (.t (.v (.complex k re im)))) : PO P H ⟨some d, .call ⟨.builtin .imag, #[x], #[t]⟩, ty, pos, af, g⟩ s (.t (.v (.float k im))) := by
  refine .blt (fun hH _ _ _ _ _ _ a w hs => ⟨.float k im, ?_, .t (.v rfl)⟩)
  have e1 := (evv hH hs hx).1
  simp only [builtin, List.map_toArray, List.map_cons, List.map_nil, e1, Sem.run_bind]; rfl
theorem PO.real {k : FloatKind} {t : TypeId} {x : Operand} {re im : Nat} (hx : EvH H s x (.t (.v (.complex k re im)))) : PO P H ⟨some d, .call ⟨.builtin .real, #[x], #[t]⟩, ty, pos, af, g⟩ s (.t (.v (.float k re))) := by
  refine .blt (fun hH _ _ _ _ _ _ a w hs => ⟨.float k re, ?_, .t (.v rfl)⟩)
  have e1 := (evv hH hs hx).1
  simp only [builtin, List.map_toArray, List.map_cons, List.map_nil, e1, Sem.run_bind]; rfl
theorem PO.cplx {k : FloatKind} {t t' : TypeId} {x y : Operand} {re im : Nat} (hx : EvH H s x (.t (.v (.float k re)))) (hy : EvH H s y (.t (.v (.float k im)))) : PO P H ⟨some d, .call ⟨.builtin .complex, #[x, y], #[t, t']⟩, ty, pos, af, g⟩ s (.t (.v (.complex k re im))) := by
  refine .blt (fun hH _ _ _ _ _ _ a w hs => ⟨.complex k re im, ?_, .t (.v rfl)⟩)
  have e1 := (evv hH hs hx).1
  have e2 := (evv hH hs hy).1
  simp only [builtin, List.map_toArray, List.map_cons, List.map_nil, e1, e2, Sem.run_bind]
  have e : Builtin.complex_ #[t, t'] ty #[.float k re, .float k im] = (if k = k then pure (.complex k re im) else stuck "complex: parts of different kinds") := rfl
  rw [e, if_pos rfl]; rfl
theorem PO.i2f {src dst : TypeId} {x : Operand} {q : IntKind} {k : FloatKind} {n : Int} {ds : TypeDesc} {sz bytes sz' bytes' : Nat} {z z' : Value} [hs1 : TyIs P src ds sz bytes z] [ht : TyIs P dst (.float k) sz' bytes' z']
    (hx : EvH H s x (.t (.v (.int q n)))) : PO P H ⟨some d, .convert src dst x, ty, pos, af, g⟩ s (.t (.v (.float k (floatOfInt k n)))) := by
  intro hH _ _ _ _ _ _ a w hs; refine ⟨.float k (floatOfInt k n), ?_, .t (.v rfl)⟩
  have h1 := (evv hH hs hx).1
  simp only [execOp, h1, Sem.run_bind]
  rw [run_convert_int_float w src dst q k n (by rw [hs1.und]; rfl) ht.und]; rfl
theorem PO.f2i {src dst : TypeId} {x : Operand} {q : IntKind} {k : FloatKind} {u : Nat} {n : Int} {ds : TypeDesc} {sz bytes sz' bytes' : Nat} {z z' : Value} [hs1 : TyIs P src ds sz bytes z] [ht : TyIs P dst (.int q) sz' bytes' z']
    (hx : EvH H s x (.t (.v (.float k u)))) (hn : H → floatToIntVal k u q = some n) : PO P H ⟨some d, .convert src dst x, ty, pos, af, g⟩ s (.t (.v (.int q n))) := by
  intro hH _ _ _ _ _ _ a w hs; refine ⟨.int q n, ?_, .t (.v rfl)⟩
  have h1 := (evv hH hs hx).1
  simp only [execOp, h1, Sem.run_bind]
  rw [run_convert_float_int w src dst k q u n (by rw [hs1.und]; rfl) ht.und (hn hH)]; rfl
theorem PO.shl {k k' : IntKind} {t t' : TypeId} {x y : Operand} {m n : Int} (hx : EvH H s x (.t (.v (.int k m)))) (hy : EvH H s y (.t (.v (.int k' n)))) (h0 : H → 0 ≤ n) : PO P H ⟨some d, .binOp .shl t x y t', ty, pos, af, g⟩ s (.t (.v (.int k (k.wrap (m * 2 ^ Nat.min n.toNat k.bits))))) := by
  intro hH _ _ _ _ _ _ a w hs; refine ⟨.int k (k.wrap (m * 2 ^ Nat.min n.toNat k.bits)), ?_, .t (.v rfl)⟩
  have e1 := (evv hH hs hx).1
  have e2 := (evv hH hs hy).1
  simp only [execOp, e1, e2, binOp, shift_shl_any k k' m n (h0 hH), Sem.run_bind, Sem.run_pure, Result.andThen_ok]; rfl
theorem PO.shr {k k' : IntKind} {t t' : TypeId} {x y : Operand} {m n : Int} (hx : EvH H s x (.t (.v (.int k m)))) (hy : EvH H s y (.t (.v (.int k' n)))) (h0 : H → 0 ≤ n) : PO P H ⟨some d, .binOp .shr t x y t', ty, pos, af, g⟩ s (.t (.v (.int k (m / 2 ^ Nat.min n.toNat k.bits)))) := by
  intro hH _ _ _ _ _ _ a w hs; refine ⟨.int k (m / 2 ^ Nat.min n.toNat k.bits), ?_, .t (.v rfl)⟩
  have e1 := (evv hH hs hx).1
  have e2 := (evv hH hs hy).1
  simp only [execOp, e1, e2, binOp, shift_shr_any k k' m n (h0 hH), Sem.run_bind, Sem.run_pure, Result.andThen_ok]; rfl
end ops
end Go.Proofs.YtldelbknkkeniaaGreatDoor.E

/- The engine: what is said of a function, and how it is called. -/
namespace Go.Proofs.YtldelbknkkeniaaGreatDoor.E
open Go Go.RowKit
set_option linter.unusedVariables false
set_option linter.unusedSimpArgs false

variable {P : Program}

/-- One result: a tree, or a new row that is the caller's own. -/
inductive R1 where
  | t (x : T)
  | own (e : Nat) (xs : List T)
inductive Res where
  | one (r : R1)
  | tup (rs : List R1)

structure OwnAt (F : FMem) (B : Nat) (w : World) (e : Nat) (xs : List T) (v : Value) (Bk : Nat) (c : Nat) (cs : Array Value) (ty : TypeId) : Prop where
  val : v = .slice (some ⟨Bk, 0, none⟩) xs.length c
  new : B ≤ Bk
  cap : xs.length ≤ c
  room : c * e ≤ cs.size
  at_ : w.heap[Bk]? = some (.cells cs ty (0, 0))
  he : ∀ (i : Nat) (x : T), xs[i]? = some x → x.leaves.length = e
  get : ∀ (i : Nat) (x : T) (j : Nat) (p : T), xs[i]? = some x → x.leaves[j]? = some p → ∃ u, cs[i * e + j]? = some u ∧ TR F p u ∧ u.oneCell' = true
  free : ∀ a u, F a = some u → a.block ≠ Bk
inductive RR1 (F : FMem) (B : Nat) (w : World) : R1 → Value → Option Nat → Prop
  | t {x : T} {v : Value} (h : TR F x v) : RR1 F B w (.t x) v none
  | own {e : Nat} {xs : List T} {v : Value} {Bk c : Nat} {cs : Array Value} {ty : TypeId} (h : OwnAt F B w e xs v Bk c cs ty) : RR1 F B w (.own e xs) v (some Bk)
inductive RR (F : FMem) (B : Nat) (w : World) : Res → Value → Prop
  | one {r : R1} {v : Value} {b : Option Nat} (h : RR1 F B w r v b) : RR F B w (.one r) v
  | tup {rs : List R1} {vs : Array Value} (bs : Nat → Option Nat) (hn : rs.length = vs.size) (h : ∀ (i : Nat) (r : R1) (v : Value), rs[i]? = some r → vs[i]? = some v → RR1 F B w r v (bs i))
      (hd : ∀ i j b, i ≠ j → bs i = some b → bs j ≠ some b) (hb : ∀ i b, bs i = some b → B ≤ b) : RR F B w (.tup rs) (.tuple vs)

/-- WHAT A FUNCTION ANSWERS: to such trees, this. -/
def Pure (P : Program) (f : FuncId) (args : List T) (r : Res) : Prop :=
  ∀ (F : FMem) (vs : Array Value) (w : World), FOK F w → args.length = vs.size → (∀ (i : Nat) (x : T) (v : Value), args[i]? = some x → vs[i]? = some v → TR F x v) →
    Calls P f vs w fun e w' => ∃ rv F', e = .returned rv ∧ F.le F' ∧ FOK F' w' ∧ (∀ a, F' a ≠ F a → w.heap.size ≤ a.block) ∧ Below w.heap.size w w' ∧ RR F' w.heap.size w' r rv

/-! ### more is known of memory for good -/
section
variable {B0 : Fr} {w0 : World} {φ0 : Phi} {F0 : FMem} {s : St} {F : FMem} {φ : Phi} {a : Act} {w : World}
theorem Sim.more (h : Sim B0 w0 φ0 F0 s F φ a w) {F' : FMem} (hle : F.le F') (hok : FOK F' w) (hnew : ∀ x, F' x ≠ F x → ¬ B0 x.block) (hfree : ∀ b k B sz, look b s.heap = some k → φ b = some (B, sz) → ∀ x, F' x ≠ F x → x.block ≠ B) : Sim B0 w0 φ0 F0 s F' φ a w := by
  refine ⟨h.below, h.base, hok, FMem.le_trans h.fle hle, fun x hx => ?_, h.phi0, h.lo, h.fresh, h.size, h.defers, fun i p hp => (h.tm i p hp).mono hle (Phi.le_refl φ), fun b k hk => ?_, h.inj⟩
  · by_cases e : F' x = F x
    · exact h.fnew x (fun e2 => hx (e.trans e2))
    · exact hnew x e
  · obtain ⟨B, cs, hl⟩ := h.heap b k hk
    refine ⟨B, cs, hl.to rfl hl.at_ hl.old hle (Phi.le_refl φ) ?_⟩
    have hf := hfree b k B _ hk hl.at_
    cases hl.reads with
    | obj hn hr hF =>
      refine .obj hn (fun i p hp => let ⟨u, h1, h2⟩ := hr i p hp; ⟨u, h1, h2.mono hle (Phi.le_refl φ)⟩) (fun x u e => ?_)
      by_cases e2 : F' x = F x
      · exact hF x u (e2 ▸ e)
      · exact hf x e2
    | row hn he hr hF =>
      refine .row hn he (fun i y j p h1 h2 => let ⟨u, h3, h4, h5⟩ := hr i y j p h1 h2; ⟨u, h3, h4.mono hle, h5⟩) (fun x u e eb => ?_)
      by_cases e2 : F' x = F x
      · exact hF x u (e2 ▸ e) eb
      · exact absurd eb (hf x e2)
    | map hF =>
      refine .map fun x u e => ?_
      by_cases e2 : F' x = F x
      · exact hF x u (e2 ▸ e)
      · exact hf x e2

/-- A row of our own is not written any more. -/
theorem Sim.freeze (h : Sim B0 w0 φ0 F0 s F φ a w) {b e : Nat} {xs : List T} {fz : Bool} (hb : look b s.heap = some (.row e xs fz)) :
    ∃ F', F.le F' ∧ (∀ x, F' x ≠ F x → ∃ sz, φ b = some (x.block, sz)) ∧ Sim B0 w0 φ0 F0 (s.upd b (.row e xs true)) F' φ a w ∧
      ∀ off len cap v, off + len ≤ xs.length → VR F φ (.ref b e off len cap) v → TR F' (.sl false ((xs.drop off).take len)) v := by
  obtain ⟨B, cs, hl⟩ := h.heap b _ hb
  obtain ⟨t, ht⟩ := hl.cells rfl
  let F' : FMem := fun x => if x.block = B ∧ x.spot = none ∧ x.off < xs.length * e then w.cell? x else F x
  have hin : ∀ x, (x.block = B ∧ x.spot = none ∧ x.off < xs.length * e) → F' x = w.cell? x := fun x hx => if_pos hx
  have hout : ∀ x, ¬ (x.block = B ∧ x.spot = none ∧ x.off < xs.length * e) → F' x = F x := fun x hx => if_neg hx
  have hle : F.le F' := by
    intro x u e1
    by_cases hx : x.block = B ∧ x.spot = none ∧ x.off < xs.length * e
    · rw [hin x hx]; exact (h.fok x u e1).1
    · rw [hout x hx]; exact e1
  have hcell : ∀ x : Addr, x.block = B → x.spot = none → w.cell? x = cs[x.off]? := by
    intro x hx hs
    have : x = ⟨B, x.off, none⟩ := by cases x; simp_all
    rw [this, cell_at ht]
  have hok : FOK F' w := by
    refine h.fok.grow hle ?_ (fun _ _ _ _ _ _ h2 => h2)
    intro x u e1
    by_cases hx : x.block = B ∧ x.spot = none ∧ x.off < xs.length * e
    · rw [hin x hx] at e1
      refine ⟨e1, ?_⟩
      rw [hcell x hx.1 hx.2.1] at e1
      obtain ⟨u', h1, h2⟩ := hl.reads.ones x.off hx.2.2
      rw [e1] at h1; cases h1; exact h2
    · rw [hout x hx] at e1; exact h.fok x u e1
  have hne : ∀ x, F' x ≠ F x → x.block = B := by
    intro x hx
    by_cases hc : x.block = B ∧ x.spot = none ∧ x.off < xs.length * e
    · exact hc.1
    · exact absurd (hout x hc) hx
  have hrow : RowAt F' xs B 0 e (fun i j => cs.getD (i * e + j) undef) := by
    cases hl.reads with
    | row hn he hr hF =>
      have key : ∀ (i : Nat) (x : T) (j : Nat) (p : T), xs[i]? = some x → x.leaves[j]? = some p → cs[i * e + j]? = some (cs.getD (i * e + j) undef) ∧ TR F p (cs.getD (i * e + j) undef) ∧ i * e + j < xs.length * e := by
        intro i x j p h1 h2
        obtain ⟨u, h3, h4, _⟩ := hr i x j p h1 h2
        have hu : cs.getD (i * e + j) undef = u := by rw [Array.getD_eq_getD_getElem?, h3]; rfl
        have hi := (List.getElem?_eq_some_iff.1 h1).1
        have hj := (List.getElem?_eq_some_iff.1 h2).1
        rw [he i x h1] at hj
        have : (i + 1) * e ≤ xs.length * e := Nat.mul_le_mul_right e hi
        rw [Nat.add_mul] at this
        exact ⟨hu ▸ h3, hu ▸ h4, by omega⟩
      refine ⟨he, fun i x j p h1 h2 => ?_, fun i x j p h1 h2 => (key i x j p h1 h2).2.1.mono hle⟩
      obtain ⟨k1, _, k3⟩ := key i x j p h1 h2
      rw [Nat.zero_add, hin _ ⟨rfl, rfl, k3⟩, cell_at ht]; exact k1
  refine ⟨F', hle, fun x hx => ⟨cs.size, by rw [hne x hx]; exact hl.at_⟩, ?_, fun off len cap v hol hv => ?_⟩
  · refine ⟨h.below, h.base, hok, FMem.le_trans h.fle hle, fun x hx => ?_, h.phi0, h.lo, h.fresh, h.size, h.defers, fun i p hp => (h.tm i p hp).mono hle (Phi.le_refl φ), fun b2 k2 hk2 => ?_, fun b1 b2 k1 k2 B2 s1 s2 g1 g2 g3 g4 => ?_⟩
    · by_cases e1 : F' x = F x
      · exact h.fnew x (fun e2 => hx (e1.trans e2))
      · rw [hne x e1]; exact hl.old
    · simp only [St.upd, look] at hk2
      split at hk2
      · rename_i e1; subst e1; cases hk2
        refine ⟨B, cs, hl.at_, hl.old, hl.cells, fun t e => (by cases e), fun es e => (by cases e), ?_⟩
        cases hl.reads with
        | row hn he hr hF =>
          refine .row hn he (fun i y j p h1 h2 => let ⟨u, h3, h4, h5⟩ := hr i y j p h1 h2; ⟨u, h3, h4.mono hle, h5⟩) (fun x u e1 e2 => ⟨rfl, ?_⟩)
          by_cases hc : x.block = B ∧ x.spot = none ∧ x.off < xs.length * e
          · exact hc.2.2
          · rw [hout x hc] at e1; exact (hF x u e1 e2).2
      · rename_i e1
        obtain ⟨B2, cs2, hl2⟩ := h.heap b2 k2 hk2
        have hB : B2 ≠ B := fun e2 => e1 (h.inj b2 b k2 _ B _ _ hk2 hb (e2 ▸ hl2.at_) hl.at_)
        refine ⟨B2, cs2, hl2.to rfl hl2.at_ hl2.old hle (Phi.le_refl φ) ?_⟩
        have hsame : ∀ x u, F' x = some u → x.block = B2 → F x = some u := by
          intro x u e2 e3
          rw [hout x (fun hc => hB (e3.symm.trans hc.1))] at e2; exact e2
        cases hl2.reads with
        | obj hn hr hF => exact .obj hn (fun i p hp => let ⟨u, h1, h2⟩ := hr i p hp; ⟨u, h1, h2.mono hle (Phi.le_refl φ)⟩) (fun x u e2 e3 => hF x u (hsame x u e2 e3) e3)
        | row hn he hr hF => exact .row hn he (fun i y j p h1 h2 => let ⟨u, h3, h4, h5⟩ := hr i y j p h1 h2; ⟨u, h3, h4.mono hle, h5⟩) (fun x u e2 e3 => hF x u (hsame x u e2 e3) e3)
        | map hF => exact .map fun x u e2 e3 => hF x u (hsame x u e2 e3) e3
    · have back : ∀ c k, look c ((b, Blk.row e xs true) :: s.heap) = some k → ∃ k', look c s.heap = some k' := by
        intro c k hk
        simp only [look] at hk
        split at hk
        · rename_i e1; subst e1; exact ⟨_, hb⟩
        · exact ⟨k, hk⟩
      obtain ⟨k1', g1'⟩ := back b1 k1 g1
      obtain ⟨k2', g2'⟩ := back b2 k2 g2
      exact h.inj b1 b2 k1' k2' B2 s1 s2 g1' g2' g3 g4
  · cases hv with
    | @ref _ _ _ _ _ B' sz c hφ h1 h2 h3 =>
      have := hl.at_; rw [hφ] at this; cases this
      have hp := hrow.part off len
      have hlen : ((xs.drop off).take len).length = len := by simp; omega
      have := hp.tr (c := c) (by rw [hlen]; omega)
      rw [hlen, Nat.zero_add] at this
      exact this
end

/-- Arguments: trees, or rows of our own that are lent. -/
inductive Lend : St → List PV → List T → St → Prop
  | nil {s : St} : Lend s [] [] s
  | tree {s s1 : St} {p : PV} {ps : List PV} {x : T} {xs : List T} (h : p.toT = some x) (k : Lend s ps xs s1) : Lend s (p :: ps) (x :: xs) s1
  | ref {s s1 : St} {b e off len cap : Nat} {ys : List T} {fz : Bool} {ps : List PV} {xs : List T} (hb : look b s.heap = some (.row e ys fz)) (hl : off + len ≤ ys.length) (k : Lend (s.upd b (.row e ys true)) ps xs s1) :
      Lend s (.ref b e off len cap :: ps) (.sl false ((ys.drop off).take len) :: xs) s1
theorem Lend.sim {B0 : Fr} {w0 : World} {φ0 : Phi} {F0 : FMem} {a : Act} {w : World} {φ : Phi} {s s1 : St} {ps : List PV} {xs : List T} (h : Lend s ps xs s1) : ∀ (F : FMem) (vs : List Value), Sim B0 w0 φ0 F0 s F φ a w → ps.length = vs.length →
    (∀ (i : Nat) (p : PV) (v : Value), ps[i]? = some p → vs[i]? = some v → VR F φ p v) →
    s1.lo = s.lo ∧ s1.N = s.N ∧ s1.n = s.n ∧ s1.tm = s.tm ∧ ∃ F', F.le F' ∧ Sim B0 w0 φ0 F0 s1 F' φ a w ∧ xs.length = vs.length ∧ ∀ (i : Nat) (x : T) (v : Value), xs[i]? = some x → vs[i]? = some v → TR F' x v := by
  induction h with
  | nil => intro F vs hs hl hv; exact ⟨rfl, rfl, rfl, rfl, F, FMem.le_refl F, hs, hl, fun i x v h => by simp at h⟩
  | tree h k ih =>
    intro F vs hs hl hv
    cases vs with
    | nil => simp at hl
    | cons v vs =>
      obtain ⟨g1, g2, g3, g4, F', h1, h2, h3, h4⟩ := ih F vs hs (by simpa using hl) (fun i p u hp hu => hv (i + 1) p u (by simpa using hp) (by simpa using hu))
      refine ⟨g1, g2, g3, g4, F', h1, h2, by simp [h3], fun i x u hx hu => ?_⟩
      cases i with
      | zero => simp at hx hu; subst hx; subst hu; exact (PV.toT_tr (hv 0 _ _ rfl rfl) h).mono h1
      | succ i => exact h4 i x u (by simpa using hx) (by simpa using hu)
  | @ref s s1 b e off len cap ys fz ps xs hb hl' k ih =>
    intro F vs hs hl hv
    cases vs with
    | nil => simp at hl
    | cons v vs =>
      obtain ⟨F1, k1, _, k2, k3⟩ := hs.freeze hb
      obtain ⟨g1, g2, g3, g4, F', h1, h2, h3, h4⟩ := ih F1 vs k2 (by simpa using hl) (fun i p u hp hu => (hv (i + 1) p u (by simpa using hp) (by simpa using hu)).mono k1 (Phi.le_refl φ))
      refine ⟨g1, g2, g3, g4, F', FMem.le_trans k1 h1, h2, by simp [h3], fun i x u hx hu => ?_⟩
      cases i with
      | zero => simp at hx hu; subst hx; subst hu; exact (k3 off len cap _ hl' (hv 0 _ _ rfl rfl)).mono h1
      | succ i => exact h4 i x u (by simpa using hx) (by simpa using hu)

/-! ### what a call leaves -/
def St.adopt (s : St) : R1 → St × PV
  | .t x => (s, .t x)
  | .own e xs => (s.alloc (.row e xs false), .ref s.n e 0 xs.length xs.length)
def St.adopts (s : St) : List R1 → St × List PV
  | [] => (s, [])
  | r :: rs => (((s.adopt r).1.adopts rs).1, (s.adopt r).2 :: ((s.adopt r).1.adopts rs).2)
def St.got (s : St) (d : Nat) : Res → St
  | .one r => (s.adopt r).1.put d (s.adopt r).2
  | .tup rs => (s.adopts rs).1.put d (.tup (s.adopts rs).2)
section
variable {B0 : Fr} {w0 : World} {φ0 : Phi} {F0 : FMem} {s : St} {F : FMem} {φ : Phi} {a : Act} {w : World}
/-- A block that a callee has laid. -/
theorem Sim.adopt (h : Sim B0 w0 φ0 F0 s F φ a w) {B : Nat} {r : R1} {v : Value} {bk : Option Nat} (hr : RR1 F B w r v bk) (hB : ∀ k, B0 k → k < B) (hfree : ∀ b k B' sz, look b s.heap = some k → φ b = some (B', sz) → bk ≠ some B') :
    (s.adopt r).1.lo = s.lo ∧ (s.adopt r).1.N = s.N ∧ ∃ φ', φ.le φ' ∧ Sim B0 w0 φ0 F0 (s.adopt r).1 F φ' a w ∧ VR F φ' (s.adopt r).2 v ∧
      ∀ b k B' sz, look b (s.adopt r).1.heap = some k → φ' b = some (B', sz) → (∃ k', look b s.heap = some k' ∧ φ b = some (B', sz)) ∨ bk = some B' := by
  cases hr with
  | t ht => exact ⟨rfl, rfl, φ, Phi.le_refl φ, h, .t ht, fun b k B' sz h1 h2 => .inl ⟨k, h1, h2⟩⟩
  | @own e xs v Bk c cs ty ho =>
    have hle : φ.le (φ.new s.n (Bk, cs.size)) := Phi.le_new (h.fresh _ (Nat.le_refl _))
    have hb1 : xs.length * e ≤ cs.size := Nat.le_trans (Nat.mul_le_mul_right e ho.cap) ho.room
    refine ⟨rfl, rfl, _, hle, ⟨h.below, h.base, h.fok, h.fle, h.fnew, fun b hb => ?_, Nat.le_succ_of_le h.lo, fun b hb => ?_, h.size, h.defers, fun i p hp => (h.tm i p hp).mono (FMem.le_refl F) hle, fun b k hk => ?_, fun b1 b2 k1 k2 B2 s1 s2 g1 g2 g3 g4 => ?_⟩, ?_, fun b k B' sz h1 h2 => ?_⟩
    · have := h.lo
      simp only [St.adopt, St.alloc] at hb
      rw [Phi.new, if_neg (by omega)]; exact h.phi0 b hb
    · simp only [St.adopt, St.alloc] at hb
      rw [Phi.new, if_neg (by omega)]; exact h.fresh b (by omega)
    · simp only [St.adopt, St.alloc, look] at hk
      split at hk
      · rename_i e1; subst e1; cases hk
        exact ⟨Bk, cs, if_pos rfl, (fun hk => Nat.not_lt.2 ho.new (hB _ hk)), fun _ => ⟨ty, ho.at_⟩, fun t e => (by cases e), fun es e => (by cases e), .row hb1 ho.he (fun i y j p q1 q2 => ho.get i y j p q1 q2) (fun x u e1 e2 => absurd e2 (ho.free x u e1))⟩
      · obtain ⟨B2, cs2, hl2⟩ := h.heap b k hk
        exact ⟨B2, cs2, hl2.to rfl (hle _ _ hl2.at_) hl2.old (FMem.le_refl F) hle (hl2.reads.mono hle)⟩
    · simp only [St.adopt, St.alloc, look] at g1 g2
      by_cases e1 : b1 = s.n <;> by_cases e2 : b2 = s.n
      · rw [e1, e2]
      · rw [Phi.new, if_pos e1] at g3; rw [Phi.new, if_neg e2] at g4; rw [if_neg e2] at g2
        cases g3; exact absurd rfl (hfree b2 k2 _ _ g2 g4)
      · rw [Phi.new, if_pos e2] at g4; rw [Phi.new, if_neg e1] at g3; rw [if_neg e1] at g1
        cases g4; exact absurd rfl (hfree b1 k1 _ _ g1 g3)
      · rw [Phi.new, if_neg e1] at g3; rw [Phi.new, if_neg e2] at g4; rw [if_neg e1] at g1; rw [if_neg e2] at g2
        exact h.inj b1 b2 k1 k2 B2 s1 s2 g1 g2 g3 g4
    · rw [ho.val]
      have := VR.ref (F := F) (φ := φ.new s.n (Bk, cs.size)) (b := s.n) (e := e) (off := 0) (len := xs.length) (cap := xs.length) (B := Bk) (sz := cs.size) (c := c) (if_pos rfl) (Nat.le_refl _) ho.cap (by have := ho.room; omega)
      simpa [St.adopt] using this
    · simp only [St.adopt, St.alloc, look] at h1
      by_cases e1 : b = s.n
      · rw [Phi.new, if_pos e1] at h2; cases h2; exact .inr rfl
      · rw [Phi.new, if_neg e1] at h2; rw [if_neg e1] at h1; exact .inl ⟨k, h1, h2⟩
theorem Sim.adopts {B : Nat} (hB : ∀ k, B0 k → k < B) : ∀ (rs : List R1) (vs : List Value) (bs : Nat → Option Nat) (s : St) (φ : Phi), Sim B0 w0 φ0 F0 s F φ a w → rs.length = vs.length →
    (∀ (i : Nat) (r : R1) (v : Value), rs[i]? = some r → vs[i]? = some v → RR1 F B w r v (bs i)) → (∀ i j b, i ≠ j → bs i = some b → bs j ≠ some b) →
    (∀ b k B' sz i, look b s.heap = some k → φ b = some (B', sz) → bs i ≠ some B') →
    (s.adopts rs).1.lo = s.lo ∧ (s.adopts rs).1.N = s.N ∧ ∃ φ', φ.le φ' ∧ Sim B0 w0 φ0 F0 (s.adopts rs).1 F φ' a w ∧ (s.adopts rs).2.length = vs.length ∧ ∀ (i : Nat) (p : PV) (v : Value), (s.adopts rs).2[i]? = some p → vs[i]? = some v → VR F φ' p v
  | [], vs, bs, s, φ, h, hl, _, _, _ => ⟨rfl, rfl, φ, Phi.le_refl φ, h, hl, fun i p v h => by simp [St.adopts] at h⟩
  | r :: rs, [], bs, s, φ, h, hl, _, _, _ => by simp at hl
  | r :: rs, v :: vs, bs, s, φ, h, hl, hr, hd, hf => by
    obtain ⟨l1, l2, φ1, k1, k2, k3, k4⟩ := h.adopt (hr 0 r v rfl rfl) hB (fun b k B' sz h1 h2 => hf b k B' sz 0 h1 h2)
    obtain ⟨m1, m2, φ2, n1, n2, n3, n4⟩ := Sim.adopts hB rs vs (fun i => bs (i + 1)) (s.adopt r).1 φ1 k2 (by simpa using hl) (fun i r' v' q1 q2 => hr (i + 1) r' v' (by simpa using q1) (by simpa using q2))
      (fun i j b q1 q2 => hd (i + 1) (j + 1) b (by omega) q2)
      (fun b k B' sz i q1 q2 => by
        rcases k4 b k B' sz q1 q2 with ⟨k', q3, q4⟩ | q3
        · exact hf b k' B' sz (i + 1) q3 q4
        · exact hd 0 (i + 1) B' (by omega) q3)
    refine ⟨m1.trans l1, m2.trans l2, φ2, Phi.le_trans k1 n1, n2, by simp [St.adopts, n3], fun i p u hp hu => ?_⟩
    cases i with
    | zero => simp [St.adopts] at hp hu; subst hp; subst hu; exact k3.mono (FMem.le_refl F) n1
    | succ i => exact n4 i p u (by simpa [St.adopts] using hp) (by simpa using hu)
end
/-- A function that may be called. -/
class FnIs (P : Program) (f : FuncId) : Prop where
  is : ∃ fn, P.funcs[f]? = some fn ∧ fn.body.isNone = false ∧ (fn.name == "runtime.NumGoroutine") = false
theorem FnIs.of {f : FuncId} {fn : Func} (h : P.funcs[f]? = some fn) (hb : fn.body.isNone = false) (hn : (fn.name == "runtime.NumGoroutine") = false) : FnIs P f := ⟨fn, h, hb, hn⟩
theorem callFunc_run {f : FuncId} (h : FnIs P f) (args : Array Value) (w : World) : (callFunc f args).run P w = .ok (.enter f args) w := by
  obtain ⟨fn, h1, h2, h3⟩ := h.is
  simp only [callFunc, Sem.run_bind, program, Sem.run, Result.andThen_ok, h1, h3, h2, Bool.false_eq_true, if_false, Sem.run_pure]
section ops
variable {d ty : Nat} {pos : String} {af : Array Edge} {g : Option (Nat × Bool)} {K : St → Prop} {s : St}
/-- A call. -/
theorem TriO.call {x : Operand} {f : FuncId} {xs : List Operand} {ts : Array TypeId} {ps : List PV} {targs : List T} {s1 : St} {r : Res} [hf : FnIs P f] (hx : s.ev x = .t (.v (.func (.func f) #[] #[]))) (hp : xs.map s.ev = ps) (hl : Lend s ps targs s1) (hr : Pure P f targs r) (hN : Nat.blt d s.N = true)
    (hK : K (s1.got d r)) : TriO P ⟨some d, .call ⟨.value x, xs.toArray, ts⟩, ty, pos, af, g⟩ K s := by
  intro B0 w0 φ0 F0 F φ a w hs next Q hQ
  have hfn := (evv0 hs hx).1
  obtain ⟨g1, g2, g3, g4, F1, k1, k2, k3, k4⟩ := hl.sim F (xs.map a.eval) hs (by rw [← hp]; simp) (fun i p v h1 h2 => by
    rw [← hp] at h1
    simp only [List.getElem?_map, Option.map_eq_some_iff] at h1 h2
    obtain ⟨y, hy, rfl⟩ := h1
    obtain ⟨z, hz, rfl⟩ := h2
    rw [hy] at hz; cases hz
    exact hs.ev y)
  have hrun : (execOp a.eval ⟨some d, .call ⟨.value x, xs.toArray, ts⟩, ty, pos, af, g⟩).run P w = .ok (.enter f (xs.map a.eval).toArray) w := by
    simp [execOp, resolve, hfn, Deferred.ofValue, invoke, callFunc_run hf]
  simp only [Oper.wp, hrun, Oper.upon]
  refine (hr F1 (xs.map a.eval).toArray w k2.fok (by simpa using k3) (fun i x v h1 h2 => k4 i x v h1 (by simpa using h2))).mono ?_
  rintro e w' ⟨rv, F2, rfl, h1, h2, h3, h4, h5⟩
  have hsim : Sim B0 w0 φ0 F0 s1 F2 φ a w' := by
    have hb1 : Sim B0 w0 φ0 F0 s1 F1 φ a w' := k2.world (.of h4 k2.base_le) (fun b k B sz q1 q2 => h4.block B (k2.block_lt q1 q2)) (k2.fok.grow (FMem.le_refl _) (fun x u e1 => by
      obtain ⟨q1, q2⟩ := k2.fok x u e1
      exact ⟨by rw [h4.cell (cell_lt q1)]; exact q1, q2⟩) fun g j u n _ e h2 => szW_block (h4.block g (cell_lt e)) h2)
    exact hb1.more h1 h2 (fun x hx => k2.base_new (h3 x hx)) (fun b k B sz q1 q2 x hx => by have := h3 x hx; have := k2.block_lt q1 q2; omega)
  have hsz := k2.base_le
  cases h5 with
  | one hr1 =>
    obtain ⟨l1, l2, φ', m1, m2, m3, _⟩ := hsim.adopt hr1 hsz (fun b k B' sz q1 q2 e => by
      cases hr1 with
      | t => cases e
      | own ho => cases e; have := ho.new; have := k2.block_lt q1 q2; omega)
    exact hQ _ _ φ' _ _ hK (l1.trans g1) (l2.trans g2) (m2.put (by rw [l2, g2]; simpa [Nat.blt_eq] using hN) m3)
  | @tup rs vs bs hn hr1 hd hb =>
    obtain ⟨l1, l2, φ', m1, m2, m3, m4⟩ := Sim.adopts hsz rs vs.toList bs s1 φ hsim (by simpa using hn) (fun i r v q1 q2 => hr1 i r v q1 (by simpa using q2)) hd (fun b k B' sz i q1 q2 e => by
      have hlt := k2.block_lt q1 q2
      have := hb i B' e
      omega)
    exact hQ _ _ φ' _ _ hK (l1.trans g1) (l2.trans g2) (m2.put (by rw [l2, g2]; simpa [Nat.blt_eq] using hN) (.tup (by simpa using m3) (fun i p u q1 q2 => m4 i p u q1 (by simpa using q2))))
end ops

/-! ### a function's contract out of its body -/
def initTm : Nat → List T → List (Nat × PV)
  | _, [] => []
  | k, x :: xs => (k, .t x) :: initTm (k + 1) xs
theorem look_init : ∀ (k : Nat) (xs : List T) (i : Nat) (p : PV), look i (initTm k xs) = some p → ∃ j x, i = k + j ∧ xs[j]? = some x ∧ p = .t x
  | _, [], _, _, h => by cases h
  | k, x :: xs, i, p, h => by
    simp only [initTm, look] at h
    split at h
    · cases h; exact ⟨0, x, by omega, rfl, rfl⟩
    · obtain ⟨j, y, h1, h2, h3⟩ := look_init (k + 1) xs i p h
      exact ⟨j + 1, y, by omega, by simpa using h2, h3⟩
/-- What stands in the results' temporaries, as it is handed back. -/
inductive Rets : St → List PV → List R1 → Prop
  | nil {s : St} : Rets s [] []
  | tree {s : St} {p : PV} {ps : List PV} {x : T} {rs : List R1} (h : p.toT = some x) (k : Rets s ps rs) : Rets s (p :: ps) (.t x :: rs)
  | froz {s : St} {b e off len cap : Nat} {ys : List T} {fz : Bool} {ps : List PV} {rs : List R1} (hb : look b s.heap = some (.row e ys fz)) (hl : off + len ≤ ys.length) (k : Rets (s.upd b (.row e ys true)) ps rs) :
      Rets s (.ref b e off len cap :: ps) (.t (.sl false ((ys.drop off).take len)) :: rs)
  | own {s : St} {b e len cap : Nat} {ys zs : List T} {ps : List PV} {rs : List R1} (hb : look b s.heap = some (.row e ys false)) (hl : len ≤ ys.length) (hz : ys.take len = zs) (k : Rets { s with heap := wipe b s.heap } ps rs) :
      Rets s (.ref b e 0 len cap :: ps) (.own e zs :: rs)
theorem RR1.mono {F G : FMem} {B : Nat} {w : World} {r : R1} {v : Value} {b : Option Nat} (h : RR1 F B w r v b) (hle : F.le G) (hb : ∀ x, G x ≠ F x → b ≠ some x.block) : RR1 G B w r v b := by
  cases h with
  | t h => exact .t (h.mono hle)
  | own ho =>
    refine .own { ho with get := fun i x j p h1 h2 => let ⟨u, q1, q2, q3⟩ := ho.get i x j p h1 h2; ⟨u, q1, q2.mono hle, q3⟩, free := fun x u e eb => ?_ }
    by_cases e2 : G x = F x
    · exact ho.free x u (e2 ▸ e) eb
    · exact hb x e2 (by rw [eb])
theorem Rets.rr {B0 : Nat} {w0 : World} {φ0 : Phi} {F0 : FMem} {a : Act} {w : World} {φ : Phi} {s : St} {ps : List PV} {rs : List R1} (h : Rets s ps rs) : ∀ (F : FMem) (vs : List Value), Sim ⟨(· < B0), []⟩ w0 φ0 F0 s F φ a w → ps.length = vs.length →
    (∀ (i : Nat) (p : PV) (v : Value), ps[i]? = some p → vs[i]? = some v → VR F φ p v) →
    ∃ (F' : FMem) (bs : Nat → Option Nat), F.le F' ∧ FOK F' w ∧ (∀ x, F' x ≠ F x → ∃ b k sz, look b s.heap = some k ∧ φ b = some (x.block, sz)) ∧ rs.length = vs.length ∧
      (∀ (i : Nat) (r : R1) (v : Value), rs[i]? = some r → vs[i]? = some v → RR1 F' B0 w r v (bs i)) ∧ (∀ i j b, i ≠ j → bs i = some b → bs j ≠ some b) ∧
      (∀ i B, bs i = some B → ∃ b k sz, look b s.heap = some k ∧ φ b = some (B, sz)) := by
  induction h with
  | nil => intro F vs hs hl hv; exact ⟨F, fun _ => none, FMem.le_refl F, hs.fok, fun x h => absurd rfl h, hl, (fun i r v h => by simp at h), (fun i j b _ h => by cases h), (fun i B h => by cases h)⟩
  | tree h k ih =>
    intro F vs hs hl hv
    cases vs with
    | nil => simp at hl
    | cons v vs =>
      obtain ⟨F', bs, h1, h2, h3, h4, h5, h6, h7⟩ := ih F vs hs (by simpa using hl) (fun i p u hp hu => hv (i + 1) p u (by simpa using hp) (by simpa using hu))
      refine ⟨F', fun i => match i with | 0 => none | i + 1 => bs i, h1, h2, h3, by simp [h4], fun i r u hr hu => ?_, fun i j b hij hi hj => ?_, fun i B hi => ?_⟩
      · cases i with
        | zero => simp at hr hu; subst hr; subst hu; exact .t ((PV.toT_tr (hv 0 _ _ rfl rfl) h).mono h1)
        | succ i => exact h5 i r u (by simpa using hr) (by simpa using hu)
      · cases i with
        | zero => cases hi
        | succ i => cases j with
          | zero => cases hj
          | succ j => exact h6 i j b (by omega) hi hj
      · cases i with
        | zero => cases hi
        | succ i => exact h7 i B hi
  | @froz s b e off len cap ys fz ps rs hb hl' k ih =>
    intro F vs hs hl hv
    cases vs with
    | nil => simp at hl
    | cons v vs =>
      obtain ⟨F1, k1, k0, k2, k3⟩ := hs.freeze hb
      have back : ∀ c k, look c (s.upd b (.row e ys true)).heap = some k → ∃ k', look c s.heap = some k' := by
        intro c k hk
        simp only [St.upd, look] at hk
        split at hk
        · rename_i e1; subst e1; exact ⟨_, hb⟩
        · exact ⟨k, hk⟩
      obtain ⟨F', bs, h1, h2, h3, h4, h5, h6, h7⟩ := ih F1 vs k2 (by simpa using hl) (fun i p u hp hu => (hv (i + 1) p u (by simpa using hp) (by simpa using hu)).mono k1 (Phi.le_refl φ))
      refine ⟨F', fun i => match i with | 0 => none | i + 1 => bs i, FMem.le_trans k1 h1, h2, fun x hx => ?_, by simp [h4], fun i r u hr hu => ?_, fun i j b hij hi hj => ?_, fun i B hi => ?_⟩
      · by_cases e1 : F' x = F1 x
        · obtain ⟨sz, q⟩ := k0 x (fun e2 => hx (e1.trans e2)); exact ⟨b, _, sz, hb, q⟩
        · obtain ⟨c, k, sz, q1, q2⟩ := h3 x e1
          obtain ⟨k', q3⟩ := back c k q1
          exact ⟨c, k', sz, q3, q2⟩
      · cases i with
        | zero => simp at hr hu; subst hr; subst hu; exact .t ((k3 off len cap _ hl' (hv 0 _ _ rfl rfl)).mono h1)
        | succ i => exact h5 i r u (by simpa using hr) (by simpa using hu)
      · cases i with
        | zero => cases hi
        | succ i => cases j with
          | zero => cases hj
          | succ j => exact h6 i j b (by omega) hi hj
      · cases i with
        | zero => cases hi
        | succ i =>
          obtain ⟨c, k, sz, q1, q2⟩ := h7 i B hi
          obtain ⟨k', q3⟩ := back c k q1
          exact ⟨c, k', sz, q3, q2⟩
  | @own s b e len cap ys zs ps rs hb hl' hz k ih =>
    intro F vs hs hl hv
    subst hz
    cases vs with
    | nil => simp at hl
    | cons v vs =>
      have hv0 := hv 0 _ _ rfl rfl
      obtain ⟨B, cs, hlv⟩ := hs.heap b _ hb
      obtain ⟨ty, hty⟩ := hlv.cells rfl
      have hwl : ∀ c k, look c (wipe b s.heap) = some k → c ≠ b ∧ look c s.heap = some k := by
        intro c k hk
        rw [look_wipe] at hk
        split at hk
        · cases hk
        · exact ⟨‹_›, hk⟩
      have hs' := hs.forget (l := wipe b s.heap) (fun c k hk => (hwl c k hk).2)
      obtain ⟨F', bs, h1, h2, h3, h4, h5, h6, h7⟩ := ih F vs hs' (by simpa using hl) (fun i p u hp hu => hv (i + 1) p u (by simpa using hp) (by simpa using hu))
      have hnb : ∀ c k sz, look c (wipe b s.heap) = some k → φ c = some (B, sz) → False := by
        intro c k sz q1 q2
        obtain ⟨q3, q4⟩ := hwl c k q1
        exact q3 (hs.inj c b k _ B _ _ q4 hb q2 hlv.at_)
      refine ⟨F', fun i => match i with | 0 => some B | i + 1 => bs i, h1, h2, fun x hx => ?_, by simp [h4], fun i r u hr hu => ?_, fun i j b' hij hi hj => ?_, fun i B' hi => ?_⟩
      · obtain ⟨c, k, sz, q1, q2⟩ := h3 x hx; exact ⟨c, k, sz, (hwl c k q1).2, q2⟩
      · cases i with
        | zero =>
          simp at hr hu; subst hr; subst hu
          cases hv0 with
          | @ref _ _ _ _ _ B' sz c hφ g1 g2 g3 =>
            have := hlv.at_; rw [hφ] at this; cases this
            cases hlv.reads with
            | row hn he hrd hF =>
              have hlen : (ys.take len).length = len := by simp; omega
              have hget : ∀ (i : Nat) (x : T), (ys.take len)[i]? = some x → ys[i]? = some x := by
                intro i x hx
                rw [List.getElem?_take] at hx
                split at hx
                · exact hx
                · cases hx
              refine RR1.own (c := c) (cs := cs) (ty := ty) ⟨by rw [hlen, Nat.zero_mul], (Nat.le_of_not_lt hlv.old), by omega, by omega, hty, fun i x hx => he i x (hget i x hx), fun i x j p hx hp => ?_, fun x u e1 e2 => ?_⟩
              · obtain ⟨u, q1, q2, q3⟩ := hrd i x j p (hget i x hx) hp
                exact ⟨u, q1, q2.mono h1, q3⟩
              · by_cases e3 : F' x = F x
                · have := (hF x u (e3 ▸ e1) e2).1; cases this
                · obtain ⟨c2, k2, sz2, q1, q2⟩ := h3 x e3
                  exact hnb c2 k2 sz2 q1 (e2 ▸ q2)
        | succ i => exact h5 i r u (by simpa using hr) (by simpa using hu)
      · cases i with
        | zero =>
          cases hi
          cases j with
          | zero => exact hij rfl
          | succ j =>
            obtain ⟨c, k, sz, q1, q2⟩ := h7 j _ hj
            exact hnb c k sz q1 q2
        | succ i => cases j with
          | zero =>
            cases hj
            obtain ⟨c, k, sz, q1, q2⟩ := h7 i _ hi
            exact hnb c k sz q1 q2
          | succ j => exact h6 i j b' (by omega) hi hj
      · cases i with
        | zero => cases hi; exact ⟨b, _, _, hb, hlv.at_⟩
        | succ i =>
          obtain ⟨c, k, sz, q1, q2⟩ := h7 i B' hi
          exact ⟨c, k, sz, (hwl c k q1).2, q2⟩
/-- What a body has to come to. -/
def Comes1 (t : Tmp) (r : R1) (x : Ex) (s : St) : Prop := (x = .normal ∨ x = .ret) ∧ Rets s [s.ev (.tmp t)] [r]
theorem sim_init {F : FMem} {args : List T} {vs : Array Value} {w : World} {N : Nat} (hF : FOK F w) (hn : args.length = vs.size) (h : ∀ (i : Nat) (x : T) (v : Value), args[i]? = some x → vs[i]? = some v → TR F x v) (hN : vs.size ≤ N) :
    Sim ⟨(· < w.heap.size), []⟩ w (fun _ => none) F ⟨initTm 0 args, N, [], 0, 0⟩ F (fun _ => none) { tmps := vs ++ Array.replicate (N - vs.size) undef, defers := [] } w := by
  refine ⟨Bel.refl _ _, fun _ h => h, hF, FMem.le_refl F, fun x hx => absurd rfl hx, fun _ _ => rfl, Nat.le_refl _, fun _ _ => rfl, by simp; omega, rfl, fun i p hp => ?_, (fun b k hk => by cases hk), (fun b b' k k' B sz sz' hk => by cases hk)⟩
  obtain ⟨j, x, rfl, hx, rfl⟩ := look_init 0 args i p hp
  have hj : j < vs.size := by rw [← hn]; exact (List.getElem?_eq_some_iff.1 hx).1
  rw [Nat.zero_add, Array.getD_eq_getD_getElem?, Array.getElem?_append_left hj, Array.getElem?_eq_getElem hj]
  exact .t (h j x _ hx (Array.getElem?_eq_getElem hj))
theorem Pure.of1 {f : FuncId} {fn : Func} {c : Code} {args : List T} {t : Tmp} {r : R1} {N : Nat} (hf : P.funcs[f]? = some fn) (hb : fn.body = some c) (hN : fn.ntmps = N) (hle : args.length ≤ N) (hr : fn.results = #[.tmp t])
    (h : Tri P c (Comes1 t r) ⟨initTm 0 args, N, [], 0, 0⟩) : Pure P f args (.one r) := by
  intro F vs w hF hn hv
  refine calls_of_wp hf hb ?_
  rw [hN]
  have hs := sim_init (N := N) hF hn hv (by omega)
  refine wp_mono (h _ _ _ _ _ _ _ _ hs) ?_
  rintro e a' w' ⟨x, s', F', φ', rfl, ⟨hx, hq⟩, h1, h2, hs'⟩
  obtain ⟨G, bs, g1, g2, g3, g4, g5, g6, g7⟩ := hq.rr F' [a'.tmps.getD t undef] hs' rfl (fun i p v hp hv => by
    cases i with
    | zero => cases hp; cases hv; exact hs'.ev (.tmp t)
    | succ i => simp at hp)
  have hpost : bodyPost P fn (fun e w' => ∃ rv F', e = .returned rv ∧ F.le F' ∧ FOK F' w' ∧ (∀ a, F' a ≠ F a → w.heap.size ≤ a.block) ∧ Below w.heap.size w w' ∧ RR F' w.heap.size w' (.one r) rv) .normal a' w' := by
    refine bodyPost_end (results_tmp hr _ _ _) hs'.defers ⟨_, G, rfl, FMem.le_trans hs'.fle g1, g2, fun x hx => ?_, hs'.below.below, .one (g5 0 r _ rfl rfl)⟩
    by_cases e1 : G x = F' x
    · exact Nat.le_of_not_lt (hs'.fnew x (fun e2 => hx (e1.trans e2)))
    · obtain ⟨b, k, sz, q1, q2⟩ := g3 x e1
      obtain ⟨B, cs, hl⟩ := hs'.heap b k q1
      have := hl.at_; rw [q2] at this; cases this
      exact Nat.le_of_not_lt hl.old
  rcases hx with rfl | rfl
  · exact hpost
  · exact hpost
end Go.Proofs.YtldelbknkkeniaaGreatDoor.E

/- The engine: small words for proofs over it. -/
namespace Go.Proofs.YtldelbknkkeniaaGreatDoor.E
open Go Go.RowKit
set_option linter.unusedVariables false
set_option linter.unusedSimpArgs false
variable {P : Program}

/-- A region as it is written. -/
theorem Tri.reg {id : Nat} {l : List Oper} {Q : Ex → St → Prop} {s : St} (h : TriL P l.toArray l (Q .normal) s) : Tri P (.region id l.toArray false) Q s :=
  .region (by simpa using h)
/-- A call whose answer is a tree. -/
theorem VO.call {d ty : Nat} {pos : String} {af : Array Edge} {g : Option (Nat × Bool)} {s : St} {H : Prop} {x : Operand} {f : FuncId} {xs : List Operand} {ts : Array TypeId} {targs : List T} {r : T} [hf : FnIs P f] (hx : s.ev x = .t (.v (.func (.func f) #[] #[])))
    (hl : targs.length = xs.length) (hp : ∀ (i : Nat) (y : Operand) (u : T), xs[i]? = some y → targs[i]? = some u → ∃ p, EvH H s y p ∧ p.toT = some u) (hr : H → Pure P f targs (.one (.t r))) : VO P H ⟨some d, .call ⟨.value x, xs.toArray, ts⟩, ty, pos, af, g⟩ s (.t r) := by
  intro hH B0 w0 φ0 F0 F φ a w hs next Q hQ
  have hfn := (evv0 hs hx).1
  have hrun : (execOp a.eval ⟨some d, .call ⟨.value x, xs.toArray, ts⟩, ty, pos, af, g⟩).run P w = .ok (.enter f (xs.map a.eval).toArray) w := by
    simp [execOp, resolve, hfn, Deferred.ofValue, invoke, callFunc_run hf]
  simp only [Oper.wp, hrun, Oper.upon]
  refine (hr hH F (xs.map a.eval).toArray w hs.fok (by simpa using hl) (fun i x v h1 h2 => ?_)).mono ?_
  · simp only [List.getElem?_toArray, List.getElem?_map, Option.map_eq_some_iff] at h2
    obtain ⟨y, hy, rfl⟩ := h2
    obtain ⟨p, q1, q2⟩ := hp i y x hy h1
    exact PV.toT_tr (q1.vr hH hs) q2
  · rintro e w' ⟨rv, F2, rfl, h1, h2, h3, h4, h5⟩
    have hsim : Sim B0 w0 φ0 F0 s F2 φ a w' := by
      have hb1 : Sim B0 w0 φ0 F0 s F φ a w' := hs.world (.of h4 hs.base_le) (fun b k B sz q1 q2 => h4.block B (hs.block_lt q1 q2)) (hs.fok.grow (FMem.le_refl _) (fun x u e1 => by
        obtain ⟨q1, q2⟩ := hs.fok x u e1
        exact ⟨by rw [h4.cell (cell_lt q1)]; exact q1, q2⟩) fun g j u n _ e h2 => szW_block (h4.block g (cell_lt e)) h2)
      exact hb1.more h1 h2 (fun x hx => hs.base_new (h3 x hx)) (fun b k B sz q1 q2 x hx => by have := h3 x hx; have := hs.block_lt q1 q2; omega)
    cases h5 with
    | one hr1 => cases hr1 with | t ht => exact hQ rv F2 w' hsim (.t ht)
theorem args1 {H : Prop} {s : St} {x : Operand} {p : PV} {u : T} (h : EvH H s x p) (k : p.toT = some u) : ∀ (i : Nat) (y : Operand) (v : T), [x][i]? = some y → [u][i]? = some v → ∃ q, EvH H s y q ∧ q.toT = some v := by
  intro i y v h1 h2
  cases i with
  | zero => cases h1; cases h2; exact ⟨p, h, k⟩
  | succ i => simp at h1
theorem args2 {H : Prop} {s : St} {x y : Operand} {p q : PV} {u v : T} (h : EvH H s x p) (k : p.toT = some u) (h' : EvH H s y q) (k' : q.toT = some v) : ∀ (i : Nat) (z : Operand) (r : T), [x, y][i]? = some z → [u, v][i]? = some r → ∃ q, EvH H s z q ∧ q.toT = some r := by
  intro i z r h1 h2
  cases i with
  | zero => cases h1; cases h2; exact ⟨p, h, k⟩
  | succ i => exact args1 h' k' i z r (by simpa using h1) (by simpa using h2)
theorem Comes1.ret {t : Tmp} {r : R1} {s : St} {y : T} (h : (evt s.tm (.tmp t)).toT = some y) (e : R1.t y = r) : Comes1 t r .ret s := ⟨.inr rfl, e ▸ .tree h .nil⟩
/-- What is known here is known there. -/
def subT {α : Type} : List (Nat × α) → List (Nat × α) → Prop
  | [], _ => True
  | (i, p) :: l, m => look i m = some p ∧ subT l m
theorem subT_look {α : Type} : ∀ {l m : List (Nat × α)}, subT l m → ∀ i p, look i l = some p → look i m = some p
  | [], _, _, i, p, h => by cases h
  | (j, q) :: l, m, hs, i, p, h => by
    simp only [look] at h
    split at h
    · rename_i e; subst e; cases h; exact hs.1
    · exact subT_look hs.2 i p h
theorem Sub.of {tm tm2 : List (Nat × PV)} {N : Nat} {hp hp2 : List (Nat × Blk)} {lo n n2 : Nat} (hn : n2 = n) (hlo : Nat.ble lo n = true) (ht : subT tm2 tm) (hh : subT hp2 hp) : Sub ⟨tm2, N, hp2, lo, n2⟩ ⟨tm, N, hp, lo, n⟩ := by
  subst hn
  exact ⟨rfl, rfl, Nat.le_refl _, by simpa [Nat.ble_eq] using hlo, fun i p h => ⟨subT_look ht i p h, .inl rfl⟩, fun i p h => ⟨subT_look hh i p h, .inl rfl⟩⟩
def ltT (m : Nat) : List (Nat × PV) → Bool
  | [] => true
  | (_, p) :: l => PV.lt m p && ltT m l
def ltB (m : Nat) : List (Nat × Blk) → Bool
  | [] => true
  | (b, k) :: l => Nat.blt b m && Blk.lt m k && ltB m l
theorem ltT_look : ∀ {m : Nat} {l : List (Nat × PV)}, ltT m l = true → ∀ i p, look i l = some p → PV.lt m p = true
  | m, [], _, i, p, h => by cases h
  | m, (j, q) :: l, hs, i, p, h => by
    simp only [ltT, Bool.and_eq_true] at hs
    simp only [look] at h
    split at h
    · cases h; exact hs.1
    · exact ltT_look hs.2 i p h
theorem ltB_look : ∀ {m : Nat} {l : List (Nat × Blk)}, ltB m l = true → ∀ i p, look i l = some p → i < m ∧ Blk.lt m p = true
  | m, [], _, i, p, h => by cases h
  | m, (j, q) :: l, hs, i, p, h => by
    simp only [ltB, Bool.and_eq_true, Nat.blt_eq] at hs
    simp only [look] at h
    split at h
    · rename_i e; subst e; cases h; exact hs.1
    · exact ltB_look hs.2 i p h
/-- The count of blocks begins anew. -/
theorem Sub.ofn {tm tm2 : List (Nat × PV)} {N : Nat} {hp hp2 : List (Nat × Blk)} {lo n n2 : Nat} (hn : n2 ≤ n) (hlo : Nat.ble lo n2 = true) (ht : subT tm2 tm) (hh : subT hp2 hp) (h1 : ltT n2 tm2 = true) (h2 : ltB n2 hp2 = true) : Sub ⟨tm2, N, hp2, lo, n2⟩ ⟨tm, N, hp, lo, n⟩ :=
  ⟨rfl, rfl, hn, by simpa [Nat.ble_eq] using hlo, fun i p h => ⟨subT_look ht i p h, .inr (ltT_look h1 i p h)⟩, fun i p h => ⟨subT_look hh i p h, .inr (ltB_look h2 i p h)⟩⟩
/-- A loop whose state is told by a parameter. -/
theorem Tri.loopS {α : Type} {c : Code} {Q : Ex → St → Prop} {s : St} (S : α → St) (inv : α → Prop) (μ : α → Nat) (a0 : α) (h0 : inv a0) (hsub : Sub (S a0) s)
    (round : ∀ a, inv a → Tri P c (after Q (fun s2 => ∃ a', inv a' ∧ μ a' < μ a ∧ Sub (S a') s2)) (S a)) : Tri P (.loop c) Q s := by
  refine Tri.sub hsub ?_
  refine Tri.loop (fun s' => ∃ a, inv a ∧ s' = S a) (fun s' => leastOf fun n => ∃ a, inv a ∧ s' = S a ∧ μ a = n) ⟨a0, h0, rfl⟩ ?_
  rintro s' ⟨a1, ha1, rfl⟩ h1 h2
  have hl : ∃ n, ∃ a, inv a ∧ S a1 = S a ∧ μ a = n := ⟨_, a1, ha1, rfl, rfl⟩
  obtain ⟨a, ha, he, hμ⟩ := leastOf_spec hl
  rw [he]
  refine (round a ha).mono ?_
  intro x s2 _ _ hq
  cases x with
  | normal =>
    obtain ⟨a', ha', hlt, hs⟩ := hq
    refine ⟨S a', hs, ⟨a', ha', rfl⟩, ?_⟩
    have h3 : leastOf (fun n => ∃ b, inv b ∧ S a' = S b ∧ μ b = n) ≤ μ a' := leastOf_le ⟨a', ha', rfl, rfl⟩
    have h4 : leastOf (fun n => ∃ b, inv b ∧ S a = S b ∧ μ b = n) = μ a := by rw [← he]; exact hμ.symm
    show leastOf (fun n => ∃ b, inv b ∧ S a' = S b ∧ μ b = n) < leastOf (fun n => ∃ b, inv b ∧ S a = S b ∧ μ b = n)
    omega
  | ret => exact hq
  | exit id => exact hq
theorem wrap_i64 {n : Int} (h0 : -9223372036854775808 ≤ n) (h1 : n ≤ 9223372036854775807) : IntKind.i64.wrap n = n := IntWalk.i64_in n ⟨h0, h1⟩
end Go.Proofs.YtldelbknkkeniaaGreatDoor.E
