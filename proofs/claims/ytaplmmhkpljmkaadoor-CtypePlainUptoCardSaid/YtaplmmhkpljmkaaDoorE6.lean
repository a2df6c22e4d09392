/- The engine's rules: literals, slicing, parts of values. -/
import Derived.Test.YtaplmmhkpljmkaaDoorE5
import Derived.Laws.FloatArith
import Derived.Laws.Shifts
namespace Go.Proofs.YtaplmmhkpljmkaaDoor.E
set_option linter.unusedVariables false
set_option linter.unusedSimpArgs false
open Go Go.RowKit

variable {P : Program}

/-! ### a list's literal -/
/-- The parts of a literal, in order. -/
theorem fill_seq (e : Nat) : ∀ (vs : List Value) (k : Nat) (cells : Array Value), (∀ v ∈ vs, v.cells.size = e) → (k + vs.length) * e ≤ cells.size →
    ∃ out, Instr.fill (fun i => some (i * e, e)) cells ((List.range' k vs.length).zip vs) = some out ∧ out.size = cells.size ∧
      out.toList = cells.toList.take (k * e) ++ vs.flatMap (fun v => v.cells.toList) ++ cells.toList.drop ((k + vs.length) * e)
  | [], k, cells, _, _ => ⟨cells, rfl, rfl, by simp⟩
  | v :: vs, k, cells, h1, h2 => by
    have hv := h1 v (by simp)
    have hk : k * e + e ≤ cells.size := by
      have : (k + 1) * e ≤ (k + (v :: vs).length) * e := Nat.mul_le_mul_right e (by simp only [List.length_cons]; omega)
      rw [Nat.add_mul] at this; omega
    have key : ∀ (l : List Value) (o : Nat) (cs : Array Value), k * e + o + l.length ≤ cs.size →
        ((l.zipIdx o).foldl (fun cs (x : Value × Nat) => cs.setIfInBounds (k * e + x.2) x.1) cs).toList = cs.toList.take (k * e + o) ++ l ++ cs.toList.drop (k * e + o + l.length) := by
      intro l
      induction l with
      | nil => intro o cs _; simp
      | cons x l ih =>
        intro o cs hle
        simp only [List.zipIdx_cons, List.foldl_cons]
        have hle' : k * e + (o + 1) + l.length ≤ cs.size := by simp only [List.length_cons] at hle; omega
        rw [ih (o + 1) _ (by simpa using hle')]
        have h := list_seg_step cs.toList (k * e + o) x l (by simp only [Array.length_toList]; omega)
        simp only [Array.toList_setIfInBounds]
        rw [show k * e + (o + 1) = k * e + o + 1 from by omega]
        simpa using h
    have hcell : (v.cells.zipIdx.foldl (fun cs (x : Value × Nat) => cs.setIfInBounds (k * e + x.2) x.1) cells).toList = cells.toList.take (k * e) ++ v.cells.toList ++ cells.toList.drop (k * e + e) := by
      have := key v.cells.toList 0 cells (by simp; omega)
      rw [← Array.foldl_toList, Array.toList_zipIdx]
      simpa [hv] using this
    generalize hc' : v.cells.zipIdx.foldl (fun cs (x : Value × Nat) => cs.setIfInBounds (k * e + x.2) x.1) cells = cells' at hcell
    have hlen : cells'.size = cells.size := by
      have := congrArg List.length hcell
      simp at this; omega
    have h2' : (k + 1 + vs.length) * e ≤ cells'.size := by
      rw [hlen]; have : k + 1 + vs.length = k + (v :: vs).length := by simp; omega
      rw [this]; exact h2
    obtain ⟨out, o1, o2, o3⟩ := fill_seq e vs (k + 1) cells' (fun u hu => h1 u (by simp [hu])) h2'
    refine ⟨out, ?_, o2.trans hlen, ?_⟩
    · simp only [List.length_cons, List.range'_succ, List.zip_cons_cons, Instr.fill]
      rw [if_neg (by simp [hv]; omega)]
      rw [hc']; exact o1
    · rw [o3, hcell]
      have e1 : (cells.toList.take (k * e) ++ v.cells.toList ++ cells.toList.drop (k * e + e)).take ((k + 1) * e) = cells.toList.take (k * e) ++ v.cells.toList := by
        rw [List.take_append_of_le_length (by simp [hv, Nat.add_mul]; omega)]
        rw [List.take_of_length_le (by simp [hv, Nat.add_mul]; omega)]
      have e2 : (cells.toList.take (k * e) ++ v.cells.toList ++ cells.toList.drop (k * e + e)).drop ((k + 1 + vs.length) * e) = cells.toList.drop ((k + (v :: vs).length) * e) := by
        have hl : (cells.toList.take (k * e) ++ v.cells.toList).length = k * e + e := by simp [hv]; omega
        rw [List.drop_append, List.drop_eq_nil_of_le (by rw [hl, Nat.add_mul, Nat.add_mul]; omega), List.nil_append, hl, List.drop_drop]
        congr 1
        simp only [List.length_cons, Nat.add_mul]; omega
      rw [e1, e2]
      simp
/-- The operands of parts that are numbered one by one. -/
def inRow : Nat → List (Nat × Operand) → Bool
  | _, [] => true
  | k, (i, _) :: l => i == k && inRow (k + 1) l
theorem inRow_zip : ∀ (k : Nat) (l : List (Nat × Operand)), inRow k l = true → ∀ f : Operand → Value, l.map (fun x => (x.1, f x.2)) = (List.range' k l.length).zip (l.map fun x => f x.2)
  | _, [], _, _ => rfl
  | k, (i, x) :: l, h, f => by
    simp only [inRow, Bool.and_eq_true, beq_iff_eq] at h
    simp only [List.map_cons, List.length_cons, List.range'_succ, List.zip_cons_cons]
    rw [h.1, inRow_zip (k + 1) l h.2 f]
theorem flatMap_cells {F : FMem} {e : Nat} : ∀ {vs : List Value} {ys : List T}, ys.length = vs.length → (∀ (i : Nat) (v : Value) (y : T), vs[i]? = some v → ys[i]? = some y → TR F y v ∧ y.leaves.length = e ∧ y.flatL = true) →
    CellsOf F ys e (vs.flatMap fun v => v.cells.toList)
  | [], [], _, _ => ⟨by simp, fun i y h => by simp at h, fun i y j p h => by simp at h, fun _ h => by cases h⟩
  | v :: vs, y :: ys, hl, h => by
    obtain ⟨h1, h2, h3⟩ := h 0 v y rfl rfl
    obtain ⟨c1, c2⟩ := h1.cells
    have one : CellsOf F [y] e v.cells.toList := by
      refine ⟨by simp [← c1, h2], fun i x hx => ?_, fun i x j p hx hp => ?_, fun u hu => ?_⟩
      · cases i with
        | zero => simp at hx; subst hx; exact h2
        | succ i => simp at hx
      · cases i with
        | zero => simp at hx; subst hx; obtain ⟨u, hu, ht⟩ := c2 j p hp; exact ⟨u, by simpa using hu, ht⟩
        | succ i => simp at hx
      · obtain ⟨j, hj⟩ := List.mem_iff_getElem?.1 hu
        have hjl := (List.getElem?_eq_some_iff.1 hj).1
        have hjp : j < y.leaves.length := by simp at hjl; omega
        obtain ⟨u', hu', ht⟩ := c2 j _ (List.getElem?_eq_getElem hjp)
        rw [← Array.getElem?_toList, hj] at hu'; cases hu'
        refine ht.one ?_
        have := (List.all_eq_true.1 h3) _ (List.getElem_mem hjp)
        exact this
    exact one.append (flatMap_cells (by simpa using hl) (fun i u z hu hz => h (i + 1) u z (by simpa using hu) (by simpa using hz)))
  | [], _ :: _, hl, _ => by simp at hl
  | _ :: _, [], hl, _ => by simp at hl

section ops
variable {d ty : Nat} {pos : String} {af : Array Edge} {g : Option (Nat × Bool)} {K : St → Prop} {s : St} {H : Prop}

def flatAll (e : Nat) (ys : List T) : Bool := ys.all fun y => (y.leaves.length == e) && y.flatL
/-- '[]E{x, y, ..}': what it does. -/
theorem lit_run {t et : TypeId} {n : Nat} {parts : List (Nat × Operand)} {ps : List PV} {ys : List T} {sz bytes e ebytes : Nat} {z ez : Value} {ed : TypeDesc} [ht : TyIs P t (.slice et) sz bytes z] [he : TyIs P et ed e ebytes ez]
    (hp : parts.map (fun x => s.ev x.2) = ps) (hy : toTsAll ps = some ys) (hi : inRow 0 parts = true) (hn : parts.length = n) (hf : flatAll e ys = true) (hb : n * e ≤ 16777216) (he0 : 0 < e)
    {B0 : Nat} {w0 : World} {φ0 : Phi} {F0 : FMem} {F : FMem} {φ : Phi} {a : Act} {w : World} (hs : Sim B0 w0 φ0 F0 s F φ a w) :
    ∃ out : Array Value, ys.length = n ∧ CellsOf F ys e out.toList ∧ (execOp a.eval ⟨some d, .buildSlice t n parts.toArray, ty, pos, af, g⟩).run P w = .ok (.value (.slice (some ⟨w.heap.size, 0, none⟩) n n)) (w.alloc (.cells out.toList.toArray et)) := by
  subst hn
  obtain ⟨l1, l2⟩ := toTsAll_get hy
  have hpl : ps.length = parts.length := by rw [← hp]; simp
  have hc : CellsOf F ys e ((parts.map fun x => a.eval x.2).flatMap fun v => v.cells.toList) := by
    refine flatMap_cells (by simp [l1, hpl]) (fun i v y hv hy' => ?_)
    simp only [List.getElem?_map, Option.map_eq_some_iff] at hv
    obtain ⟨x, hx, rfl⟩ := hv
    have hpi : ps[i]? = some (s.ev x.2) := by rw [← hp]; simp [hx]
    obtain ⟨y', h3, h4⟩ := l2 i _ hpi
    rw [h3] at hy'; cases hy'
    have hfa := (List.all_eq_true.1 hf) y (List.mem_of_getElem? h3)
    simp only [Bool.and_eq_true, beq_iff_eq] at hfa
    exact ⟨PV.toT_tr (hs.ev x.2) h4, hfa.1, hfa.2⟩
  have hsize : ∀ v ∈ (parts.map fun x => a.eval x.2), v.cells.size = e := by
    intro v hv
    obtain ⟨i, hi'⟩ := List.mem_iff_getElem?.1 hv
    simp only [List.getElem?_map, Option.map_eq_some_iff] at hi'
    obtain ⟨x, hx, rfl⟩ := hi'
    have hpi : ps[i]? = some (s.ev x.2) := by rw [← hp]; simp [hx]
    obtain ⟨y, h3, h4⟩ := l2 i _ hpi
    have hfa := (List.all_eq_true.1 hf) y (List.mem_of_getElem? h3)
    simp only [Bool.and_eq_true, beq_iff_eq] at hfa
    rw [← (PV.toT_tr (hs.ev x.2) h4).cells.1]; exact hfa.1
  obtain ⟨out, o1, o2, o3⟩ := fill_seq e (parts.map fun x => a.eval x.2) 0 ((Array.range (parts.length * e)).map (ez.cells[· % ez.cells.size]!)) hsize (by simp)
  have hout : out.toList = (parts.map fun x => a.eval x.2).flatMap fun v => v.cells.toList := by
    rw [o3]; simp
  rw [← hout] at hc
  have hfill : Instr.fill (fun i => some (i * e, e)) ((Array.range (parts.length * e)).map (ez.cells[· % ez.cells.size]!)) (parts.map fun x => (x.1, a.eval x.2)) = some out := by
    rw [inRow_zip 0 parts hi]; simpa using o1
  have hyl : ys.length = parts.length := by rw [l1, hpl]
  refine ⟨out, hyl, hc, ?_⟩
  simp only [execOp, Instr.buildSlice, Sem.run_bind, ht.under, he.sizeOf, Result.andThen_ok]
  rw [if_neg (by omega)]
  by_cases h0 : parts.length * e = 0
  · simp only [h0, if_true, Sem.run_bind, Sem.run_pure, Result.andThen_ok]
    rw [show (parts.toArray.map fun (x : Nat × Operand) => (x.1, a.eval x.2)).toList = parts.map fun x => (x.1, a.eval x.2) from by simp]
    have hnil : parts = [] := by
      rcases Nat.mul_eq_zero.1 h0 with h | h
      · exact List.length_eq_zero_iff.1 h
      · omega
    subst hnil
    have : out.toList = [] := by rw [hout]; rfl
    rw [this]
    simp only [List.length_nil, List.map_nil, Instr.fill, newRow, newObj, Sem.run_bind, Sem.run, Result.andThen_ok, Sem.run_pure, Array.range_zero', List.map_toArray, Array.map_empty]
    rfl
  · simp only [h0, if_false, Sem.run_bind, he.zero, Sem.run_pure, Result.andThen_ok]
    rw [show (parts.toArray.map fun (x : Nat × Operand) => (x.1, a.eval x.2)).toList = parts.map fun x => (x.1, a.eval x.2) from by simp]
    rw [hfill]
    simp only [newRow, newObj, Sem.run_bind, Sem.run, Result.andThen_ok, Sem.run_pure, Array.toArray_toList]
    rfl
/-- '[]E{x, y, ..}'. -/
theorem TriO.lit {t et : TypeId} {n : Nat} {parts : List (Nat × Operand)} {ps : List PV} {ys : List T} {sz bytes e ebytes : Nat} {z ez : Value} {ed : TypeDesc} [ht : TyIs P t (.slice et) sz bytes z] [he : TyIs P et ed e ebytes ez]
    (hp : parts.map (fun x => s.ev x.2) = ps) (hy : toTsAll ps = some ys) (hi : inRow 0 parts = true) (hn : parts.length = n) (hf : flatAll e ys = true) (hb : n * e ≤ 16777216) (he0 : 0 < e) (hN : Nat.blt d s.N = true)
    (hK : K ((s.alloc (.row e ys false)).put d (.ref s.n e 0 n n))) : TriO P ⟨some d, .buildSlice t n parts.toArray, ty, pos, af, g⟩ K s := by
  refine .gen rfl hN (fun B0 w0 φ0 F0 F φ a w hs => ?_)
  obtain ⟨out, hl, hc, hr⟩ := lit_run (P := P) (ty := ty) (d := d) (pos := pos) (af := af) (g := g) (t := t) hp hy hi hn hf hb he0 hs
  obtain ⟨hle, hs'⟩ := hs.row (rest := []) (t := et) (fz := false) hc
  rw [List.append_nil] at hs' hle
  refine ⟨_, _, s.alloc (.row e ys false), F, _, .ref s.n e 0 n n, hr, rfl, rfl, hs', ?_, hK⟩
  have hcl := hc.len
  rw [hl] at hcl
  have := VR.ref (F := F) (φ := φ.new s.n (w.heap.size, out.toList.toArray.size)) (b := s.n) (e := e) (off := 0) (len := n) (cap := n) (B := w.heap.size) (sz := out.toList.toArray.size) (c := n)
    (if_pos rfl) (Nat.le_refl _) (Nat.le_refl _) (by simp at hcl ⊢; omega)
  simpa using this

/-! ### parts of values -/
theorem PO.ext {x : Operand} {ps : List PV} {i : Nat} {p : PV} (hx : EvH H s x (.tup ps)) (hp : ps[i]? = some p) : PO P H ⟨some d, .extract x i, ty, pos, af, g⟩ s p := by
  intro hH B0 w0 φ0 F0 F φ a w hs
  have hv := hx.vr hH hs
  generalize hq : a.eval x = q at hv
  cases hv with
  | @tup _ vs hn h =>
    have hi : i < vs.size := by rw [← hn]; exact (List.getElem?_eq_some_iff.1 hp).1
    refine ⟨vs[i], ?_, h i p _ hp (Array.getElem?_eq_getElem hi)⟩
    simp only [execOp, hq, Instr.extract, Array.getElem?_eq_getElem hi, Sem.run_bind, Sem.run_pure, Result.andThen_ok]
theorem PO.nilchk {x : Operand} {b o : Nat} (hx : EvH H s x (.ptr b o)) : PO P H ⟨some d, .nilCheck x, ty, pos, af, g⟩ s (.ptr b o) := by
  intro hH B0 w0 φ0 F0 F φ a w hs
  have hv := hx.vr hH hs
  generalize hq : a.eval x = q at hv
  cases hv with
  | ptr hφ =>
    refine ⟨_, ?_, .ptr hφ⟩
    simp only [execOp, hq]; rfl
def PV.isAgg : PV → Bool
  | .agg _ | .t (.agg _) => true
  | _ => false
/-- A field of a struct's value (of one cell). -/
theorem PO.field {t ft : TypeId} {x : Operand} {f : Nat} {fs : Array Field} {off : Nat} {sz bytes fsz fbytes : Nat} {z fz : Value} {fd : TypeDesc} {p q : PV} [ht : TyIs P t (.struct fs) sz bytes z] (hx : EvH H s x p) (hp : p.known = true) (ha : fldAt fs.toList f = some (ft, off))
    (hft' : TyIs P ft fd fsz fbytes fz) (hd : aggD fd = false) (hagg : p.isAgg = true) (hq : p.leaves[off]? = some q) :
    PO P H ⟨some d, .field t x f, ty, pos, af, g⟩ s q := by
  obtain ⟨fl, ha2, hft, rfl⟩ := fldAt_spec ha
  intro hH B0 w0 φ0 F0 F φ a w hs
  have hv := hx.vr hH hs
  obtain ⟨h1, h2⟩ := hv.cells hp
  obtain ⟨u, hu, hr⟩ := h2 _ _ hq
  generalize he : a.eval x = v at hv hu
  have hv' : ∃ cs, v = .agg cs := by
    cases hv with
    | agg => exact ⟨_, rfl⟩
    | t h => cases h with
      | agg => exact ⟨_, rfl⟩
      | _ => cases hagg
    | _ => cases hagg
  obtain ⟨cs, rfl⟩ := hv'
  subst hft
  refine ⟨u, ?_, hr⟩
  simp only [Value.cells] at hu
  simp only [execOp, he, Instr.field, Sem.run_bind, ht.under, Result.andThen_ok, ha2, asAgg, Sem.run_pure, part, isAgg_run hft', hd, Bool.false_eq_true, if_false, hu]

/-! ### slicing -/
theorem sub_row {F : FMem} {n : Bool} {xs : List T} {v : Value} (h : TR F (.sl n xs) v) : ∃ base c, v = .slice base xs.length c ∧ xs.length ≤ c ∧ (base = none → n = true ∧ xs = [] ∧ c = 0) ∧
    ∀ (size l k m : Nat), l ≤ k → k ≤ xs.length → k ≤ m → m ≤ c → (∀ (i : Nat) (x : T), xs[i]? = some x → x.leaves.length = size) →
      ∃ n', TR F (.sl n' ((xs.drop l).take (k - l))) (.slice (if m = l then base else base.map (·.add (l * size))) (k - l) (m - l)) ∧ n' = n := by
  cases h with
  | nil => exact ⟨none, 0, rfl, Nat.le_refl _, fun _ => ⟨rfl, rfl, rfl⟩, fun size l k m h1 h2 h3 h4 he => ⟨true, by
      obtain rfl : k = 0 := by simpa using h2
      obtain rfl : l = 0 := by omega
      obtain rfl : m = 0 := by omega
      simpa using TR.nil, rfl⟩⟩
  | @sl0 a0 c =>
    refine ⟨some a0, c, rfl, Nat.zero_le _, (fun h => by cases h), fun size l k m h1 h2 h3 h4 he => ⟨false, ?_, rfl⟩⟩
    obtain rfl : k = 0 := by simpa using h2
    obtain rfl : l = 0 := by omega
    split <;> exact .sl0
  | @sl _ B o e c us hc he' hF hu =>
    have hr : RowAt F xs B o e us := ⟨he', hF, hu⟩
    refine ⟨some ⟨B, o, none⟩, c, rfl, hc, (fun h => by cases h), fun size l k m h1 h2 h3 h4 he => ⟨false, ?_, rfl⟩⟩
    have hlen : ((xs.drop l).take (k - l)).length = k - l := by simp; omega
    by_cases hxs : xs = []
    · subst hxs
      have hk : k = 0 := by simpa using h2
      subst hk
      have hl : l = 0 := by omega
      subst hl
      split
      · exact RowAt.tr (xs := []) (us := us) (e := e) ⟨fun i x h => by simp at h, fun i x j p h => by simp at h, fun i x j p h => by simp at h⟩ (by simp)
      · simp only [Option.map_some, Addr.add_mid]
        exact RowAt.tr (xs := []) (us := us) (e := e) ⟨fun i x h => by simp at h, fun i x j p h => by simp at h, fun i x j p h => by simp at h⟩ (by simp)
    · have hse : size = e := by
        obtain ⟨x, hx⟩ : ∃ x, xs[0]? = some x := by
          cases xs with
          | nil => exact absurd rfl hxs
          | cons x t => exact ⟨x, rfl⟩
        rw [← he 0 x hx, he' 0 x hx]
      subst hse
      split
      · rename_i hm
        have : k - l = 0 := by omega
        rw [this, List.take_zero]
        exact RowAt.tr (xs := []) (us := us) (e := size) ⟨fun i x h => by simp at h, fun i x j p h => by simp at h, fun i x j p h => by simp at h⟩ (by simp)
      · simp only [Option.map_some, Addr.add_mid]
        have := (hr.part l (k - l)).tr (c := m - l) (by rw [hlen]; omega)
        rwa [hlen] at this
/-- The bounds of a cut. -/
structure Cut (H : Prop) (s : St) (len : Nat) (low high : Option Operand) (l k : Nat) : Prop where
  low : match low with | none => l = 0 | some x => ∃ q i, EvH H s x (.t (.v (.int q i))) ∧ 0 ≤ i ∧ l = i.toNat
  high : match high with | none => k = len | some x => ∃ q i, EvH H s x (.t (.v (.int q i))) ∧ 0 ≤ i ∧ k = i.toNat
theorem cut_run (hH : H) {B0 : Nat} {w0 : World} {φ0 : Phi} {F0 : FMem} {F : FMem} {φ : Phi} {a : Act} {w : World} (hs : Sim B0 w0 φ0 F0 s F φ a w) {len cap : Nat} {low high : Option Operand} {l k : Nat} (hc : Cut H s len low high l k) (h1 : l ≤ k) (h2 : k ≤ cap) (isS : Bool) :
    (Instr.sliceBounds isS len cap (low.map a.eval) (high.map a.eval) none).run P w = .ok (l, k, cap) w := by
  have hsb : ∀ (x : Operand) (n m : Nat) (code : BoundsCode), (∃ q i, EvH H s x (.t (.v (.int q i))) ∧ 0 ≤ i ∧ n = i.toNat) → n ≤ m → (Instr.sliceBound (a.eval x) m code).run P w = .ok n w := by
    rintro x n m code ⟨q, i, hx, h0, rfl⟩ hm
    have := (evv hH hs hx).1
    simp only [Instr.sliceBound, this, asIntOf, Sem.run_bind, Sem.run_pure, Result.andThen_ok]
    rw [if_pos ⟨h0, by omega⟩]; rfl
  cases high with
  | none =>
    have hk := hc.high; simp only at hk; subst hk
    cases low with
    | none => have hl := hc.low; simp only at hl; subst hl; simp [Instr.sliceBounds]
    | some x => simp [Instr.sliceBounds, hsb x l k _ hc.low h1]
  | some y =>
    cases low with
    | none => have hl := hc.low; simp only at hl; subst hl; simp [Instr.sliceBounds, hsb y k cap _ hc.high h2]
    | some x => simp [Instr.sliceBounds, hsb y k cap _ hc.high h2, hsb x l k _ hc.low h1]
/-- 'xs[l:k]' of a list that came in. -/
theorem PX.cut {t et : TypeId} {x : Operand} {low high : Option Operand} {n : Bool} {xs : List T} {l k : Nat} {sz bytes e ebytes : Nat} {z ez : Value} {ed : TypeDesc} [ht : TyIs P t (.slice et) sz bytes z] [he : TyIs P et ed e ebytes ez]
    (hx : EvH H s x (.t (.sl n xs))) (hc : Cut H s xs.length low high l k) (h1 : l ≤ k) (h2 : k ≤ xs.length) (hel : ∀ (i : Nat) (x : T), xs[i]? = some x → x.leaves.length = e) : PO P H ⟨some d, .slice t x low high none, ty, pos, af, g⟩ s (.t (.sl n ((xs.drop l).take (k - l)))) := by
  intro hH B0 w0 φ0 F0 F φ a w hs
  have hv := hx.vr hH hs
  generalize hq : a.eval x = q at hv
  cases hv with
  | t h =>
    obtain ⟨base, c, rfl, hcap, hnone, hsub⟩ := sub_row h
    obtain ⟨n', htr, rfl⟩ := hsub e l k c h1 h2 (by omega) (Nat.le_refl _) hel
    refine ⟨_, ?_, .t htr⟩
    simp only [execOp, hq, Instr.sliceAt, Instr.slice, Sem.run_bind, ht.under, Result.andThen_ok, Option.map_none]
    rw [cut_run hH hs hc h1 (by omega)]
    simp only [Result.andThen_ok, he.sizeOf]; rfl
/-- 's[l:k]' of a string. -/
theorem PX.cutS {t : TypeId} {x : Operand} {low high : Option Operand} {b : ByteArray} {l k : Nat} {sz bytes : Nat} {z : Value} [ht : TyIs P t .string sz bytes z]
    (hx : EvH H s x (.t (.v (.string b)))) (hc : Cut H s b.size low high l k) (h1 : l ≤ k) (h2 : k ≤ b.size) : PO P H ⟨some d, .slice t x low high none, ty, pos, af, g⟩ s (.t (.v (.string (b.extract l k)))) := by
  intro hH B0 w0 φ0 F0 F φ a w hs
  have hq := (evv hH hs hx).1
  refine ⟨_, ?_, .t (.v rfl)⟩
  simp only [execOp, hq, Instr.sliceAt, Instr.slice, Sem.run_bind, ht.under, Result.andThen_ok, Option.map_none, Option.isSome_none, Bool.false_eq_true, if_false, Sem.run_pure]
  rw [cut_run hH hs hc h1 h2]
  simp only [Result.andThen_ok, Sem.run_pure]
/-- 'xs[l:k]' of a row of our own. -/
theorem PX.cutR {t et : TypeId} {x : Operand} {low high : Option Operand} {b off len cap l k : Nat} {sz bytes e ebytes : Nat} {z ez : Value} {ed : TypeDesc} [ht : TyIs P t (.slice et) sz bytes z] [he : TyIs P et ed e ebytes ez]
    (hx : EvH H s x (.ref b e off len cap)) (hc : Cut H s len low high l k) (h1 : l ≤ k) (h2 : k ≤ cap) (h3 : l < cap) : PO P H ⟨some d, .slice t x low high none, ty, pos, af, g⟩ s (.ref b e (off + l) (k - l) (cap - l)) := by
  intro hH B0 w0 φ0 F0 F φ a w hs
  have hv := hx.vr hH hs
  generalize hq : a.eval x = q at hv
  cases hv with
  | @ref _ _ _ _ _ B sz' c hφ k1 k2 k3 =>
    refine ⟨.slice (some ⟨B, (off + l) * e, none⟩) (k - l) (c - l), ?_, .ref hφ (by omega) (by omega) ?_⟩
    · simp only [execOp, hq, Instr.sliceAt, Instr.slice, Sem.run_bind, ht.under, Result.andThen_ok, Option.map_none]
      rw [cut_run hH hs hc h1 (by omega)]
      simp only [Result.andThen_ok, he.sizeOf, Sem.run_pure, Sem.run_bind]
      rw [if_neg (by omega)]
      simp only [Option.map_some, Addr.add_mid, Nat.add_mul]
    · have : (off + l) * e + (c - l) * e = off * e + c * e := by rw [← Nat.add_mul, ← Nat.add_mul]; congr 1; omega
      omega
/-! the shapes -/
theorem PO.cutHi {t et : TypeId} {x y : Operand} {n : Bool} {xs : List T} {q : IntKind} {j : Int} {sz bytes e ebytes : Nat} {z ez : Value} {ed : TypeDesc} [ht : TyIs P t (.slice et) sz bytes z] [he : TyIs P et ed e ebytes ez]
    (hx : EvH H s x (.t (.sl n xs))) (hy : EvH H s y (.t (.v (.int q j)))) (h0 : H → 0 ≤ j) (h2 : H → j ≤ xs.length) (hel : H → ∀ (i : Nat) (x : T), xs[i]? = some x → x.leaves.length = e) :
    PO P H ⟨some d, .slice t x none (some y) none, ty, pos, af, g⟩ s (.t (.sl n (xs.take j.toNat))) := by
  intro hH
  have h1 := h0 hH; have h3 := h2 hH
  have := PX.cut (P := P) (d := d) (ty := ty) (pos := pos) (af := af) (g := g) (t := t) (low := none) (high := some y) (l := 0) (k := j.toNat) hx ⟨rfl, q, j, hy, h0 hH, rfl⟩ (Nat.zero_le _) (by omega) (hel hH) hH
  simpa using this
theorem PO.cutLo {t et : TypeId} {x y : Operand} {n : Bool} {xs : List T} {q : IntKind} {j : Int} {sz bytes e ebytes : Nat} {z ez : Value} {ed : TypeDesc} [ht : TyIs P t (.slice et) sz bytes z] [he : TyIs P et ed e ebytes ez]
    (hx : EvH H s x (.t (.sl n xs))) (hy : EvH H s y (.t (.v (.int q j)))) (h0 : H → 0 ≤ j) (h2 : H → j ≤ xs.length) (hel : H → ∀ (i : Nat) (x : T), xs[i]? = some x → x.leaves.length = e) :
    PO P H ⟨some d, .slice t x (some y) none none, ty, pos, af, g⟩ s (.t (.sl n (xs.drop j.toNat))) := by
  intro hH
  have h1 := h0 hH; have h3 := h2 hH
  have := PX.cut (P := P) (d := d) (ty := ty) (pos := pos) (af := af) (g := g) (t := t) (low := some y) (high := none) (l := j.toNat) (k := xs.length) hx ⟨⟨q, j, hy, h0 hH, rfl⟩, rfl⟩ (by omega) (Nat.le_refl _) (hel hH) hH
  rwa [List.take_of_length_le (by simp)] at this
theorem PO.cutLH {t et : TypeId} {x y u : Operand} {n : Bool} {xs : List T} {q q' : IntKind} {i j : Int} {sz bytes e ebytes : Nat} {z ez : Value} {ed : TypeDesc} [ht : TyIs P t (.slice et) sz bytes z] [he : TyIs P et ed e ebytes ez]
    (hx : EvH H s x (.t (.sl n xs))) (hy : EvH H s y (.t (.v (.int q i)))) (hu : EvH H s u (.t (.v (.int q' j)))) (h0 : H → 0 ≤ i) (hij : H → i ≤ j) (h2 : H → j ≤ xs.length) (hel : H → ∀ (i : Nat) (x : T), xs[i]? = some x → x.leaves.length = e) :
    PO P H ⟨some d, .slice t x (some y) (some u) none, ty, pos, af, g⟩ s (.t (.sl n ((xs.drop i.toNat).take (j.toNat - i.toNat)))) := by
  intro hH
  have h1 := h0 hH; have h3 := h2 hH; have h4 := hij hH
  exact PX.cut (P := P) (d := d) (ty := ty) (pos := pos) (af := af) (g := g) (t := t) (low := some y) (high := some u) (l := i.toNat) (k := j.toNat) hx ⟨⟨q, i, hy, h0 hH, rfl⟩, q', j, hu, by omega, rfl⟩ (by omega) (by omega) (hel hH) hH
theorem PO.cutSHi {t : TypeId} {x y : Operand} {b : ByteArray} {q : IntKind} {j : Int} {sz bytes : Nat} {z : Value} [ht : TyIs P t .string sz bytes z]
    (hx : EvH H s x (.t (.v (.string b)))) (hy : EvH H s y (.t (.v (.int q j)))) (h0 : H → 0 ≤ j) (h2 : H → j ≤ b.size) : PO P H ⟨some d, .slice t x none (some y) none, ty, pos, af, g⟩ s (.t (.v (.string (b.extract 0 j.toNat)))) := by
  intro hH
  have h1 := h0 hH; have h3 := h2 hH
  exact PX.cutS (P := P) (d := d) (ty := ty) (pos := pos) (af := af) (g := g) (t := t) (low := none) (high := some y) (l := 0) (k := j.toNat) hx ⟨rfl, q, j, hy, h0 hH, rfl⟩ (Nat.zero_le _) (by omega) hH
theorem PO.cutSLo {t : TypeId} {x y : Operand} {b : ByteArray} {q : IntKind} {j : Int} {sz bytes : Nat} {z : Value} [ht : TyIs P t .string sz bytes z]
    (hx : EvH H s x (.t (.v (.string b)))) (hy : EvH H s y (.t (.v (.int q j)))) (h0 : H → 0 ≤ j) (h2 : H → j ≤ b.size) : PO P H ⟨some d, .slice t x (some y) none none, ty, pos, af, g⟩ s (.t (.v (.string (b.extract j.toNat b.size)))) := by
  intro hH
  have h1 := h0 hH; have h3 := h2 hH
  exact PX.cutS (P := P) (d := d) (ty := ty) (pos := pos) (af := af) (g := g) (t := t) (low := some y) (high := none) (l := j.toNat) (k := b.size) hx ⟨⟨q, j, hy, h0 hH, rfl⟩, rfl⟩ (by omega) (Nat.le_refl _) hH
theorem PO.cutSLH {t : TypeId} {x y u : Operand} {b : ByteArray} {q q' : IntKind} {i j : Int} {sz bytes : Nat} {z : Value} [ht : TyIs P t .string sz bytes z]
    (hx : EvH H s x (.t (.v (.string b)))) (hy : EvH H s y (.t (.v (.int q i)))) (hu : EvH H s u (.t (.v (.int q' j)))) (h0 : H → 0 ≤ i) (h1 : H → i ≤ j) (h2 : H → j ≤ b.size) :
    PO P H ⟨some d, .slice t x (some y) (some u) none, ty, pos, af, g⟩ s (.t (.v (.string (b.extract i.toNat j.toNat)))) := by
  intro hH
  have h3 := h0 hH; have h4 := h1 hH; have h5 := h2 hH
  exact PX.cutS (P := P) (d := d) (ty := ty) (pos := pos) (af := af) (g := g) (t := t) (low := some y) (high := some u) (l := i.toNat) (k := j.toNat) hx ⟨⟨q, i, hy, h0 hH, rfl⟩, q', j, hu, by omega, rfl⟩ (by omega) (by omega) hH
/-- 'xs[:j]' of a row of our own. -/
theorem PO.cutRHi {t et : TypeId} {x y : Operand} {b off len cap : Nat} {q : IntKind} {j : Int} {sz bytes e ebytes : Nat} {z ez : Value} {ed : TypeDesc} [ht : TyIs P t (.slice et) sz bytes z] [he : TyIs P et ed e ebytes ez]
    (hx : EvH H s x (.ref b e off len cap)) (hy : EvH H s y (.t (.v (.int q j)))) (h0 : H → 0 ≤ j) (h2 : H → j ≤ cap) (h3 : 0 < cap) : PO P H ⟨some d, .slice t x none (some y) none, ty, pos, af, g⟩ s (.ref b e off j.toNat cap) := by
  intro hH
  have h1 := h0 hH; have h4 := h2 hH
  have := PX.cutR (P := P) (d := d) (ty := ty) (pos := pos) (af := af) (g := g) (t := t) (low := none) (high := some y) (l := 0) (k := j.toNat) hx ⟨rfl, q, j, hy, h0 hH, rfl⟩ (Nat.zero_le _) (by omega) h3 hH
  simpa using this

/-! ### max, min; floats; shifts -/
theorem PO.max {k : IntKind} {t t' : TypeId} {x y : Operand} {m n : Int} (hx : EvH H s x (.t (.v (.int k m)))) (hy : EvH H s y (.t (.v (.int k n)))) : PO P H ⟨some d, .call ⟨.builtin .max, #[x, y], #[t, t']⟩, ty, pos, af, g⟩ s (.t (.v (.int k (Max.max m n)))) := by
  refine .blt (fun hH _ _ _ _ _ _ a w hs => ⟨.int k (Max.max m n), ?_, .t (.v rfl)⟩)
  have e1 := (evv hH hs hx).1
  have e2 := (evv hH hs hy).1
  simp only [builtin, List.map_toArray, List.map_cons, List.map_nil, e1, e2, Builtin.max_, Builtin.max2, List.foldlM_cons, List.foldlM_nil, Sem.run_bind, Sem.run_pure, Result.andThen_ok, gt_iff_lt]
  by_cases h : m < n
  · simp [h, Int.max_eq_right (Int.le_of_lt h)]
  · simp [h, Int.max_eq_left (Int.not_lt.1 h)]
theorem PO.min {k : IntKind} {t t' : TypeId} {x y : Operand} {m n : Int} (hx : EvH H s x (.t (.v (.int k m)))) (hy : EvH H s y (.t (.v (.int k n)))) : PO P H ⟨some d, .call ⟨.builtin .min, #[x, y], #[t, t']⟩, ty, pos, af, g⟩ s (.t (.v (.int k (Min.min m n)))) := by
  refine .blt (fun hH _ _ _ _ _ _ a w hs => ⟨.int k (Min.min m n), ?_, .t (.v rfl)⟩)
  have e1 := (evv hH hs hx).1
  have e2 := (evv hH hs hy).1
  simp only [builtin, List.map_toArray, List.map_cons, List.map_nil, e1, e2, Builtin.min_, Builtin.min2, List.foldlM_cons, List.foldlM_nil, Sem.run_bind, Sem.run_pure, Result.andThen_ok]
  by_cases h : n < m
  · simp [h, Int.min_eq_right (Int.le_of_lt h)]
  · simp [h, Int.min_eq_left (Int.not_lt.1 h)]
theorem PO.imag {k : FloatKind} {t : TypeId} {x : Operand} {re im : Nat} (hx : EvH H s x (.t (.v (.complex k re im)))) : PO P H ⟨some d, .call ⟨.builtin .imag, #[x], #[t]⟩, ty, pos, af, g⟩ s (.t (.v (.float k im))) := by
  refine .blt (fun hH _ _ _ _ _ _ a w hs => ⟨.float k im, ?_, .t (.v rfl)⟩)
  have e1 := (evv hH hs hx).1
  simp only [builtin, List.map_toArray, List.map_cons, List.map_nil, e1, Sem.run_bind]; rfl
theorem PO.real {k : FloatKind} {t : TypeId} {x : Operand} {re im : Nat} (hx : EvH H s x (.t (.v (.complex k re im)))) : PO P H ⟨some d, .call ⟨.builtin .real, #[x], #[t]⟩, ty, pos, af, g⟩ s (.t (.v (.float k re))) := by
  refine .blt (fun hH _ _ _ _ _ _ a w hs => ⟨.float k re, ?_, .t (.v rfl)⟩)
  have e1 := (evv hH hs hx).1
  simp only [builtin, List.map_toArray, List.map_cons, List.map_nil, e1, Sem.run_bind]; rfl
theorem PO.cplx {k : FloatKind} {t t' : TypeId} {x y : Operand} {re im : Nat} (hx : EvH H s x (.t (.v (.float k re)))) (hy : EvH H s y (.t (.v (.float k im)))) : PO P H ⟨some d, .call ⟨.builtin .complex, #[x, y], #[t, t']⟩, ty, pos, af, g⟩ s (.t (.v (.complex k re im))) := by
  refine .blt (fun hH _ _ _ _ _ _ a w hs => ⟨.complex k re im, ?_, .t (.v rfl)⟩)
  have e1 := (evv hH hs hx).1
  have e2 := (evv hH hs hy).1
  simp only [builtin, List.map_toArray, List.map_cons, List.map_nil, e1, e2, Sem.run_bind]
  have e : Builtin.complex_ #[t, t'] ty #[.float k re, .float k im] = (if k = k then pure (.complex k re im) else stuck "complex: parts of different kinds") := rfl
  rw [e, if_pos rfl]; rfl
theorem PO.i2f {src dst : TypeId} {x : Operand} {q : IntKind} {k : FloatKind} {n : Int} {ds : TypeDesc} {sz bytes sz' bytes' : Nat} {z z' : Value} [hs1 : TyIs P src ds sz bytes z] [ht : TyIs P dst (.float k) sz' bytes' z']
    (hx : EvH H s x (.t (.v (.int q n)))) : PO P H ⟨some d, .convert src dst x, ty, pos, af, g⟩ s (.t (.v (.float k (floatOfInt k n)))) := by
  intro hH _ _ _ _ _ _ a w hs; refine ⟨.float k (floatOfInt k n), ?_, .t (.v rfl)⟩
  have h1 := (evv hH hs hx).1
  simp only [execOp, h1, Sem.run_bind]
  rw [run_convert_int_float w src dst q k n (by rw [hs1.und]; rfl) ht.und]; rfl
theorem PO.f2i {src dst : TypeId} {x : Operand} {q : IntKind} {k : FloatKind} {u : Nat} {n : Int} {ds : TypeDesc} {sz bytes sz' bytes' : Nat} {z z' : Value} [hs1 : TyIs P src ds sz bytes z] [ht : TyIs P dst (.int q) sz' bytes' z']
    (hx : EvH H s x (.t (.v (.float k u)))) (hn : H → floatToIntVal k u q = some n) : PO P H ⟨some d, .convert src dst x, ty, pos, af, g⟩ s (.t (.v (.int q n))) := by
  intro hH _ _ _ _ _ _ a w hs; refine ⟨.int q n, ?_, .t (.v rfl)⟩
  have h1 := (evv hH hs hx).1
  simp only [execOp, h1, Sem.run_bind]
  rw [run_convert_float_int w src dst k q u n (by rw [hs1.und]; rfl) ht.und (hn hH)]; rfl
theorem PO.shl {k k' : IntKind} {t t' : TypeId} {x y : Operand} {m n : Int} (hx : EvH H s x (.t (.v (.int k m)))) (hy : EvH H s y (.t (.v (.int k' n)))) (h0 : H → 0 ≤ n) : PO P H ⟨some d, .binOp .shl t x y t', ty, pos, af, g⟩ s (.t (.v (.int k (k.wrap (m * 2 ^ Nat.min n.toNat k.bits))))) := by
  intro hH _ _ _ _ _ _ a w hs; refine ⟨.int k (k.wrap (m * 2 ^ Nat.min n.toNat k.bits)), ?_, .t (.v rfl)⟩
  have e1 := (evv hH hs hx).1
  have e2 := (evv hH hs hy).1
  simp only [execOp, e1, e2, binOp, shift_shl_any k k' m n (h0 hH), Sem.run_bind, Sem.run_pure, Result.andThen_ok]; rfl
theorem PO.shr {k k' : IntKind} {t t' : TypeId} {x y : Operand} {m n : Int} (hx : EvH H s x (.t (.v (.int k m)))) (hy : EvH H s y (.t (.v (.int k' n)))) (h0 : H → 0 ≤ n) : PO P H ⟨some d, .binOp .shr t x y t', ty, pos, af, g⟩ s (.t (.v (.int k (m / 2 ^ Nat.min n.toNat k.bits)))) := by
  intro hH _ _ _ _ _ _ a w hs; refine ⟨.int k (m / 2 ^ Nat.min n.toNat k.bits), ?_, .t (.v rfl)⟩
  have e1 := (evv hH hs hx).1
  have e2 := (evv hH hs hy).1
  simp only [execOp, e1, e2, binOp, shift_shr_any k k' m n (h0 hH), Sem.run_bind, Sem.run_pure, Result.andThen_ok]; rfl
end ops
end Go.Proofs.YtaplmmhkpljmkaaDoor.E
