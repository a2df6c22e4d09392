/- The engine: structs built of parts, nil lists, lists that are not written any more, results in cells. -/
import Derived.Test.YtmhbibfkhbaclaaGreatDoorK2
import Derived.Laws.Tables
import Derived.Laws.MakeOwn
import Derived.WalkSpells
import Derived.Laws.IdiomStrings
import Derived.Laws.BytesArg
namespace Go.Proofs.YtmhbibfkhbaclaaGreatDoor.E
open Go Go.RowKit
set_option linter.unusedVariables false
set_option linter.unusedSimpArgs false
variable {P : Program}

/-! ### a struct out of its parts -/
/-- Where a struct's fields lie. -/
class PlIs (P : Program) (t : TypeId) (fs : Array Field) (pl : outParam (List (Nat × Nat))) : Prop where
  at_ : fs.toList.mapM (fun f => (P.info? f.type).map fun i => (f.offset, i.size)) = some pl
def fillP (pl : List (Nat × Nat)) : List PV → List (Nat × PV) → Option (List PV)
  | cs, [] => some cs
  | cs, (i, p) :: l => match pl[i]? with
    | some (o, n) => bif p.known && (p.leaves.length == n) && Nat.ble (o + n) cs.length then fillP pl (cs.take o ++ p.leaves ++ cs.drop (o + n)) l else none
    | none => none
theorem fill_one (o : Nat) (v : Value) (cells : Array Value) (h : o + v.cells.size ≤ cells.size) :
    (v.cells.zipIdx.foldl (fun cs (x : Value × Nat) => cs.setIfInBounds (o + x.2) x.1) cells).toList = cells.toList.take o ++ v.cells.toList ++ cells.toList.drop (o + v.cells.size) := by
  have key : ∀ (l : List Value) (q : Nat) (cs : Array Value), o + q + l.length ≤ cs.size →
      ((l.zipIdx q).foldl (fun cs (x : Value × Nat) => cs.setIfInBounds (o + x.2) x.1) cs).toList = cs.toList.take (o + q) ++ l ++ cs.toList.drop (o + q + l.length) := by
    intro l
    induction l with
    | nil => intro o cs _; simp
    | cons x l ih =>
      intro q cs hle
      simp only [List.zipIdx_cons, List.foldl_cons]
      have hle' : o + (q + 1) + l.length ≤ cs.size := by simp only [List.length_cons] at hle; omega
      rw [ih (q + 1) _ (by simpa using hle')]
      have h := list_seg_step cs.toList (o + q) x l (by simp only [Array.length_toList]; omega)
      simp only [Array.toList_setIfInBounds]
      rw [show o + (q + 1) = o + q + 1 from by omega]
      simpa using h
  have := key v.cells.toList 0 cells (by simp; omega)
  rw [← Array.foldl_toList, Array.toList_zipIdx]
  simpa using this
theorem fillP_spec {F : FMem} {φ : Phi} {pl : List (Nat × Nat)} {f : Operand → Value} : ∀ {l : List (Nat × Operand)} {g : Operand → PV} {cs : List PV} {qs : List PV} {cells : Array Value}, (∀ x, VR F φ (g x) (f x)) → fillP pl cs (l.map fun x => (x.1, g x.2)) = some qs → cs.length = cells.size →
    (∀ (i : Nat) (p : PV), cs[i]? = some p → ∃ u, cells[i]? = some u ∧ VR F φ p u) → ∃ out, Instr.fill (pl.toArray[·]?) cells (l.map fun x => (x.1, f x.2)) = some out ∧ qs.length = out.size ∧ ∀ (i : Nat) (p : PV), qs[i]? = some p → ∃ u, out[i]? = some u ∧ VR F φ p u
  | [], g, cs, qs, cells, hg, h, hl, hc => by cases h; exact ⟨cells, rfl, hl, hc⟩
  | (i, x) :: l, g, cs, qs, cells, hg, h, hl, hc => by
    simp only [List.map_cons, fillP] at h
    cases hpl : pl[i]? with
    | none => rw [hpl] at h; cases h
    | some on =>
      obtain ⟨o, n⟩ := on
      rw [hpl] at h
      simp only [Bool.cond_eq_ite] at h
      split at h
      · rename_i hb
        simp only [Bool.and_eq_true, beq_iff_eq, Nat.ble_eq] at hb
        obtain ⟨⟨hk, hn⟩, hle⟩ := hb
        obtain ⟨h1, h2⟩ := (hg x).cells hk
        have h1' : (f x).cells.size = n := by omega
        have hin : o + (f x).cells.size ≤ cells.size := by omega
        have ho := fill_one o (f x) cells hin
        generalize hc' : (f x).cells.zipIdx.foldl (fun cs (x : Value × Nat) => cs.setIfInBounds (o + x.2) x.1) cells = cells' at ho
        have hlen : cells'.size = cells.size := by
          have := congrArg List.length ho
          simp at this; omega
        obtain ⟨out, e1, e2, e3⟩ := fillP_spec (l := l) (cells := cells') hg h (by simp; omega) (fun j p hp => by
          rw [← hn] at hp
          rw [splice_get (by omega)] at hp
          have e4 : cells'[j]? = (cells.toList.take o ++ (f x).cells.toList ++ cells.toList.drop (o + (f x).cells.toList.length))[j]? := by
            rw [← Array.getElem?_toList, ho]; simp
          rw [e4, splice_get (by simp; omega)]
          have e5 : (f x).cells.toList.length = (g x).leaves.length := by simp [h1]
          rw [e5]
          by_cases c1 : j < o
          · rw [if_pos c1] at hp ⊢
            obtain ⟨u, hu, hvr⟩ := hc j p hp; exact ⟨u, by simpa using hu, hvr⟩
          · rw [if_neg c1] at hp ⊢
            by_cases c2 : j < o + (g x).leaves.length
            · rw [if_pos c2] at hp ⊢
              obtain ⟨u, hu, hvr⟩ := h2 _ p hp
              exact ⟨u, by simpa using hu, hvr⟩
            · rw [if_neg c2] at hp ⊢
              obtain ⟨u, hu, hvr⟩ := hc j p hp; exact ⟨u, by simpa using hu, hvr⟩)
        refine ⟨out, ?_, e2, e3⟩
        simp only [List.map_cons, Instr.fill]
        rw [show pl.toArray[i]? = some (o, n) by simpa using hpl]
        simp only
        rw [if_neg (by simp; omega), hc']
        exact e1
      · cases h

section ops
variable {d ty : Nat} {pos : String} {af : Array Edge} {g : Option (Nat × Bool)} {K : St → Prop} {s : St} {H : Prop}
theorem PO.build {t : TypeId} {fs : Array Field} {pl : List (Nat × Nat)} {parts : List (Nat × Operand)} {sz bytes : Nat} {z : Value} {zs qs : List PV} {q : PV} [ht : TyIs P t (.struct fs) sz bytes z] [hpl : PlIs P t fs pl]
    (hz : (ofConst z).leaves = zs) (hzk : (ofConst z).known = true) (hq : fillP pl zs (parts.map fun x => (x.1, s.ev x.2)) = some qs) (hr : mkAgg qs = q) : PO P True ⟨some d, .build t parts.toArray, ty, pos, af, g⟩ s q := by
  intro _ B0 w0 φ0 F0 F φ a w hs
  have hv : VR F φ (ofConst z) z := ofConst_vr z
  obtain ⟨h1, h2⟩ := hv.cells hzk
  rw [hz] at h1 h2
  obtain ⟨out, e1, e2, e3⟩ := fillP_spec (f := a.eval) (g := s.ev) (cells := z.cells) (fun x => hs.ev x) hq h1 h2
  refine ⟨.agg out, ?_, ?_⟩
  · obtain ⟨i, i1, i2, i3, i4⟩ := ht.inf
    have hb := run_build (P := P) w t (parts.toArray.map fun (x : Nat × Operand) => (x.1, a.eval x.2)) out (by
      unfold Program.built
      rw [i1, ht.und]
      simp only [i2, hpl.at_]
      simpa using e1)
    simp only [execOp, Sem.run_bind]
    rw [hb]; rfl
  · rw [← hr]
    refine mkAgg_vr e2 (fun i p u hp hu => ?_)
    obtain ⟨u', hu', hvr⟩ := e3 i p hp
    rw [hu] at hu'; cases hu'; exact hvr
theorem U.build {ops : Array Oper} {l_ : List Oper} {tm_ : List (Nat × PV)} {N_ lo_ n_ : Nat} {hp_ : List (Nat × Blk)} {t : TypeId} {fs : Array Field} {pl : List (Nat × Nat)} {parts : List (Nat × Operand)} {sz bytes : Nat} {z : Value} {zs qs : List PV} {q : PV} [ht : TyIs P t (.struct fs) sz bytes z] [hpl : PlIs P t fs pl]
    (hz : (ofConst z).leaves = zs) (hzk : (ofConst z).known = true) (hq : fillP pl zs (parts.map fun x => (x.1, evt tm_ x.2)) = some qs) (hr : mkAgg qs = q) (hN : Nat.blt d N_ = true) (hK : TriL P ops l_ K ⟨(d, q) :: tm_, N_, hp_, lo_, n_⟩) :
    TriL P ops (⟨some d, .build t parts.toArray, ty, pos, af, none⟩ :: l_) K ⟨tm_, N_, hp_, lo_, n_⟩ :=
  .vo rfl rfl hN (PO.build (s := ⟨tm_, N_, hp_, lo_, n_⟩) hz hzk hq hr).vo hK

/-! ### nil lists -/
theorem tr_nil {F : FMem} {v : Value} (h : TR F (.sl true []) v) : v = .slice none 0 0 := by cases h; rfl
theorem tr_sl {F : FMem} {n : Bool} {xs : List T} {v : Value} (h : TR F (.sl n xs) v) : ∃ a l c, v = .slice a l c ∧ a.isNone = n := by cases h <;> exact ⟨_, _, _, rfl, rfl⟩
theorem PO.eqNil {t et t' : TypeId} {x y : Operand} {n : Bool} {xs : List T} {sz bytes : Nat} {z : Value} [ht : TyIs P t (.slice et) sz bytes z] (hx : EvH H s x (.t (.sl n xs))) (hy : EvH H s y (.t (.sl true []))) : PO P H ⟨some d, .binOp .eql t x y t', ty, pos, af, g⟩ s (.t (.v (.bool n))) := by
  intro hH B0 w0 φ0 F0 F φ a w hs
  refine ⟨.bool n, ?_, .t (.v rfl)⟩
  have h1 := hx.vr hH hs
  have h2 := hy.vr hH hs
  generalize he : a.eval x = u at h1
  generalize hf : a.eval y = v at h2
  cases h1 with | t h1 => cases h2 with | t h2 =>
  obtain ⟨aa, l, c, rfl, rfl⟩ := tr_sl h1
  obtain rfl := tr_nil h2
  have hr := Lib.run_eql_slice_nil w t et aa l c 0 0 ht.und
  simp only [execOp, he, hf, Sem.run_bind]
  have : (eqGuard .eql t x y (.slice aa l c) (.slice none 0 0)) = (pure () : Sem Unit) := by simp [eqGuard]
  simp only [this, Sem.run_pure, Result.andThen_ok, hr]
theorem PO.neNil {t et t' : TypeId} {x y : Operand} {n : Bool} {xs : List T} {sz bytes : Nat} {z : Value} [ht : TyIs P t (.slice et) sz bytes z] (hx : EvH H s x (.t (.sl n xs))) (hy : EvH H s y (.t (.sl true []))) : PO P H ⟨some d, .binOp .neq t x y t', ty, pos, af, g⟩ s (.t (.v (.bool (!n)))) := by
  intro hH B0 w0 φ0 F0 F φ a w hs
  refine ⟨.bool (!n), ?_, .t (.v rfl)⟩
  have h1 := hx.vr hH hs
  have h2 := hy.vr hH hs
  generalize he : a.eval x = u at h1
  generalize hf : a.eval y = v at h2
  cases h1 with | t h1 => cases h2 with | t h2 =>
  obtain ⟨aa, l, c, rfl, rfl⟩ := tr_sl h1
  obtain rfl := tr_nil h2
  have hr := run_neq_slice_nil_any w t et aa l c 0 0 ht.und
  simp only [execOp, he, hf, Sem.run_bind]
  have : (eqGuard .neq t x y (.slice aa l c) (.slice none 0 0)) = (pure () : Sem Unit) := by simp [eqGuard]
  simp only [this, Sem.run_pure, Result.andThen_ok, hr]

/-! ### lists that are not written any more -/
/-- A new row that nobody writes. -/
theorem VO.fresh {o : Oper} {ys : List T} {e : Nat} (h : H → ∀ B0 w0 φ0 F0 F φ a w, Sim B0 w0 φ0 F0 s F φ a w → ∃ (w1 : World) (c : Nat) (news rest : List Value) (t : TypeId), (w1 = w ∨ w1 = w.drew) ∧
      (execOp a.eval o).run P w = .ok (.value (.slice (some ⟨w.heap.size, 0, none⟩) ys.length c)) (w1.alloc (.cells (news ++ rest).toArray t)) ∧ CellsOf F ys e news ∧ ys.length ≤ c ∧ c * e ≤ (news ++ rest).toArray.size) : VO P H o s (.t (.sl false ys)) := by
  intro hH B0 w0 φ0 F0 F φ a w hs next Q hQ
  obtain ⟨w1, c, news, rest, t, hw1, hr, hc, hlc, hsz⟩ := h hH B0 w0 φ0 F0 F φ a w hs
  have hh : w1.heap.size = w.heap.size := by rcases hw1 with rfl | rfl <;> rfl
  have hs1 : Sim B0 w0 φ0 F0 s F φ a w1 := by
    rcases hw1 with rfl | rfl
    · exact hs
    · exact hs.drew
  obtain ⟨hle, hs2⟩ := hs1.row (rest := rest) (t := t) (fz := false) hc
  obtain ⟨F', k1, k2, k3, k4⟩ := hs2.freeze (b := s.n) (e := e) (xs := ys) (fz := false) (by simp [St.alloc, look])
  have hblk : ∀ x, F' x ≠ F x → x.block = w1.heap.size := by
    intro x hx
    obtain ⟨sz, q⟩ := k2 x hx
    rw [Phi.new, if_pos rfl] at q
    simp only [Option.some.injEq, Prod.mk.injEq] at q
    exact q.1.symm
  have hs3 : Sim B0 w0 φ0 F0 s F φ a (w1.alloc (.cells (news ++ rest).toArray t)) := hs1.world ((Bel.refl _ _).alloc hs1.base_le _) (fun b k B sz q1 q2 => Below.heap_alloc _ _ _ (hs1.block_lt q1 q2)) (hs1.fok.alloc _)
  have hs4 := hs3.more k1 k3.fok (fun x hx => by rw [hblk x hx]; exact hs1.base_new (Nat.le_refl _)) (fun b k B sz q1 q2 x hx => by rw [hblk x hx]; exact Ne.symm (Nat.ne_of_lt (hs1.block_lt q1 q2)))
  simp only [Oper.wp, hr, Oper.upon]
  refine hQ _ F' _ hs4 (.t ?_)
  have hv := VR.ref (F := F) (φ := φ.new s.n (w1.heap.size, (news ++ rest).toArray.size)) (b := s.n) (e := e) (off := 0) (len := ys.length) (cap := ys.length) (B := w1.heap.size) (c := c) (if_pos rfl) (Nat.le_refl _) hlc (by simpa using hsz)
  have := k4 0 ys.length ys.length _ (by omega) hv
  rw [hh] at this
  simpa using this
/-- '[]E{x, y, ..}' that nobody writes. -/
theorem VO.litT {t et : TypeId} {n : Nat} {parts : List (Nat × Operand)} {ps : List PV} {ys : List T} {sz bytes e ebytes : Nat} {z ez : Value} {ed : TypeDesc} [ht : TyIs P t (.slice et) sz bytes z] [he : TyIs P et ed e ebytes ez]
    (hp : parts.map (fun x => s.ev x.2) = ps) (hy : toTsAll ps = some ys) (hi : inRow 0 parts = true) (hn : parts.length = n) (hf : flatAll e ys = true) (hb : n * e ≤ 16777216) (he0 : 0 < e) : VO P H ⟨some d, .buildSlice t n parts.toArray, ty, pos, af, g⟩ s (.t (.sl false ys)) := by
  refine .fresh (e := e) (fun _ B0 w0 φ0 F0 F φ a w hs => ?_)
  obtain ⟨out, hl, hc, hr⟩ := lit_run (P := P) (ty := ty) (d := d) (pos := pos) (af := af) (g := g) (t := t) hp hy hi hn hf hb he0 hs
  have hcl := hc.len
  refine ⟨w, n, out.toList, [], et, .inl rfl, ?_, hc, by omega, ?_⟩
  · rw [hr, hl]; simp
  · simp at hcl ⊢; rw [hcl, hl]; exact Nat.le_refl _

/-! ### make -/
theorem cellsOf_made {F : FMem} {z : Value} {zt : T} {e n : Nat} (hz : tOf 6 z = some zt) (he : z.cells.size = e) (hf : zt.flatL = true) (he0 : 0 < e) : CellsOf F (List.replicate n zt) e (madeCells z.cells (n * e)).toList := by
  have htr : TR F zt z := tOf_tr 6 z zt hz
  obtain ⟨c1, c2⟩ := htr.cells
  have hone : ∀ (j : Nat) (u : Value), z.cells[j]? = some u → u.oneCell' = true := by
    intro j u hu
    have hj := (Array.getElem?_eq_some_iff.1 hu).1
    obtain ⟨u', hu', ht⟩ := c2 j _ (List.getElem?_eq_getElem (by omega))
    rw [hu] at hu'; cases hu'
    exact ht.one ((List.all_eq_true.1 hf) _ (List.getElem_mem _))
  have hget : ∀ k, k < n * e → (madeCells z.cells (n * e)).toList[k]? = z.cells[k % e]? := by
    intro k hk
    have : k % e < e := Nat.mod_lt _ he0
    subst he
    simp only [madeCells, Array.getElem?_toList, Array.getElem?_map]
    rw [Array.getElem?_eq_getElem (by simpa using hk), Array.getElem_range, Option.map_some, getElem!_pos z.cells _ this, Array.getElem?_eq_getElem this]
  have hrep : ∀ (i : Nat) (y : T), (List.replicate n zt)[i]? = some y → i < n ∧ zt = y := by
    intro i y hy
    rw [List.getElem?_replicate] at hy
    split at hy
    · cases hy; exact ⟨‹_›, rfl⟩
    · cases hy
  refine ⟨by simp [madeCells], fun i y hy => ?_, fun i y j p hy hp => ?_, fun u hu => ?_⟩
  · obtain ⟨_, rfl⟩ := hrep i y hy
    omega
  · obtain ⟨hi, rfl⟩ := hrep i y hy
    have hj := (List.getElem?_eq_some_iff.1 hp).1
    obtain ⟨u, hu, ht⟩ := c2 j p hp
    refine ⟨u, ?_, ht⟩
    have hle : (i + 1) * e ≤ n * e := Nat.mul_le_mul_right e hi
    rw [Nat.add_mul] at hle
    rw [hget _ (by omega), Nat.mul_comm, Nat.mul_add_mod, Nat.mod_eq_of_lt (by omega)]
    exact hu
  · obtain ⟨k, hk⟩ := List.mem_iff_getElem?.1 hu
    have hkl := (List.getElem?_eq_some_iff.1 hk).1
    simp [madeCells] at hkl
    rw [hget k hkl] at hk
    exact hone _ u hk
theorem make_run {t et : TypeId} {x y : Operand} {kl kc : IntKind} {l c : Int} {sz bytes e ebytes : Nat} {z ez : Value} {ed : TypeDesc} [ht : TyIs P t (.slice et) sz bytes z] [he : TyIs P et ed e ebytes ez]
    {B0 : Fr} {w0 : World} {φ0 : Phi} {F0 : FMem} {F : FMem} {φ : Phi} {a : Act} {w : World} (hH : H) (hs : Sim B0 w0 φ0 F0 s F φ a w) (hx : EvH H s x (.t (.v (.int kl l)))) (hy : EvH H s y (.t (.v (.int kc c)))) (h0 : 0 ≤ l) (h1 : l ≤ c) (hb : (ebytes : Int) * c ≤ 281474976710656) (h63 : c ≤ 9223372036854775807) :
    (execOp a.eval ⟨some d, .makeSlice t x y, ty, pos, af, g⟩).run P w = .ok (.value (.slice (some ⟨w.heap.size, 0, none⟩) l.toNat c.toNat)) (w.alloc (.cells (madeCells ez.cells (c.toNat * e)) et)) := by
  obtain ⟨i, i1, i2, i3, i4⟩ := he.inf
  have e1 := (evv hH hs hx).1
  have e2 := (evv hH hs hy).1
  have hr := run_make (P := P) w t et i ez ht.und i1 i2 kl kc l c h0 h1 (by rw [i4]; exact hb) h63
  rw [i3] at hr
  simp only [execOp, e1, e2, Sem.run_bind, hr, Result.andThen_ok, Sem.run_pure]
/-- 'make([]E, n)' that nobody writes. -/
theorem VO.makeT {t et : TypeId} {x y : Operand} {kl kc : IntKind} {l : Int} {sz bytes e ebytes : Nat} {z ez : Value} {ed : TypeDesc} {zt : T} [ht : TyIs P t (.slice et) sz bytes z] [he : TyIs P et ed e ebytes ez] (hx : EvH H s x (.t (.v (.int kl l)))) (hy : EvH H s y (.t (.v (.int kc l))))
    (hz : tOf 6 ez = some zt) (hf : zt.flatL = true) (he0 : 0 < e) (h0 : H → 0 ≤ l) (hb : H → (ebytes : Int) * l ≤ 281474976710656) (h63 : H → l ≤ 9223372036854775807) : VO P H ⟨some d, .makeSlice t x y, ty, pos, af, g⟩ s (.t (.sl false (List.replicate l.toNat zt))) := by
  intro hH
  refine VO.fresh (H := H) (e := e) (fun _ B0 w0 φ0 F0 F φ a w hs => ?_) hH
  have hr := make_run (P := P) (d := d) (ty := ty) (pos := pos) (af := af) (g := g) (t := t) hH hs hx hy (h0 hH) (Int.le_refl _) (hb hH) (h63 hH)
  refine ⟨w, l.toNat, (madeCells ez.cells (l.toNat * e)).toList, [], et, .inl rfl, ?_, cellsOf_made hz he.zsz hf he0, by simp, by simp [madeCells]⟩
  rw [hr]; simp
/-- 'make([]E, n)', 'make([]E, n, c)' of our own. -/
theorem TriO.make {t et : TypeId} {x y : Operand} {kl kc : IntKind} {l c : Int} {sz bytes e ebytes : Nat} {z ez : Value} {ed : TypeDesc} {zt : T} [ht : TyIs P t (.slice et) sz bytes z] [he : TyIs P et ed e ebytes ez] (hx : EvH True s x (.t (.v (.int kl l)))) (hy : EvH True s y (.t (.v (.int kc c))))
    (hz : tOf 6 ez = some zt) (hf : zt.flatL = true) (he0 : 0 < e) (h0 : 0 ≤ l) (h1 : l ≤ c) (hb : (ebytes : Int) * c ≤ 281474976710656) (h63 : c ≤ 9223372036854775807) (hN : Nat.blt d s.N = true)
    (hK : K ((s.alloc (.row e (List.replicate l.toNat zt) false)).put d (.ref s.n e 0 l.toNat l.toNat))) : TriO P ⟨some d, .makeSlice t x y, ty, pos, af, g⟩ K s := by
  refine .gen rfl hN (fun B0 w0 φ0 F0 F φ a w hs => ?_)
  have hr := make_run (P := P) (d := d) (ty := ty) (pos := pos) (af := af) (g := g) (t := t) trivial hs hx hy h0 h1 hb h63
  have hsplit : (madeCells ez.cells (c.toNat * e)).toList = (madeCells ez.cells (l.toNat * e)).toList ++ (madeCells ez.cells (c.toNat * e)).toList.drop (l.toNat * e) := by
    have : (madeCells ez.cells (l.toNat * e)).toList = (madeCells ez.cells (c.toNat * e)).toList.take (l.toNat * e) := by
      have hle : l.toNat * e ≤ c.toNat * e := Nat.mul_le_mul_right e (by omega)
      have hlen : ∀ n, (madeCells ez.cells n).toList.length = n := fun n => by simp [madeCells]
      apply List.ext_getElem
      · rw [List.length_take, hlen, hlen, Nat.min_eq_left hle]
      · intro i q1 q2; simp [madeCells]
    rw [this, List.take_append_drop]
  have hcells := cellsOf_made (F := F) (n := l.toNat) hz he.zsz hf he0
  obtain ⟨hle, hs'⟩ := hs.row (rest := (madeCells ez.cells (c.toNat * e)).toList.drop (l.toNat * e)) (t := et) (fz := false) hcells
  rw [← hsplit] at hs' hle
  refine ⟨.slice (some ⟨w.heap.size, 0, none⟩) l.toNat c.toNat, _, s.alloc (.row e (List.replicate l.toNat zt) false), F, _, .ref s.n e 0 l.toNat l.toNat, ?_, rfl, rfl, hs', ?_, hK⟩
  · rw [hr]
  · have := VR.ref (F := F) (φ := φ.new s.n (w.heap.size, (madeCells ez.cells (c.toNat * e)).toList.toArray.size)) (b := s.n) (e := e) (off := 0) (len := l.toNat) (cap := l.toNat) (B := w.heap.size) (c := c.toNat) (if_pos rfl) (Nat.le_refl _) (by omega) (by simp [madeCells])
    simpa using this

/-! ### bytes and texts -/
/-- A new block of whatever make, that nobody writes. -/
theorem Sim.newRow {B0 : Fr} {w0 : World} {φ0 : Phi} {F0 : FMem} {s : St} {F : FMem} {φ : Phi} {a : Act} {w : World} (h : Sim B0 w0 φ0 F0 s F φ a w) {o : Obj} {ys : List T} {e c : Nat} {news : List Value} (hc : CellsOf F ys e news)
    (hcell : ∀ (k : Nat) (u : Value), news[k]? = some u → (w.alloc o).cell? ⟨w.heap.size, k, none⟩ = some u) (hlc : ys.length ≤ c) :
    ∃ F', Sim B0 w0 φ0 F0 s F' φ a (w.alloc o) ∧ TR F' (.sl false ys) (.slice (some ⟨w.heap.size, 0, none⟩) ys.length c) := by
  let F' : FMem := fun x => if x.block = w.heap.size ∧ x.spot = none ∧ x.off < news.length then news[x.off]? else F x
  have hin : ∀ x, (x.block = w.heap.size ∧ x.spot = none ∧ x.off < news.length) → F' x = news[x.off]? := fun x hx => if_pos hx
  have hout : ∀ x, ¬ (x.block = w.heap.size ∧ x.spot = none ∧ x.off < news.length) → F' x = F x := fun x hx => if_neg hx
  have hle : F.le F' := fun x u e1 => by
    rw [hout x (fun hx => absurd hx.1 (Nat.ne_of_lt (h.fok.lt e1)))]; exact e1
  have hne : ∀ x, F' x ≠ F x → x.block = w.heap.size := by
    intro x hx
    by_cases hc : x.block = w.heap.size ∧ x.spot = none ∧ x.off < news.length
    · exact hc.1
    · exact absurd (hout x hc) hx
  have hs3 : Sim B0 w0 φ0 F0 s F φ a (w.alloc o) := h.world ((Bel.refl _ _).alloc h.base_le _) (fun b k B sz q1 q2 => Below.heap_alloc _ _ _ (h.block_lt q1 q2)) (h.fok.alloc _)
  have hok : FOK F' (w.alloc o) := by
    refine h.fok.grow hle ?_ (fun g j u n _ e h2 => szW_alloc (a := ⟨g, j, none⟩) o e h2)
    intro x u e1
    by_cases hx : x.block = w.heap.size ∧ x.spot = none ∧ x.off < news.length
    · rw [hin x hx] at e1
      have hx' : x = ⟨w.heap.size, x.off, none⟩ := by obtain ⟨h1, h2, _⟩ := hx; cases x; simp_all
      refine ⟨by rw [hx']; exact hcell _ u e1, hc.one u (List.mem_of_getElem? e1)⟩
    · rw [hout x hx] at e1; exact hs3.fok x u e1
  refine ⟨F', hs3.more hle hok (fun x hx => by rw [hne x hx]; exact h.base_new (Nat.le_refl _)) (fun b k B sz q1 q2 x hx => by rw [hne x hx]; exact Ne.symm (Nat.ne_of_lt (h.block_lt q1 q2))), ?_⟩
  refine .sl (e := e) (fun i j => news.getD (i * e + j) undef) hlc hc.he (fun i y j p hy hp => ?_) (fun i y j p hy hp => ?_)
  · obtain ⟨u, h1, h2⟩ := hc.get i y j p hy hp
    have := (List.getElem?_eq_some_iff.1 h1).1
    rw [hin _ ⟨rfl, rfl, by simpa using this⟩, List.getD_eq_getElem?_getD]
    simp only [Nat.zero_add, h1]; rfl
  · obtain ⟨u, h1, h2⟩ := hc.get i y j p hy hp
    rw [List.getD_eq_getElem?_getD, h1]
    exact h2.mono hle
def tByte (c : UInt8) : T := .v (.int .u8 c.toNat)
theorem cellsOf_bytes {F : FMem} (b : ByteArray) : CellsOf F ((bs b).map tByte) 1 (byteCells b) := by
  refine ⟨by simp [byteCells, bs], fun i x hx => ?_, fun i x j p hx hp => ?_, fun u hu => ?_⟩
  · simp only [List.getElem?_map, Option.map_eq_some_iff] at hx
    obtain ⟨c, _, rfl⟩ := hx; rfl
  · simp only [List.getElem?_map, Option.map_eq_some_iff] at hx
    obtain ⟨c, hc, rfl⟩ := hx
    simp only [T.leaves, tByte] at hp
    cases j with
    | zero => simp at hp; subst hp; exact ⟨_, by simp [byteCells, bs] at hc ⊢; exact ⟨c, hc, rfl⟩, .v rfl⟩
    | succ j => simp at hp
  · obtain ⟨_, _, rfl⟩ := List.mem_map.1 hu; rfl
/-- '[]byte(s)' that nobody writes. -/
theorem VO.s2b {src dst et : TypeId} {x : Operand} {b : ByteArray} {sz bytes sz' bytes' sz2 bytes2 : Nat} {z z' z2 : Value} [hs1 : TyIs P src .string sz bytes z] [hd1 : TyIs P dst (.slice et) sz' bytes' z'] [he1 : TyIs P et (.int .u8) sz2 bytes2 z2] (hx : EvH H s x (.t (.v (.string b)))) :
    VO P H ⟨some d, .convert src dst x, ty, pos, af, g⟩ s (.t (.sl false ((bs b).map tByte))) := by
  intro hH B0 w0 φ0 F0 F φ a w hs next Q hQ
  have hq := (evv hH hs hx).1
  have hr := run_bytes_of_string (P := P) w src dst et b hs1.und hd1.und he1.und
  have hrun : (execOp a.eval ⟨some d, .convert src dst x, ty, pos, af, g⟩).run P w = .ok (.value (.slice (some ⟨w.heap.size, 0, none⟩) b.size (grownCap w b.size 0 et))) (w.drew.alloc (.cells (bytesRow b (grownCap w b.size 0 et)) et ((bytesRow b (grownCap w b.size 0 et)).size, (bytesRow b (grownCap w b.size 0 et)).size + 1))) := by
    simp only [execOp, hq, Sem.run_bind, hr, Result.andThen_ok, Sem.run_pure]
  have hcell : ∀ (k : Nat) (u : Value), (byteCells b)[k]? = some u → (w.drew.alloc (.cells (bytesRow b (grownCap w b.size 0 et)) et ((bytesRow b (grownCap w b.size 0 et)).size, (bytesRow b (grownCap w b.size 0 et)).size + 1))).cell? ⟨w.drew.heap.size, k, none⟩ = some u := by
    intro k u hk
    have hh : (w.drew.alloc (.cells (bytesRow b (grownCap w b.size 0 et)) et ((bytesRow b (grownCap w b.size 0 et)).size, (bytesRow b (grownCap w b.size 0 et)).size + 1))).heap[w.drew.heap.size]? = some (.cells (bytesRow b (grownCap w b.size 0 et)) et ((bytesRow b (grownCap w b.size 0 et)).size, (bytesRow b (grownCap w b.size 0 et)).size + 1)) := by
      show (w.heap.push _)[w.heap.size]? = _
      simp
    rw [cell_at hh, bytesRow]
    simp only [byteCells, List.getElem?_map, Option.map_eq_some_iff] at hk
    obtain ⟨c, hc, rfl⟩ := hk
    have hkl := (List.getElem?_eq_some_iff.1 hc).1
    rw [Array.getElem?_append_left (by simpa using hkl), Array.getElem?_map]
    rw [Array.getElem?_toList] at hc
    rw [hc]; rfl
  obtain ⟨F', h1, h2⟩ := hs.drew.newRow (cellsOf_bytes b) hcell (c := grownCap w b.size 0 et) (by simpa [bs] using grownCap_ge w b.size 0 et)
  simp only [Oper.wp, hrun, Oper.upon]
  refine hQ _ F' _ h1 (.t ?_)
  have hl : ((bs b).map tByte).length = b.size := by simp [bs]
  rw [hl] at h2
  exact h2
/-- 'string(l)' of bytes. -/
theorem PO.b2s {src dst et : TypeId} {x : Operand} {n : Bool} {ys : List T} {l : List UInt8} {sz bytes sz' bytes' sz2 bytes2 : Nat} {z z' z2 : Value} [hs1 : TyIs P src (.slice et) sz bytes z] [hd1 : TyIs P dst .string sz' bytes' z'] [he1 : TyIs P et (.int .u8) sz2 bytes2 z2] (hx : EvH H s x (.t (.sl n ys))) (hy : ys = l.map tByte) :
    PO P H ⟨some d, .convert src dst x, ty, pos, af, g⟩ s (.t (.v (.string ⟨l.toArray⟩))) := by
  subst hy
  intro hH B0 w0 φ0 F0 F φ a w hs
  refine ⟨.string ⟨l.toArray⟩, ?_, .t (.v rfl)⟩
  have h1 := hx.vr hH hs
  generalize he : a.eval x = u at h1
  cases h1 with | t h1 =>
  generalize hl : l.map tByte = ys at h1
  cases h1 with
  | nil =>
    have : l = [] := by simpa using hl
    subst this
    have hr := run_convert_bytes_nil (P := P) w src et hs1.und he1.und 0 0 dst hd1.und
    simp only [execOp, he, Sem.run_bind, hr, Result.andThen_ok]; rfl
  | @sl0 a0 c =>
    have : l = [] := by simpa using hl
    subst this
    have hr := run_convert_bytes_back (P := P) w src dst et a0 c [] hs1.und he1.und hd1.und (fun j hj => by simp at hj)
    rw [List.length_nil] at hr
    simp only [execOp, he, Sem.run_bind, hr, Result.andThen_ok]; rfl
  | @sl _ B o e c us hc he' hF hu =>
    subst hl
    have hr := run_convert_bytes_back (P := P) w src dst et ⟨B, o, none⟩ c l hs1.und he1.und hd1.und (fun j hj => by
      have h2 : (l.map tByte)[j]? = some (tByte l[j]) := by simp [hj]
      have h3 := he' j _ h2
      simp only [T.leaves, tByte, List.length_singleton] at h3
      have h4 := hF j _ 0 (tByte l[j]) h2 rfl
      have h5 := hu j _ 0 (tByte l[j]) h2 rfl
      have h6 := (hs.fok _ _ h4).1
      subst h3
      rw [Addr.add_mid]
      have h7 : us j 0 = .int .u8 l[j].toNat := by
        generalize us j 0 = q at h5
        cases h5; rfl
      rw [h7] at h6
      simpa using h6)
    have hl : (l.map tByte).length = l.length := by simp
    rw [hl] at he
    simp only [execOp, he, Sem.run_bind, hr, Result.andThen_ok, Sem.run_pure]
end ops

/-! ### at the head of a list -/
section heads
variable {d ty : Nat} {pos : String} {af : Array Edge} {K : St → Prop} {ops : Array Oper} {l_ : List Oper} {tm_ : List (Nat × PV)} {N_ lo_ n_ : Nat} {hp_ : List (Nat × Blk)}
theorem U.eqNil {t et t' : TypeId} {x y : Operand} {n : Bool} {xs : List T} {sz bytes : Nat} {z : Value} [ht : TyIs P t (.slice et) sz bytes z] (hx : (evt tm_ x).un = .t (.sl n xs)) (hx_ : (evt tm_ x).okc True) (hy : (evt tm_ y).un = .t (.sl true [])) (hy_ : (evt tm_ y).okc True) (hN : Nat.blt d N_ = true)
    (hK : TriL P ops l_ K ⟨(d, .t (.v (.bool n))) :: tm_, N_, hp_, lo_, n_⟩) : TriL P ops (⟨some d, .binOp .eql t x y t', ty, pos, af, none⟩ :: l_) K ⟨tm_, N_, hp_, lo_, n_⟩ :=
  .vo rfl rfl hN (PO.eqNil (s := ⟨tm_, N_, hp_, lo_, n_⟩) ⟨hx, hx_⟩ ⟨hy, hy_⟩).vo hK
theorem U.litT {t et : TypeId} {n : Nat} {parts : List (Nat × Operand)} {ps : List PV} {ys : List T} {sz bytes e ebytes : Nat} {z ez : Value} {ed : TypeDesc} [ht : TyIs P t (.slice et) sz bytes z] [he : TyIs P et ed e ebytes ez]
    (hp : parts.map (fun x => evt tm_ x.2) = ps) (hy : toTsAll ps = some ys) (hi : inRow 0 parts = true) (hn : parts.length = n) (hf : flatAll e ys = true) (hb : Nat.ble (n * e) 16777216 = true) (he0 : Nat.blt 0 e = true) (hN : Nat.blt d N_ = true)
    (hK : TriL P ops l_ K ⟨(d, .t (.sl false ys)) :: tm_, N_, hp_, lo_, n_⟩) : TriL P ops (⟨some d, .buildSlice t n parts.toArray, ty, pos, af, none⟩ :: l_) K ⟨tm_, N_, hp_, lo_, n_⟩ :=
  .vo rfl rfl hN (VO.litT (s := ⟨tm_, N_, hp_, lo_, n_⟩) hp hy hi hn hf (by simpa [Nat.ble_eq] using hb) (by simpa [Nat.blt_eq] using he0)) hK
theorem U.lit {t et : TypeId} {n : Nat} {parts : List (Nat × Operand)} {ps : List PV} {ys : List T} {sz bytes e ebytes : Nat} {z ez : Value} {ed : TypeDesc} [ht : TyIs P t (.slice et) sz bytes z] [he : TyIs P et ed e ebytes ez]
    (hp : parts.map (fun x => evt tm_ x.2) = ps) (hy : toTsAll ps = some ys) (hi : inRow 0 parts = true) (hn : parts.length = n) (hf : flatAll e ys = true) (hb : Nat.ble (n * e) 16777216 = true) (he0 : Nat.blt 0 e = true) (hN : Nat.blt d N_ = true)
    (hK : TriL P ops l_ K ⟨(d, .ref n_ e 0 n n) :: tm_, N_, (n_, .row e ys false) :: hp_, lo_, n_ + 1⟩) : TriL P ops (⟨some d, .buildSlice t n parts.toArray, ty, pos, af, none⟩ :: l_) K ⟨tm_, N_, hp_, lo_, n_⟩ :=
  .cons rfl (.lit (s := ⟨tm_, N_, hp_, lo_, n_⟩) hp hy hi hn hf (by simpa [Nat.ble_eq] using hb) (by simpa [Nat.blt_eq] using he0) hN hK)
theorem U.makeT {t et : TypeId} {x y : Operand} {kl kc : IntKind} {l : Int} {sz bytes e ebytes : Nat} {z ez : Value} {ed : TypeDesc} {zt : T} [ht : TyIs P t (.slice et) sz bytes z] [he : TyIs P et ed e ebytes ez] (hx : (evt tm_ x).un = .t (.v (.int kl l))) (hx_ : (evt tm_ x).okc True) (hy : (evt tm_ y).un = .t (.v (.int kc l))) (hy_ : (evt tm_ y).okc True)
    (hz : tOf 6 ez = some zt) (hf : zt.flatL = true) (he0 : Nat.blt 0 e = true) (h0 : 0 ≤ l) (hb : (ebytes : Int) * l ≤ 281474976710656) (h63 : l ≤ 9223372036854775807) (hN : Nat.blt d N_ = true)
    (hK : TriL P ops l_ K ⟨(d, .t (.sl false (List.replicate l.toNat zt))) :: tm_, N_, hp_, lo_, n_⟩) : TriL P ops (⟨some d, .makeSlice t x y, ty, pos, af, none⟩ :: l_) K ⟨tm_, N_, hp_, lo_, n_⟩ :=
  .vo rfl rfl hN (VO.makeT (s := ⟨tm_, N_, hp_, lo_, n_⟩) ⟨hx, hx_⟩ ⟨hy, hy_⟩ hz hf (by simpa [Nat.blt_eq] using he0) (fun _ => h0) (fun _ => hb) (fun _ => h63)) hK
theorem U.make {t et : TypeId} {x y : Operand} {kl kc : IntKind} {l c : Int} {sz bytes e ebytes : Nat} {z ez : Value} {ed : TypeDesc} {zt : T} [ht : TyIs P t (.slice et) sz bytes z] [he : TyIs P et ed e ebytes ez] (hx : (evt tm_ x).un = .t (.v (.int kl l))) (hx_ : (evt tm_ x).okc True) (hy : (evt tm_ y).un = .t (.v (.int kc c))) (hy_ : (evt tm_ y).okc True)
    (hz : tOf 6 ez = some zt) (hf : zt.flatL = true) (he0 : Nat.blt 0 e = true) (h0 : 0 ≤ l) (h1 : l ≤ c) (hb : (ebytes : Int) * c ≤ 281474976710656) (h63 : c ≤ 9223372036854775807) (hN : Nat.blt d N_ = true)
    (hK : TriL P ops l_ K ⟨(d, .ref n_ e 0 l.toNat l.toNat) :: tm_, N_, (n_, .row e (List.replicate l.toNat zt) false) :: hp_, lo_, n_ + 1⟩) : TriL P ops (⟨some d, .makeSlice t x y, ty, pos, af, none⟩ :: l_) K ⟨tm_, N_, hp_, lo_, n_⟩ :=
  .cons rfl (.make (s := ⟨tm_, N_, hp_, lo_, n_⟩) ⟨hx, hx_⟩ ⟨hy, hy_⟩ hz hf (by simpa [Nat.blt_eq] using he0) h0 h1 hb h63 hN hK)
/-- append to nil: of something. -/
theorem U.appNil {t tx et : TypeId} {x y : Operand} {ys : List T} {sz bytes e ebytes : Nat} {z ez : Value} {ed : TypeDesc} [ht : TyIs P t (.slice et) sz bytes z] [he : TyIs P et ed e ebytes ez]
    (hx : evt tm_ x = .t (.sl true [])) (hsrc : SrcE P ⟨tm_, N_, hp_, lo_, n_⟩ tx y e ys) (h0 : 0 < ys.length) (hm : ys.length * ebytes ≤ 70368744177664) (hm2 : ys.length ≤ 4611686018427387904) (hN : Nat.blt d N_ = true)
    (hK : TriL P ops l_ K ⟨(d, .ref n_ e 0 ys.length ys.length) :: tm_, N_, (n_, .row e ys false) :: hp_, lo_, n_ + 1⟩) : TriL P ops (⟨some d, .call ⟨.builtin .append, #[x, y], #[t, tx]⟩, ty, pos, af, none⟩ :: l_) K ⟨tm_, N_, hp_, lo_, n_⟩ :=
  .cons rfl (.appNil (s := ⟨tm_, N_, hp_, lo_, n_⟩) hx hsrc h0 hm hm2 hN hK)
/-- append to nil: of nothing. -/
theorem U.appNil0 {t tx et : TypeId} {x y : Operand} {sz bytes e ebytes : Nat} {z ez : Value} {ed : TypeDesc} [ht : TyIs P t (.slice et) sz bytes z] [he : TyIs P et ed e ebytes ez]
    (hx : evt tm_ x = .t (.sl true [])) (hsrc : SrcE P ⟨tm_, N_, hp_, lo_, n_⟩ tx y e []) (hN : Nat.blt d N_ = true)
    (hK : TriL P ops l_ K ⟨(d, .t (.sl true [])) :: tm_, N_, hp_, lo_, n_⟩) : TriL P ops (⟨some d, .call ⟨.builtin .append, #[x, y], #[t, tx]⟩, ty, pos, af, none⟩ :: l_) K ⟨tm_, N_, hp_, lo_, n_⟩ :=
  .vo rfl rfl hN (PO.appNil0 (s := ⟨tm_, N_, hp_, lo_, n_⟩) hx hsrc).vo hK
/-- append to our own. -/
theorem U.appOwn {t tx et : TypeId} {x y : Operand} {b len cap : Nat} {xs ys : List T} {fz : Bool} {sz bytes e ebytes : Nat} {z ez : Value} {ed : TypeDesc} [ht : TyIs P t (.slice et) sz bytes z] [he : TyIs P et ed e ebytes ez]
    (hx : evt tm_ x = .ref b e 0 len cap) (hb : look b hp_ = some (.row e xs fz)) (hcap : cap = xs.length) (hfz : len = xs.length) (hsrc : SrcE P ⟨tm_, N_, hp_, lo_, n_⟩ tx y e ys)
    (hm : (len + ys.length) * ebytes ≤ 70368744177664) (hm2 : len + ys.length ≤ 4611686018427387904) (hN : Nat.blt d N_ = true)
    (hK : TriL P ops l_ K ⟨(d, .ref n_ e 0 (len + ys.length) (len + ys.length)) :: tm_, N_, (n_, .row e (xs ++ ys) fz) :: wipe b hp_, lo_, n_ + 1⟩) : TriL P ops (⟨some d, .call ⟨.builtin .append, #[x, y], #[t, tx]⟩, ty, pos, af, none⟩ :: l_) K ⟨tm_, N_, hp_, lo_, n_⟩ :=
  .cons rfl (.appOwn (s := ⟨tm_, N_, hp_, lo_, n_⟩) hx hb hcap (fun _ => hfz) hsrc hm hm2 hN (by rw [List.take_of_length_le (by omega)]; exact hK))
theorem U.b2s {src dst et : TypeId} {x : Operand} {n : Bool} {ys : List T} {l : List UInt8} {sz bytes sz' bytes' sz2 bytes2 : Nat} {z z' z2 : Value} [hs1 : TyIs P src (.slice et) sz bytes z] [hd1 : TyIs P dst .string sz' bytes' z'] [he1 : TyIs P et (.int .u8) sz2 bytes2 z2] (hx : (evt tm_ x).un = .t (.sl n ys)) (hx_ : (evt tm_ x).okc True) (hy : ys = l.map tByte) (hN : Nat.blt d N_ = true)
    (hK : TriL P ops l_ K ⟨(d, .t (.v (.string ⟨l.toArray⟩))) :: tm_, N_, hp_, lo_, n_⟩) : TriL P ops (⟨some d, .convert src dst x, ty, pos, af, none⟩ :: l_) K ⟨tm_, N_, hp_, lo_, n_⟩ :=
  .vo rfl rfl hN (PO.b2s (s := ⟨tm_, N_, hp_, lo_, n_⟩) ⟨hx, hx_⟩ hy).vo hK
theorem U.s2b {src dst et : TypeId} {x : Operand} {b : ByteArray} {sz bytes sz' bytes' sz2 bytes2 : Nat} {z z' z2 : Value} [hs1 : TyIs P src .string sz bytes z] [hd1 : TyIs P dst (.slice et) sz' bytes' z'] [he1 : TyIs P et (.int .u8) sz2 bytes2 z2] (hx : (evt tm_ x).un = .t (.v (.string b))) (hx_ : (evt tm_ x).okc True) (hN : Nat.blt d N_ = true)
    (hK : TriL P ops l_ K ⟨(d, .t (.sl false ((bs b).map tByte))) :: tm_, N_, hp_, lo_, n_⟩) : TriL P ops (⟨some d, .convert src dst x, ty, pos, af, none⟩ :: l_) K ⟨tm_, N_, hp_, lo_, n_⟩ :=
  .vo rfl rfl hN (VO.s2b (s := ⟨tm_, N_, hp_, lo_, n_⟩) ⟨hx, hx_⟩) hK
theorem SrcE.t {n : Bool} {ys : List T} {tx et : TypeId} {y : Operand} {e sz bytes : Nat} {z : Value} {s : St} [ht : TyIs P tx (.slice et) sz bytes z] (hy : s.ev y = .t (.sl n ys)) (he : (ys.all fun x => x.leaves.length == e) = true) : SrcE P s tx y e ys :=
  .row hy (fun i x hx => by simpa using List.all_eq_true.1 he x (List.mem_of_getElem? hx))
end heads

/-- A row of our own is handed back: nobody writes it any more. -/
theorem Comes1.retF {t : Tmp} {r : R1} {s : St} {b e off len cap : Nat} {ys : List T} {fz : Bool} (h : evt s.tm (.tmp t) = .ref b e off len cap) (hb : look b s.heap = some (.row e ys fz)) (hl : off + len ≤ ys.length) (hr : R1.t (.sl false ((ys.drop off).take len)) = r) : Comes1 t r .ret s := by
  refine ⟨.inr rfl, ?_⟩
  show Rets s [evt s.tm (.tmp t)] [r]
  rw [h, ← hr]
  exact .froz hb hl .nil

/-- What is told of the arguments by their being there. -/
theorem Pure.wf1 {f : FuncId} {x : T} {r : Res} {C : Prop} (hC : ∀ F v, TR F x v → C) (h : C → Pure P f [x] r) : Pure P f [x] r := by
  intro F vs w hF hn hv
  have : vs.size = 1 := by simpa using hn.symm
  exact h (hC F vs[0] (hv 0 x vs[0] rfl (Array.getElem?_eq_getElem (by omega)))) F vs w hF hn hv

/-! ### results in cells -/
/-- A struct's variable is the result. -/
def ComesC (t : Tmp) (sz : Nat) (x : T) (e : Ex) (s : St) : Prop :=
  (e = .normal ∨ e = .ret) ∧ ∃ b ls xs, s.ev (.tmp t) = .ptr b 0 ∧ look b s.heap = some (.obj ls) ∧ ls.length = sz ∧ x = .agg xs ∧ Rets s ls (xs.map .t)
theorem results_cell {fn : Func} {t : Tmp} {ty : TypeId} (h : fn.results = #[.cell t ty]) {tmps : Array Value} {w : World} {B o : Nat} {v : Value} (ht : tmps.getD t undef = .pointer (some ⟨B, o, none⟩)) (hl : (loadVar ty ⟨B, o, none⟩).run P w = .ok v w) :
    (results fn tmps).run P w = .ok v w := by
  have ht' : tmps[t]?.getD undef = .pointer (some ⟨B, o, none⟩) := by rw [← Array.getD_eq_getD_getElem?]; exact ht
  simp [results, h, ht', asAddr, hl]
theorem Pure.ofC {f : FuncId} {fn : Func} {c : Code} {args : List T} {t : Tmp} {rt : TypeId} {r : T} {N sz bytes : Nat} {ds : TypeDesc} {z : Value} [ht : TyIs P rt ds sz bytes z] (hd : aggD ds = true) (hf : P.funcs[f]? = some fn) (hb : fn.body = some c) (hN : fn.ntmps = N) (hle : args.length ≤ N) (hr : fn.results = #[.cell t rt])
    (h : Tri P c (ComesC t sz r) ⟨initTm 0 args, N, [], 0, 0⟩) : Pure P f args (.one (.t r)) := by
  intro F vs w hF hn hv
  refine calls_of_wp hf hb ?_
  rw [hN]
  have hs := sim_init (N := N) hF hn hv (by omega)
  refine wp_mono (h _ _ _ _ _ _ _ _ hs) ?_
  rintro e a' w' ⟨x, s', F', φ', rfl, ⟨hx, b, ls, xs, q1, q2, q3, rfl, hq⟩, h1, h2, hs'⟩
  have hp := hs'.ev (.tmp t)
  rw [q1] at hp
  obtain ⟨B, cs, hlv⟩ := hs'.heap b _ q2
  obtain ⟨t', ht'⟩ := hlv.cells rfl
  generalize hpt : a'.eval (.tmp t) = pv at hp
  cases hp with
  | ptr hφ =>
    have := hlv.at_; rw [hφ] at this; cases this
    cases hlv.reads with
    | obj hn' hrd hF' =>
      have hlen : (cs.toList.take sz).length = sz := by simp; omega
      have hcell : ∀ (i : Nat) (u : Value), (cs.toList.take sz)[i]? = some u → cs[i]? = some u := by
        intro i u hu
        rw [List.getElem?_take] at hu
        split at hu
        · simpa using hu
        · cases hu
      obtain ⟨G, bs, g1, g2, g3, g4, g5, g6, g7⟩ := hq.rr F' (cs.toList.take sz) hs' (by omega) (fun i p v hp hv => by
        obtain ⟨u, hu, hvr⟩ := hrd i p hp
        rw [hcell i v hv] at hu; cases hu; exact hvr)
      have hload : (loadVar rt ⟨B, 0, none⟩).run P w' = .ok (.agg (cs.toList.take sz).toArray) w' := by
        have hm := loadAt_many (P := P) ht hd (w := w') (B := B) (o := 0) (cs := cs.toList.take sz) hlen (fun j u hu => by rw [Nat.zero_add, cell_at ht']; exact hcell j u hu)
        simpa [Instr.loadAt, Instr.sureAddr] using hm
      have hpost : bodyPost P fn (fun e w' => ∃ rv F', e = .returned rv ∧ F.le F' ∧ FOK F' w' ∧ (∀ a, F' a ≠ F a → w.heap.size ≤ a.block) ∧ Below w.heap.size w w' ∧ RR F' w.heap.size w' (.one (.t (.agg xs))) rv) .normal a' w' := by
        refine bodyPost_end (results_cell hr hpt hload) hs'.defers ⟨_, G, rfl, FMem.le_trans hs'.fle g1, g2, fun x hx => ?_, hs'.below.below, .one (b := none) (.t (.agg ?_ ?_))⟩
        · by_cases e1 : G x = F' x
          · exact Nat.le_of_not_lt (hs'.fnew x (fun e2 => hx (e1.trans e2)))
          · obtain ⟨b, k, sz, q1, q2⟩ := g3 x e1
            obtain ⟨B, cs, hl⟩ := hs'.heap b k q1
            have := hl.at_; rw [q2] at this; cases this
            exact Nat.le_of_not_lt hl.old
        · simpa using g4
        · intro i y u hy hu
          have := g5 i (.t y) u (by simp [hy]) (by simpa using hu)
          generalize hbs : bs i = bb at this
          cases this with | t h => exact h
      rcases hx with rfl | rfl
      · exact hpost
      · exact hpost
end Go.Proofs.YtmhbibfkhbaclaaGreatDoor.E

/- The engine: states that know less: fewer things, blocks by other numbers, rows that nobody writes any more; loops whose blocks are renewed. -/
namespace Go.Proofs.YtmhbibfkhbaclaaGreatDoor.E
open Go Go.RowKit
set_option linter.unusedVariables false
set_option linter.unusedSimpArgs false
variable {P : Program}

/-- What is known at s2 is known at s, perhaps after something is written off. -/
structure Less (s2 s : St) : Prop where
  lo : s2.lo = s.lo
  N : s2.N = s.N
  sim : ∀ {B0 w0 φ0 F0 F φ a w}, Sim B0 w0 φ0 F0 s F φ a w → ∃ F' φ', Sim B0 w0 φ0 F0 s2 F' φ' a w
theorem Sub.less {s2 s : St} (h : Sub s2 s) : Less s2 s := ⟨h.lo, h.N, fun hs => let ⟨φ', h'⟩ := hs.sub h; ⟨_, φ', h'⟩⟩
theorem Less.trans {s3 s2 s : St} (h : Less s3 s2) (k : Less s2 s) : Less s3 s := ⟨h.lo.trans k.lo, h.N.trans k.N, fun hs => let ⟨_, _, h'⟩ := k.sim hs; h.sim h'⟩
theorem Tri.less {c : Code} {Q : Ex → St → Prop} {s s2 : St} (hs : Less s2 s) (h : Tri P c Q s2) : Tri P c Q s := by
  intro B0 w0 φ0 F0 F φ a w hsim
  obtain ⟨F', φ', h'⟩ := hs.sim hsim
  refine wp_mono (h B0 w0 φ0 F0 F' φ' a w h') ?_
  rintro e a' w' ⟨x, s', F', φ', he, hq, h1, h2, hs'⟩
  exact ⟨x, s', F', φ', he, hq, h1.trans hs.lo, h2.trans hs.N, hs'⟩
/-- A loop whose state is told by a parameter; its blocks may have other numbers behind each round. -/
theorem Tri.loopL {α : Type} {c : Code} {Q : Ex → St → Prop} {s : St} (S : α → St) (inv : α → Prop) (μ : α → Nat) (a0 : α) (h0 : inv a0) (hsub : Less (S a0) s)
    (round : ∀ a, inv a → Tri P c (after Q (fun s2 => ∃ a', inv a' ∧ μ a' < μ a ∧ Less (S a') s2)) (S a)) : Tri P (.loop c) Q s := by
  refine Tri.less hsub ?_
  intro B0 w0 φ0 F0 F φ a w hs
  let J : Act → World → Nat → Prop := fun a w n => ∃ x F φ, inv x ∧ (S x).lo = (S a0).lo ∧ (S x).N = (S a0).N ∧ Sim B0 w0 φ0 F0 (S x) F φ a w ∧ μ x = n
  refine wp_loop (fun a w => ∃ n, J a w n) (fun a w => leastOf (J a w)) ⟨_, a0, F, φ, h0, rfl, rfl, hs, rfl⟩ ?_
  intro a w hJ
  have hm : J a w (leastOf (J a w)) := leastOf_spec hJ
  obtain ⟨x, F, φ, hI, h1, h2, hsim, hμ⟩ := hm
  refine wp_mono (round x hI B0 w0 φ0 F0 F φ a w hsim) ?_
  rintro e a' w' ⟨x', s2, F2, φ2, rfl, hq, h12, h22, hs2⟩
  cases x' with
  | normal =>
    obtain ⟨y, hy, hlt, hl⟩ := hq
    obtain ⟨F3, φ3, hs3⟩ := hl.sim hs2
    have hJ3 : J a' w' (μ y) := ⟨y, F3, φ3, hy, hl.lo.trans (h12.trans h1), hl.N.trans (h22.trans h2), hs3, rfl⟩
    refine ⟨⟨_, hJ3⟩, ?_⟩
    have : leastOf (J a' w') ≤ μ y := leastOf_le hJ3
    omega
  | ret => exact ⟨.ret, s2, F2, φ2, rfl, hq, h12.trans h1, h22.trans h2, hs2⟩
  | exit id => exact ⟨.exit id, s2, F2, φ2, rfl, hq, h12.trans h1, h22.trans h2, hs2⟩

/-! ### blocks by other numbers -/
mutual
def PV.ren (ρ : Nat → Nat) : PV → PV
  | .ref b e off len cap => .ref (ρ b) e off len cap
  | .ptr b off => .ptr (ρ b) off
  | .rptr b e i off => .rptr (ρ b) e i off
  | .agg ps => .agg (PV.rens ρ ps)
  | .tup ps => .tup (PV.rens ρ ps)
  | .fn f fs ps => .fn f (PV.rens ρ fs) (PV.rens ρ ps)
  | .mp b => .mp (ρ b)
  | .yl b => .yl (ρ b)
  | .ifc ti p => .ifc ti (PV.ren ρ p)
  | .cond b w p => .cond b w (PV.ren ρ p)
  | .undef => .undef
  | .t x => .t x
  | .eptr x o => .eptr x o
  | .clip xs => .clip xs
def PV.rens (ρ : Nat → Nat) : List PV → List PV
  | [] => []
  | p :: ps => PV.ren ρ p :: PV.rens ρ ps
end
theorem PV.rens_get {ρ : Nat → Nat} : ∀ (ps : List PV) (i : Nat), (PV.rens ρ ps)[i]? = ps[i]?.map (PV.ren ρ)
  | [], i => by simp [PV.rens]
  | p :: ps, 0 => rfl
  | p :: ps, i + 1 => by simpa [PV.rens] using PV.rens_get ps i
theorem PV.rens_length {ρ : Nat → Nat} : ∀ (ps : List PV), (PV.rens ρ ps).length = ps.length
  | [] => rfl
  | p :: ps => by simp [PV.rens, PV.rens_length ps]
def Blk.ren (ρ : Nat → Nat) : Blk → Blk
  | .obj cells t => .obj (PV.rens ρ cells) t
  | .row e xs fz => .row e xs fz
  | .map es => .map (es.map fun x => (x.1, PV.ren ρ x.2))
def Phi.ren (φ : Phi) (ρ : Nat → Nat) (m : Nat) : Phi := fun b => if b < m then φ (ρ b) else none
theorem VR.ren {F : FMem} {φ : Phi} {ρ : Nat → Nat} {m : Nat} {q : PV} {v : Value} (h : VR F φ q v) : ∀ p, PV.ren ρ p = q → PV.lt m p = true → VR F (φ.ren ρ m) p v := by
  have key : ∀ b x, φ (ρ b) = some x → Nat.blt b m = true → (φ.ren ρ m) b = some x := by
    intro b x h1 h2
    rw [Phi.ren, if_pos (by simpa [Nat.blt_eq] using h2)]; exact h1
  induction h with
  | undef v => intro p hp _; cases p <;> simp only [PV.ren, reduceCtorEq] at hp; exact .undef v
  | t h => intro p hp _; cases p <;> simp only [PV.ren, reduceCtorEq] at hp; cases hp; exact .t h
  | ref hb h1 h2 h3 =>
    intro p hp hl; cases p <;> simp only [PV.ren, reduceCtorEq] at hp
    cases hp; exact .ref (key _ _ hb (by simpa [PV.lt] using hl)) h1 h2 h3
  | ptr hb =>
    intro p hp hl; cases p <;> simp only [PV.ren, reduceCtorEq] at hp
    cases hp; exact .ptr (key _ _ hb (by simpa [PV.lt] using hl))
  | rptr hb =>
    intro p hp hl; cases p <;> simp only [PV.ren, reduceCtorEq] at hp
    cases hp; exact .rptr (key _ _ hb (by simpa [PV.lt] using hl))
  | eptr us h => intro p hp _; cases p <;> simp only [PV.ren, reduceCtorEq] at hp; cases hp; exact .eptr us h
  | clip us h => intro p hp _; cases p <;> simp only [PV.ren, reduceCtorEq] at hp; cases hp; exact .clip us h
  | agg hn h ih =>
    intro p hp hl; cases p <;> simp only [PV.ren, reduceCtorEq] at hp
    rename_i ps; cases hp
    rw [PV.rens_length] at hn
    exact .agg hn (fun i p u h1 h2 => ih i _ u (by rw [PV.rens_get, h1]; rfl) h2 p rfl (PV.lts_get (by simpa [PV.lt] using hl) i p h1))
  | tup hn h ih =>
    intro p hp hl; cases p <;> simp only [PV.ren, reduceCtorEq] at hp
    rename_i ps; cases hp
    rw [PV.rens_length] at hn
    exact .tup hn (fun i p u h1 h2 => ih i _ u (by rw [PV.rens_get, h1]; rfl) h2 p rfl (PV.lts_get (by simpa [PV.lt] using hl) i p h1))
  | fn hm hf hn h ihf ih =>
    intro p hp hl; cases p <;> simp only [PV.ren, reduceCtorEq] at hp
    rename_i f fs ps; cases hp
    rw [PV.rens_length] at hn hm
    simp only [PV.lt, Bool.and_eq_true] at hl
    exact .fn hm (fun i p u h1 h2 => ihf i _ u (by rw [PV.rens_get, h1]; rfl) h2 p rfl (PV.lts_get hl.1 i p h1)) hn (fun i p u h1 h2 => ih i _ u (by rw [PV.rens_get, h1]; rfl) h2 p rfl (PV.lts_get hl.2 i p h1))
  | mp hb =>
    intro p hp hl; cases p <;> simp only [PV.ren, reduceCtorEq] at hp
    cases hp; exact .mp (key _ _ hb (by simpa [PV.lt] using hl))
  | yl hb =>
    intro p hp hl; cases p <;> simp only [PV.ren, reduceCtorEq] at hp
    cases hp; exact .yl (key _ _ hb (by simpa [PV.lt] using hl))
  | ifc h ih =>
    intro p hp hl; cases p <;> simp only [PV.ren, reduceCtorEq] at hp
    rename_i t p; cases hp
    exact .ifc (ih p rfl (by simpa [PV.lt] using hl))
  | cond h hn ih =>
    intro p hp hl; cases p <;> simp only [PV.ren, reduceCtorEq] at hp
    rename_i p; cases hp
    exact .cond (fun e => ih e p rfl (by subst e; simpa [PV.lt] using hl)) hn
/-- s2 is s, with other numbers, and less is known. -/
structure Ren (ρ : Nat → Nat) (s2 s : St) : Prop where
  N : s2.N = s.N
  lo : s2.lo = s.lo
  lon : s2.lo ≤ s2.n
  low : ∀ b, b < s2.lo → ρ b = b
  tm : ∀ i p, look i s2.tm = some p → look i s.tm = some (p.ren ρ) ∧ PV.lt s2.n p = true
  heap : ∀ b k, look b s2.heap = some k → look (ρ b) s.heap = some (k.ren ρ) ∧ b < s2.n ∧ Blk.lt s2.n k = true
  inj : ∀ b b' k k', look b s2.heap = some k → look b' s2.heap = some k' → ρ b = ρ b' → b = b'
theorem Ren.less {ρ : Nat → Nat} {s2 s : St} (hs : Ren ρ s2 s) : Less s2 s := by
  refine ⟨hs.lo, hs.N, fun {B0 w0 φ0 F0 F φ a w} h => ⟨F, φ.ren ρ s2.n, ⟨h.below, h.base, h.fok, h.fle, h.fnew, fun b hb => ?_, hs.lon, fun b hb => ?_, h.size.trans hs.N.symm, h.defers, fun i p hp => ?_, fun b k hk => ?_, fun b b' k k' B sz sz' h1 h2 h3 h4 => ?_⟩⟩⟩
  · rw [Phi.ren, if_pos (Nat.lt_of_lt_of_le hb hs.lon), hs.low b hb]
    exact h.phi0 b (by rw [← hs.lo]; exact hb)
  · rw [Phi.ren, if_neg (by omega)]
  · obtain ⟨h1, h2⟩ := hs.tm i p hp
    exact (h.tm i _ h1).ren p rfl h2
  · obtain ⟨h1, h2, h3⟩ := hs.heap b k hk
    obtain ⟨B, cs, hl⟩ := h.heap _ _ h1
    refine ⟨B, cs, ⟨by rw [Phi.ren, if_pos h2]; exact hl.at_, hl.old, fun e => hl.cells (by cases k <;> first | exact e | rfl), fun t e => hl.ty t (by cases k <;> first | exact e | (cases e; done)), fun es e => ?_, ?_⟩⟩
    · subst e
      obtain ⟨ents, clock, q1, q2, q3⟩ := hl.mp _ rfl
      refine ⟨ents, clock, q1, by simpa using q2, fun i e x g1 g2 => ?_⟩
      obtain ⟨r1, r2⟩ := q3 i e (x.1, PV.ren ρ x.2) g1 (by rw [List.getElem?_map, g2]; rfl)
      exact ⟨r1, r2.ren x.2 rfl (PV.lts_get h3 i x.2 (by rw [List.getElem?_map, g2]; rfl))⟩
    have hr := hl.reads
    cases k with
    | obj cells bt =>
      simp only [Blk.ren] at hr
      cases hr with
      | obj hn' hr hF =>
        rw [PV.rens_length] at hn'
        exact .obj hn' (fun i p hp => let ⟨u, q1, q2⟩ := hr i _ (by rw [PV.rens_get, hp]; rfl); ⟨u, q1, q2.ren p rfl (PV.lts_get h3 i p hp)⟩) hF
    | row e xs fz =>
      simp only [Blk.ren] at hr
      cases hr with
      | row hn' he hr hF => exact .row hn' he hr hF
    | map es =>
      simp only [Blk.ren] at hr
      cases hr with
      | map hF => exact .map hF
  · obtain ⟨g1, g2, _⟩ := hs.heap _ _ h1
    obtain ⟨g3, g4, _⟩ := hs.heap _ _ h2
    rw [Phi.ren, if_pos g2] at h3
    rw [Phi.ren, if_pos g4] at h4
    exact hs.inj b b' k k' h1 h2 (h.inj _ _ _ _ B sz sz' g1 g3 h3 h4)
def renT (ρ : Nat → Nat) : List (Nat × PV) → List (Nat × PV) → Prop
  | [], _ => True
  | (i, p) :: l, m => look i m = some (p.ren ρ) ∧ renT ρ l m
def renB (ρ : Nat → Nat) : List (Nat × Blk) → List (Nat × Blk) → Prop
  | [], _ => True
  | (i, p) :: l, m => look (ρ i) m = some (p.ren ρ) ∧ renB ρ l m
theorem renT_look {ρ : Nat → Nat} : ∀ {l m : List (Nat × PV)}, renT ρ l m → ∀ i p, look i l = some p → look i m = some (p.ren ρ)
  | [], _, _, i, p, h => by cases h
  | (j, q) :: l, m, hs, i, p, h => by
    simp only [look] at h
    split at h
    · rename_i e; subst e; cases h; exact hs.1
    · exact renT_look hs.2 i p h
theorem renB_look {ρ : Nat → Nat} : ∀ {l m : List (Nat × Blk)}, renB ρ l m → ∀ i p, look i l = some p → look (ρ i) m = some (p.ren ρ)
  | [], _, _, i, p, h => by cases h
  | (j, q) :: l, m, hs, i, p, h => by
    simp only [look] at h
    split at h
    · rename_i e; subst e; cases h; exact hs.1
    · exact renB_look hs.2 i p h
def keys {α : Type} (l : List (Nat × α)) : List Nat := l.map (·.1)
theorem look_key {α : Type} : ∀ {l : List (Nat × α)} {i : Nat} {x : α}, look i l = some x → i ∈ keys l
  | [], i, x, h => by cases h
  | (j, q) :: l, i, x, h => by
    simp only [look] at h
    split at h
    · rename_i e; subst e; simp [keys]
    · have := look_key h; simp only [keys, List.map_cons, List.mem_cons] at this ⊢; exact .inr this
def injOn (ρ : Nat → Nat) (l : List Nat) : Bool := l.all fun i => l.all fun j => ρ i != ρ j || i == j
theorem Less.ren (ρ : Nat → Nat) {tm tm2 : List (Nat × PV)} {N : Nat} {hp hp2 : List (Nat × Blk)} {lo n n2 : Nat} (hlo : Nat.ble lo n2 = true) (hlow : (List.range lo).all (fun b => ρ b == b) = true) (ht : renT ρ tm2 tm) (hh : renB ρ hp2 hp) (h1 : ltT n2 tm2 = true) (h2 : ltB n2 hp2 = true) (hi : injOn ρ (keys hp2) = true) : Less ⟨tm2, N, hp2, lo, n2⟩ ⟨tm, N, hp, lo, n⟩ :=
  Ren.less (ρ := ρ) ⟨rfl, rfl, by simpa [Nat.ble_eq] using hlo, fun b hb => by simpa using List.all_eq_true.1 hlow b (List.mem_range.2 hb), fun i p h => ⟨renT_look ht i p h, ltT_look h1 i p h⟩, fun i p h => ⟨renB_look hh i p h, ltB_look h2 i p h⟩, fun b b' k k' q1 q2 e => by
    have := List.all_eq_true.1 (List.all_eq_true.1 hi b (look_key q1)) b' (look_key q2)
    simp only [Bool.or_eq_true, bne_iff_ne, beq_iff_eq] at this
    rcases this with h | h
    · exact absurd e h
    · exact h⟩

/-! ### rows that nobody writes any more -/
/-- A temporary's row is a tree from now on. -/
theorem Less.froz {tm : List (Nat × PV)} {N : Nat} {hp : List (Nat × Blk)} {lo n : Nat} (t : Nat) {b e off len cap : Nat} {ys : List T} {fz : Bool} (h : look t tm = some (.ref b e off len cap)) (hb : look b hp = some (.row e ys fz)) (hl : off + len ≤ ys.length) :
    Less ⟨(t, .t (.sl false ((ys.drop off).take len))) :: tm, N, (b, .row e ys true) :: hp, lo, n⟩ ⟨tm, N, hp, lo, n⟩ := by
  refine ⟨rfl, rfl, fun {B0 w0 φ0 F0 F φ a w} hs => ?_⟩
  obtain ⟨F', k1, k2, k3, k4⟩ := hs.freeze hb
  refine ⟨F', φ, { k3 with tm := fun i p hp => ?_ }⟩
  simp only [look] at hp
  split at hp
  · rename_i e1; subst e1; cases hp
    exact .t (k4 off len cap _ hl (hs.tm _ _ h))
  · exact k3.tm i p hp

/-! ### stores into rows -/
/-- A store into an element (of one cell) of a row of our own. -/
theorem TriO.storeR {ty : Nat} {pos : String} {af : Array Edge} {g : Option (Nat × Bool)} {K : St → Prop} {s : St} {t : TypeId} {x y : Operand} {ds : TypeDesc} {bytes : Nat} {z : Value} {b i : Nat} {xs : List T} {v : T} [ht : TyIs P t ds 1 bytes z] (hx : s.ev x = .rptr b 1 i 0) (hb : look b s.heap = some (.row 1 xs false)) (hy : s.ev y = .t v)
    (hv : v.leaves = [v]) (hf : PV.flat (.t v) = true) (hi : i < xs.length) (hK : K (s.upd b (.row 1 (xs.set i v) false))) : TriO P ⟨none, .store t x y, ty, pos, af, g⟩ K s := by
  refine .act rfl (fun B0 w0 φ0 F0 F φ a w hs => ?_)
  have h1 := hx ▸ hs.ev x
  have h2 := hy ▸ hs.ev y
  generalize he : a.eval x = q at h1
  generalize hu : a.eval y = u at h2
  have hone := h2.one hf
  cases h2 with | t htr =>
  obtain ⟨c1, c2⟩ := htr.cells
  rw [hv] at c1 c2
  obtain ⟨u', hu', htr'⟩ := c2 0 v rfl
  have hcu : u.cells = #[u] := by cases u <;> simp_all [Value.oneCell', Value.cells]
  cases h1 with
  | @rptr _ _ _ _ B sz' hφ =>
    obtain ⟨B', cs, hl⟩ := hs.heap b _ hb
    have := hl.at_; rw [hφ] at this; cases this
    obtain ⟨ct, hct⟩ := hl.cells rfl
    cases hl.reads with
    | row hn hel hr hF =>
      have hil : i < cs.size := by omega
      have hst := run_storeVar_at (P := P) (w := w) ht (B := B) (o := i * 1 + 0) (v := u) hct (by simp [hcu]) (by omega) (by simp [hcu, hone])
      rw [hcu] at hst
      have hcs : i * 1 + 0 + [u].length ≤ cs.toList.length := by simp; omega
      refine ⟨_, s.upd b (.row 1 (xs.set i v) false), F, φ, ?_, rfl, rfl, hs.upd hb hl (cs' := (cs.toList.take (i * 1 + 0) ++ [u] ++ cs.toList.drop (i * 1 + 0 + [u].length)).toArray) ?_ (.row ?_ ?_ ?_ ?_) ?_, hK⟩
      · simp only [execOp, he, hu, Sem.run_bind, hst, Result.andThen_ok]; rfl
      · have := splice_len hcs; simp only [List.size_toArray]; rw [this]; simp
      · have := splice_len hcs; simp only [List.size_toArray]; rw [this]; simp; omega
      · intro j y hj
        rw [List.getElem?_set] at hj
        split at hj
        · cases hj; rw [hv]; rfl
        · exact hel j y hj
      · intro j y k p hj hp
        simp only [List.getElem?_toArray]
        rw [splice_get hcs]
        rw [List.getElem?_set] at hj
        split at hj
        · rename_i e; subst e
          cases hj
          rw [hv] at hp
          cases k with
          | zero => cases hp; exact ⟨u, by simp, htr, hone⟩
          | succ k => simp at hp
        · rename_i hne
          have hk := hel j y hj
          have hk0 : k = 0 := by have := (List.getElem?_eq_some_iff.1 hp).1; omega
          subst hk0
          obtain ⟨w', q1, q2, q3⟩ := hr j y 0 p hj hp
          refine ⟨w', ?_, q2, q3⟩
          simp only [List.length_singleton, Nat.mul_one, Nat.add_zero] at q1 ⊢
          by_cases e1 : j < i
          · rw [if_pos e1]; simpa using q1
          · rw [if_neg e1, if_neg (by omega)]; simpa using q1
      · intro x' u2 e1 e2; have := (hF x' u2 e1 e2).1; cases this
      · intro x' u2 e1 e2; have := (hF x' u2 e1 e2).1; cases this
/-! ### results in cells -/
theorem Rets.trees {s : St} : ∀ {ls : List PV} {xs : List T}, toTs ls = some xs → Rets s ls (xs.map R1.t)
  | [], xs, h => by cases h; exact .nil
  | p :: ls, xs, h => by
    cases p with
    | t x =>
      simp only [toTs, Option.map_eq_some_iff] at h
      obtain ⟨ys, hy, rfl⟩ := h
      exact .tree rfl (Rets.trees hy)
    | _ => cases h
theorem ComesC.tree {t : Tmp} {sz b : Nat} {x : T} {s : St} {ls : List PV} {xs : List T} (h1 : evt s.tm (.tmp t) = .ptr b 0) (h2 : look b s.heap = some (.obj ls)) (h3 : toTs ls = some xs) (h4 : ls.length = sz) (h5 : T.agg xs = x) : ComesC t sz x .ret s :=
  ⟨.inr rfl, b, ls, xs, h1, h2, h4, h5.symm, .trees h3⟩
theorem ComesC.of {t : Tmp} {sz b : Nat} {x : T} {s : St} {ls ls' : List PV} {rs : List R1} (h1 : evt s.tm (.tmp t) = .ptr b 0) (h2 : look b s.heap = some (.obj ls)) (h3 : ls = ls') (h4 : ls'.length = sz) (hr : Rets s ls' rs) (h5 : ∃ xs, rs = xs.map .t ∧ T.agg xs = x) : ComesC t sz x .ret s := by
  obtain ⟨xs, rfl, h6⟩ := h5
  exact ⟨.inr rfl, b, ls, xs, h1, h2, h3 ▸ h4, h6.symm, h3 ▸ hr⟩
theorem U.call0 {P : Program} {d ty : Nat} {pos : String} {af : Array Edge} {K : St → Prop} {ops : Array Oper} {l_ : List Oper} {tm_ : List (Nat × PV)} {N_ lo_ n_ : Nat} {hp_ : List (Nat × Blk)} {x : Operand} {f : FuncId} {ts : Array TypeId} {r : T} [hf : FnIs P f] (hx : evt tm_ x = .t (.v (.func (.func f) #[] #[]))) (hr : Pure P f [] (.one (.t r))) (hN : Nat.blt d N_ = true)
    (hK : TriL P ops l_ K ⟨(d, .t r) :: tm_, N_, hp_, lo_, n_⟩) : TriL P ops (⟨some d, .call ⟨.value x, #[], ts⟩, ty, pos, af, none⟩ :: l_) K ⟨tm_, N_, hp_, lo_, n_⟩ :=
  .cons rfl (.call (xs := []) (s1 := ⟨tm_, N_, hp_, lo_, n_⟩) hx rfl .nil hr hN hK)
theorem G.call0 {P : Program} {d ty : Nat} {pos : String} {af : Array Edge} {K : St → Prop} {ops : Array Oper} {l_ : List Oper} {tm_ : List (Nat × PV)} {N_ lo_ n_ : Nat} {hp_ : List (Nat × Blk)} {j_ g_ : Nat} {e_ want_ : Bool} {x : Operand} {f : FuncId} {ts : Array TypeId} {r : T} [hf : FnIs P f] (hx : evt tm_ x = .t (.v (.func (.func f) #[] #[]))) (hr : e_ = true → Pure P f [] (.one (.t r)))
    (hj_ : (ops[j_]?).bind (·.dst) = some g_) (hb_ : gval (evt tm_ (.tmp g_)) want_ = some e_) (hN : Nat.blt d N_ = true)
    (hK : TriL P ops l_ K ⟨(d, .cond e_ true (.t r)) :: tm_, N_, hp_, lo_, n_⟩) : TriL P ops (⟨some d, .call ⟨.value x, #[], ts⟩, ty, pos, af, some (j_, want_)⟩ :: l_) K ⟨tm_, N_, hp_, lo_, n_⟩ :=
  .gvo rfl hj_ hb_ rfl hN (VO.call (s := ⟨tm_, N_, hp_, lo_, n_⟩) (xs := []) hx rfl (fun i y u h => by simp at h) hr) hK
end Go.Proofs.YtmhbibfkhbaclaaGreatDoor.E
