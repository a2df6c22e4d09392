/- The engine: structs built of parts, nil lists, lists that are not written any more, results in cells. -/
import Derived.Test.YtdiimgkopknbcaaGreatDoorK2
import Derived.Laws.Tables
import Derived.Laws.MakeOwn
import Derived.WalkSpells
import Derived.Laws.IdiomStrings
import Derived.Laws.BytesArg
namespace Go.Proofs.YtdiimgkopknbcaaGreatDoor.E
open Go Go.RowKit
set_option linter.unusedVariables false
set_option linter.unusedSimpArgs false
variable {P : Program}

/-! ### a struct out of its parts -/
/-- Where a struct's fields lie. -/
class PlIs (P : Program) (t : TypeId) (fs : Array Field) (pl : outParam (List (Nat × Nat))) : Prop where
  at_ : fs.toList.mapM (fun f => (P.info? f.type).map fun i => (f.offset, i.size)) = some pl
def fillP (pl : List (Nat × Nat)) : List PV → List (Nat × PV) → Option (List PV)
  | cs, [] => some cs
  | cs, (i, p) :: l => match pl[i]? with
    | some (o, n) => bif p.known && (p.leaves.length == n) && Nat.ble (o + n) cs.length then fillP pl (cs.take o ++ p.leaves ++ cs.drop (o + n)) l else none
    | none => none
theorem fill_one (o : Nat) (v : Value) (cells : Array Value) (h : o + v.cells.size ≤ cells.size) :
    (v.cells.zipIdx.foldl (fun cs (x : Value × Nat) => cs.setIfInBounds (o + x.2) x.1) cells).toList = cells.toList.take o ++ v.cells.toList ++ cells.toList.drop (o + v.cells.size) := by
  have key : ∀ (l : List Value) (q : Nat) (cs : Array Value), o + q + l.length ≤ cs.size →
      ((l.zipIdx q).foldl (fun cs (x : Value × Nat) => cs.setIfInBounds (o + x.2) x.1) cs).toList = cs.toList.take (o + q) ++ l ++ cs.toList.drop (o + q + l.length) := by
    intro l
    induction l with
    | nil => intro o cs _; simp
    | cons x l ih =>
      intro q cs hle
      simp only [List.zipIdx_cons, List.foldl_cons]
      have hle' : o + (q + 1) + l.length ≤ cs.size := by simp only [List.length_cons] at hle; omega
      rw [ih (q + 1) _ (by simpa using hle')]
      have h := list_seg_step cs.toList (o + q) x l (by simp only [Array.length_toList]; omega)
      simp only [Array.toList_setIfInBounds]
      rw [show o + (q + 1) = o + q + 1 from by omega]
      simpa using h
  have := key v.cells.toList 0 cells (by simp; omega)
  rw [← Array.foldl_toList, Array.toList_zipIdx]
  simpa using this
theorem fillP_spec {F : FMem} {φ : Phi} {pl : List (Nat × Nat)} {f : Operand → Value} : ∀ {l : List (Nat × Operand)} {g : Operand → PV} {cs : List PV} {qs : List PV} {cells : Array Value}, (∀ x, VR F φ (g x) (f x)) → fillP pl cs (l.map fun x => (x.1, g x.2)) = some qs → cs.length = cells.size →
    (∀ (i : Nat) (p : PV), cs[i]? = some p → ∃ u, cells[i]? = some u ∧ VR F φ p u) → ∃ out, Instr.fill (pl.toArray[·]?) cells (l.map fun x => (x.1, f x.2)) = some out ∧ qs.length = out.size ∧ ∀ (i : Nat) (p : PV), qs[i]? = some p → ∃ u, out[i]? = some u ∧ VR F φ p u
  | [], g, cs, qs, cells, hg, h, hl, hc => by cases h; exact ⟨cells, rfl, hl, hc⟩
  | (i, x) :: l, g, cs, qs, cells, hg, h, hl, hc => by
    simp only [List.map_cons, fillP] at h
    cases hpl : pl[i]? with
    | none => rw [hpl] at h; cases h
    | some on =>
      obtain ⟨o, n⟩ := on
      rw [hpl] at h
      simp only [Bool.cond_eq_ite] at h
      split at h
      · rename_i hb
        simp only [Bool.and_eq_true, beq_iff_eq, Nat.ble_eq] at hb
        obtain ⟨⟨hk, hn⟩, hle⟩ := hb
        obtain ⟨h1, h2⟩ := (hg x).cells hk
        have h1' : (f x).cells.size = n := by omega
        have hin : o + (f x).cells.size ≤ cells.size := by omega
        have ho := fill_one o (f x) cells hin
        generalize hc' : (f x).cells.zipIdx.foldl (fun cs (x : Value × Nat) => cs.setIfInBounds (o + x.2) x.1) cells = cells' at ho
        have hlen : cells'.size = cells.size := by
          have := congrArg List.length ho
          simp at this; omega
        obtain ⟨out, e1, e2, e3⟩ := fillP_spec (l := l) (cells := cells') hg h (by simp; omega) (fun j p hp => by
          rw [← hn] at hp
          rw [splice_get (by omega)] at hp
          have e4 : cells'[j]? = (cells.toList.take o ++ (f x).cells.toList ++ cells.toList.drop (o + (f x).cells.toList.length))[j]? := by
            rw [← Array.getElem?_toList, ho]; simp
          rw [e4, splice_get (by simp; omega)]
          have e5 : (f x).cells.toList.length = (g x).leaves.length := by simp [h1]
          rw [e5]
          by_cases c1 : j < o
          · rw [if_pos c1] at hp ⊢
            obtain ⟨u, hu, hvr⟩ := hc j p hp; exact ⟨u, by simpa using hu, hvr⟩
          · rw [if_neg c1] at hp ⊢
            by_cases c2 : j < o + (g x).leaves.length
            · rw [if_pos c2] at hp ⊢
              obtain ⟨u, hu, hvr⟩ := h2 _ p hp
              exact ⟨u, by simpa using hu, hvr⟩
            · rw [if_neg c2] at hp ⊢
              obtain ⟨u, hu, hvr⟩ := hc j p hp; exact ⟨u, by simpa using hu, hvr⟩)
        refine ⟨out, ?_, e2, e3⟩
        simp only [List.map_cons, Instr.fill]
        rw [show pl.toArray[i]? = some (o, n) by simpa using hpl]
        simp only
        rw [if_neg (by simp; omega), hc']
        exact e1
      · cases h

section ops
variable {d ty : Nat} {pos : String} {af : Array Edge} {g : Option (Nat × Bool)} {K : St → Prop} {s : St} {H : Prop}
theorem PO.build {t : TypeId} {fs : Array Field} {pl : List (Nat × Nat)} {parts : List (Nat × Operand)} {sz bytes : Nat} {z : Value} {zs qs : List PV} {q : PV} [ht : TyIs P t (.struct fs) sz bytes z] [hpl : PlIs P t fs pl]
    (hz : (ofConst z).leaves = zs) (hzk : (ofConst z).known = true) (hq : fillP pl zs (parts.map fun x => (x.1, s.ev x.2)) = some qs) (hr : mkAgg qs = q) : PO P True ⟨some d, .build t parts.toArray, ty, pos, af, g⟩ s q := by
  intro _ B0 w0 φ0 F0 F φ a w hs
  have hv : VR F φ (ofConst z) z := ofConst_vr z
  obtain ⟨h1, h2⟩ := hv.cells hzk
  rw [hz] at h1 h2
  obtain ⟨out, e1, e2, e3⟩ := fillP_spec (f := a.eval) (g := s.ev) (cells := z.cells) (fun x => hs.ev x) hq h1 h2
  refine ⟨.agg out, ?_, ?_⟩
  · obtain ⟨i, i1, i2, i3, i4⟩ := ht.inf
    have hb := run_build (P := P) w t (parts.toArray.map fun (x : Nat × Operand) => (x.1, a.eval x.2)) out (by
      unfold Program.built
      rw [i1, ht.und]
      simp only [i2, hpl.at_]
      simpa using e1)
    simp only [execOp, Sem.run_bind]
    rw [hb]; rfl
  · rw [← hr]
    refine mkAgg_vr e2 (fun i p u hp hu => ?_)
    obtain ⟨u', hu', hvr⟩ := e3 i p hp
    rw [hu] at hu'; cases hu'; exact hvr
/-! ### nil lists -/
theorem tr_nil {F : FMem} {v : Value} (h : TR F (.sl true []) v) : v = .slice none 0 0 := by cases h; rfl
theorem tr_sl {F : FMem} {n : Bool} {xs : List T} {v : Value} (h : TR F (.sl n xs) v) : ∃ a l c, v = .slice a l c ∧ a.isNone = n := by cases h <;> exact ⟨_, _, _, rfl, rfl⟩
theorem PO.eqNil {t et t' : TypeId} {x y : Operand} {n : Bool} {xs : List T} {sz bytes : Nat} {z : Value} [ht : TyIs P t (.slice et) sz bytes z] (hx : EvH H s x (.t (.sl n xs))) (hy : EvH H s y (.t (.sl true []))) : PO P H ⟨some d, .binOp .eql t x y t', ty, pos, af, g⟩ s (.t (.v (.bool n))) := by
  intro hH B0 w0 φ0 F0 F φ a w hs
  refine ⟨.bool n, ?_, .t (.v rfl)⟩
  have h1 := hx.vr hH hs
  have h2 := hy.vr hH hs
  generalize he : a.eval x = u at h1
  generalize hf : a.eval y = v at h2
  cases h1 with | t h1 => cases h2 with | t h2 =>
  obtain ⟨aa, l, c, rfl, rfl⟩ := tr_sl h1
  obtain rfl := tr_nil h2
  have hr := Lib.run_eql_slice_nil w t et aa l c 0 0 ht.und
  simp only [execOp, he, hf, Sem.run_bind]
  have : (eqGuard .eql t x y (.slice aa l c) (.slice none 0 0)) = (pure () : Sem Unit) := by simp [eqGuard]
  simp only [this, Sem.run_pure, Result.andThen_ok, hr]
theorem PO.neNil {t et t' : TypeId} {x y : Operand} {n : Bool} {xs : List T} {sz bytes : Nat} {z : Value} [ht : TyIs P t (.slice et) sz bytes z] (hx : EvH H s x (.t (.sl n xs))) (hy : EvH H s y (.t (.sl true []))) : PO P H ⟨some d, .binOp .neq t x y t', ty, pos, af, g⟩ s (.t (.v (.bool (!n)))) := by
  intro hH B0 w0 φ0 F0 F φ a w hs
  refine ⟨.bool (!n), ?_, .t (.v rfl)⟩
  have h1 := hx.vr hH hs
  have h2 := hy.vr hH hs
  generalize he : a.eval x = u at h1
  generalize hf : a.eval y = v at h2
  cases h1 with | t h1 => cases h2 with | t h2 =>
  obtain ⟨aa, l, c, rfl, rfl⟩ := tr_sl h1
  obtain rfl := tr_nil h2
  have hr := run_neq_slice_nil_any w t et aa l c 0 0 ht.und
  simp only [execOp, he, hf, Sem.run_bind]
  have : (eqGuard .neq t x y (.slice aa l c) (.slice none 0 0)) = (pure () : Sem Unit) := by simp [eqGuard]
  simp only [this, Sem.run_pure, Result.andThen_ok, hr]

/-! ### lists that are not written any more -/
/-- A new row that nobody writes. -/
theorem VO.fresh {o : Oper} {ys : List T} {e : Nat} (h : H → ∀ B0 w0 φ0 F0 F φ a w, Sim B0 w0 φ0 F0 s F φ a w → ∃ (w1 : World) (c : Nat) (news rest : List Value) (t : TypeId), (w1 = w ∨ w1 = w.drew) ∧
      (execOp a.eval o).run P w = .ok (.value (.slice (some ⟨w.heap.size, 0, none⟩) ys.length c)) (w1.alloc (.cells (news ++ rest).toArray t)) ∧ CellsOf F ys e news ∧ ys.length ≤ c ∧ c * e ≤ (news ++ rest).toArray.size) : VO P H o s (.t (.sl false ys)) := by
  intro hH B0 w0 φ0 F0 F φ a w hs next Q hQ
  obtain ⟨w1, c, news, rest, t, hw1, hr, hc, hlc, hsz⟩ := h hH B0 w0 φ0 F0 F φ a w hs
  have hh : w1.heap.size = w.heap.size := by rcases hw1 with rfl | rfl <;> rfl
  have hs1 : Sim B0 w0 φ0 F0 s F φ a w1 := by
    rcases hw1 with rfl | rfl
    · exact hs
    · exact hs.drew
  obtain ⟨hle, hs2⟩ := hs1.row (rest := rest) (t := t) (fz := false) hc
  obtain ⟨F', k1, k2, k3, k4⟩ := hs2.freeze (b := s.n) (e := e) (xs := ys) (fz := false) (by simp [St.alloc, look])
  have hblk : ∀ x, F' x ≠ F x → x.block = w1.heap.size := by
    intro x hx
    obtain ⟨sz, q⟩ := k2 x hx
    rw [Phi.new, if_pos rfl] at q
    simp only [Option.some.injEq, Prod.mk.injEq] at q
    exact q.1.symm
  have hs3 : Sim B0 w0 φ0 F0 s F φ a (w1.alloc (.cells (news ++ rest).toArray t)) := hs1.world ((Bel.refl _ _).alloc hs1.base_le _) (fun b k B sz q1 q2 => Below.heap_alloc _ _ _ (hs1.block_lt q1 q2)) (hs1.fok.alloc _)
  have hs4 := hs3.more k1 k3.fok (fun x hx => by rw [hblk x hx]; exact hs1.base_new (Nat.le_refl _)) (fun b k B sz q1 q2 x hx => by rw [hblk x hx]; exact Ne.symm (Nat.ne_of_lt (hs1.block_lt q1 q2)))
  simp only [Oper.wp, hr, Oper.upon]
  refine hQ _ F' _ hs4 (.t ?_)
  have hv := VR.ref (F := F) (φ := φ.new s.n (w1.heap.size, (news ++ rest).toArray.size)) (b := s.n) (e := e) (off := 0) (len := ys.length) (cap := ys.length) (B := w1.heap.size) (c := c) (if_pos rfl) (Nat.le_refl _) hlc (by simpa using hsz)
  have := k4 0 ys.length ys.length _ (by omega) hv
  rw [hh] at this
  simpa using this
/-! ### make -/
theorem cellsOf_made {F : FMem} {z : Value} {zt : T} {e n : Nat} (hz : tOf 6 z = some zt) (he : z.cells.size = e) (hf : zt.flatL = true) (he0 : 0 < e) : CellsOf F (List.replicate n zt) e (madeCells z.cells (n * e)).toList := by
  have htr : TR F zt z := tOf_tr 6 z zt hz
  obtain ⟨c1, c2⟩ := htr.cells
  have hone : ∀ (j : Nat) (u : Value), z.cells[j]? = some u → u.oneCell' = true := by
    intro j u hu
    have hj := (Array.getElem?_eq_some_iff.1 hu).1
    obtain ⟨u', hu', ht⟩ := c2 j _ (List.getElem?_eq_getElem (by omega))
    rw [hu] at hu'; cases hu'
    exact ht.one ((List.all_eq_true.1 hf) _ (List.getElem_mem _))
  have hget : ∀ k, k < n * e → (madeCells z.cells (n * e)).toList[k]? = z.cells[k % e]? := by
    intro k hk
    have : k % e < e := Nat.mod_lt _ he0
    subst he
    simp only [madeCells, Array.getElem?_toList, Array.getElem?_map]
    rw [Array.getElem?_eq_getElem (by simpa using hk), Array.getElem_range, Option.map_some, getElem!_pos z.cells _ this, Array.getElem?_eq_getElem this]
  have hrep : ∀ (i : Nat) (y : T), (List.replicate n zt)[i]? = some y → i < n ∧ zt = y := by
    intro i y hy
    rw [List.getElem?_replicate] at hy
    split at hy
    · cases hy; exact ⟨‹_›, rfl⟩
    · cases hy
  refine ⟨by simp [madeCells], fun i y hy => ?_, fun i y j p hy hp => ?_, fun u hu => ?_⟩
  · obtain ⟨_, rfl⟩ := hrep i y hy
    omega
  · obtain ⟨hi, rfl⟩ := hrep i y hy
    have hj := (List.getElem?_eq_some_iff.1 hp).1
    obtain ⟨u, hu, ht⟩ := c2 j p hp
    refine ⟨u, ?_, ht⟩
    have hle : (i + 1) * e ≤ n * e := Nat.mul_le_mul_right e hi
    rw [Nat.add_mul] at hle
    rw [hget _ (by omega), Nat.mul_comm, Nat.mul_add_mod, Nat.mod_eq_of_lt (by omega)]
    exact hu
  · obtain ⟨k, hk⟩ := List.mem_iff_getElem?.1 hu
    have hkl := (List.getElem?_eq_some_iff.1 hk).1
    simp [madeCells] at hkl
    rw [hget k hkl] at hk
    exact hone _ u hk
theorem make_run {t et : TypeId} {x y : Operand} {kl kc : IntKind} {l c : Int} {sz bytes e ebytes : Nat} {z ez : Value} {ed : TypeDesc} [ht : TyIs P t (.slice et) sz bytes z] [he : TyIs P et ed e ebytes ez]
    {B0 : Fr} {w0 : World} {φ0 : Phi} {F0 : FMem} {F : FMem} {φ : Phi} {a : Act} {w : World} (hH : H) (hs : Sim B0 w0 φ0 F0 s F φ a w) (hx : EvH H s x (.t (.v (.int kl l)))) (hy : EvH H s y (.t (.v (.int kc c)))) (h0 : 0 ≤ l) (h1 : l ≤ c) (hb : (ebytes : Int) * c ≤ 281474976710656) (h63 : c ≤ 9223372036854775807) :
    (execOp a.eval ⟨some d, .makeSlice t x y, ty, pos, af, g⟩).run P w = .ok (.value (.slice (some ⟨w.heap.size, 0, none⟩) l.toNat c.toNat)) (w.alloc (.cells (madeCells ez.cells (c.toNat * e)) et)) := by
  obtain ⟨i, i1, i2, i3, i4⟩ := he.inf
  have e1 := (evv hH hs hx).1
  have e2 := (evv hH hs hy).1
  have hr := run_make (P := P) w t et i ez ht.und i1 i2 kl kc l c h0 h1 (by rw [i4]; exact hb) h63
  rw [i3] at hr
  simp only [execOp, e1, e2, Sem.run_bind, hr, Result.andThen_ok, Sem.run_pure]
/-- 'make([]E, n)', 'make([]E, n, c)' of our own. -/
theorem TriO.make {t et : TypeId} {x y : Operand} {kl kc : IntKind} {l c : Int} {sz bytes e ebytes : Nat} {z ez : Value} {ed : TypeDesc} {zt : T} [ht : TyIs P t (.slice et) sz bytes z] [he : TyIs P et ed e ebytes ez] (hx : EvH True s x (.t (.v (.int kl l)))) (hy : EvH True s y (.t (.v (.int kc c))))
    (hz : tOf 6 ez = some zt) (hf : zt.flatL = true) (he0 : 0 < e) (h0 : 0 ≤ l) (h1 : l ≤ c) (hb : (ebytes : Int) * c ≤ 281474976710656) (h63 : c ≤ 9223372036854775807) (hN : Nat.blt d s.N = true)
    (hK : K ((s.alloc (.row e (List.replicate l.toNat zt) false)).put d (.ref s.n e 0 l.toNat l.toNat))) : TriO P ⟨some d, .makeSlice t x y, ty, pos, af, g⟩ K s := by
  refine .gen rfl hN (fun B0 w0 φ0 F0 F φ a w hs => ?_)
  have hr := make_run (P := P) (d := d) (ty := ty) (pos := pos) (af := af) (g := g) (t := t) trivial hs hx hy h0 h1 hb h63
  have hsplit : (madeCells ez.cells (c.toNat * e)).toList = (madeCells ez.cells (l.toNat * e)).toList ++ (madeCells ez.cells (c.toNat * e)).toList.drop (l.toNat * e) := by
    have : (madeCells ez.cells (l.toNat * e)).toList = (madeCells ez.cells (c.toNat * e)).toList.take (l.toNat * e) := by
      have hle : l.toNat * e ≤ c.toNat * e := Nat.mul_le_mul_right e (by omega)
      have hlen : ∀ n, (madeCells ez.cells n).toList.length = n := fun n => by simp [madeCells]
      apply List.ext_getElem
      · rw [List.length_take, hlen, hlen, Nat.min_eq_left hle]
      · intro i q1 q2; simp [madeCells]
    rw [this, List.take_append_drop]
  have hcells := cellsOf_made (F := F) (n := l.toNat) hz he.zsz hf he0
  obtain ⟨hle, hs'⟩ := hs.row (rest := (madeCells ez.cells (c.toNat * e)).toList.drop (l.toNat * e)) (t := et) (fz := false) hcells
  rw [← hsplit] at hs' hle
  refine ⟨.slice (some ⟨w.heap.size, 0, none⟩) l.toNat c.toNat, _, s.alloc (.row e (List.replicate l.toNat zt) false), F, _, .ref s.n e 0 l.toNat l.toNat, ?_, rfl, rfl, hs', ?_, hK⟩
  · rw [hr]
  · have := VR.ref (F := F) (φ := φ.new s.n (w.heap.size, (madeCells ez.cells (c.toNat * e)).toList.toArray.size)) (b := s.n) (e := e) (off := 0) (len := l.toNat) (cap := l.toNat) (B := w.heap.size) (c := c.toNat) (if_pos rfl) (Nat.le_refl _) (by omega) (by simp [madeCells])
    simpa using this

/-! ### bytes and texts -/
/-- A new block of whatever make, that nobody writes. -/
theorem Sim.newRow {B0 : Fr} {w0 : World} {φ0 : Phi} {F0 : FMem} {s : St} {F : FMem} {φ : Phi} {a : Act} {w : World} (h : Sim B0 w0 φ0 F0 s F φ a w) {o : Obj} {ys : List T} {e c : Nat} {news : List Value} (hc : CellsOf F ys e news)
    (hcell : ∀ (k : Nat) (u : Value), news[k]? = some u → (w.alloc o).cell? ⟨w.heap.size, k, none⟩ = some u) (hlc : ys.length ≤ c) :
    ∃ F', Sim B0 w0 φ0 F0 s F' φ a (w.alloc o) ∧ TR F' (.sl false ys) (.slice (some ⟨w.heap.size, 0, none⟩) ys.length c) := by
  let F' : FMem := fun x => if x.block = w.heap.size ∧ x.spot = none ∧ x.off < news.length then news[x.off]? else F x
  have hin : ∀ x, (x.block = w.heap.size ∧ x.spot = none ∧ x.off < news.length) → F' x = news[x.off]? := fun x hx => if_pos hx
  have hout : ∀ x, ¬ (x.block = w.heap.size ∧ x.spot = none ∧ x.off < news.length) → F' x = F x := fun x hx => if_neg hx
  have hle : F.le F' := fun x u e1 => by
    rw [hout x (fun hx => absurd hx.1 (Nat.ne_of_lt (h.fok.lt e1)))]; exact e1
  have hne : ∀ x, F' x ≠ F x → x.block = w.heap.size := by
    intro x hx
    by_cases hc : x.block = w.heap.size ∧ x.spot = none ∧ x.off < news.length
    · exact hc.1
    · exact absurd (hout x hc) hx
  have hs3 : Sim B0 w0 φ0 F0 s F φ a (w.alloc o) := h.world ((Bel.refl _ _).alloc h.base_le _) (fun b k B sz q1 q2 => Below.heap_alloc _ _ _ (h.block_lt q1 q2)) (h.fok.alloc _)
  have hok : FOK F' (w.alloc o) := by
    refine h.fok.grow hle ?_ (fun g j u n _ e h2 => szW_alloc (a := ⟨g, j, none⟩) o e h2)
    intro x u e1
    by_cases hx : x.block = w.heap.size ∧ x.spot = none ∧ x.off < news.length
    · rw [hin x hx] at e1
      have hx' : x = ⟨w.heap.size, x.off, none⟩ := by obtain ⟨h1, h2, _⟩ := hx; cases x; simp_all
      refine ⟨by rw [hx']; exact hcell _ u e1, hc.one u (List.mem_of_getElem? e1)⟩
    · rw [hout x hx] at e1; exact hs3.fok x u e1
  refine ⟨F', hs3.more hle hok (fun x hx => by rw [hne x hx]; exact h.base_new (Nat.le_refl _)) (fun b k B sz q1 q2 x hx => by rw [hne x hx]; exact Ne.symm (Nat.ne_of_lt (h.block_lt q1 q2))), ?_⟩
  refine .sl (e := e) (fun i j => news.getD (i * e + j) undef) hlc hc.he (fun i y j p hy hp => ?_) (fun i y j p hy hp => ?_)
  · obtain ⟨u, h1, h2⟩ := hc.get i y j p hy hp
    have := (List.getElem?_eq_some_iff.1 h1).1
    rw [hin _ ⟨rfl, rfl, by simpa using this⟩, List.getD_eq_getElem?_getD]
    simp only [Nat.zero_add, h1]; rfl
  · obtain ⟨u, h1, h2⟩ := hc.get i y j p hy hp
    rw [List.getD_eq_getElem?_getD, h1]
    exact h2.mono hle
def tByte (c : UInt8) : T := .v (.int .u8 c.toNat)
theorem cellsOf_bytes {F : FMem} (b : ByteArray) : CellsOf F ((bs b).map tByte) 1 (byteCells b) := by
  refine ⟨by simp [byteCells, bs], fun i x hx => ?_, fun i x j p hx hp => ?_, fun u hu => ?_⟩
  · simp only [List.getElem?_map, Option.map_eq_some_iff] at hx
    obtain ⟨c, _, rfl⟩ := hx; rfl
  · simp only [List.getElem?_map, Option.map_eq_some_iff] at hx
    obtain ⟨c, hc, rfl⟩ := hx
    simp only [T.leaves, tByte] at hp
    cases j with
    | zero => simp at hp; subst hp; exact ⟨_, by simp [byteCells, bs] at hc ⊢; exact ⟨c, hc, rfl⟩, .v rfl⟩
    | succ j => simp at hp
  · obtain ⟨_, _, rfl⟩ := List.mem_map.1 hu; rfl
/-- '[]byte(s)' that nobody writes. -/
theorem VO.s2b {src dst et : TypeId} {x : Operand} {b : ByteArray} {sz bytes sz' bytes' sz2 bytes2 : Nat} {z z' z2 : Value} [hs1 : TyIs P src .string sz bytes z] [hd1 : TyIs P dst (.slice et) sz' bytes' z'] [he1 : TyIs P et (.int .u8) sz2 bytes2 z2] (hx : EvH H s x (.t (.v (.string b)))) :
    VO P H ⟨some d, .convert src dst x, ty, pos, af, g⟩ s (.t (.sl false ((bs b).map tByte))) := by
  intro hH B0 w0 φ0 F0 F φ a w hs next Q hQ
  have hq := (evv hH hs hx).1
  have hr := run_bytes_of_string (P := P) w src dst et b hs1.und hd1.und he1.und
  have hrun : (execOp a.eval ⟨some d, .convert src dst x, ty, pos, af, g⟩).run P w = .ok (.value (.slice (some ⟨w.heap.size, 0, none⟩) b.size (grownCap w b.size 0 et))) (w.drew.alloc (.cells (bytesRow b (grownCap w b.size 0 et)) et ((bytesRow b (grownCap w b.size 0 et)).size, (bytesRow b (grownCap w b.size 0 et)).size + 1))) := by
    simp only [execOp, hq, Sem.run_bind, hr, Result.andThen_ok, Sem.run_pure]
  have hcell : ∀ (k : Nat) (u : Value), (byteCells b)[k]? = some u → (w.drew.alloc (.cells (bytesRow b (grownCap w b.size 0 et)) et ((bytesRow b (grownCap w b.size 0 et)).size, (bytesRow b (grownCap w b.size 0 et)).size + 1))).cell? ⟨w.drew.heap.size, k, none⟩ = some u := by
    intro k u hk
    have hh : (w.drew.alloc (.cells (bytesRow b (grownCap w b.size 0 et)) et ((bytesRow b (grownCap w b.size 0 et)).size, (bytesRow b (grownCap w b.size 0 et)).size + 1))).heap[w.drew.heap.size]? = some (.cells (bytesRow b (grownCap w b.size 0 et)) et ((bytesRow b (grownCap w b.size 0 et)).size, (bytesRow b (grownCap w b.size 0 et)).size + 1)) := by
      show (w.heap.push _)[w.heap.size]? = _
      simp
    rw [cell_at hh, bytesRow]
    simp only [byteCells, List.getElem?_map, Option.map_eq_some_iff] at hk
    obtain ⟨c, hc, rfl⟩ := hk
    have hkl := (List.getElem?_eq_some_iff.1 hc).1
    rw [Array.getElem?_append_left (by simpa using hkl), Array.getElem?_map]
    rw [Array.getElem?_toList] at hc
    rw [hc]; rfl
  obtain ⟨F', h1, h2⟩ := hs.drew.newRow (cellsOf_bytes b) hcell (c := grownCap w b.size 0 et) (by simpa [bs] using grownCap_ge w b.size 0 et)
  simp only [Oper.wp, hrun, Oper.upon]
  refine hQ _ F' _ h1 (.t ?_)
  have hl : ((bs b).map tByte).length = b.size := by simp [bs]
  rw [hl] at h2
  exact h2
/-- 'string(l)' of bytes. -/
theorem PO.b2s {src dst et : TypeId} {x : Operand} {n : Bool} {ys : List T} {l : List UInt8} {sz bytes sz' bytes' sz2 bytes2 : Nat} {z z' z2 : Value} [hs1 : TyIs P src (.slice et) sz bytes z] [hd1 : TyIs P dst .string sz' bytes' z'] [he1 : TyIs P et (.int .u8) sz2 bytes2 z2] (hx : EvH H s x (.t (.sl n ys))) (hy : ys = l.map tByte) :
    PO P H ⟨some d, .convert src dst x, ty, pos, af, g⟩ s (.t (.v (.string ⟨l.toArray⟩))) := by
  subst hy
  intro hH B0 w0 φ0 F0 F φ a w hs
  refine ⟨.string ⟨l.toArray⟩, ?_, .t (.v rfl)⟩
  have h1 := hx.vr hH hs
  generalize he : a.eval x = u at h1
  cases h1 with | t h1 =>
  generalize hl : l.map tByte = ys at h1
  cases h1 with
  | nil =>
    have : l = [] := by simpa using hl
    subst this
    have hr := run_convert_bytes_nil (P := P) w src et hs1.und he1.und 0 0 dst hd1.und
    simp only [execOp, he, Sem.run_bind, hr, Result.andThen_ok]; rfl
  | @sl0 a0 c =>
    have : l = [] := by simpa using hl
    subst this
    have hr := run_convert_bytes_back (P := P) w src dst et a0 c [] hs1.und he1.und hd1.und (fun j hj => by simp at hj)
    rw [List.length_nil] at hr
    simp only [execOp, he, Sem.run_bind, hr, Result.andThen_ok]; rfl
  | @sl _ B o e c us hc he' hF hu =>
    subst hl
    have hr := run_convert_bytes_back (P := P) w src dst et ⟨B, o, none⟩ c l hs1.und he1.und hd1.und (fun j hj => by
      have h2 : (l.map tByte)[j]? = some (tByte l[j]) := by simp [hj]
      have h3 := he' j _ h2
      simp only [T.leaves, tByte, List.length_singleton] at h3
      have h4 := hF j _ 0 (tByte l[j]) h2 rfl
      have h5 := hu j _ 0 (tByte l[j]) h2 rfl
      have h6 := (hs.fok _ _ h4).1
      subst h3
      rw [Addr.add_mid]
      have h7 : us j 0 = .int .u8 l[j].toNat := by
        generalize us j 0 = q at h5
        cases h5; rfl
      rw [h7] at h6
      simpa using h6)
    have hl : (l.map tByte).length = l.length := by simp
    rw [hl] at he
    simp only [execOp, he, Sem.run_bind, hr, Result.andThen_ok, Sem.run_pure]
end ops

/-! ### at the head of a list -/
section heads
variable {d ty : Nat} {pos : String} {af : Array Edge} {K : St → Prop} {ops : Array Oper} {l_ : List Oper} {tm_ : List (Nat × PV)} {N_ lo_ n_ : Nat} {hp_ : List (Nat × Blk)}
theorem SrcE.t {n : Bool} {ys : List T} {tx et : TypeId} {y : Operand} {e sz bytes : Nat} {z : Value} {s : St} [ht : TyIs P tx (.slice et) sz bytes z] (hy : s.ev y = .t (.sl n ys)) (he : (ys.all fun x => x.leaves.length == e) = true) : SrcE P s tx y e ys :=
  .row hy (fun i x hx => by simpa using List.all_eq_true.1 he x (List.mem_of_getElem? hx))
end heads

/-! ### results in cells -/
/-- A struct's variable is the result. -/
def ComesC (t : Tmp) (sz : Nat) (x : T) (e : Ex) (s : St) : Prop :=
  (e = .normal ∨ e = .ret) ∧ ∃ b ls xs, s.ev (.tmp t) = .ptr b 0 ∧ look b s.heap = some (.obj ls) ∧ ls.length = sz ∧ x = .agg xs ∧ Rets s ls (xs.map .t)
theorem results_cell {fn : Func} {t : Tmp} {ty : TypeId} (h : fn.results = #[.cell t ty]) {tmps : Array Value} {w : World} {B o : Nat} {v : Value} (ht : tmps.getD t undef = .pointer (some ⟨B, o, none⟩)) (hl : (loadVar ty ⟨B, o, none⟩).run P w = .ok v w) :
    (results fn tmps).run P w = .ok v w := by
  have ht' : tmps[t]?.getD undef = .pointer (some ⟨B, o, none⟩) := by rw [← Array.getD_eq_getD_getElem?]; exact ht
  simp [results, h, ht', asAddr, hl]
theorem Pure.ofC {f : FuncId} {fn : Func} {c : Code} {args : List T} {t : Tmp} {rt : TypeId} {r : T} {N sz bytes : Nat} {ds : TypeDesc} {z : Value} [ht : TyIs P rt ds sz bytes z] (hd : aggD ds = true) (hf : P.funcs[f]? = some fn) (hb : fn.body = some c) (hN : fn.ntmps = N) (hle : args.length ≤ N) (hr : fn.results = #[.cell t rt])
    (h : Tri P c (ComesC t sz r) ⟨initTm 0 args, N, [], 0, 0⟩) : Pure P f args (.one (.t r)) := by
  intro F vs w hF hn hv
  refine calls_of_wp hf hb ?_
  rw [hN]
  have hs := sim_init (N := N) hF hn hv (by omega)
  refine wp_mono (h _ _ _ _ _ _ _ _ hs) ?_
  rintro e a' w' ⟨x, s', F', φ', rfl, ⟨hx, b, ls, xs, q1, q2, q3, rfl, hq⟩, h1, h2, hs'⟩
  have hp := hs'.ev (.tmp t)
  rw [q1] at hp
  obtain ⟨B, cs, hlv⟩ := hs'.heap b _ q2
  obtain ⟨t', ht'⟩ := hlv.cells rfl
  generalize hpt : a'.eval (.tmp t) = pv at hp
  cases hp with
  | ptr hφ =>
    have := hlv.at_; rw [hφ] at this; cases this
    cases hlv.reads with
    | obj hn' hrd hF' =>
      have hlen : (cs.toList.take sz).length = sz := by simp; omega
      have hcell : ∀ (i : Nat) (u : Value), (cs.toList.take sz)[i]? = some u → cs[i]? = some u := by
        intro i u hu
        rw [List.getElem?_take] at hu
        split at hu
        · simpa using hu
        · cases hu
      obtain ⟨G, bs, g1, g2, g3, g4, g5, g6, g7⟩ := hq.rr F' (cs.toList.take sz) hs' (by omega) (fun i p v hp hv => by
        obtain ⟨u, hu, hvr⟩ := hrd i p hp
        rw [hcell i v hv] at hu; cases hu; exact hvr)
      have hload : (loadVar rt ⟨B, 0, none⟩).run P w' = .ok (.agg (cs.toList.take sz).toArray) w' := by
        have hm := loadAt_many (P := P) ht hd (w := w') (B := B) (o := 0) (cs := cs.toList.take sz) hlen (fun j u hu => by rw [Nat.zero_add, cell_at ht']; exact hcell j u hu)
        simpa [Instr.loadAt, Instr.sureAddr] using hm
      have hpost : bodyPost P fn (fun e w' => ∃ rv F', e = .returned rv ∧ F.le F' ∧ FOK F' w' ∧ (∀ a, F' a ≠ F a → w.heap.size ≤ a.block) ∧ Below w.heap.size w w' ∧ RR F' w.heap.size w' (.one (.t (.agg xs))) rv) .normal a' w' := by
        refine bodyPost_end (results_cell hr hpt hload) hs'.defers ⟨_, G, rfl, FMem.le_trans hs'.fle g1, g2, fun x hx => ?_, hs'.below.below, .one (b := none) (.t (.agg ?_ ?_))⟩
        · by_cases e1 : G x = F' x
          · exact Nat.le_of_not_lt (hs'.fnew x (fun e2 => hx (e1.trans e2)))
          · obtain ⟨b, k, sz, q1, q2⟩ := g3 x e1
            obtain ⟨B, cs, hl⟩ := hs'.heap b k q1
            have := hl.at_; rw [q2] at this; cases this
            exact Nat.le_of_not_lt hl.old
        · simpa using g4
        · intro i y u hy hu
          have := g5 i (.t y) u (by simp [hy]) (by simpa using hu)
          generalize hbs : bs i = bb at this
          cases this with | t h => exact h
      rcases hx with rfl | rfl
      · exact hpost
      · exact hpost
end Go.Proofs.YtdiimgkopknbcaaGreatDoor.E

/- The engine: states that know less: fewer things, blocks by other numbers, rows that nobody writes any more; loops whose blocks are renewed. -/
namespace Go.Proofs.YtdiimgkopknbcaaGreatDoor.E
open Go Go.RowKit
set_option linter.unusedVariables false
set_option linter.unusedSimpArgs false
variable {P : Program}

/-- What is known at s2 is known at s, perhaps after something is written off. -/
structure Less (s2 s : St) : Prop where
  lo : s2.lo = s.lo
  N : s2.N = s.N
  sim : ∀ {B0 w0 φ0 F0 F φ a w}, Sim B0 w0 φ0 F0 s F φ a w → ∃ F' φ', Sim B0 w0 φ0 F0 s2 F' φ' a w
theorem Sub.less {s2 s : St} (h : Sub s2 s) : Less s2 s := ⟨h.lo, h.N, fun hs => let ⟨φ', h'⟩ := hs.sub h; ⟨_, φ', h'⟩⟩
theorem Less.trans {s3 s2 s : St} (h : Less s3 s2) (k : Less s2 s) : Less s3 s := ⟨h.lo.trans k.lo, h.N.trans k.N, fun hs => let ⟨_, _, h'⟩ := k.sim hs; h.sim h'⟩
theorem Tri.less {c : Code} {Q : Ex → St → Prop} {s s2 : St} (hs : Less s2 s) (h : Tri P c Q s2) : Tri P c Q s := by
  intro B0 w0 φ0 F0 F φ a w hsim
  obtain ⟨F', φ', h'⟩ := hs.sim hsim
  refine wp_mono (h B0 w0 φ0 F0 F' φ' a w h') ?_
  rintro e a' w' ⟨x, s', F', φ', he, hq, h1, h2, hs'⟩
  exact ⟨x, s', F', φ', he, hq, h1.trans hs.lo, h2.trans hs.N, hs'⟩
/-! ### blocks by other numbers -/
mutual
def PV.ren (ρ : Nat → Nat) : PV → PV
  | .ref b e off len cap => .ref (ρ b) e off len cap
  | .ptr b off => .ptr (ρ b) off
  | .rptr b e i off => .rptr (ρ b) e i off
  | .agg ps => .agg (PV.rens ρ ps)
  | .tup ps => .tup (PV.rens ρ ps)
  | .fn f fs ps => .fn f (PV.rens ρ fs) (PV.rens ρ ps)
  | .mp b => .mp (ρ b)
  | .yl b => .yl (ρ b)
  | .ifc ti p => .ifc ti (PV.ren ρ p)
  | .cond b w p => .cond b w (PV.ren ρ p)
  | .undef => .undef
  | .t x => .t x
  | .eptr x o => .eptr x o
  | .clip xs => .clip xs
def PV.rens (ρ : Nat → Nat) : List PV → List PV
  | [] => []
  | p :: ps => PV.ren ρ p :: PV.rens ρ ps
end
theorem PV.rens_get {ρ : Nat → Nat} : ∀ (ps : List PV) (i : Nat), (PV.rens ρ ps)[i]? = ps[i]?.map (PV.ren ρ)
  | [], i => by simp [PV.rens]
  | p :: ps, 0 => rfl
  | p :: ps, i + 1 => by simpa [PV.rens] using PV.rens_get ps i
theorem PV.rens_length {ρ : Nat → Nat} : ∀ (ps : List PV), (PV.rens ρ ps).length = ps.length
  | [] => rfl
  | p :: ps => by simp [PV.rens, PV.rens_length ps]
def Blk.ren (ρ : Nat → Nat) : Blk → Blk
  | .obj cells t => .obj (PV.rens ρ cells) t
  | .row e xs fz => .row e xs fz
  | .map es => .map (es.map fun x => (x.1, PV.ren ρ x.2))
def Phi.ren (φ : Phi) (ρ : Nat → Nat) (m : Nat) : Phi := fun b => if b < m then φ (ρ b) else none
theorem VR.ren {F : FMem} {φ : Phi} {ρ : Nat → Nat} {m : Nat} {q : PV} {v : Value} (h : VR F φ q v) : ∀ p, PV.ren ρ p = q → PV.lt m p = true → VR F (φ.ren ρ m) p v := by
  have key : ∀ b x, φ (ρ b) = some x → Nat.blt b m = true → (φ.ren ρ m) b = some x := by
    intro b x h1 h2
    rw [Phi.ren, if_pos (by simpa [Nat.blt_eq] using h2)]; exact h1
  induction h with
  | undef v => intro p hp _; cases p <;> simp only [PV.ren, reduceCtorEq] at hp; exact .undef v
  | t h => intro p hp _; cases p <;> simp only [PV.ren, reduceCtorEq] at hp; cases hp; exact .t h
  | ref hb h1 h2 h3 =>
    intro p hp hl; cases p <;> simp only [PV.ren, reduceCtorEq] at hp
    cases hp; exact .ref (key _ _ hb (by simpa [PV.lt] using hl)) h1 h2 h3
  | ptr hb =>
    intro p hp hl; cases p <;> simp only [PV.ren, reduceCtorEq] at hp
    cases hp; exact .ptr (key _ _ hb (by simpa [PV.lt] using hl))
  | rptr hb =>
    intro p hp hl; cases p <;> simp only [PV.ren, reduceCtorEq] at hp
    cases hp; exact .rptr (key _ _ hb (by simpa [PV.lt] using hl))
  | eptr us h => intro p hp _; cases p <;> simp only [PV.ren, reduceCtorEq] at hp; cases hp; exact .eptr us h
  | clip us h => intro p hp _; cases p <;> simp only [PV.ren, reduceCtorEq] at hp; cases hp; exact .clip us h
  | agg hn h ih =>
    intro p hp hl; cases p <;> simp only [PV.ren, reduceCtorEq] at hp
    rename_i ps; cases hp
    rw [PV.rens_length] at hn
    exact .agg hn (fun i p u h1 h2 => ih i _ u (by rw [PV.rens_get, h1]; rfl) h2 p rfl (PV.lts_get (by simpa [PV.lt] using hl) i p h1))
  | tup hn h ih =>
    intro p hp hl; cases p <;> simp only [PV.ren, reduceCtorEq] at hp
    rename_i ps; cases hp
    rw [PV.rens_length] at hn
    exact .tup hn (fun i p u h1 h2 => ih i _ u (by rw [PV.rens_get, h1]; rfl) h2 p rfl (PV.lts_get (by simpa [PV.lt] using hl) i p h1))
  | fn hm hf hn h ihf ih =>
    intro p hp hl; cases p <;> simp only [PV.ren, reduceCtorEq] at hp
    rename_i f fs ps; cases hp
    rw [PV.rens_length] at hn hm
    simp only [PV.lt, Bool.and_eq_true] at hl
    exact .fn hm (fun i p u h1 h2 => ihf i _ u (by rw [PV.rens_get, h1]; rfl) h2 p rfl (PV.lts_get hl.1 i p h1)) hn (fun i p u h1 h2 => ih i _ u (by rw [PV.rens_get, h1]; rfl) h2 p rfl (PV.lts_get hl.2 i p h1))
  | mp hb =>
    intro p hp hl; cases p <;> simp only [PV.ren, reduceCtorEq] at hp
    cases hp; exact .mp (key _ _ hb (by simpa [PV.lt] using hl))
  | yl hb =>
    intro p hp hl; cases p <;> simp only [PV.ren, reduceCtorEq] at hp
    cases hp; exact .yl (key _ _ hb (by simpa [PV.lt] using hl))
  | ifc h ih =>
    intro p hp hl; cases p <;> simp only [PV.ren, reduceCtorEq] at hp
    rename_i t p; cases hp
    exact .ifc (ih p rfl (by simpa [PV.lt] using hl))
  | cond h hn ih =>
    intro p hp hl; cases p <;> simp only [PV.ren, reduceCtorEq] at hp
    rename_i p; cases hp
    exact .cond (fun e => ih e p rfl (by subst e; simpa [PV.lt] using hl)) hn
/-- s2 is s, with other numbers, and less is known. -/
structure Ren (ρ : Nat → Nat) (s2 s : St) : Prop where
  N : s2.N = s.N
  lo : s2.lo = s.lo
  lon : s2.lo ≤ s2.n
  low : ∀ b, b < s2.lo → ρ b = b
  tm : ∀ i p, look i s2.tm = some p → look i s.tm = some (p.ren ρ) ∧ PV.lt s2.n p = true
  heap : ∀ b k, look b s2.heap = some k → look (ρ b) s.heap = some (k.ren ρ) ∧ b < s2.n ∧ Blk.lt s2.n k = true
  inj : ∀ b b' k k', look b s2.heap = some k → look b' s2.heap = some k' → ρ b = ρ b' → b = b'
theorem Ren.less {ρ : Nat → Nat} {s2 s : St} (hs : Ren ρ s2 s) : Less s2 s := by
  refine ⟨hs.lo, hs.N, fun {B0 w0 φ0 F0 F φ a w} h => ⟨F, φ.ren ρ s2.n, ⟨h.below, h.base, h.fok, h.fle, h.fnew, fun b hb => ?_, hs.lon, fun b hb => ?_, h.size.trans hs.N.symm, h.defers, fun i p hp => ?_, fun b k hk => ?_, fun b b' k k' B sz sz' h1 h2 h3 h4 => ?_⟩⟩⟩
  · rw [Phi.ren, if_pos (Nat.lt_of_lt_of_le hb hs.lon), hs.low b hb]
    exact h.phi0 b (by rw [← hs.lo]; exact hb)
  · rw [Phi.ren, if_neg (by omega)]
  · obtain ⟨h1, h2⟩ := hs.tm i p hp
    exact (h.tm i _ h1).ren p rfl h2
  · obtain ⟨h1, h2, h3⟩ := hs.heap b k hk
    obtain ⟨B, cs, hl⟩ := h.heap _ _ h1
    refine ⟨B, cs, ⟨by rw [Phi.ren, if_pos h2]; exact hl.at_, hl.old, fun e => hl.cells (by cases k <;> first | exact e | rfl), fun t e => hl.ty t (by cases k <;> first | exact e | (cases e; done)), fun es e => ?_, ?_⟩⟩
    · subst e
      obtain ⟨ents, clock, q1, q2, q3⟩ := hl.mp _ rfl
      refine ⟨ents, clock, q1, by simpa using q2, fun i e x g1 g2 => ?_⟩
      obtain ⟨r1, r2⟩ := q3 i e (x.1, PV.ren ρ x.2) g1 (by rw [List.getElem?_map, g2]; rfl)
      exact ⟨r1, r2.ren x.2 rfl (PV.lts_get h3 i x.2 (by rw [List.getElem?_map, g2]; rfl))⟩
    have hr := hl.reads
    cases k with
    | obj cells bt =>
      simp only [Blk.ren] at hr
      cases hr with
      | obj hn' hr hF =>
        rw [PV.rens_length] at hn'
        exact .obj hn' (fun i p hp => let ⟨u, q1, q2⟩ := hr i _ (by rw [PV.rens_get, hp]; rfl); ⟨u, q1, q2.ren p rfl (PV.lts_get h3 i p hp)⟩) hF
    | row e xs fz =>
      simp only [Blk.ren] at hr
      cases hr with
      | row hn' he hr hF => exact .row hn' he hr hF
    | map es =>
      simp only [Blk.ren] at hr
      cases hr with
      | map hF => exact .map hF
  · obtain ⟨g1, g2, _⟩ := hs.heap _ _ h1
    obtain ⟨g3, g4, _⟩ := hs.heap _ _ h2
    rw [Phi.ren, if_pos g2] at h3
    rw [Phi.ren, if_pos g4] at h4
    exact hs.inj b b' k k' h1 h2 (h.inj _ _ _ _ B sz sz' g1 g3 h3 h4)
def renT (ρ : Nat → Nat) : List (Nat × PV) → List (Nat × PV) → Prop
  | [], _ => True
  | (i, p) :: l, m => look i m = some (p.ren ρ) ∧ renT ρ l m
def renB (ρ : Nat → Nat) : List (Nat × Blk) → List (Nat × Blk) → Prop
  | [], _ => True
  | (i, p) :: l, m => look (ρ i) m = some (p.ren ρ) ∧ renB ρ l m
theorem renT_look {ρ : Nat → Nat} : ∀ {l m : List (Nat × PV)}, renT ρ l m → ∀ i p, look i l = some p → look i m = some (p.ren ρ)
  | [], _, _, i, p, h => by cases h
  | (j, q) :: l, m, hs, i, p, h => by
    simp only [look] at h
    split at h
    · rename_i e; subst e; cases h; exact hs.1
    · exact renT_look hs.2 i p h
theorem renB_look {ρ : Nat → Nat} : ∀ {l m : List (Nat × Blk)}, renB ρ l m → ∀ i p, look i l = some p → look (ρ i) m = some (p.ren ρ)
  | [], _, _, i, p, h => by cases h
  | (j, q) :: l, m, hs, i, p, h => by
    simp only [look] at h
    split at h
    · rename_i e; subst e; cases h; exact hs.1
    · exact renB_look hs.2 i p h
def keys {α : Type} (l : List (Nat × α)) : List Nat := l.map (·.1)
theorem look_key {α : Type} : ∀ {l : List (Nat × α)} {i : Nat} {x : α}, look i l = some x → i ∈ keys l
  | [], i, x, h => by cases h
  | (j, q) :: l, i, x, h => by
    simp only [look] at h
    split at h
    · rename_i e; subst e; simp [keys]
    · have := look_key h; simp only [keys, List.map_cons, List.mem_cons] at this ⊢; exact .inr this
def injOn (ρ : Nat → Nat) (l : List Nat) : Bool := l.all fun i => l.all fun j => ρ i != ρ j || i == j
theorem Less.ren (ρ : Nat → Nat) {tm tm2 : List (Nat × PV)} {N : Nat} {hp hp2 : List (Nat × Blk)} {lo n n2 : Nat} (hlo : Nat.ble lo n2 = true) (hlow : (List.range lo).all (fun b => ρ b == b) = true) (ht : renT ρ tm2 tm) (hh : renB ρ hp2 hp) (h1 : ltT n2 tm2 = true) (h2 : ltB n2 hp2 = true) (hi : injOn ρ (keys hp2) = true) : Less ⟨tm2, N, hp2, lo, n2⟩ ⟨tm, N, hp, lo, n⟩ :=
  Ren.less (ρ := ρ) ⟨rfl, rfl, by simpa [Nat.ble_eq] using hlo, fun b hb => by simpa using List.all_eq_true.1 hlow b (List.mem_range.2 hb), fun i p h => ⟨renT_look ht i p h, ltT_look h1 i p h⟩, fun i p h => ⟨renB_look hh i p h, ltB_look h2 i p h⟩, fun b b' k k' q1 q2 e => by
    have := List.all_eq_true.1 (List.all_eq_true.1 hi b (look_key q1)) b' (look_key q2)
    simp only [Bool.or_eq_true, bne_iff_ne, beq_iff_eq] at this
    rcases this with h | h
    · exact absurd e h
    · exact h⟩

/-! ### rows that nobody writes any more -/
/-- A temporary's row is a tree from now on. -/
theorem Less.froz {tm : List (Nat × PV)} {N : Nat} {hp : List (Nat × Blk)} {lo n : Nat} (t : Nat) {b e off len cap : Nat} {ys : List T} {fz : Bool} (h : look t tm = some (.ref b e off len cap)) (hb : look b hp = some (.row e ys fz)) (hl : off + len ≤ ys.length) :
    Less ⟨(t, .t (.sl false ((ys.drop off).take len))) :: tm, N, (b, .row e ys true) :: hp, lo, n⟩ ⟨tm, N, hp, lo, n⟩ := by
  refine ⟨rfl, rfl, fun {B0 w0 φ0 F0 F φ a w} hs => ?_⟩
  obtain ⟨F', k1, k2, k3, k4⟩ := hs.freeze hb
  refine ⟨F', φ, { k3 with tm := fun i p hp => ?_ }⟩
  simp only [look] at hp
  split at hp
  · rename_i e1; subst e1; cases hp
    exact .t (k4 off len cap _ hl (hs.tm _ _ h))
  · exact k3.tm i p hp

/-! ### stores into rows -/
/-- A store into an element (of one cell) of a row of our own. -/
theorem TriO.storeR {ty : Nat} {pos : String} {af : Array Edge} {g : Option (Nat × Bool)} {K : St → Prop} {s : St} {t : TypeId} {x y : Operand} {ds : TypeDesc} {bytes : Nat} {z : Value} {b i : Nat} {xs : List T} {v : T} [ht : TyIs P t ds 1 bytes z] (hx : s.ev x = .rptr b 1 i 0) (hb : look b s.heap = some (.row 1 xs false)) (hy : s.ev y = .t v)
    (hv : v.leaves = [v]) (hf : PV.flat (.t v) = true) (hi : i < xs.length) (hK : K (s.upd b (.row 1 (xs.set i v) false))) : TriO P ⟨none, .store t x y, ty, pos, af, g⟩ K s := by
  refine .act rfl (fun B0 w0 φ0 F0 F φ a w hs => ?_)
  have h1 := hx ▸ hs.ev x
  have h2 := hy ▸ hs.ev y
  generalize he : a.eval x = q at h1
  generalize hu : a.eval y = u at h2
  have hone := h2.one hf
  cases h2 with | t htr =>
  obtain ⟨c1, c2⟩ := htr.cells
  rw [hv] at c1 c2
  obtain ⟨u', hu', htr'⟩ := c2 0 v rfl
  have hcu : u.cells = #[u] := by cases u <;> simp_all [Value.oneCell', Value.cells]
  cases h1 with
  | @rptr _ _ _ _ B sz' hφ =>
    obtain ⟨B', cs, hl⟩ := hs.heap b _ hb
    have := hl.at_; rw [hφ] at this; cases this
    obtain ⟨ct, hct⟩ := hl.cells rfl
    cases hl.reads with
    | row hn hel hr hF =>
      have hil : i < cs.size := by omega
      have hst := run_storeVar_at (P := P) (w := w) ht (B := B) (o := i * 1 + 0) (v := u) hct (by simp [hcu]) (by omega) (by simp [hcu, hone])
      rw [hcu] at hst
      have hcs : i * 1 + 0 + [u].length ≤ cs.toList.length := by simp; omega
      refine ⟨_, s.upd b (.row 1 (xs.set i v) false), F, φ, ?_, rfl, rfl, hs.upd hb hl (cs' := (cs.toList.take (i * 1 + 0) ++ [u] ++ cs.toList.drop (i * 1 + 0 + [u].length)).toArray) ?_ (.row ?_ ?_ ?_ ?_) ?_, hK⟩
      · simp only [execOp, he, hu, Sem.run_bind, hst, Result.andThen_ok]; rfl
      · have := splice_len hcs; simp only [List.size_toArray]; rw [this]; simp
      · have := splice_len hcs; simp only [List.size_toArray]; rw [this]; simp; omega
      · intro j y hj
        rw [List.getElem?_set] at hj
        split at hj
        · cases hj; rw [hv]; rfl
        · exact hel j y hj
      · intro j y k p hj hp
        simp only [List.getElem?_toArray]
        rw [splice_get hcs]
        rw [List.getElem?_set] at hj
        split at hj
        · rename_i e; subst e
          cases hj
          rw [hv] at hp
          cases k with
          | zero => cases hp; exact ⟨u, by simp, htr, hone⟩
          | succ k => simp at hp
        · rename_i hne
          have hk := hel j y hj
          have hk0 : k = 0 := by have := (List.getElem?_eq_some_iff.1 hp).1; omega
          subst hk0
          obtain ⟨w', q1, q2, q3⟩ := hr j y 0 p hj hp
          refine ⟨w', ?_, q2, q3⟩
          simp only [List.length_singleton, Nat.mul_one, Nat.add_zero] at q1 ⊢
          by_cases e1 : j < i
          · rw [if_pos e1]; simpa using q1
          · rw [if_neg e1, if_neg (by omega)]; simpa using q1
      · intro x' u2 e1 e2; have := (hF x' u2 e1 e2).1; cases this
      · intro x' u2 e1 e2; have := (hF x' u2 e1 e2).1; cases this
/-! ### results in cells -/
theorem Rets.trees {s : St} : ∀ {ls : List PV} {xs : List T}, toTs ls = some xs → Rets s ls (xs.map R1.t)
  | [], xs, h => by cases h; exact .nil
  | p :: ls, xs, h => by
    cases p with
    | t x =>
      simp only [toTs, Option.map_eq_some_iff] at h
      obtain ⟨ys, hy, rfl⟩ := h
      exact .tree rfl (Rets.trees hy)
    | _ => cases h
theorem ComesC.tree {t : Tmp} {sz b : Nat} {x : T} {s : St} {ls : List PV} {xs : List T} (h1 : evt s.tm (.tmp t) = .ptr b 0) (h2 : look b s.heap = some (.obj ls)) (h3 : toTs ls = some xs) (h4 : ls.length = sz) (h5 : T.agg xs = x) : ComesC t sz x .ret s :=
  ⟨.inr rfl, b, ls, xs, h1, h2, h4, h5.symm, .trees h3⟩
theorem ComesC.of {t : Tmp} {sz b : Nat} {x : T} {s : St} {ls ls' : List PV} {rs : List R1} (h1 : evt s.tm (.tmp t) = .ptr b 0) (h2 : look b s.heap = some (.obj ls)) (h3 : ls = ls') (h4 : ls'.length = sz) (hr : Rets s ls' rs) (h5 : ∃ xs, rs = xs.map .t ∧ T.agg xs = x) : ComesC t sz x .ret s := by
  obtain ⟨xs, rfl, h6⟩ := h5
  exact ⟨.inr rfl, b, ls, xs, h1, h2, h3 ▸ h4, h6.symm, h3 ▸ hr⟩
theorem U.call0 {P : Program} {d ty : Nat} {pos : String} {af : Array Edge} {K : St → Prop} {ops : Array Oper} {l_ : List Oper} {tm_ : List (Nat × PV)} {N_ lo_ n_ : Nat} {hp_ : List (Nat × Blk)} {x : Operand} {f : FuncId} {ts : Array TypeId} {r : T} [hf : FnIs P f] (hx : evt tm_ x = .t (.v (.func (.func f) #[] #[]))) (hr : Pure P f [] (.one (.t r))) (hN : Nat.blt d N_ = true)
    (hK : TriL P ops l_ K ⟨(d, .t r) :: tm_, N_, hp_, lo_, n_⟩) : TriL P ops (⟨some d, .call ⟨.value x, #[], ts⟩, ty, pos, af, none⟩ :: l_) K ⟨tm_, N_, hp_, lo_, n_⟩ :=
  .cons rfl (.call (xs := []) (s1 := ⟨tm_, N_, hp_, lo_, n_⟩) hx rfl .nil hr hN hK)
end Go.Proofs.YtdiimgkopknbcaaGreatDoor.E

/- Results that are several: two values; a struct in a cell and a value. -/
namespace Go.Proofs.YtdiimgkopknbcaaGreatDoor.E
open Go Go.RowKit
set_option linter.unusedVariables false
set_option linter.unusedSimpArgs false
section
variable {P : Program}
/-- Two values are the result. -/
def Comes2 (t u : Tmp) (x y : T) (e : Ex) (s : St) : Prop := (e = .normal ∨ e = .ret) ∧ Rets s [s.ev (.tmp t), s.ev (.tmp u)] [.t x, .t y]
theorem Comes2.trees {t u : Tmp} {x y : T} {e : Ex} {s : St} (he : e = .normal ∨ e = .ret) (h1 : (s.ev (.tmp t)).toT = some x) (h2 : (s.ev (.tmp u)).toT = some y) : Comes2 t u x y e s := ⟨he, .tree h1 (.tree h2 .nil)⟩
/-- A struct's variable and a value are the result. -/
def ComesCT (t u : Tmp) (sz : Nat) (x y : T) (e : Ex) (s : St) : Prop :=
  (e = .normal ∨ e = .ret) ∧ ∃ b ls xs, s.ev (.tmp t) = .ptr b 0 ∧ look b s.heap = some (.obj ls) ∧ ls.length = sz ∧ x = .agg xs ∧ Rets s (s.ev (.tmp u) :: ls) (.t y :: xs.map .t)
theorem ComesCT.trees {t u : Tmp} {sz : Nat} {xs : List T} {y : T} {e : Ex} {s : St} {b : Nat} {ls : List PV} (he : e = .normal ∨ e = .ret) (h1 : s.ev (.tmp t) = .ptr b 0) (h2 : look b s.heap = some (.obj ls)) (h3 : ls.length = sz) (h4 : (s.ev (.tmp u)).toT = some y) (h5 : Rets s ls (xs.map .t)) : ComesCT t u sz (.agg xs) y e s :=
  ⟨he, b, ls, xs, h1, h2, h3, rfl, .tree h4 h5⟩
variable {d ty : Nat} {pos : String} {af : Array Edge} {K : St → Prop} {ops : Array Oper} {l_ : List Oper} {tm_ : List (Nat × PV)} {N_ lo_ n_ : Nat} {hp_ : List (Nat × Blk)} {x : Operand} {f : FuncId} {ts : Array TypeId}
end
end Go.Proofs.YtdiimgkopknbcaaGreatDoor.E

/- The engine: regions whose order is free, each operation by what it touches. -/
namespace Go.Proofs.YtdiimgkopknbcaaGreatDoor.E
open Go Go.RowKit
set_option linter.unusedVariables false
set_option linter.unusedSimpArgs false
variable {P : Program}

mutual
theorem PV.lt_mono {m n : Nat} (h : m ≤ n) : ∀ p : PV, PV.lt m p = true → PV.lt n p = true
  | .undef, _ => rfl
  | .t _, _ => rfl
  | .ref b _ _ _ _, k => by simp only [PV.lt, Nat.blt_eq] at k ⊢; omega
  | .ptr b _, k => by simp only [PV.lt, Nat.blt_eq] at k ⊢; omega
  | .rptr b _ _ _, k => by simp only [PV.lt, Nat.blt_eq] at k ⊢; omega
  | .eptr _ _, _ => rfl
  | .clip _, _ => rfl
  | .agg ps, k => by simp only [PV.lt] at k ⊢; exact PV.lts_mono h ps k
  | .tup ps, k => by simp only [PV.lt] at k ⊢; exact PV.lts_mono h ps k
  | .fn _ fs ps, k => by
    simp only [PV.lt, Bool.and_eq_true] at k ⊢
    exact ⟨PV.lts_mono h fs k.1, PV.lts_mono h ps k.2⟩
  | .mp b, k => by simp only [PV.lt, Nat.blt_eq] at k ⊢; omega
  | .yl b, k => by simp only [PV.lt, Nat.blt_eq] at k ⊢; omega
  | .ifc _ p, k => by simp only [PV.lt] at k ⊢; exact PV.lt_mono h p k
  | .cond _ _ p, k => by
    simp only [PV.lt, Bool.or_eq_true] at k ⊢
    exact k.imp (PV.lt_mono h p) id
theorem PV.lts_mono {m n : Nat} (h : m ≤ n) : ∀ ps : List PV, PV.lts m ps = true → PV.lts n ps = true
  | [], _ => rfl
  | p :: ps, k => by
    simp only [PV.lts, Bool.and_eq_true] at k ⊢
    exact ⟨PV.lt_mono h p k.1, PV.lts_mono h ps k.2⟩
end
theorem Blk.lt_mono {m n : Nat} (h : m ≤ n) : ∀ k : Blk, Blk.lt m k = true → Blk.lt n k = true
  | .obj ps _, k => PV.lts_mono h ps k
  | .row .., _ => rfl
  | .map _, k => PV.lts_mono h _ k
/-- The blocks with some numbers; the others. -/
def part (ks : List Nat) : List (Nat × Blk) → List (Nat × Blk)
  | [] => []
  | x :: l => bif ks.contains x.1 then x :: part ks l else part ks l
def rest (ks : List Nat) : List (Nat × Blk) → List (Nat × Blk)
  | [] => []
  | x :: l => bif ks.contains x.1 then rest ks l else x :: rest ks l
theorem look_part (ks : List Nat) (b : Nat) : ∀ l : List (Nat × Blk), look b (part ks l) = if ks.contains b = true then look b l else none
  | [] => by simp [part, look]
  | (j, k) :: l => by
    have ih := look_part ks b l
    simp only [part]
    cases hc : ks.contains j with
    | true =>
      simp only [cond_true, look]
      by_cases e : b = j
      · subst e; simp only [hc, if_true]
      · rw [if_neg e, if_neg e, ih]
    | false =>
      simp only [cond_false, look, ih]
      by_cases e : b = j
      · subst e; rw [hc]; simp
      · rw [if_neg e]
theorem look_rest (ks : List Nat) (b : Nat) : ∀ l : List (Nat × Blk), look b (rest ks l) = if ks.contains b = true then none else look b l
  | [] => by simp [rest, look]
  | (j, k) :: l => by
    have ih := look_rest ks b l
    simp only [rest]
    cases hc : ks.contains j with
    | true =>
      simp only [cond_true, look, ih]
      by_cases e : b = j
      · subst e; simp only [hc, if_true]
      · rw [if_neg e]
    | false =>
      simp only [cond_false, look, ih]
      by_cases e : b = j
      · subst e; rw [hc]; simp
      · rw [if_neg e, if_neg e]
theorem look_append {α : Type} (b : Nat) : ∀ l m : List (Nat × α), look b (l ++ m) = (look b l).or (look b m)
  | [], m => by simp [look]
  | (j, k) :: l, m => by
    simp only [List.cons_append, look]
    split
    · simp
    · exact look_append b l m

/-- What one operation gives, reads ('neg': all but these), writes, and leaves. -/
structure XE where
  q : PV
  neg : Bool
  rd : List Nat
  w : List Nat
  out : List (Nat × Blk)
  n' : Nat
def XE.acc (e : XE) (b : Nat) : Bool := (bif e.neg then !e.rd.contains b else e.rd.contains b) || e.w.contains b
def XE.part (e : XE) : List (Nat × Blk) → List (Nat × Blk)
  | [] => []
  | x :: l => bif e.acc x.1 then x :: e.part l else e.part l
theorem XE.look_part (e : XE) (b : Nat) : ∀ l : List (Nat × Blk), look b (e.part l) = if e.acc b = true then look b l else none
  | [] => by simp [XE.part, look]
  | (j, k) :: l => by
    have ih := XE.look_part e b l
    simp only [XE.part]
    cases hc : e.acc j with
    | true =>
      simp only [cond_true, look]
      by_cases q : b = j
      · subst q; simp only [hc, if_true]
      · rw [if_neg q, if_neg q, ih]
    | false =>
      simp only [cond_false, look, ih]
      by_cases q : b = j
      · subst q; rw [hc]; simp
      · rw [if_neg q]
def XE.hp (e : XE) (hp : List (Nat × Blk)) : List (Nat × Blk) := e.out ++ rest e.w hp
def OneX (P : Program) (ops : Array Oper) (o : Oper) (e : XE) (tm : List (Nat × PV)) (N : Nat) (hp : List (Nat × Blk)) (n : Nat) : Prop :=
  TriL P ops [o] (fun s' => (∀ d, o.dst = some d → look d s'.tm = some e.q) ∧ (∀ b k, look b e.out = some k → look b s'.heap = some k) ∧ (∀ b k, e.acc b = true → e.w.contains b = false → look b hp = some k → look b s'.heap = some k) ∧ s'.n ≤ e.n') ⟨sel ops o tm, N, e.part hp, n, n⟩
/-- Is a number written by an operation? -/
def XE.has (e : XE) (n b : Nat) : Bool := e.w.contains b || (Nat.ble n b && Nat.blt b e.n')
def XE.Has (e : XE) (n b : Nat) : Prop := b ∈ e.w ∨ (n ≤ b ∧ b < e.n')
theorem XE.has_iff {e : XE} {n b : Nat} : e.has n b = true ↔ e.Has n b := by
  simp [XE.has, XE.Has, Nat.ble_eq, Nat.blt_eq]
structure XOK (e : XE) (n : Nat) : Prop where
  le : n ≤ e.n'
  w : ∀ b ∈ e.w, b < n
  out : ∀ b k, look b e.out = some k → e.Has n b ∧ Blk.lt e.n' k = true
  q : PV.lt e.n' e.q = true
def XE.ok (e : XE) (n : Nat) : Bool :=
  Nat.ble n e.n' && (e.w.all fun b => Nat.blt b n) && (e.out.all fun x => e.has n x.1 && Blk.lt e.n' x.2) && PV.lt e.n' e.q
def LtT (n : Nat) (tm : List (Nat × PV)) : Prop := ∀ t p, look t tm = some p → PV.lt n p = true
def LtH (n : Nat) (hp : List (Nat × Blk)) : Prop := ∀ b k, look b hp = some k → b < n ∧ Blk.lt n k = true
/-- Two operations whose order is free do not meet. -/
def meets (x : XE) (nx : Nat) (e : XE) : Bool :=
  (x.w.any fun b => e.acc b) || ((List.range' nx (x.n' - nx)).any fun b => e.acc b) || (e.w.any fun b => Nat.blt b nx && x.acc b)
def apartB (A : List (List Nat)) (past : List (Nat × XE × Nat)) (i : Nat) (e : XE) : Bool :=
  past.all fun x => cmpB A x.1 i || !meets x.2.1 x.2.2 e
theorem meets_no {x e : XE} {nx : Nat} (h : meets x nx e = false) : (∀ b, x.Has nx b → e.acc b = false) ∧ ∀ b, b ∈ e.w → b < nx → x.acc b = false := by
  simp only [meets, Bool.or_eq_false_iff, List.any_eq_false, List.mem_range'_1, Bool.and_eq_true, Nat.blt_eq, not_and, Bool.not_eq_true] at h
  obtain ⟨⟨h1, h2⟩, h3⟩ := h
  refine ⟨fun b hb => ?_, h3⟩
  rcases hb with hb | ⟨q1, q2⟩
  · exact h1 b hb
  · exact h2 b ⟨q1, by omega⟩
def XOb (P : Program) (ops : Array Oper) (A : List (List Nat)) (N lo : Nat) (K : St → Prop) : List (Nat × XE × Nat) → Nat → List Oper → List (Nat × PV) → List (Nat × Blk) → Nat → Prop
  | _, _, [], tm, hp, n => K ⟨tm, N, hp, lo, n⟩
  | past, i, o :: l, tm, hp, n => ∃ e : XE, (LtT n tm → LtH n hp → XOK e n) ∧ apartB A past i e = true ∧ OneX P ops o e tm N hp n ∧ XOb P ops A N lo K ((i, e, n) :: past) (i + 1) l (pushT o.dst e.q tm) (e.hp hp) e.n'

structure XObs (P : Program) (ops : Array Oper) (A : List (List Nat)) (N m : Nat) (tm : List (Nat × PV)) (E : Nat → XE) (hp : Nat → List (Nat × Blk)) (nn : Nat → Nat) : Prop where
  hp1 : ∀ i < m, hp (i + 1) = (E i).hp (hp i)
  n1 : ∀ i < m, nn (i + 1) = (E i).n'
  ok : ∀ i < m, LtT (nn i) (tmAt ops (fun j => (E j).q) tm i) → LtH (nn i) (hp i) → XOK (E i) (nn i)
  cfl : ∀ i j, i < j → j < m → cmpB A i j = true ∨ meets (E i) (nn i) (E j) = false
  ob : ∀ i o, i < m → ops[i]? = some o → OneX P ops o (E i) (tmAt ops (fun j => (E j).q) tm i) N (hp i) (nn i)
theorem tmAt_ext {ops : Array Oper} {tm : List (Nat × PV)} (q q' : Nat → PV) : ∀ (i : Nat), (∀ k < i, q k = q' k) → tmAt ops q tm i = tmAt ops q' tm i
  | 0, _ => rfl
  | i + 1, h => by simp only [tmAt]; rw [tmAt_ext q q' i (fun k hk => h k (by omega)), h i (by omega)]
theorem XOb.obs {ops : Array Oper} {A : List (List Nat)} {N lo : Nat} {K : St → Prop} {tm : List (Nat × PV)} : ∀ (l : List Oper) (i : Nat) (past : List (Nat × XE × Nat)) (E : Nat → XE) (hp : Nat → List (Nat × Blk)) (nn : Nat → Nat),
    (∀ j, l[j]? = ops[i + j]?) → i + l.length = ops.size → (∀ j < i, (j, E j, nn j) ∈ past) → XObs P ops A N i tm E hp nn → XOb P ops A N lo K past i l (tmAt ops (fun j => (E j).q) tm i) (hp i) (nn i) →
    ∃ E' hp' nn', XObs P ops A N ops.size tm E' hp' nn' ∧ hp' 0 = hp 0 ∧ nn' 0 = nn 0 ∧ K ⟨tmAt ops (fun j => (E' j).q) tm ops.size, N, hp' ops.size, lo, nn' ops.size⟩
  | [], i, past, E, hp, nn, hl, hs, hp_, X, h => by
    simp at hs; subst hs
    exact ⟨E, hp, nn, X, rfl, rfl, h⟩
  | o :: l, i, past, E, hp, nn, hl, hs, hpast, X, h => by
    obtain ⟨e, h1, h2, h3, h4⟩ := h
    have ho : ops[i]? = some o := by have := hl 0; simpa using this.symm
    have hd : dstOf ops i = o.dst := by simp [dstOf, ho]
    let E' : Nat → XE := fun k => if k = i then e else E k
    let hp' : Nat → List (Nat × Blk) := fun k => if k = i + 1 then e.hp (hp i) else hp k
    let nn' : Nat → Nat := fun k => if k = i + 1 then e.n' else nn k
    have eE : ∀ k < i, E' k = E k := fun k hk => by simp only [E']; rw [if_neg (by omega)]
    have eEi : E' i = e := by simp only [E', if_true]
    have ehp : ∀ k ≤ i, hp' k = hp k := fun k hk => by simp only [hp']; rw [if_neg (by omega)]
    have enn : ∀ k ≤ i, nn' k = nn k := fun k hk => by simp only [nn']; rw [if_neg (by omega)]
    have ehp1 : hp' (i + 1) = e.hp (hp i) := by simp only [hp', if_true]
    have enn1 : nn' (i + 1) = e.n' := by simp only [nn', if_true]
    have etm : ∀ k ≤ i, tmAt ops (fun j => (E' j).q) tm k = tmAt ops (fun j => (E j).q) tm k := fun k hk => tmAt_ext _ _ k (fun j hj => by rw [eE j (by omega)])
    have X' : XObs P ops A N (i + 1) tm E' hp' nn' := by
      refine ⟨fun k hk => ?_, fun k hk => ?_, fun k hk => ?_, fun k j hkj hj => ?_, fun k o' hk ho' => ?_⟩
      · rcases Nat.lt_or_ge k i with q | q
        · rw [ehp _ (by omega), ehp _ (by omega), eE k q]; exact X.hp1 k q
        · obtain rfl : k = i := by omega
          rw [ehp1, ehp k (Nat.le_refl _), eEi]
      · rcases Nat.lt_or_ge k i with q | q
        · rw [enn _ (by omega), eE k q]; exact X.n1 k q
        · obtain rfl : k = i := by omega
          rw [enn1, eEi]
      · rcases Nat.lt_or_ge k i with q | q
        · rw [enn _ (by omega), eE k q, etm k (by omega), ehp k (by omega)]; exact X.ok k q
        · obtain rfl : k = i := by omega
          rw [enn k (Nat.le_refl _), eEi, etm k (Nat.le_refl _), ehp k (Nat.le_refl _)]; exact h1
      · rcases Nat.lt_or_ge j i with q | q
        · rw [eE k (by omega), eE j q, enn k (by omega)]; exact X.cfl k j hkj q
        · obtain rfl : j = i := by omega
          rw [eE k hkj, eEi, enn k (by omega)]
          have := List.all_eq_true.1 h2 _ (hpast k hkj)
          simp only [Bool.or_eq_true, Bool.not_eq_true'] at this
          exact this
      · rcases Nat.lt_or_ge k i with q | q
        · rw [etm k (by omega), ehp k (by omega), enn k (by omega), eE k q]; exact X.ob k o' q ho'
        · obtain rfl : k = i := by omega
          rw [ho] at ho'; cases ho'
          rw [etm k (Nat.le_refl _), ehp k (Nat.le_refl _), enn k (Nat.le_refl _), eEi]; exact h3
    have hpast' : ∀ j < i + 1, (j, E' j, nn' j) ∈ (i, e, nn i) :: past := fun j hj => by
      rcases Nat.lt_or_ge j i with q | q
      · rw [eE j q, enn j (by omega)]; exact List.mem_cons_of_mem _ (hpast j q)
      · obtain rfl : j = i := by omega
        rw [eEi, enn j (Nat.le_refl _)]; exact List.mem_cons_self
    obtain ⟨a, b, c, x1, x2, x3, x4⟩ := XOb.obs l (i + 1) ((i, e, nn i) :: past) E' hp' nn' (fun j => by have := hl (j + 1); rw [List.getElem?_cons_succ] at this; rw [this]; congr 1; omega) (by simp at hs; omega) hpast' X' (by
      rw [ehp1, enn1]
      simp only [tmAt]
      rw [etm i (Nat.le_refl _), hd, eEi]
      exact h4)
    exact ⟨a, b, c, x1, x2.trans (ehp 0 (by omega)), x3.trans (enn 0 (by omega)), x4⟩

/-! ### which blocks there are, when some operations have been carried out -/
theorem look_mem {α : Type} : ∀ {l : List (Nat × α)} {b : Nat} {k : α}, look b l = some k → (b, k) ∈ l
  | (j, x) :: l, b, k, h => by
    simp only [look] at h
    split at h
    · rename_i e; subst e; cases h; exact List.mem_cons_self
    · exact List.mem_cons_of_mem _ (look_mem h)
theorem XE.ok_spec {e : XE} {n : Nat} (h : e.ok n = true) : XOK e n := by
  simp only [XE.ok, Bool.and_eq_true, Nat.ble_eq, List.all_eq_true, Nat.blt_eq] at h
  obtain ⟨⟨⟨h1, h2⟩, h3⟩, h4⟩ := h
  exact ⟨h1, h2, fun b k hk => ⟨XE.has_iff.1 (h3 _ (look_mem hk)).1, (h3 _ (look_mem hk)).2⟩, h4⟩
/-- Position j tells of block b what holds where just the operations of L have been carried out. -/
def Cur (E : Nat → XE) (nn : Nat → Nat) (m : Nat) (L : Array Bool) (b j : Nat) : Prop :=
  ∀ i < m, (E i).Has (nn i) b → (L.getD i true = true ↔ i < j)
section
variable {ops : Array Oper} {A : List (List Nat)} {N m : Nat} {tm : List (Nat × PV)} {E : Nat → XE} {hp : Nat → List (Nat × Blk)} {nn : Nat → Nat}
structure XGood (X : XObs P ops A N m tm E hp nn) : Prop where
  ok : ∀ i < m, XOK (E i) (nn i)
  t : ∀ i ≤ m, LtT (nn i) (tmAt ops (fun j => (E j).q) tm i)
  h : ∀ i ≤ m, LtH (nn i) (hp i)
theorem LtT.mono {n n' : Nat} {tm : List (Nat × PV)} (h : LtT n tm) (hn : n ≤ n') : LtT n' tm := fun t p hp => PV.lt_mono hn p (h t p hp)
theorem XObs.good (X : XObs P ops A N m tm E hp nn) (ht : LtT (nn 0) tm) (hh : LtH (nn 0) (hp 0)) : XGood X := by
  have key : ∀ i ≤ m, LtT (nn i) (tmAt ops (fun j => (E j).q) tm i) ∧ LtH (nn i) (hp i) := by
    intro i
    induction i with
    | zero => intro _; exact ⟨ht, hh⟩
    | succ i ih =>
      intro hi
      obtain ⟨h1, h2⟩ := ih (by omega)
      have ok := X.ok i (by omega) h1 h2
      have hn := X.n1 i (by omega)
      have hle : nn i ≤ nn (i + 1) := by rw [hn]; exact ok.le
      refine ⟨fun t p hp_ => ?_, fun b k hk => ?_⟩
      · simp only [tmAt] at hp_
        cases hd : dstOf ops i with
        | none => rw [hd] at hp_; exact PV.lt_mono hle _ (h1 t p hp_)
        | some d =>
          rw [hd] at hp_
          simp only [pushT, look] at hp_
          split at hp_
          · cases hp_; rw [hn]; exact ok.q
          · exact PV.lt_mono hle _ (h1 t p hp_)
      · rw [X.hp1 i (by omega)] at hk
        unfold XE.hp at hk
        rw [look_append, look_rest] at hk
        cases ho : look b (E i).out with
        | some k' =>
          rw [ho] at hk; simp at hk; subst hk
          obtain ⟨g1, g2⟩ := ok.out b k' ho
          rw [hn]
          refine ⟨?_, g2⟩
          have := ok.le
          rcases g1 with g1 | g1
          · have := ok.w b g1; omega
          · exact g1.2
        | none =>
          rw [ho] at hk
          simp only [Option.none_or] at hk
          split at hk
          · cases hk
          · obtain ⟨g1, g2⟩ := h2 b k hk
            exact ⟨by omega, Blk.lt_mono hle k g2⟩
  exact ⟨fun i hi => X.ok i hi (key i (by omega)).1 (key i (by omega)).2, fun i hi => (key i hi).1, fun i hi => (key i hi).2⟩
theorem XGood.nmono {X : XObs P ops A N m tm E hp nn} (G : XGood X) {i : Nat} : ∀ {d : Nat}, i + d ≤ m → nn i ≤ nn (i + d)
  | 0, _ => Nat.le_refl _
  | d + 1, h => by
    have h1 := G.nmono (i := i) (d := d) (by omega)
    have h2 := (G.ok (i + d) (by omega)).le
    rw [← X.n1 (i + d) (by omega)] at h2
    exact Nat.le_trans h1 h2
theorem XGood.nle {X : XObs P ops A N m tm E hp nn} (G : XGood X) {i j : Nat} (h : i ≤ j) (hj : j ≤ m) : nn i ≤ nn j := by
  obtain ⟨d, rfl⟩ := Nat.exists_eq_add_of_le h
  exact G.nmono hj
theorem XGood.look1 {X : XObs P ops A N m tm E hp nn} (G : XGood X) {i : Nat} (hi : i < m) (b : Nat) : (E i).Has (nn i) b ∨ look b (hp (i + 1)) = look b (hp i) := by
  rw [X.hp1 i hi]
  unfold XE.hp
  by_cases hh : (E i).Has (nn i) b
  · exact .inl hh
  · right
    rw [look_append, look_rest]
    have : look b (E i).out = none := by
      cases hk : look b (E i).out with
      | none => rfl
      | some k => exact absurd ((G.ok i hi).out b k hk).1 hh
    rw [this, if_neg (by simpa using fun h => hh (.inl h))]
    simp
theorem XGood.const {X : XObs P ops A N m tm E hp nn} (G : XGood X) {L : Array Bool} {b i : Nat} : ∀ {d : Nat}, i + d ≤ m → Cur E nn m L b i → Cur E nn m L b (i + d) → look b (hp (i + d)) = look b (hp i)
  | 0, _, _, _ => rfl
  | d + 1, h, h1, h2 => by
    have hno : ¬ (E (i + d)).Has (nn (i + d)) b := fun hh => by
      have a1 := h1 (i + d) (by omega) hh
      have a2 := h2 (i + d) (by omega) hh
      rw [a1] at a2
      omega
    have h3 : Cur E nn m L b (i + d) := fun k hk hh => by
      rw [h2 k hk hh]
      constructor
      · intro hl
        rcases Nat.lt_or_ge k (i + d) with q | q
        · exact q
        · obtain rfl : k = i + d := by omega
          exact absurd hh hno
      · intro hl; omega
    rcases G.look1 (i := i + d) (by omega) b with q | q
    · exact absurd q hno
    · exact q.trans (G.const (by omega) h1 h3)
theorem XGood.uniq {X : XObs P ops A N m tm E hp nn} (G : XGood X) {L : Array Bool} {b i j : Nat} (hi : i ≤ m) (hj : j ≤ m) (h1 : Cur E nn m L b i) (h2 : Cur E nn m L b j) : look b (hp i) = look b (hp j) := by
  rcases Nat.le_total i j with h | h
  · obtain ⟨d, rfl⟩ := Nat.exists_eq_add_of_le h
    exact (G.const hj h1 h2).symm
  · obtain ⟨d, rfl⟩ := Nat.exists_eq_add_of_le h
    exact G.const hi h2 h1
end
/-- A list out of a function. -/
def mkH (f : Nat → Option Blk) : Nat → List (Nat × Blk)
  | 0 => []
  | n + 1 => match f n with
    | some k => (n, k) :: mkH f n
    | none => mkH f n
theorem look_mkH (f : Nat → Option Blk) : ∀ (n b : Nat), look b (mkH f n) = if b < n then f b else none
  | 0, b => by simp [mkH, look]
  | n + 1, b => by
    have ih := look_mkH f n b
    simp only [mkH]
    cases hf : f n with
    | some k =>
      simp only [look]
      by_cases e : b = n
      · subst e; simp [hf]
      · rw [if_neg e, ih]
        by_cases q : b < n
        · rw [if_pos q, if_pos (by omega)]
        · rw [if_neg q, if_neg (by omega)]
    | none =>
      simp only [ih]
      by_cases e : b = n
      · subst e; simp [hf]
      · by_cases q : b < n
        · rw [if_pos q, if_pos (by omega)]
        · rw [if_neg q, if_neg (by omega)]
end Go.Proofs.YtdiimgkopknbcaaGreatDoor.E

/- The engine: regions whose order is free, each operation by what it touches: any order comes to the same. -/
namespace Go.Proofs.YtdiimgkopknbcaaGreatDoor.E
open Go Go.RowKit
set_option linter.unusedVariables false
set_option linter.unusedSimpArgs false
variable {P : Program}
structure XInv (ops : Array Oper) (A : List (List Nat)) (N lo : Nat) (tm0 : List (Nat × PV)) (E : Nat → XE) (hp : Nat → List (Nat × Blk)) (nn : Nat → Nat) (B0 : Fr) (w0 : World) (φ0 : Phi) (F0 : FMem) (L : Array Bool) (a : Act) (w : World) : Prop where
  sz : L.size = ops.size
  closed : ∀ j < ops.size, L.getD j true = true → ∀ i ∈ ancAt A j, L.getD i true = true
  st : ∃ F φ H, (∀ b j k, j ≤ ops.size → Cur E nn ops.size L b j → look b (hp j) = some k → look b H = some k) ∧
    (∀ b k, look b H = some k → ∃ j ≤ ops.size, Cur E nn ops.size L b j ∧ look b (hp j) = some k) ∧
    (∀ j < ops.size, L.getD j true = false → ∀ b, nn j ≤ b → b < nn (j + 1) → φ b = none) ∧
    Sim B0 w0 φ0 F0 ⟨[], N, H, lo, nn ops.size⟩ F φ a w ∧ (∀ j < ops.size, L.getD j true = true → ∀ d, dstOf ops j = some d → VR F φ (E j).q (a.tmps.getD d undef)) ∧
    (∀ t p, look t tm0 = some p → (∀ j < ops.size, dstOf ops j = some t → L.getD j true = false) → VR F φ p (a.tmps.getD t undef))
theorem HB.mono2 {F G : FMem} {φ ψ : Phi} (hF : F.le G) (hφ : φ.le ψ) {B : Nat} {cs : Array Value} {k : Blk} (h : HB F φ B cs k) (hB : ∀ a, G a ≠ F a → a.block ≠ B) : HB G ψ B cs k := by
  cases h with
  | obj hn h hf => exact .obj hn (fun i p hp => let ⟨u, h1, h2⟩ := h i p hp; ⟨u, h1, h2.mono hF hφ⟩) (fun a u e eb => by
      by_cases q : G a = F a
      · exact hf a u (q ▸ e) eb
      · exact hB a q eb)
  | row hn he h hf => exact .row hn he (fun i x j p h1 h2 => let ⟨u, q1, q2, q3⟩ := h i x j p h1 h2; ⟨u, q1, q2.mono hF, q3⟩) (fun a u e eb => by
      by_cases q : G a = F a
      · exact hf a u (q ▸ e) eb
      · exact absurd eb (hB a q))
  | map hf => exact .map (fun a u e eb => by
      by_cases q : G a = F a
      · exact hf a u (q ▸ e) eb
      · exact hB a q eb)
theorem XInv.step {ops : Array Oper} {A : List (List Nat)} {N lo : Nat} {tm0 : List (Nat × PV)} {E : Nat → XE} {hp : Nat → List (Nat × Blk)} {nn : Nat → Nat} {B0 : Fr} {w0 : World} {φ0 : Phi} {F0 : FMem}
    (C : DOKP ops A []) (X : XObs P ops A N ops.size tm0 E hp nn) (G : XGood X) (hlo : lo ≤ nn 0)
    {L : Array Bool} {a : Act} {w : World} (I : XInv ops A N lo tm0 E hp nn B0 w0 φ0 F0 L a w) {i : Nat} (hi : i < ops.size) (hL : L.getD i true = false) (hdir : ∀ j ∈ dirOf ops i, L.getD j true = true)
    {Q : Exit → Act → World → Prop} {K : Act → World → Prop} (hK : ∀ a' w', XInv ops A N lo tm0 E hp nn B0 w0 φ0 F0 (L.setIfInBounds i true) a' w' → K a' w') : wpOp P ops Q i K a w := by
  obtain ⟨hsz, hcl, F, φ, H, hH1, hH2, hun, hs, hv, hb⟩ := I
  obtain ⟨o, ho⟩ : ∃ o, ops[i]? = some o := ⟨ops[i], Array.getElem?_eq_getElem hi⟩
  have hdo : dstOf ops i = o.dst := by simp [dstOf, ho]
  have ok := G.ok i hi
  have hn1 := X.n1 i hi
  have hids : ∀ i ≤ ops.size, LtH (nn i) (hp i) := G.h
  have hanc : ∀ j ∈ ancAt A i, L.getD j true = true := by
    intro j hj
    rcases C.anc i hi j hj with h | ⟨m, h1, h2⟩
    · exact hdir j h
    · exact hcl m (Nat.lt_trans (C.dirlt i hi m h1) hi) (hdir m h1) j h2
  have hnot : ∀ j < ops.size, i ∈ ancAt A j ∨ i = j → L.getD j true = false := by
    rintro j hj (h | rfl)
    · cases e : L.getD j true with
      | false => rfl
      | true => have := hcl j hj e i h; rw [hL] at this; cases this
    · exact hL
  have hset : ∀ j, (L.setIfInBounds i true).getD j true = if j = i then true else L.getD j true := fun j => getD_set (by omega)
  -- what is touched by it and by another one
  have before : ∀ j < i, cmpB A j i = true → L.getD j true = true := fun j hj hc => by
    rcases cmpB_spec hc with h | h | h
    · have := C.anclt j (by omega) i h; omega
    · exact hanc j h
    · omega
  have behind : ∀ j, i < j → j < ops.size → cmpB A i j = true → L.getD j true = false := fun j hj hjs hc => by
    rcases cmpB_spec hc with h | h | h
    · have := C.anclt i hi j h; omega
    · exact hnot j hjs (.inl h)
    · omega
  have hasnew : ∀ j < ops.size, ∀ b, (E j).Has (nn j) b → b < nn (j + 1) := fun j hj b hh => by
    have okj := G.ok j hj
    have := X.n1 j hj
    have := okj.le
    rcases hh with h | h
    · have := okj.w b h; omega
    · omega
  have curi : ∀ b, (E i).acc b = true → b < nn i → Cur E nn ops.size L b i := fun b hbf hbn j hj hh => by
    rcases Nat.lt_trichotomy j i with q | q | q
    · refine ⟨fun _ => q, fun _ => before j q ?_⟩
      rcases X.cfl j i q hi with h | h
      · exact h
      · have := (meets_no h).1 b hh; rw [hbf] at this; cases this
    · subst q; rw [hL]; exact ⟨fun h => (by cases h), fun h => absurd h (by omega)⟩
    · have hf : L.getD j true = false := by
        refine behind j q hj ?_
        rcases X.cfl i j q hj with h | h
        · exact h
        · rcases hh with hh | hh
          · have := (meets_no h).2 b hh hbn; rw [hbf] at this; cases this
          · have := G.nle (Nat.le_of_lt q) (Nat.le_of_lt hj)
            omega
      rw [hf]; exact ⟨fun h => (by cases h), fun h => absurd h (by omega)⟩
  have accw : ∀ j b, b ∈ (E j).w → (E j).acc b = true := fun j b h => by simp [XE.acc, h]
  have curi1 : ∀ b, (E i).Has (nn i) b → Cur E nn ops.size (L.setIfInBounds i true) b (i + 1) := fun b hbi j hj hh => by
    rw [hset]
    rcases Nat.lt_trichotomy j i with q | q | q
    · rw [if_neg (by omega)]
      refine ⟨fun _ => by omega, fun _ => before j q ?_⟩
      rcases X.cfl j i q hi with h | h
      · exact h
      · rcases hbi with hbi | hbi
        · have := (meets_no h).1 b hh; rw [accw i b hbi] at this; cases this
        · have := hasnew j hj b hh
          have := G.nle (show j + 1 ≤ i by omega) (Nat.le_of_lt hi)
          omega
    · subst q; rw [if_pos rfl]; exact ⟨fun _ => by omega, fun _ => rfl⟩
    · rw [if_neg (by omega)]
      have hf : L.getD j true = false := by
        refine behind j q hj ?_
        rcases X.cfl i j q hj with h | h
        · exact h
        · rcases hh with hh | hh
          · have := (meets_no h).1 b hbi; rw [accw j b hh] at this; cases this
          · have := hasnew i hi b hbi
            have := G.nle (show i + 1 ≤ j by omega) (Nat.le_of_lt hj)
            omega
      rw [hf]; exact ⟨fun h => (by cases h), fun h => absurd h (by omega)⟩
  have curback : ∀ b j, ¬ (E i).Has (nn i) b → Cur E nn ops.size (L.setIfInBounds i true) b j → Cur E nn ops.size L b j := fun b j hno hc m hm hh => by
    have := hc m hm hh
    rw [hset] at this
    by_cases e : m = i
    · subst e; exact absurd hh hno
    · rwa [if_neg e] at this
  -- the state that is looked at
  let Y : Fr := ⟨fun B => B0 B ∨ ∃ b k sz, ¬ ((E i).acc b = true ∧ b < nn i) ∧ look b H = some k ∧ φ b = some (B, sz), B0.ds⟩
  have hφn : ∀ b, nn ops.size ≤ b → φ b = none := hs.fresh
  have hcut : (φ.cut (nn i)).le φ := fun b x hx => by unfold Phi.cut at hx; split at hx; exact hx; cases hx
  have hpart : ∀ b k, look b ((E i).part (hp i)) = some k → ((E i).acc b = true ∧ b < nn i) ∧ look b H = some k ∧ b < nn i ∧ Blk.lt (nn i) k = true := fun b k hk => by
    rw [XE.look_part] at hk
    split at hk
    · rename_i hm
      obtain ⟨q1, q2⟩ := hids i (Nat.le_of_lt hi) b k hk
      exact ⟨⟨hm, q1⟩, hH1 b i k (Nat.le_of_lt hi) (curi b hm q1) hk, q1, q2⟩
    · cases hk
  have hsel : Sim Y w (φ.cut (nn i)) F ⟨sel ops o (tmAt ops (fun j => (E j).q) tm0 i), N, (E i).part (hp i), nn i, nn i⟩ F (φ.cut (nn i)) a w := by
    refine { below := Bel.refl _ _, base := ?_, fok := hs.fok, fle := FMem.le_refl F, fnew := fun a h => absurd rfl h, phi0 := fun _ _ => rfl, lo := Nat.le_refl _, fresh := fun b hb => ?_, size := hs.size, defers := hs.defers, tm := ?_, heap := ?_, inj := ?_ }
    · rintro B (h | ⟨b, k, sz, _, h2, h3⟩)
      · exact hs.base_le B h
      · exact hs.block_lt h2 h3
    · unfold Phi.cut; rw [if_neg (Nat.not_lt.2 hb)]
    · intro t p h
      obtain ⟨h1, rfl⟩ := look_sel h
      cases e : look t (tmAt ops (fun j => (E j).q) tm0 i) with
      | none => exact .undef _
      | some p =>
        have hlt := G.t i (Nat.le_of_lt hi) t p e
        refine VR.cut ?_ hlt
        rcases look_tmAt e with ⟨j, h2, h3, rfl⟩ | ⟨h2, h3⟩
        · rcases C.vis i hi o ho t h1 j (by omega) h3 with h | h | h
          · exact hv j (by omega) (hanc j h) t h3
          · exact absurd (C.anclt j (by omega) i h) (by omega)
          · omega
        · refine hb t p h3 (fun j hj hd => ?_)
          rcases C.vis i hi o ho t h1 j hj hd with h | h
          · exact absurd hd (h2 j (C.anclt i hi j h))
          · exact hnot j hj h
    · intro b k hk
      obtain ⟨q1, q2, q3, q4⟩ := hpart b k hk
      obtain ⟨B, cs, hl⟩ := hs.heap b k q2
      refine ⟨B, cs, by unfold Phi.cut; rw [if_pos q3]; exact hl.at_, ?_, hl.cells, hl.ty, fun es e => by subst e; exact (hl.mp es rfl).cut q4, ?_⟩
      · rintro (h | ⟨b', k', sz, h1, h2, h3⟩)
        · exact hl.old h
        · have := hs.inj b b' k k' B _ _ q2 h2 hl.at_ h3
          subst this; exact h1 q1
      · cases hl.reads with
        | obj hn' hr hF => exact .obj hn' (fun i p hp => let ⟨u, h1, h2⟩ := hr i p hp; ⟨u, h1, h2.cut (PV.lts_get q4 i p hp)⟩) hF
        | row hn' he hr hF => exact .row hn' he hr hF
        | map hF => exact .map hF
    · intro b b' k k' B sz sz' h1 h2 h3 h4
      exact hs.inj b b' k k' B sz sz' (hpart b k h1).2.1 (hpart b' k' h2).2.1 (hcut _ _ h3) (hcut _ _ h4)
  have h1 := X.ob i o hi ho
  have h2 := h1 Y w (φ.cut (nn i)) F F (φ.cut (nn i)) a w hsel (fun e a' w' => (e = .normal ∧ ∃ s' F' φ', ((∀ d, o.dst = some d → look d s'.tm = some (E i).q) ∧ (∀ b k, look b (E i).out = some k → look b s'.heap = some k) ∧ (∀ b k, (E i).acc b = true → (E i).w.contains b = false → look b (hp i) = some k → look b s'.heap = some k) ∧ s'.n ≤ (E i).n') ∧ s'.lo = nn i ∧ s'.N = N ∧ Sim Y w (φ.cut (nn i)) F s' F' φ' a' w') ∨ (e ≠ .normal ∧ Q e a' w'))
    (fun s' F' φ' a' w' e1 e2 e3 e4 => .inl ⟨rfl, s', F', φ', e1, e2, e3, e4⟩)
  refine wpOp_of_one ho h2 ?_ ?_
  rotate_left
  · rintro e a w he (⟨h, _⟩ | ⟨_, h⟩)
    · exact absurd h he
    · exact h
  rintro a' v w' htm (⟨_, s', F', φ', ⟨hq, hh, hh2, hn⟩, hlo', hN, hs'⟩ | ⟨hne, _⟩)
  rotate_left
  · exact absurd rfl hne
  apply hK
  let φ2 : Phi := fun b => if nn i ≤ b ∧ b < nn (i + 1) then φ' b else φ b
  have hmem : ∀ B, Y B → w'.heap[B]? = w.heap[B]? := hs'.below.block
  have e1 : φ.le φ2 := fun b x hx => by
    show (if nn i ≤ b ∧ b < nn (i + 1) then φ' b else φ b) = some x
    split
    · rename_i hc; rw [hun i hi hL b hc.1 hc.2] at hx; cases hx
    · exact hx
  have low : ∀ b, b < nn i → φ' b = φ b := fun b hb => by
    rw [hs'.phi0 b (by rw [hlo']; exact hb)]; unfold Phi.cut; rw [if_pos hb]
  have e2 : φ'.le φ2 := fun b x hx => by
    show (if nn i ≤ b ∧ b < nn (i + 1) then φ' b else φ b) = some x
    split
    · exact hx
    · rename_i hc
      rcases Nat.lt_or_ge b (nn i) with q | q
      · rw [← low b q]; exact hx
      · have : s'.n ≤ b := by omega
        rw [hs'.fresh b this] at hx; cases hx
  have hFY : ∀ x, F' x ≠ F x → ¬ Y x.block := hs'.fnew
  -- a block that is not touched
  have framed : ∀ b k, look b H = some k → ¬ ((E i).acc b = true ∧ b < nn i) → ∃ B cs, Live F' φ2 B0 w' b k B cs := fun b k hk hnb => by
    obtain ⟨B, cs, hl⟩ := hs.heap b k hk
    have hY : Y B := .inr ⟨b, k, _, hnb, hk, hl.at_⟩
    exact ⟨B, cs, hl.to (hmem B hY) (e1 _ _ hl.at_) hl.old hs'.fle e1 (hl.reads.mono2 hs'.fle e1 (fun x hx e => hFY x hx (e ▸ hY)))⟩
  have touched : ∀ b k, look b s'.heap = some k → ∃ B cs, Live F' φ2 B0 w' b k B cs := fun b k hk => by
    obtain ⟨B, cs, hl⟩ := hs'.heap b k hk
    exact ⟨B, cs, hl.to rfl (e2 _ _ hl.at_) (fun h => hl.old (.inl h)) (FMem.le_refl _) e2 (hl.reads.mono2 (FMem.le_refl _) e2 (fun x hx => absurd rfl hx))⟩
  -- each block behind it is one or the other
  have each : ∀ b j k, j ≤ ops.size → Cur E nn ops.size (L.setIfInBounds i true) b j → look b (hp j) = some k → (look b s'.heap = some k) ∨ (look b H = some k ∧ ¬ ((E i).acc b = true ∧ b < nn i)) := fun b j k hj hc hk => by
    by_cases ht : (E i).Has (nn i) b
    · left
      have := G.uniq hj (Nat.succ_le_of_lt hi) hc (curi1 b ht)
      rw [hk, X.hp1 i hi] at this
      refine hh b k ?_
      simp only [XE.hp] at this
      rw [look_append, look_rest] at this
      cases hout : look b (E i).out with
      | some k' => rw [hout] at this; simpa using this.symm
      | none =>
        rw [hout] at this
        simp only [Option.none_or] at this
        split at this
        · cases this
        · rename_i hcc
          rcases ht with h | h
          · exact absurd (by simpa using h) hcc
          · have := (hids i (Nat.le_of_lt hi) b k this.symm).1
            omega
    · have hc' := curback b j ht hc
      have hkH := hH1 b j k hj hc' hk
      by_cases hf : (E i).acc b = true ∧ b < nn i
      · left
        have := G.uniq hj (Nat.le_of_lt hi) hc' (curi b hf.1 hf.2)
        refine hh2 b k hf.1 ?_ (by rw [← this]; exact hk)
        cases e : (E i).w.contains b with
        | false => rfl
        | true => exact absurd (.inl (by simpa using e)) ht
      · exact .inr ⟨hkH, hf⟩
  -- the blocks behind it, as a list
  let f : Nat → Option Blk := fun b => open Classical in if h : ∃ k j, j ≤ ops.size ∧ Cur E nn ops.size (L.setIfInBounds i true) b j ∧ look b (hp j) = some k then some (Classical.choose h) else none
  have hf : ∀ b k, f b = some k ↔ ∃ j, j ≤ ops.size ∧ Cur E nn ops.size (L.setIfInBounds i true) b j ∧ look b (hp j) = some k := fun b k => by
    constructor
    · intro h
      simp only [f] at h
      split at h
      · rename_i hx; cases h; exact Classical.choose_spec hx
      · cases h
    · rintro ⟨j, q1, q2, q3⟩
      have hx : ∃ k j, j ≤ ops.size ∧ Cur E nn ops.size (L.setIfInBounds i true) b j ∧ look b (hp j) = some k := ⟨k, j, q1, q2, q3⟩
      simp only [f, dif_pos hx]
      obtain ⟨j', r1, r2, r3⟩ := Classical.choose_spec hx
      have := G.uniq q1 r1 q2 r2
      rw [q3, r3] at this
      exact this.symm
  have hH' : ∀ b k, look b (mkH f (nn ops.size)) = some k ↔ f b = some k := fun b k => by
    rw [look_mkH]
    constructor
    · intro h; split at h
      · exact h
      · cases h
    · intro h
      obtain ⟨j, q1, q2, q3⟩ := (hf b k).1 h
      have := (hids j q1 b k q3).1
      have := G.nle q1 (Nat.le_refl _)
      rw [if_pos (by omega)]; exact h
  have hlive : ∀ b k, look b (mkH f (nn ops.size)) = some k → (look b s'.heap = some k) ∨ (look b H = some k ∧ ¬ ((E i).acc b = true ∧ b < nn i)) := fun b k hk => by
    obtain ⟨j, q1, q2, q3⟩ := (hf b k).1 ((hH' b k).1 hk)
    exact each b j k q1 q2 q3
  have hni : nn i ≤ nn ops.size := G.nle (Nat.le_of_lt hi) (Nat.le_refl _)
  have hni1 : nn (i + 1) ≤ nn ops.size := G.nle (Nat.succ_le_of_lt hi) (Nat.le_refl _)
  have hloi : nn 0 ≤ nn i := G.nle (Nat.zero_le _) (Nat.le_of_lt hi)
  refine ⟨by simpa using hsz, fun j hj hLj m hm => ?_, F', φ2, mkH f (nn ops.size), fun b j k hj hc hk => (hH' b k).2 ((hf b k).2 ⟨j, hj, hc, hk⟩), fun b k hk => ?_, fun j hj hLj b hb1 hb2 => ?_, ?_, fun j hj hLj d hd => ?_, fun t p hp_ hd => ?_⟩
  · rw [hset] at hLj ⊢
    by_cases e : m = i
    · rw [if_pos e]
    · rw [if_neg e]
      by_cases e2 : j = i
      · subst e2; exact hanc m hm
      · rw [if_neg e2] at hLj; exact hcl j hj hLj m hm
  · obtain ⟨j, q1, q2, q3⟩ := (hf b k).1 ((hH' b k).1 hk)
    exact ⟨j, q1, q2, q3⟩
  · rw [hset] at hLj
    by_cases e : j = i
    · subst e; rw [if_pos rfl] at hLj; cases hLj
    · rw [if_neg e] at hLj
      show (if nn i ≤ b ∧ b < nn (i + 1) then φ' b else φ b) = none
      rw [if_neg ?_]
      · exact hun j hj hLj b hb1 hb2
      · rintro ⟨h1, h2⟩
        rcases Nat.lt_or_ge j i with q | q
        · have := G.nle (show j + 1 ≤ i by omega) (Nat.le_of_lt hi); omega
        · have := G.nle (show i + 1 ≤ j by omega) (Nat.le_of_lt hj); omega
  · refine { below := hs.below.trans ⟨hs'.below.os, hs'.below.tape, hs'.below.output, hs'.below.size, fun k hk => hmem k (.inl hk)⟩, base := hs.base, fok := hs'.fok, fle := FMem.le_trans hs.fle hs'.fle, fnew := fun x hx => ?_, phi0 := fun b hb => ?_, lo := hs.lo, fresh := fun b hb => ?_, size := hs'.size.trans hN, defers := hs'.defers, tm := fun _ _ h => (by cases h), heap := fun b k hk => ?_, inj := fun b b' k k' B s1 s2 g1 g2 g3 g4 => ?_ }
    · by_cases e : F' x = F x
      · rw [e] at hx; exact hs.fnew x hx
      · exact fun h => hFY x e (.inl h)
    · have hb' : b < lo := hb
      show (if nn i ≤ b ∧ b < nn (i + 1) then φ' b else φ b) = φ0 b
      rw [if_neg (by omega)]; exact hs.phi0 b hb
    · have hb' : nn ops.size ≤ b := hb
      show (if nn i ≤ b ∧ b < nn (i + 1) then φ' b else φ b) = none
      rw [if_neg (by omega)]; exact hs.fresh b hb
    · rcases hlive b k hk with h | h
      · exact touched b k h
      · exact framed b k h.1 h.2
    · rcases hlive b k g1 with h | h <;> rcases hlive b' k' g2 with h' | h'
      · obtain ⟨B1, cs1, l1⟩ := hs'.heap b k h
        obtain ⟨B2, cs2, l2⟩ := hs'.heap b' k' h'
        have a1 := e2 _ _ l1.at_; rw [g3] at a1; cases a1
        have a2 := e2 _ _ l2.at_; rw [g4] at a2; cases a2
        exact hs'.inj b b' k k' _ _ _ h h' l1.at_ l2.at_
      · obtain ⟨B1, cs1, l1⟩ := hs'.heap b k h
        obtain ⟨B2, cs2, l2⟩ := hs.heap b' k' h'.1
        have a1 := e2 _ _ l1.at_; rw [g3] at a1; cases a1
        have a2 := e1 _ _ l2.at_; rw [g4] at a2; cases a2
        exact absurd (.inr ⟨b', k', _, h'.2, h'.1, l2.at_⟩) l1.old
      · obtain ⟨B1, cs1, l1⟩ := hs.heap b k h.1
        obtain ⟨B2, cs2, l2⟩ := hs'.heap b' k' h'
        have a1 := e1 _ _ l1.at_; rw [g3] at a1; cases a1
        have a2 := e2 _ _ l2.at_; rw [g4] at a2; cases a2
        exact absurd (.inr ⟨b, k, _, h.2, h.1, l1.at_⟩) l2.old
      · obtain ⟨B1, cs1, l1⟩ := hs.heap b k h.1
        obtain ⟨B2, cs2, l2⟩ := hs.heap b' k' h'.1
        have a1 := e1 _ _ l1.at_; rw [g3] at a1; cases a1
        have a2 := e1 _ _ l2.at_; rw [g4] at a2; cases a2
        exact hs.inj b b' k k' _ _ _ h.1 h'.1 l1.at_ l2.at_
  · by_cases e : j = i
    · subst e
      exact (hs'.tm d (E j).q (hq d (by rw [← hdo]; exact hd))).mono (FMem.le_refl _) e2
    · rw [hset, if_neg e] at hLj
      rw [htm, put_other (by rw [← hdo]; exact C.apart j hj i hi e d hd)]
      exact (hv j hj hLj d hd).mono hs'.fle e1
  · have e3 : dstOf ops i ≠ some t := fun h => by have := hd i hi h; rw [hset, if_pos rfl] at this; cases this
    rw [htm, put_other (by rw [← hdo]; exact e3)]
    refine (hb t p hp_ (fun j hj h => ?_)).mono hs'.fle e1
    have := hd j hj h
    rw [hset] at this
    split at this
    · cases this
    · exact this
end Go.Proofs.YtdiimgkopknbcaaGreatDoor.E

/- The engine: regions whose order is free: rules. -/
namespace Go.Proofs.YtdiimgkopknbcaaGreatDoor.E
open Go Go.RowKit
set_option linter.unusedVariables false
set_option linter.unusedSimpArgs false
variable {P : Program}
theorem XInv.all {ops : Array Oper} {A : List (List Nat)} {N lo : Nat} {tm0 : List (Nat × PV)} {E : Nat → XE} {hp : Nat → List (Nat × Blk)} {nn : Nat → Nat} {B0 : Fr} {w0 : World} {φ0 : Phi} {F0 : FMem}
    (C : DOKP ops A []) (X : XObs P ops A N ops.size tm0 E hp nn) (G : XGood X) (hlo : lo ≤ nn 0)
    {Q : Exit → Act → World → Prop} (hQ : ∀ F φ a w, Sim B0 w0 φ0 F0 ⟨tmAt ops (fun j => (E j).q) tm0 ops.size, N, hp ops.size, lo, nn ops.size⟩ F φ a w → Q .normal a w) :
    ∀ (fuel : Nat) (L : Array Bool) (a : Act) (w : World), XInv ops A N lo tm0 E hp nn B0 w0 φ0 F0 L a w → missing ops L ≤ fuel → wpAny P .any ops Q fuel L a w := by
  have fin : ∀ (L : Array Bool) (a : Act) (w : World), XInv ops A N lo tm0 E hp nn B0 w0 φ0 F0 L a w → Region.ready .any ops L = [] → Q .normal a w := by
    intro L a w I hr
    have all : ∀ j, j < ops.size → L.getD j true = true := by
      intro j
      induction j using Nat.strongRecOn with
      | _ j ih =>
        intro hj
        cases e : L.getD j true with
        | true => rfl
        | false =>
          have : j ∈ Region.ready .any ops L := (mem_ready I.sz C.dirlt).2 ⟨hj, e, fun i hi => ih i (C.dirlt j hj i hi) (by have := C.dirlt j hj i hi; omega)⟩
          rw [hr] at this; cases this
    obtain ⟨hsz, hcl, F, φ, H, hH1, hH2, hun, hs, hv, hb⟩ := I
    have cur : ∀ b, Cur E nn ops.size L b ops.size := fun b i hi _ => ⟨fun _ => hi, fun _ => all i hi⟩
    have hl : ∀ b k, look b (hp ops.size) = some k → look b H = some k := fun b k h => hH1 b _ k (Nat.le_refl _) (cur b) h
    refine hQ F φ a w { hs with tm := fun t p h => ?_, heap := fun b k h => hs.heap b k (hl b k h), inj := fun b b' k k' B s s' h1 h2 => hs.inj b b' k k' B s s' (hl _ _ h1) (hl _ _ h2) }
    rcases look_tmAt h with ⟨j, h1, h2, rfl⟩ | ⟨h1, h2⟩
    · exact hv j h1 (all j h1) t h2
    · exact hb t p h2 (fun j hj hd => absurd hd (h1 j hj))
  intro fuel
  induction fuel with
  | zero =>
    intro L a w I hm
    have hr : Region.ready .any ops L = [] := by
      cases hr : Region.ready .any ops L with
      | nil => rfl
      | cons i l =>
        have : i ∈ Region.ready .any ops L := by rw [hr]; exact List.mem_cons_self
        obtain ⟨h1, h2, _⟩ := (mem_ready I.sz C.dirlt).1 this
        have := missing_set I.sz h1 h2
        omega
    exact ⟨hr, fin L a w I hr⟩
  | succ fuel ih =>
    intro L a w I hm
    refine ⟨fun hr => fin L a w I hr, fun i hi => ?_⟩
    obtain ⟨h1, h2, h3⟩ := (mem_ready I.sz C.dirlt).1 hi
    have := missing_set I.sz h1 h2
    exact I.step C X G hlo h1 h2 h3 (fun a' w' I' => ih _ a' w' I' (by omega))
/-! ### what stands for a value knows no blocks that there are not -/
theorem lts_of {m : Nat} : ∀ {ps : List PV}, (∀ (i : Nat) (p : PV), ps[i]? = some p → PV.lt m p = true) → PV.lts m ps = true
  | [], _ => rfl
  | p :: ps, h => by
    simp only [PV.lts, Bool.and_eq_true]
    exact ⟨h 0 p rfl, lts_of (fun i q hq => h (i + 1) q hq)⟩
theorem VR.lt {F : FMem} {φ : Phi} {p : PV} {v : Value} (h : VR F φ p v) {n : Nat} (hn : ∀ b, n ≤ b → φ b = none) : PV.lt n p = true := by
  have key : ∀ {b : Nat} {x : Nat × Nat}, φ b = some x → b < n := fun {b x} hb => by
    rcases Nat.lt_or_ge b n with q | q
    · exact q
    · rw [hn b q] at hb; cases hb
  have all : ∀ {ps : List PV} {vs : Array Value}, ps.length = vs.size → (∀ (i : Nat) (p : PV) (u : Value), ps[i]? = some p → vs[i]? = some u → PV.lt n p = true) → PV.lts n ps = true := fun {ps vs} e ih =>
    lts_of fun i p hp => by
      have hi := (List.getElem?_eq_some_iff.1 hp).1
      exact ih i p vs[i] hp (Array.getElem?_eq_getElem (by omega))
  induction h with
  | ref hb _ _ _ => simpa [PV.lt] using key hb
  | ptr hb => simpa [PV.lt] using key hb
  | rptr hb => simpa [PV.lt] using key hb
  | agg e _ ih => simpa only [PV.lt] using all e ih
  | tup e _ ih => simpa only [PV.lt] using all e ih
  | fn e1 _ e2 _ ih1 ih2 => simp only [PV.lt, Bool.and_eq_true]; exact ⟨all e1 ih1, all e2 ih2⟩
  | mp hb => simpa [PV.lt] using key hb
  | yl hb => simpa [PV.lt] using key hb
  | ifc _ ih => simpa only [PV.lt] using ih
  | @cond b want p v h hn' ih =>
    simp only [PV.lt, Bool.or_eq_true]
    by_cases e : b = want
    · exact .inl (ih e)
    · exact .inr (by simpa using e)
  | _ => rfl
theorem Sim.ltT {B0 : Fr} {w0 : World} {φ0 : Phi} {F0 : FMem} {s : St} {F : FMem} {φ : Phi} {a : Act} {w : World} (h : Sim B0 w0 φ0 F0 s F φ a w) : LtT s.n s.tm := fun t p hp => (h.tm t p hp).lt h.fresh
theorem Sim.ltH {B0 : Fr} {w0 : World} {φ0 : Phi} {F0 : FMem} {s : St} {F : FMem} {φ : Phi} {a : Act} {w : World} (h : Sim B0 w0 φ0 F0 s F φ a w) : LtH s.n s.heap := fun b k hk => by
  obtain ⟨B, cs, hl⟩ := h.heap b k hk
  refine ⟨?_, ?_⟩
  · rcases Nat.lt_or_ge b s.n with q | q
    · exact q
    · have := hl.at_; rw [h.fresh b q] at this; cases this
  · cases hr : hl.reads with
    | obj hn' hr' hF => exact lts_of fun i p hp => let ⟨u, _, h2⟩ := hr' i p hp; h2.lt h.fresh
    | row => rfl
    | @map es hF =>
      obtain ⟨ents, clock, g1, g2, g3⟩ := hl.mp _ rfl
      refine lts_of fun i p hp => ?_
      rw [List.getElem?_map, Option.map_eq_some_iff] at hp
      obtain ⟨x, hx, rfl⟩ := hp
      have hi := (List.getElem?_eq_some_iff.1 hx).1
      exact (g3 i ents[i] x (Array.getElem?_eq_getElem (by omega)) hx).2.lt h.fresh
/-- A region whose order is free: each operation touches some blocks alone. -/
theorem regXs_any {ops : Array Oper} {K : St → Prop} {tm : List (Nat × PV)} {N lo n : Nat} {hp : List (Nat × Blk)} (hA : dOK ops (mkAnc ops) [] = true)
    (h : XOb P ops (mkAnc ops) N lo K [] 0 ops.toList tm hp n) {B0 : Fr} {w0 : World} {φ0 : Phi} {F0 F : FMem} {φ : Phi} {a : Act} {w : World} (hs : Sim B0 w0 φ0 F0 ⟨tm, N, hp, lo, n⟩ F φ a w)
    {Q : Exit → Act → World → Prop} (hQ : ∀ s' F φ a w, K s' → s'.lo = lo → s'.N = N → Sim B0 w0 φ0 F0 s' F φ a w → Q .normal a w) : wpAny P .any ops Q ops.size (Array.replicate ops.size false) a w.drew := by
  have C := dOK_spec hA
  obtain ⟨E, hp', nn, X, h1, h2, hK⟩ := XOb.obs (tm := tm) ops.toList 0 [] (fun _ => ⟨.undef, false, [], [], [], n⟩) (fun _ => hp) (fun _ => n) (fun j => by simp) (by simp) (fun j hj => absurd hj (by omega)) ⟨fun i hi => absurd hi (by omega), fun i hi => absurd hi (by omega), fun i hi => absurd hi (by omega), fun i j _ hj => absurd hj (by omega), fun i o hi => absurd hi (by omega)⟩ h
  have G : XGood X := X.good (by rw [h2]; exact hs.ltT) (by rw [h1, h2]; exact hs.ltH)
  have hlo : lo ≤ nn 0 := by rw [h2]; exact hs.lo
  have hs' : Sim B0 w0 φ0 F0 ⟨tm, N, hp, lo, n⟩ F φ a w.drew := hs.drew
  have rep : ∀ j, j < ops.size → (Array.replicate ops.size false).getD j true = false := by
    intro j hj
    rw [Array.getD_eq_getD_getElem?, Array.getElem?_eq_getElem (by simpa using hj)]
    simp
  have hn : ∀ i ≤ ops.size, n ≤ nn i := fun i hi => by have := G.nle (Nat.zero_le i) hi; rw [h2] at this; exact this
  have cur0 : ∀ b, Cur E nn ops.size (Array.replicate ops.size false) b 0 := fun b i hi _ => by rw [rep i hi]; exact ⟨fun h => (by cases h), fun h => absurd h (by omega)⟩
  refine XInv.all C X G hlo (fun F φ a w hs => hQ _ F φ a w hK rfl rfl hs) ops.size _ a _ ⟨by simp, fun j hj hL => (by rw [rep j hj] at hL; cases hL), F, φ, hp, fun b j k hj hc hk => ?_, fun b k hk => ⟨0, Nat.zero_le _, cur0 b, by rw [h1]; exact hk⟩, fun j hj _ b hb _ => hs'.fresh b (Nat.le_trans (hn j (Nat.le_of_lt hj)) hb), ?_, fun j hj hL => (by rw [rep j hj] at hL; cases hL), fun t p ht _ => hs'.tm t p ht⟩ ?_
  · have := G.uniq hj (Nat.zero_le _) hc (cur0 b)
    rw [hk, h1] at this; exact this.symm
  · exact { hs' with tm := fun _ _ h => (by cases h), fresh := fun b hb => hs'.fresh b (Nat.le_trans (hn _ (Nat.le_refl _)) hb), lo := Nat.le_trans hs'.lo (hn _ (Nat.le_refl _)) }
  · unfold missing
    exact Nat.le_trans List.countP_le_length (by simp)
def Yes (b : Bool) : Prop := b = true
theorem Yes.mk {b : Bool} (h : b = true) : Yes b := h
/-- Which blocks may be looked at. -/
def fpOf (A : List (List Nat)) (past : List (Nat × XE × Nat)) (i : Nat) (hp : List (Nat × Blk)) : List Nat :=
  (hp.map (·.1)).filter fun b => past.all fun x => cmpB A x.1 i || !x.2.1.has x.2.2 b
theorem XE.part_rd (q : PV) (ks w : List Nat) (out : List (Nat × Blk)) (n' : Nat) (hw : w = [] ∨ w = ks) : ∀ l : List (Nat × Blk), XE.part ⟨q, false, ks, w, out, n'⟩ l = E.part ks l
  | [] => rfl
  | x :: l => by
    have ih := XE.part_rd q ks w out n' hw l
    have e : XE.acc ⟨q, false, ks, w, out, n'⟩ x.1 = ks.contains x.1 := by
      rcases hw with rfl | rfl
      · simp [XE.acc]
      · simp [XE.acc]
    simp only [XE.part, E.part, ih, e]
theorem XE.part_w (q : PV) (ks : List Nat) (out : List (Nat × Blk)) (n' : Nat) : ∀ l : List (Nat × Blk), XE.part ⟨q, false, [], ks, out, n'⟩ l = E.part ks l
  | [] => rfl
  | x :: l => by
    have ih := XE.part_w q ks out n' l
    have e : XE.acc ⟨q, false, [], ks, out, n'⟩ x.1 = ks.contains x.1 := by simp [XE.acc]
    simp only [XE.part, E.part, ih, e]
section
variable {ops : Array Oper} {A : List (List Nat)} {N lo : Nat} {K : St → Prop} {past : List (Nat × XE × Nat)} {i : Nat} {o : Oper} {l : List Oper} {tm : List (Nat × PV)} {hp : List (Nat × Blk)} {n : Nat}
theorem X.nil (h : K ⟨tm, N, hp, lo, n⟩) : XOb P ops A N lo K past i [] tm hp n := h
theorem rest_nil : ∀ l : List (Nat × Blk), rest [] l = l := fun l => by induction l with | nil => rfl | cons x l ih => simp [rest, ih]
/-- A value; blocks are read alone. -/
theorem X.a {d : Nat} {q : PV} (hd : o.dst = some d) (h : TriL P ops [o] (fun s' => s'.tm = (d, q) :: sel ops o tm ∧ s'.heap = part (fpOf A past i hp) hp ∧ s'.n = n) ⟨sel ops o tm, N, part (fpOf A past i hp) hp, n, n⟩) (hn : Yes (ltB n hp && PV.lt n q))
    (hK : XOb P ops A N lo K ((i, ⟨q, false, fpOf A past i hp, [], [], n⟩, n) :: past) (i + 1) l ((d, q) :: tm) hp n) : XOb P ops A N lo K past i (o :: l) tm hp n := by
  have hn' : (ltB n hp && PV.lt n q) = true := hn
  simp only [Bool.and_eq_true] at hn'
  refine ⟨⟨q, false, fpOf A past i hp, [], [], n⟩, fun _ _ => ⟨Nat.le_refl _, (fun b h => by cases h), (fun b k h => by cases h), hn'.2⟩, ?_, ?_, by rw [hd]; simpa [XE.hp, rest_nil, pushT] using hK⟩
  · simp only [apartB, List.all_eq_true]
    intro x hx
    cases hc : cmpB A x.1 i with
    | true => rfl
    | false =>
      simp only [Bool.false_or, Bool.not_eq_true', meets, Bool.or_eq_false_iff, List.any_eq_false, List.mem_range'_1, List.not_mem_nil, false_implies, implies_true, and_true, Bool.not_eq_true]
      have key : ∀ b, x.2.1.Has x.2.2 b → XE.acc ⟨q, false, fpOf A past i hp, [], [], n⟩ b = false := fun b hb => by
        cases hq : XE.acc ⟨q, false, fpOf A past i hp, [], [], n⟩ b with
        | false => rfl
        | true =>
          simp only [XE.acc, cond_false, List.contains_nil, List.contains_eq_mem] at hq
          simp only [fpOf, List.mem_filter, List.all_eq_true, List.not_mem_nil, decide_false, Bool.or_false, decide_eq_true_eq] at hq
          have := hq.2 x hx
          rw [hc, XE.has_iff.2 hb] at this
          cases this
      exact ⟨fun b hb => key b (.inl hb), fun b hb => key b (.inr ⟨hb.1, by omega⟩)⟩
  · show TriL P ops [o] _ ⟨sel ops o tm, N, XE.part _ hp, n, n⟩
    rw [XE.part_rd _ _ _ _ _ (.inl rfl)]
    refine TriL.mono h fun s' _ _ ⟨h1, h2, h3⟩ => ⟨fun d' hd' => ?_, fun b k hk => (by cases hk), fun b k hc _ hk => ?_, by rw [h3]; exact Nat.le_refl _⟩
    · rw [hd] at hd'; cases hd'; rw [h1]; simp [look]
    · rw [h2, look_part]
      simp only [XE.acc, cond_false, List.contains_nil, Bool.or_false] at hc
      rw [if_pos hc]; exact hk
/-- New blocks; none is looked at. -/
theorem X.new {d : Nat} {q : PV} {hp' : List (Nat × Blk)} {n' : Nat} (hd : o.dst = some d) (h : TriL P ops [o] (fun s' => s'.tm = (d, q) :: sel ops o tm ∧ s'.heap = hp' ∧ s'.n = n') ⟨sel ops o tm, N, [], n, n⟩) (hn : Yes (XE.ok ⟨q, false, [], [], hp', n'⟩ n))
    (hK : XOb P ops A N lo K ((i, ⟨q, false, [], [], hp', n'⟩, n) :: past) (i + 1) l ((d, q) :: tm) (hp' ++ hp) n') : XOb P ops A N lo K past i (o :: l) tm hp n := by
  refine ⟨⟨q, false, [], [], hp', n'⟩, fun _ _ => XE.ok_spec hn, ?_, ?_, by rw [hd]; simpa [XE.hp, rest_nil, pushT] using hK⟩
  · simp [apartB, meets, XE.acc, List.all_eq_true, List.any_eq_false]
  · have hp0 : ∀ l : List (Nat × Blk), part [] l = [] := fun l => by induction l with | nil => rfl | cons x l ih => simp [part, ih]
    show TriL P ops [o] _ ⟨sel ops o tm, N, XE.part _ hp, n, n⟩
    rw [XE.part_rd _ _ _ _ _ (.inl rfl), hp0]
    refine TriL.mono h fun s' _ _ ⟨h1, h2, h3⟩ => ⟨fun d' hd' => ?_, fun b k hk => (by rw [h2]; exact hk), fun b k hc _ hk => (by simp [XE.acc] at hc), by rw [h3]; exact Nat.le_refl _⟩
    rw [hd] at hd'; cases hd'; rw [h1]; simp [look]
theorem part_keys : ∀ l : List (Nat × Blk), part (l.map (·.1)) l = l := by
  have : ∀ (ks : List Nat) (l : List (Nat × Blk)), (∀ x ∈ l, ks.contains x.1 = true) → part ks l = l := fun ks l => by
    induction l with
    | nil => intro _; rfl
    | cons x l ih =>
      intro h
      simp only [part, h x List.mem_cons_self, cond_true]
      rw [ih fun y hy => h y (List.mem_cons_of_mem _ hy)]
  intro l
  exact this _ l fun x hx => by simp only [List.contains_eq_mem, List.mem_map, decide_eq_true_eq]; exact ⟨x, hx, rfl⟩
theorem rest_keys : ∀ l : List (Nat × Blk), rest (l.map (·.1)) l = [] := by
  have : ∀ (ks : List Nat) (l : List (Nat × Blk)), (∀ x ∈ l, ks.contains x.1 = true) → rest ks l = [] := fun ks l => by
    induction l with
    | nil => intro _; rfl
    | cons x l ih =>
      intro h
      simp only [rest, h x List.mem_cons_self, cond_true]
      rw [ih fun y hy => h y (List.mem_cons_of_mem _ hy)]
  intro l
  exact this _ l fun x hx => by simp only [List.contains_eq_mem, List.mem_map, decide_eq_true_eq]; exact ⟨x, hx, rfl⟩
/-- All blocks, by one that stands behind all. -/
theorem X.s {hp' : List (Nat × Blk)} {n' : Nat} (hd : o.dst = none) (h : TriL P ops [o] (fun s' => s'.heap = hp' ∧ s'.n = n') ⟨sel ops o tm, N, hp, n, n⟩)
    (hn : Yes (XE.ok ⟨.undef, false, [], hp.map (·.1), hp', n'⟩ n && apartB A past i ⟨.undef, false, [], hp.map (·.1), hp', n'⟩))
    (hK : XOb P ops A N lo K ((i, ⟨.undef, false, [], hp.map (·.1), hp', n'⟩, n) :: past) (i + 1) l tm hp' n') : XOb P ops A N lo K past i (o :: l) tm hp n := by
  have hn' : (XE.ok ⟨.undef, false, [], hp.map (·.1), hp', n'⟩ n && apartB A past i ⟨.undef, false, [], hp.map (·.1), hp', n'⟩) = true := hn
  simp only [Bool.and_eq_true] at hn'
  refine ⟨⟨.undef, false, [], hp.map (·.1), hp', n'⟩, fun _ _ => XE.ok_spec hn'.1, hn'.2, ?_, by rw [hd]; simpa [XE.hp, rest_keys, pushT] using hK⟩
  show TriL P ops [o] _ ⟨sel ops o tm, N, XE.part _ hp, n, n⟩
  rw [XE.part_w, part_keys]
  exact TriL.mono h fun s' _ _ ⟨h2, h3⟩ => ⟨fun d' hd' => (by rw [hd] at hd'; cases hd'), fun b k hk => (by rw [h2]; exact hk), fun b k hc hw _ => (by simp [XE.acc] at hc hw; exact absurd hc (by simpa using hw)), by rw [h3]; exact Nat.le_refl _⟩
/-- Some blocks, and new ones. -/
theorem X.w (fp : List Nat) {d : Nat} {q : PV} {hp' : List (Nat × Blk)} {n' : Nat} (hd : o.dst = some d) (h : TriL P ops [o] (fun s' => s'.tm = (d, q) :: sel ops o tm ∧ s'.heap = hp' ∧ s'.n = n') ⟨sel ops o tm, N, part fp hp, n, n⟩)
    (hn : Yes (XE.ok ⟨q, false, [], fp, hp', n'⟩ n && apartB A past i ⟨q, false, [], fp, hp', n'⟩))
    (hK : XOb P ops A N lo K ((i, ⟨q, false, [], fp, hp', n'⟩, n) :: past) (i + 1) l ((d, q) :: tm) (hp' ++ rest fp hp) n') : XOb P ops A N lo K past i (o :: l) tm hp n := by
  have hn' : (XE.ok ⟨q, false, [], fp, hp', n'⟩ n && apartB A past i ⟨q, false, [], fp, hp', n'⟩) = true := hn
  simp only [Bool.and_eq_true] at hn'
  refine ⟨⟨q, false, [], fp, hp', n'⟩, fun _ _ => XE.ok_spec hn'.1, hn'.2, ?_, by rw [hd]; simpa [XE.hp, pushT] using hK⟩
  show TriL P ops [o] _ ⟨sel ops o tm, N, XE.part _ hp, n, n⟩
  rw [XE.part_w]
  refine TriL.mono h fun s' _ _ ⟨h1, h2, h3⟩ => ⟨fun d' hd' => ?_, fun b k hk => (by rw [h2]; exact hk), fun b k hc hw _ => (by simp [XE.acc] at hc hw; exact absurd hc (by simpa using hw)), by rw [h3]; exact Nat.le_refl _⟩
  rw [hd] at hd'; cases hd'; rw [h1]; simp [look]
end
section
variable {d ty : Nat} {pos : String} {af : Array Edge} {K : St → Prop} {ops : Array Oper} {l_ : List Oper} {tm_ : List (Nat × PV)} {N_ lo_ n_ : Nat} {hp_ : List (Nat × Blk)} {x : Operand} {f : FuncId} {ts : Array TypeId}
/-- A call that gives a row of our own. -/
theorem U.callO1 {y : Operand} {u : T} {e : Nat} {xs : List T} [hf : FnIs P f] (hx : evt tm_ x = .t (.v (.func (.func f) #[] #[]))) (hy : (evt tm_ y).toT = some u) (hr : Pure P f [u] (.one (.own e xs))) (hN : Nat.blt d N_ = true)
    (hK : TriL P ops l_ K ⟨(d, .ref n_ e 0 xs.length xs.length) :: tm_, N_, (n_, .row e xs false) :: hp_, lo_, n_ + 1⟩) : TriL P ops (⟨some d, .call ⟨.value x, #[y], ts⟩, ty, pos, af, none⟩ :: l_) K ⟨tm_, N_, hp_, lo_, n_⟩ :=
  .cons rfl (.call (xs := [y]) (s1 := ⟨tm_, N_, hp_, lo_, n_⟩) hx rfl (.tree hy .nil) hr hN hK)
end
section
variable {ops : Array Oper} {A : List (List Nat)} {N lo : Nat} {K : St → Prop} {past : List (Nat × XE × Nat)} {i : Nat} {l : List Oper} {tm : List (Nat × PV)} {hp : List (Nat × Blk)} {n d ty : Nat} {pos : String} {af : Array Edge}
/-- A new cell. -/
theorem X.alloc {t : TypeId} {ds : TypeDesc} {sz bytes : Nat} {z : Value} {p : PV} {ls : List PV} [ht : TyIs P t ds sz bytes z] (hz : ofConst z = p) (hp0 : p.known = true) (hl : p.leaves = ls) (hN : Nat.blt d N = true) (hn : Yes (XE.ok ⟨.ptr n 0, false, [], [], [(n, .obj ls)], n + 1⟩ n))
    (hK : XOb P ops A N lo K ((i, ⟨.ptr n 0, false, [], [], [(n, .obj ls)], n + 1⟩, n) :: past) (i + 1) l ((d, .ptr n 0) :: tm) ((n, .obj ls) :: hp) (n + 1)) : XOb P ops A N lo K past i (⟨some d, .alloc t, ty, pos, af, none⟩ :: l) tm hp n :=
  X.new rfl (U.alloc hz hp0 hl hN (TriL.nil ⟨rfl, rfl, rfl⟩)) hn hK
variable {x : Operand} {f : FuncId} {ts : Array TypeId}
/-- A call that gives a row of our own. -/
theorem X.callO1 {y : Operand} {u : T} {e : Nat} {xs : List T} [hf : FnIs P f] (hx : evt (sel ops ⟨some d, .call ⟨.value x, #[y], ts⟩, ty, pos, af, none⟩ tm) x = .t (.v (.func (.func f) #[] #[]))) (hy : (evt (sel ops ⟨some d, .call ⟨.value x, #[y], ts⟩, ty, pos, af, none⟩ tm) y).toT = some u) (hr : Pure P f [u] (.one (.own e xs))) (hN : Nat.blt d N = true)
    (hn : Yes (XE.ok ⟨.ref n e 0 xs.length xs.length, false, [], [], [(n, .row e xs false)], n + 1⟩ n))
    (hK : XOb P ops A N lo K ((i, ⟨.ref n e 0 xs.length xs.length, false, [], [], [(n, .row e xs false)], n + 1⟩, n) :: past) (i + 1) l ((d, .ref n e 0 xs.length xs.length) :: tm) ((n, .row e xs false) :: hp) (n + 1)) : XOb P ops A N lo K past i (⟨some d, .call ⟨.value x, #[y], ts⟩, ty, pos, af, none⟩ :: l) tm hp n :=
  X.new rfl (U.callO1 hx hy hr hN (TriL.nil ⟨rfl, rfl, rfl⟩)) hn hK
end
end Go.Proofs.YtdiimgkopknbcaaGreatDoor.E

/- Results that are three values; calls that give several values. -/
namespace Go.Proofs.YtdiimgkopknbcaaGreatDoor.E
open Go Go.RowKit
set_option linter.unusedVariables false
set_option linter.unusedSimpArgs false
section
variable {P : Program}
/-- Three values are the result. -/
def Comes3 (t u v : Tmp) (x y z : T) (e : Ex) (s : St) : Prop := (e = .normal ∨ e = .ret) ∧ Rets s [s.ev (.tmp t), s.ev (.tmp u), s.ev (.tmp v)] [.t x, .t y, .t z]
theorem Comes3.trees {t u v : Tmp} {x y z : T} {e : Ex} {s : St} (he : e = .normal ∨ e = .ret) (h1 : (s.ev (.tmp t)).toT = some x) (h2 : (s.ev (.tmp u)).toT = some y) (h3 : (s.ev (.tmp v)).toT = some z) : Comes3 t u v x y z e s := ⟨he, .tree h1 (.tree h2 (.tree h3 .nil))⟩
variable {d ty : Nat} {pos : String} {af : Array Edge} {K : St → Prop} {ops : Array Oper} {l_ : List Oper} {tm_ : List (Nat × PV)} {N_ lo_ n_ : Nat} {hp_ : List (Nat × Blk)} {x : Operand} {f : FuncId} {ts : Array TypeId}
end
end Go.Proofs.YtdiimgkopknbcaaGreatDoor.E
