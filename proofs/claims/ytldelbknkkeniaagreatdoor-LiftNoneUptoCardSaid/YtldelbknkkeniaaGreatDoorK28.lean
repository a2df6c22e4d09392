/- The engine runs closed code: cuts, structs, conversions, lengths, functions' values, maps that are looked at. -/
import Derived.Test.YtldelbknkkeniaaGreatDoorK26
import Derived.Laws.Tables
import Derived.Lib.UnsafeStr
import Derived.MapKept
import Derived.Lib.Builder
import Derived.IntWalk
namespace Go.Proofs.YtldelbknkkeniaaGreatDoor.E
open Go Go.RowKit
set_option linter.unusedVariables false
set_option linter.unusedSimpArgs false
variable {P : Program}
noncomputable section
section
variable {E : Env P} {d ty : Nat} {pos : String} {af : Array Edge} {g : Option (Nat × Bool)} {s : St} {hg : Nat → Option RB}

/-! ### cuts -/
def bndV (tm : Tr PV) (o : Option Operand) (n : Nat) : Option Nat := match o with
  | none => some n
  | some x => match evK tm x with
    | some (.t (.v (.int _ i))) => bif decide (0 ≤ i) then some i.toNat else none
    | _ => none
def cutV (E : Env P) (tm : Tr PV) (t : TypeId) (lo hi : Option Operand) (p : PV) : Option PV := match p with
  | .t (.v (.string b)) => match (E.tyAt t).map TyE.d, bndV tm lo 0, bndV tm hi b.data.toList.length with
    | some .string, some l, some k => bif Nat.ble l k && Nat.ble k b.data.toList.length then some (str ((b.data.toList.drop l).take (k - l))) else none
    | _, _, _ => none
  | .ref b e off len cap => match (E.tyAt t).map TyE.d, bndV tm lo 0, bndV tm hi len with
    | some (.slice et), some l, some k => match E.tyAt et with
      | some y => bif Nat.beq e y.sz && Nat.ble l k && Nat.ble k cap then (bif Nat.blt l cap then some (.ref b e (off + l) (k - l) (cap - l)) else some (.t (.sl false []))) else none
      | none => none
    | _, _, _ => none
  | .t (.sl n []) => match (E.tyAt t).map TyE.d, bndV tm lo 0, bndV tm hi 0 with
    | some (.slice et), some l, some k => match E.tyAt et with
      | some y => bif Nat.beq l 0 && Nat.beq k 0 then some (.t (.sl n [])) else none
      | none => none
    | _, _, _ => none
  | _ => none
theorem cut_of {tm : Tr PV} {len : Nat} {lo hi : Option Operand} {l k : Nat} (hev : ∀ x, (lo = some x ∨ hi = some x) → ∀ p, evK tm x = some p → s.ev x = p) (h1 : bndV tm lo 0 = some l) (h2 : bndV tm hi len = some k) : Cut True s len lo hi l k := by
  have key : ∀ (o : Option Operand) (n m : Nat), (∀ x, o = some x → ∀ p, evK tm x = some p → s.ev x = p) → bndV tm o n = some m → match o with | none => m = n | some x => ∃ q i, EvH True s x (.t (.v (.int q i))) ∧ 0 ≤ i ∧ m = i.toNat := by
    intro o n m he h
    unfold bndV at h
    split at h
    · cases h; rfl
    · rename_i x
      split at h
      · rename_i q i hx
        obtain ⟨hc, h⟩ := bif_some h
        cases h
        exact ⟨q, i, .of (he x rfl _ hx) rfl, of_decide_eq_true hc, rfl⟩
      · cases h
  exact ⟨key lo 0 l (fun x hx => hev x (.inl hx)) h1, key hi len k (fun x hx => hev x (.inr hx)) h2⟩
theorem extract_bytes (b : ByteArray) (l k : Nat) : b.extract l k = ⟨⟨(b.data.toList.drop l).take (k - l)⟩⟩ := by
  apply ByteArray.ext
  apply Array.ext'
  simp [ByteArray.extract, ByteArray.copySlice, Array.toList_extract, List.extract_eq_take_drop]
theorem PO.cutEnd {t et : TypeId} {x : Operand} {low high : Option Operand} {b off len cap l k : Nat} {sz bytes e ebytes : Nat} {z ez : Value} {ed : TypeDesc} [ht : TyIs P t (.slice et) sz bytes z] [he : TyIs P et ed e ebytes ez]
    (hx : EvH True s x (.ref b e off len cap)) (hc : Cut True s len low high l k) (h1 : l = k) (h2 : k ≤ cap) : PO P True ⟨some d, .slice t x low high none, ty, pos, af, g⟩ s (.t (.sl false [])) := by
  intro hH B0 w0 φ0 F0 F φ a w hs
  have hv := hx.vr hH hs
  generalize hq : a.eval x = q at hv
  cases hv with
  | @ref _ _ _ _ _ B sz' c hφ k1 k2 k3 =>
    have hr := cut_run (P := P) hH hs hc (Nat.le_of_eq h1) (Nat.le_trans h2 k2) true
    subst h1
    by_cases hcl : c = l
    · refine ⟨.slice (some ⟨B, off * e, none⟩) 0 (c - l), ?_, .t .sl0⟩
      simp only [execOp, hq, Instr.sliceAt, Instr.slice, Sem.run_bind, ht.under, Result.andThen_ok, Option.map_none]
      rw [hr]
      simp only [Result.andThen_ok, he.sizeOf, Sem.run_pure, Sem.run_bind]
      rw [if_pos hcl, Nat.sub_self]
    · refine ⟨.slice (some ⟨B, (off + l) * e, none⟩) 0 (c - l), ?_, .t .sl0⟩
      simp only [execOp, hq, Instr.sliceAt, Instr.slice, Sem.run_bind, ht.under, Result.andThen_ok, Option.map_none]
      rw [hr]
      simp only [Result.andThen_ok, he.sizeOf, Sem.run_pure, Sem.run_bind]
      rw [if_neg hcl, Nat.sub_self]
      simp only [Option.map_some, Addr.add_mid, Nat.add_mul]
theorem cutV_ok {tm : Tr PV} {n : Nat} {t : TypeId} {x : Operand} {lo hi : Option Operand} {p q : PV} (K : Kn tm hg n ⟨some d, .slice t x lo hi none, ty, pos, af, g⟩ s) (hx : EvH True s x p) (h : cutV E tm t lo hi p = some q) :
    PO P True ⟨some d, .slice t x lo hi none, ty, pos, af, g⟩ s q := by
  have hev : ∀ y, (lo = some y ∨ hi = some y) → ∀ p, evK tm y = some p → s.ev y = p := fun y hy => K.ev y (by rcases hy with rfl | rfl <;> simp [Op.operands])
  unfold cutV at h
  split at h
  · rename_i b
    split at h
    · rename_i l k hd h1 h2
      obtain ⟨_, _, _, ht⟩ := tyAt_d hd
      obtain ⟨hc, h⟩ := bif_some h
      cases h
      simp only [Bool.and_eq_true, Nat.ble_eq] at hc
      have hc2 := cut_of hev h1 h2
      have e : b.data.toList.length = b.size := by simp
      rw [e] at hc2 hc
      have := PX.cutS (P := P) (d := d) (ty := ty) (pos := pos) (af := af) (g := g) (t := t) hx hc2 hc.1 hc.2
      rw [extract_bytes] at this
      exact this
    · cases h
  · rename_i b e off len cap
    split at h
    · rename_i et l k hd h1 h2
      obtain ⟨_, _, _, ht⟩ := tyAt_d hd
      split at h
      · rename_i y hy
        have he := E.tyAt_ok hy
        obtain ⟨hc, h⟩ := bif_some h
        simp only [Bool.and_eq_true, Nat.ble_eq] at hc
        obtain ⟨⟨hc0, hc1⟩, hc2⟩ := hc
        have hc0 := Nat.eq_of_beq_eq_true hc0
        subst hc0
        cases hl : Nat.blt l cap with
        | true =>
          rw [hl, cond_true] at h; cases h
          exact PX.cutR hx (cut_of hev h1 h2) hc1 hc2 (blt_lt hl)
        | false =>
          rw [hl, cond_false] at h; cases h
          have : ¬ l < cap := fun e => by rw [show Nat.blt l cap = true by simpa [Nat.blt_eq] using e] at hl; cases hl
          exact PO.cutEnd hx (cut_of hev h1 h2) (by omega) hc2
      · cases h
    · cases h
  · rename_i n
    split at h
    · rename_i et l k hd h1 h2
      obtain ⟨_, _, _, ht⟩ := tyAt_d hd
      split at h
      · rename_i y hy
        have he := E.tyAt_ok hy
        obtain ⟨hc, h⟩ := bif_some h
        cases h
        simp only [Bool.and_eq_true] at hc
        have hl := Nat.eq_of_beq_eq_true hc.1
        have hk := Nat.eq_of_beq_eq_true hc.2
        subst hl; subst hk
        have := PX.cut (P := P) (d := d) (ty := ty) (pos := pos) (af := af) (g := g) (t := t) (et := et) (xs := []) hx (cut_of hev h1 h2) (Nat.le_refl _) (Nat.zero_le _) (fun i x h => by simp at h)
        simpa using this
      · cases h
    · cases h
  · cases h

/-! ### structs, arrays -/
def partsV (tm : Tr PV) : List (Nat × Operand) → Option (List (Nat × PV))
  | [] => some []
  | x :: l => match evK tm x.2, partsV tm l with
    | some p, some ps => some ((x.1, p) :: ps)
    | _, _ => none
theorem partsV_ok {tm : Tr PV} : ∀ {l : List (Nat × Operand)} {ps : List (Nat × PV)}, (∀ x ∈ l, ∀ p, evK tm x.2 = some p → s.ev x.2 = p) → partsV tm l = some ps → l.map (fun x => (x.1, s.ev x.2)) = ps
  | [], _, _, h => by cases h; rfl
  | x :: l, ps, he, h => by
    simp only [partsV] at h
    split at h
    · rename_i p qs h1 h2
      cases h
      rw [List.map_cons, he x List.mem_cons_self p h1, partsV_ok (fun y hy => he y (List.mem_cons_of_mem _ hy)) h2]
    · cases h
def seqPl (e : Nat) : Nat → Nat → List (Nat × Nat)
  | _, 0 => []
  | i, n + 1 => (i * e, e) :: seqPl e (i + 1) n
theorem seqPl_get (e : Nat) : ∀ (n i j : Nat) (x : Nat × Nat), (seqPl e i n)[j]? = some x → x = ((i + j) * e, e)
  | 0, _, _, _, h => by simp [seqPl] at h
  | n + 1, i, 0, x, h => by simp [seqPl] at h; simp [← h]
  | n + 1, i, j + 1, x, h => by
    have := seqPl_get e n (i + 1) j x (by simpa [seqPl] using h)
    rw [this, show i + 1 + j = i + (j + 1) by omega]
theorem fill_ext {p q : Nat → Option (Nat × Nat)} (hpq : ∀ i x, p i = some x → q i = some x) : ∀ {l : List (Nat × Value)} {cells out : Array Value}, Instr.fill p cells l = some out → Instr.fill q cells l = some out
  | [], _, _, h => h
  | (i, v) :: l, cells, out, h => by
    simp only [Instr.fill] at h ⊢
    split at h
    · cases h
    · rename_i off size hp
      rw [hpq i _ hp]
      simp only
      split at h
      · cases h
      · rename_i hn
        rw [if_neg hn]
        exact fill_ext hpq h
theorem PO.buildA {t et : TypeId} {m : Nat} {parts : List (Nat × Operand)} {sz bytes e ebytes : Nat} {z ez : Value} {ed : TypeDesc} {zs qs : List PV} [ht : TyIs P t (.array m et) sz bytes z] [he : TyIs P et ed e ebytes ez]
    (hz : (ofConst z).leaves = zs) (hzk : (ofConst z).known = true) (hq : fillP (seqPl e 0 m) zs (parts.map fun x => (x.1, s.ev x.2)) = some qs) : PO P True ⟨some d, .build t parts.toArray, ty, pos, af, g⟩ s (.agg qs) := by
  intro _ B0 w0 φ0 F0 F φ a w hs
  have hv : VR F φ (ofConst z) z := ofConst_vr z
  obtain ⟨h1, h2⟩ := hv.cells hzk
  rw [hz] at h1 h2
  obtain ⟨out, e1, e2, e3⟩ := fillP_spec (f := a.eval) (g := s.ev) (cells := z.cells) (fun x => hs.ev x) hq h1 h2
  refine ⟨.agg out, ?_, ?_⟩
  · obtain ⟨i, i1, i2, i3, i4⟩ := ht.inf
    obtain ⟨j, j1, j2, j3, j4⟩ := he.inf
    have hb := run_build (P := P) w t (parts.toArray.map fun (x : Nat × Operand) => (x.1, a.eval x.2)) out (by
      unfold Program.built
      rw [i1, ht.und]
      simp only [i2, j1, j3]
      refine fill_ext (fun k x hk => ?_) (by simpa using e1)
      have := seqPl_get e m 0 k x (by simpa using hk)
      rw [this, Nat.zero_add])
    simp only [execOp, Sem.run_bind]
    rw [hb]; rfl
  · refine .agg e2 (fun i p u hp hu => ?_)
    obtain ⟨u', hu', hvr⟩ := e3 i p hp
    rw [hu] at hu'; cases hu'; exact hvr
def buildV (E : Env P) (tm : Tr PV) (t : TypeId) (parts : Array (Nat × Operand)) : Option PV := match E.tyAt t, partsV tm parts.toList with
  | some y, some ps => bif (ofConst y.z).known then (match y.d with
    | .struct _ => match E.plAt t with
      | some pl => (fillP pl.pl (ofConst y.z).leaves ps).map .agg
      | none => none
    | .array m et => match E.tyAt et with
      | some ye => (fillP (seqPl ye.sz 0 m) (ofConst y.z).leaves ps).map .agg
      | none => none
    | _ => none) else none
  | _, _ => none
theorem buildV_ok {tm : Tr PV} {n : Nat} {t : TypeId} {parts : Array (Nat × Operand)} {q : PV} (K : Kn tm hg n ⟨some d, .build t parts, ty, pos, af, g⟩ s) (h : buildV E tm t parts = some q) : PO P True ⟨some d, .build t parts, ty, pos, af, g⟩ s q := by
  unfold buildV at h
  split at h
  · rename_i y ps hy hp
    have ht := E.tyAt_ok hy
    obtain ⟨hz, h⟩ := bif_some h
    have hps := partsV_ok (s := s) (fun x hx => K.ev x.2 (by simp only [Op.operands, List.mem_map]; exact ⟨x, hx, rfl⟩)) hp
    split at h
    · rename_i fs hd
      rw [hd] at ht
      split at h
      · rename_i pl hpl
        rw [Option.map_eq_some_iff] at h
        obtain ⟨qs, h1, rfl⟩ := h
        obtain ⟨hpi, hu⟩ := E.plAt_ok hpl
        have e : pl.fs = fs := by
          have := ht.und
          rw [hu] at this
          cases this; rfl
        rw [e] at hpi
        have := (PO.build (P := P) (d := d) (ty := ty) (pos := pos) (af := af) (g := g) (t := t) (parts := parts.toList) (s := s) rfl hz (by rw [hps]; exact h1) rfl).weak fun _ _ _ => mkAgg_agg
        simpa using this
      · cases h
    · rename_i m et hd
      rw [hd] at ht
      split at h
      · rename_i ye hye
        have he := E.tyAt_ok hye
        rw [Option.map_eq_some_iff] at h
        obtain ⟨qs, h1, rfl⟩ := h
        have := PO.buildA (P := P) (d := d) (ty := ty) (pos := pos) (af := af) (g := g) (t := t) (et := et) (m := m) (parts := parts.toList) (s := s) rfl hz (by rw [hps]; exact h1)
        simpa using this
      · cases h
    · cases h
  · cases h
end
end
end Go.Proofs.YtldelbknkkeniaaGreatDoor.E

/- The engine runs closed code: conversions, lengths, functions' values, maps that are looked at. -/
namespace Go.Proofs.YtldelbknkkeniaaGreatDoor.E
open Go Go.RowKit
set_option linter.unusedVariables false
set_option linter.unusedSimpArgs false
variable {P : Program}
noncomputable section
section
variable {E : Env P} {d ty : Nat} {pos : String} {af : Array Edge} {g : Option (Nat × Bool)} {s : St} {hg : Nat → Option RB}

/-! ### bytes -/
def bytesL : List PV → Option (List UInt8)
  | [] => some []
  | .t (.v (.int .u8 m)) :: l => bif decide (0 ≤ m) && decide (m < 256) then (bytesL l).map (UInt8.ofNat m.toNat :: ·) else none
  | _ => none
theorem bytesL_get : ∀ {ps : List PV} {l : List UInt8}, bytesL ps = some l → l.length = ps.length ∧ ∀ (j : Nat) (x : UInt8), l[j]? = some x → ps[j]? = some (.t (.v (.int .u8 x.toNat)))
  | [], l, h => by cases h; exact ⟨rfl, fun j x h => by simp at h⟩
  | p :: ps, l, h => by
    unfold bytesL at h
    split at h
    · cases ‹p :: ps = []›
    · rename_i m l' e
      cases e
      obtain ⟨hc, h⟩ := bif_some h
      rw [Option.map_eq_some_iff] at h
      obtain ⟨q, hq, rfl⟩ := h
      obtain ⟨h1, h2⟩ := bytesL_get hq
      simp only [Bool.and_eq_true, decide_eq_true_eq] at hc
      refine ⟨by simp [h1], fun j x hx => ?_⟩
      cases j with
      | zero =>
        simp at hx; subst hx
        have : ((UInt8.ofNat m.toNat).toNat : Int) = m := by
          rw [UInt8.toNat_ofNat', Nat.mod_eq_of_lt (by omega)]; omega
        simp only [List.getElem?_cons_zero, this]
      | succ j => simpa using h2 j x (by simpa using hx)
    · cases h
/-- Cells of a block, as the machine has them. -/
theorem cells_at {B0 : Fr} {w0 : World} {φ0 : Phi} {F0 : FMem} {F : FMem} {φ : Phi} {a : Act} {w : World} (hs : Sim B0 w0 φ0 F0 s F φ a w) (hk : HK hg s) {b sz : Nat} {cs : Tr PV} {dv : PV} {bt : Option TypeId} (hb : hg b = some (.c sz cs dv bt)) {B S : Nat} (hφ : φ b = some (B, S)) :
    ∃ vs t, w.heap[B]? = some (.cells vs t (0, 0)) ∧ (∀ t', bt = some t' → t' = t) ∧ sz ≤ vs.size ∧ vs.size = S ∧ ∀ i, i < sz → ∃ u, vs[i]? = some u ∧ VR F φ ((cs.get i).getD dv) u := by
  obtain ⟨B', vs, hl⟩ := hs.heap b _ (hk b _ hb)
  have e := hl.at_; rw [hφ] at e; cases e
  obtain ⟨t, ht⟩ := hl.cells rfl
  refine ⟨vs, t, ht, fun t' e => ?_, ?_⟩
  · have := hl.ty t' e; rw [ht] at this; cases this; rfl
  cases hl.reads with
  | obj hn hr hF =>
    rw [Tr.gets_len] at hn
    refine ⟨hn, rfl, fun i hi => ?_⟩
    have := hr i ((cs.get (0 + i)).getD dv) (by rw [Tr.gets_get, if_pos hi])
    rwa [Nat.zero_add] at this
def kindOf : TypeDesc → Option IntKind
  | .int k => some k
  | _ => none
def convV (E : Env P) (hg : Nat → Option RB) (src dst : TypeId) (p : PV) : Option PV := match E.tyAt src, E.tyAt dst with
  | some ys, some yd => match yd.d, p with
    | .int k, .t (.v (.int _ m)) => some (.t (.v (.int k (k.wrap m))))
    | .string, .t (.v (.string b)) => some (.t (.v (.string b)))
    | .string, .ref b e off len _ => match ys.d, hg b with
      | .slice et, some (.c sz cs dv _) => match (E.tyAt et).map TyE.d with
        | some (.int .u8) => bif Nat.beq e 1 && Nat.ble (off + len) sz then (bytesL (cs.gets dv off len)).map str else none
        | _ => none
      | _, _ => none
    | .string, .t (.sl true []) => match ys.d with
      | .slice et => match (E.tyAt et).map TyE.d with
        | some (.int .u8) => some (str [])
        | _ => none
      | _ => none
    | _, _ => none
  | _, _ => none
theorem convV_ok {src dst : TypeId} {x : Operand} {p q : PV} (hx : EvH True s x p) (hk : HK hg s) (h : convV E hg src dst p = some q) : PO P True ⟨some d, .convert src dst x, ty, pos, af, g⟩ s q := by
  unfold convV at h
  split at h
  · rename_i ys yd h1 h2
    have hs1 := E.tyAt_ok h1
    have hd1 := E.tyAt_ok h2
    split at h
    · rename_i k k' m hd
      cases h
      rw [hd] at hd1
      exact PO.conv hx rfl
    · rename_i b hd
      cases h
      rw [hd] at hd1
      intro hH B0 w0 φ0 F0 F φ a w hs
      have h3 := (evv hH hs hx).1
      refine ⟨_, ?_, .t (.v rfl)⟩
      simp only [execOp, h3, convert, Sem.run_bind, hs1.under, hd1.under, Result.andThen_ok]
      cases ys.d <;> rfl
    · rename_i b e off len cap hd
      rw [hd] at hd1
      split at h
      · rename_i et sz cs dv bt hsd hb
        rw [hsd] at hs1
        split at h
        · rename_i hde
          obtain ⟨_, _, _, he1⟩ := tyAt_d hde
          obtain ⟨hc, h⟩ := bif_some h
          rw [Option.map_eq_some_iff] at h
          obtain ⟨l, hl, rfl⟩ := h
          simp only [Bool.and_eq_true, Nat.ble_eq] at hc
          have e1 := Nat.eq_of_beq_eq_true hc.1
          subst e1
          obtain ⟨g1, g2⟩ := bytesL_get hl
          rw [Tr.gets_len] at g1
          intro hH B0 w0 φ0 F0 F φ a w hs
          have hv := hx.vr hH hs
          generalize hq : a.eval x = v at hv
          cases hv with
          | @ref _ _ _ _ _ B S c hφ k1 k2 k3 =>
            obtain ⟨vs, t, q1, q0, q2, q3, q4⟩ := cells_at hs hk hb hφ
            subst g1
            have hr := run_convert_bytes_back (P := P) w src dst et ⟨B, off * 1, none⟩ c l hs1.und he1.und hd1.und (fun j hj => by
              have h3 := g2 j l[j] (List.getElem?_eq_getElem hj)
              rw [Tr.gets_get, if_pos hj] at h3
              obtain ⟨u, hu, hvr⟩ := q4 (off + j) (by omega)
              rw [Option.some.inj h3] at hvr
              obtain rfl := vrv hvr
              rw [Addr.add_mid, cell_at q1, Nat.mul_one]
              simpa using hu)
            refine ⟨_, ?_, .t (.v rfl)⟩
            simp only [execOp, hq, Sem.run_bind, hr, Result.andThen_ok]; rfl
        · cases h
      · cases h
    · rename_i hd
      rw [hd] at hd1
      split at h
      · rename_i et hsd
        rw [hsd] at hs1
        split at h
        · rename_i hde
          obtain ⟨_, _, _, he1⟩ := tyAt_d hde
          cases h
          exact PO.b2s (l := []) hx rfl
        · cases h
      · cases h
    · cases h
  · cases h

/-! ### builtins that read alone -/
def lenV (E : Env P) (hg : Nat → Option RB) (t : TypeId) (p : PV) : Option PV := match (E.tyAt t).map TyE.d with
  | some .string => match p with
    | .t (.v (.string b)) => some (.t (.v (.int .i64 b.data.toList.length)))
    | _ => none
  | some (.slice _) => match p with
    | .ref _ _ _ len _ => some (.t (.v (.int .i64 len)))
    | .t (.sl _ xs) => some (.t (.v (.int .i64 xs.length)))
    | _ => none
  | some (.map _ _) => match p with
    | .mp b => match hg b with
      | some (.m es) => some (.t (.v (.int .i64 es.length)))
      | _ => none
    | .t (.v (.map none)) => some (.t (.v (.int .i64 0)))
    | _ => none
  | _ => none
theorem lenV_ok {t : TypeId} {x : Operand} {p q : PV} (hx : EvH True s x p) (hk : HK hg s) (h : lenV E hg t p = some q) : PO P True ⟨some d, .call ⟨.builtin .len, #[x], #[t]⟩, ty, pos, af, g⟩ s q := by
  unfold lenV at h
  split at h
  · rename_i hd
    obtain ⟨_, _, _, ht⟩ := tyAt_d hd
    split at h
    · rename_i b
      cases h
      have := PO.lenS (P := P) (d := d) (ty := ty) (pos := pos) (af := af) (g := g) (t := t) hx
      simpa using this
    · cases h
  · rename_i hd
    obtain ⟨_, _, _, ht⟩ := tyAt_d hd
    split at h
    · cases h; exact PO.lenR hx
    · cases h; exact PO.len hx
    · cases h
  · rename_i kt et hd
    obtain ⟨_, _, _, ht⟩ := tyAt_d hd
    split at h
    · rename_i b
      split at h
      · rename_i es hb
        cases h
        refine .blt (fun hH _ _ _ _ _ _ a w hs => ⟨.int .i64 es.length, ?_, .t (.v rfl)⟩)
        have hv := hx.vr hH hs
        generalize hq : a.eval x = q at hv
        cases hv with
        | @mp _ B sz hφ =>
          obtain ⟨B', vs, hl⟩ := hs.heap b _ (hk b _ hb)
          have e := hl.at_; rw [hφ] at e; cases e
          obtain ⟨ents, clock, k1, k2, k3⟩ := hl.mp _ rfl
          simp only [builtin, List.map_toArray, List.map_cons, List.map_nil, hq, Sem.run_bind]
          have : (Builtin.len_ #[t] ty #[.map (some B)]).run P w = .ok (goInt ents.size) w := by
            simp [Builtin.len_, run_underlying ht.und, getObj, Sem.run, k1]
          rw [this, k2]; rfl
      · cases h
    · cases h
      refine .blt (fun hH _ _ _ _ _ _ a w hs => ⟨.int .i64 0, ?_, .t (.v rfl)⟩)
      have h1 := (evv hH hs hx).1
      simp only [builtin, List.map_toArray, List.map_cons, List.map_nil, h1, Sem.run_bind]
      have : (Builtin.len_ #[t] ty #[.map none]).run P w = .ok (goInt 0) w := by
        simp [Builtin.len_, run_underlying ht.und]
      rw [this]; rfl
    · cases h
  · cases h
def capV (E : Env P) (t : TypeId) (p : PV) : Option PV := match (E.tyAt t).map TyE.d with
  | some (.slice _) => match p with
    | .t (.sl true []) => some (.t (.v (.int .i64 0)))
    | _ => none
  | _ => none
theorem capV_ok {t : TypeId} {x : Operand} {p q : PV} (hx : EvH True s x p) (h : capV E t p = some q) : PO P True ⟨some d, .call ⟨.builtin .cap, #[x], #[t]⟩, ty, pos, af, g⟩ s q := by
  unfold capV at h
  split at h
  · rename_i hd
    obtain ⟨_, _, _, ht⟩ := tyAt_d hd
    split at h
    · cases h
      refine .blt (fun hH _ _ _ _ _ _ a w hs => ⟨.int .i64 0, ?_, .t (.v rfl)⟩)
      have hv := tr_nil (vrt (hx.vr hH hs))
      simp only [builtin, List.map_toArray, List.map_cons, List.map_nil, hv, Sem.run_bind]
      have : (Builtin.cap_ #[t] ty #[.slice none 0 0]).run P w = .ok (goInt 0) w := by
        simp [Builtin.cap_, run_underlying ht.und]
      rw [this]; rfl
    · cases h
  · cases h
def mmV (mx : Bool) (p q : PV) : Option PV := match p, q with
  | .t (.v (.int k a)), .t (.v (.int k' b)) => if k = k' then some (.t (.v (.int k (bif mx then Max.max a b else Min.min a b)))) else none
  | _, _ => none
theorem mmV_ok {mx : Bool} {t t' : TypeId} {x y : Operand} {p q r : PV} (hx : EvH True s x p) (hy : EvH True s y q) (h : mmV mx p q = some r) : PO P True ⟨some d, .call ⟨.builtin (bif mx then .max else .min), #[x, y], #[t, t']⟩, ty, pos, af, g⟩ s r := by
  unfold mmV at h
  split at h
  · split at h
    · rename_i hk
      subst hk
      cases h
      cases mx with
      | true => exact PO.max hx hy
      | false => exact PO.min hx hy
    · cases h
  · cases h
/-- Where a slice's elements begin. -/
def dataV (p : PV) : Option PV := match p with
  | .t (.sl true []) => some (.t (.v (.pointer none)))
  | .ref b e off _ cap => bif Nat.blt 0 cap then some (.ptr b (off * e)) else none
  | _ => none
theorem dataV_ok {ts : Array TypeId} {x : Operand} {p q : PV} (hx : EvH True s x p) (h : dataV p = some q) : PO P True ⟨some d, .call ⟨.builtin .unsafeSliceData, #[x], ts⟩, ty, pos, af, g⟩ s q := by
  unfold dataV at h
  split at h
  · cases h
    refine .blt (fun hH _ _ _ _ _ _ a w hs => ⟨.pointer none, ?_, .t (.v rfl)⟩)
    have hv := tr_nil (vrt (hx.vr hH hs))
    simp only [builtin, List.map_toArray, List.map_cons, List.map_nil, hv, Sem.run_bind, Lib.run_unsafeSliceData_nil]; rfl
  · rename_i b e off len cap
    obtain ⟨hc, h⟩ := bif_some h
    cases h
    intro hH
    refine PO.blt (P := P) (H := True) (fun hH _ _ _ _ _ _ a w hs => ?_) trivial
    have hv := hx.vr hH hs
    generalize hq : a.eval x = v at hv
    cases hv with
    | @ref _ _ _ _ _ B S c hφ k1 k2 k3 =>
      refine ⟨_, ?_, .ptr hφ⟩
      have := blt_lt hc
      simp only [builtin, List.map_toArray, List.map_cons, List.map_nil, hq, Sem.run_bind, Lib.run_unsafeSliceData_row w ts ty ⟨B, off * e, none⟩ len c (by omega)]; rfl
  · cases h

/-! ### functions' values -/
def allK (tm : Tr PV) : List Operand → Option (List PV)
  | [] => some []
  | x :: l => match evK tm x, allK tm l with
    | some p, some ps => some (p :: ps)
    | _, _ => none
theorem allK_ok {tm : Tr PV} : ∀ {l : List Operand} {ps : List PV}, (∀ x ∈ l, ∀ p, evK tm x = some p → s.ev x = p) → allK tm l = some ps → l.map s.ev = ps
  | [], _, _, h => by cases h; rfl
  | x :: l, ps, he, h => by
    simp only [allK] at h
    split at h
    · rename_i p qs h1 h2
      cases h
      rw [List.map_cons, he x List.mem_cons_self p h1, allK_ok (fun y hy => he y (List.mem_cons_of_mem _ hy)) h2]
    · cases h
def mkfV (tm : Tr PV) (fn : Fn) (first caps : Array Operand) : Option PV := match fn with
  | .func f => match allK tm first.toList, allK tm caps.toList with
    | some fs, some ps => some (.fn f fs ps)
    | _, _ => none
  | _ => none
theorem vrs_of {B0 : Fr} {w0 : World} {φ0 : Phi} {F0 : FMem} {F : FMem} {φ : Phi} {a : Act} {w : World} (hs : Sim B0 w0 φ0 F0 s F φ a w) (xs : Array Operand) : ((xs.toList.map s.ev).length = (xs.map a.eval).size) ∧ ∀ (i : Nat) (p : PV) (u : Value), (xs.toList.map s.ev)[i]? = some p → (xs.map a.eval)[i]? = some u → VR F φ p u := by
  refine ⟨by simp, fun i p u hp hu => ?_⟩
  rw [List.getElem?_map, Option.map_eq_some_iff] at hp
  obtain ⟨x, hx, rfl⟩ := hp
  rw [Array.getElem?_map, Option.map_eq_some_iff] at hu
  obtain ⟨y, hy, rfl⟩ := hu
  rw [← Array.getElem?_toList, hx] at hy
  cases hy
  exact hs.ev x
theorem mkfV_ok {tm : Tr PV} {n : Nat} {fn : Fn} {first caps : Array Operand} {q : PV} (K : Kn tm hg n ⟨some d, .makeFunc fn first caps, ty, pos, af, g⟩ s) (h : mkfV tm fn first caps = some q) : PO P True ⟨some d, .makeFunc fn first caps, ty, pos, af, g⟩ s q := by
  unfold mkfV at h
  split at h
  · split at h
    · rename_i fs ps h1 h2
      cases h
      have e1 := allK_ok (s := s) (fun x hx => K.ev x (by simp only [Op.operands, Array.toList_append, List.mem_append]; exact .inl hx)) h1
      have e2 := allK_ok (s := s) (fun x hx => K.ev x (by simp only [Op.operands, Array.toList_append, List.mem_append]; exact .inr hx)) h2
      intro hH B0 w0 φ0 F0 F φ a w hs
      obtain ⟨a1, a2⟩ := vrs_of hs first
      obtain ⟨b1, b2⟩ := vrs_of hs caps
      rw [e1] at a1 a2
      rw [e2] at b1 b2
      exact ⟨_, by simp only [execOp, Instr.makeFunc, Sem.run_bind, Sem.run_pure, Result.andThen_ok], .fn a1 a2 b1 b2⟩
    · cases h
  · cases h
end
end
end Go.Proofs.YtldelbknkkeniaaGreatDoor.E

/- The engine runs closed code: new blocks, stores. -/
namespace Go.Proofs.YtldelbknkkeniaaGreatDoor.E
open Go Go.RowKit
set_option linter.unusedVariables false
set_option linter.unusedSimpArgs false
variable {P : Program}
noncomputable section
section
variable {E : Env P} {d ty : Nat} {pos : String} {af : Array Edge} {g : Option (Nat × Bool)} {s : St} {hg : Nat → Option RB}
/-- It comes to this alone. -/
abbrev Is (s2 : St) : St → Prop := fun s' => s' = s2
theorem TriO.val {o : Oper} {p : PV} {n : Nat} (hd : o.dst = some d) (hN : Nat.blt d s.N = true) (h : PO P True o s p) (hn : s.n = n) : TriO P o (Is (s.aft o.dst ⟨p, [], n⟩)) s := by
  subst hn
  rw [hd]
  exact TriO.vo hd hN h.vo rfl
/-- A block of some cells lies there. -/
def CellsAt (F : FMem) (φ : Phi) (vs : Array Value) (t : TypeId) : RB → Prop
  | .c sz cs dv bt => sz ≤ vs.size ∧ (∀ t', bt = some t' → t' = t) ∧ ∀ i, i < sz → ∃ u, vs[i]? = some u ∧ VR F φ ((cs.get i).getD dv) u
  | .m _ => False
theorem CellsAt.hb {F : FMem} {φ : Phi} {vs : Array Value} {t : TypeId} {k : RB} (h : CellsAt F φ vs t k) {B : Nat} (hF : ∀ a u, F a = some u → a.block ≠ B) : HB F φ B vs k.blk ∧ (∀ t', k.blk.ty = some t' → t' = t) ∧ k.blk.isMap = false := by
  cases k with
  | m => exact h.elim
  | c sz cs dv bt =>
    obtain ⟨h1, h2, h3⟩ := h
    refine ⟨.obj (by rw [Tr.gets_len]; exact h1) (fun i p hp => ?_) hF, h2, rfl⟩
    rw [Tr.gets_get] at hp
    split at hp
    · rename_i hi
      cases hp
      obtain ⟨u, q1, q2⟩ := h3 i hi
      exact ⟨u, q1, by rw [Nat.zero_add]; exact q2⟩
    · cases hp
theorem TriO.newB {o : Oper} {p : PV} {k : RB} {n : Nat} (hd : o.dst = some d) (hN : Nat.blt d s.N = true) (hn : s.n = n)
    (h : ∀ B0 w0 φ0 F0 F φ a w, Sim B0 w0 φ0 F0 s F φ a w → ∃ v vs t w1, (w1 = w ∨ w1 = w.drew ∨ w1 = w.drew.drew) ∧ (execOp a.eval o).run P w = .ok (.value v) (w1.alloc (.cells vs t)) ∧ CellsAt F φ vs t k ∧ ∀ ψ : Phi, ψ n = some (w.heap.size, vs.size) → VR F ψ p v) : TriO P o (Is (s.aft o.dst ⟨p, [(n, some k)], n + 1⟩)) s := by
  subst hn
  refine .gen hd hN (fun B0 w0 φ0 F0 F φ a w hs => ?_)
  obtain ⟨v, vs, t, w1, hw, hr, hc, hv⟩ := h B0 w0 φ0 F0 F φ a w hs
  have hs1 : Sim B0 w0 φ0 F0 s F φ a w1 := by
    rcases hw with rfl | rfl | rfl
    · exact hs
    · exact hs.drew
    · exact hs.drew.drew
  have hsz : w1.heap.size = w.heap.size := by rcases hw with rfl | rfl | rfl <;> rfl
  obtain ⟨c1, c2, c3⟩ := hc.hb (B := w1.heap.size) (fun _ _ e => Nat.ne_of_lt (hs1.fok.lt e))
  obtain ⟨hle, hs'⟩ := hs1.alloc c1 c2 c3
  refine ⟨v, _, s.alloc k.blk, F, _, p, hr, rfl, rfl, hs', hv _ (by rw [← hsz]; exact if_pos rfl), ?_⟩
  rw [hd]; rfl
theorem leaves_at {F : FMem} {φ : Phi} {p : PV} {v : Value} (h : VR F φ p v) (hp : p.known = true) (t : TypeId) : CellsAt F φ v.cells t (RB.new p.leaves (some t)) := by
  obtain ⟨h1, h2⟩ := h.cells hp
  refine ⟨Nat.le_of_eq h1, fun t' e => (by cases e; rfl), fun i hi => ?_⟩
  obtain ⟨u, q1, q2⟩ := h2 i _ (List.getElem?_eq_getElem hi)
  refine ⟨u, q1, ?_⟩
  rw [Tr.puts_get, if_pos ⟨Nat.zero_le _, by omega⟩, Nat.sub_zero, List.getElem?_eq_getElem hi]
  exact q2
def allocR (E : Env P) (n : Nat) (t : TypeId) : Option OR := match E.tyAt t with
  | some y => bif (ofConst y.z).known then some ⟨.ptr n 0, [(n, some (RB.new (ofConst y.z).leaves (some t)))], n + 1⟩ else none
  | none => none
theorem allocR_ok {n : Nat} {t : TypeId} {x : OR} (hn : s.n = n) (hN : Nat.blt d s.N = true) (h : allocR E n t = some x) : TriO P ⟨some d, .alloc t, ty, pos, af, g⟩ (Is (s.aft (some d) x)) s := by
  unfold allocR at h
  split at h
  · rename_i y hy
    have ht := E.tyAt_ok hy
    obtain ⟨hc, h⟩ := bif_some h
    cases h
    refine TriO.newB (o := ⟨some d, .alloc t, ty, pos, af, g⟩) rfl hN hn fun B0 w0 φ0 F0 F φ a w hs => ?_
    have hv : VR F φ (ofConst y.z) y.z := ofConst_vr y.z
    refine ⟨_, y.z.cells, t, w, .inl rfl, ?_, leaves_at hv hc t, fun ψ hψ => .ptr (B := w.heap.size) (off := 0) hψ⟩
    simp only [execOp, Instr.alloc, newVar, newRow, newObj, Sem.run_bind, ht.zero, Sem.run, Result.andThen_ok, Sem.run_pure]
    rfl
  · cases h
def boxR (n : Nat) (t : TypeId) (p : PV) : Option OR := some ⟨.ptr n 0, [(n, some (RB.new p.leaves (some t)))], n + 1⟩
theorem boxR_ok {n : Nat} {t : TypeId} {x : Operand} {p : PV} {r : OR} (hx : s.ev x = p) (hp : p.known = true) (hn : s.n = n) (hN : Nat.blt d s.N = true) (h : boxR n t p = some r) : TriO P ⟨some d, .box t x, ty, pos, af, g⟩ (Is (s.aft (some d) r)) s := by
  cases h
  refine TriO.newB (o := ⟨some d, .box t x, ty, pos, af, g⟩) rfl hN hn fun B0 w0 φ0 F0 F φ a w hs => ?_
  have hv : VR F φ p (a.eval x) := hx ▸ hs.ev x
  refine ⟨_, (a.eval x).cells, t, w, .inl rfl, ?_, leaves_at hv hp t, fun ψ hψ => .ptr (B := w.heap.size) (off := 0) hψ⟩
  simp only [execOp, Instr.box, newVar, newRow, newObj, Sem.run_bind, Sem.run, Result.andThen_ok, Sem.run_pure]
  rfl

/-! ### stores -/
def storeR (E : Env P) (hg : Nat → Option RB) (n : Nat) (t : TypeId) (p q : PV) : Option OR := match p with
  | .ptr b o => match E.tyAt t, hg b with
    | some y, some (.c sz cs dv bt) =>
      let qs := q.leaves
      bif Nat.beq qs.length y.sz && allFlat qs && Nat.ble (o + y.sz) sz then some ⟨.undef, [(b, some (.c sz (cs.puts o qs) dv bt))], n⟩ else none
    | _, _ => none
  | _ => none
theorem storeR_ok {n : Nat} {t : TypeId} {x y : Operand} {p q : PV} {r : OR} (hx : s.ev x = p) (hy : s.ev y = q) (hq : q.known = true) (hk : HK hg s) (hn : s.n = n) (h : storeR E hg n t p q = some r) : TriO P ⟨none, .store t x y, ty, pos, af, g⟩ (Is (s.aft none r)) s := by
  unfold storeR at h
  split at h
  · rename_i b o
    split at h
    · rename_i yy sz cs dv bt hyy hb
      have ht := E.tyAt_ok hyy
      obtain ⟨hc, h⟩ := bif_some h
      cases h
      simp only [Bool.and_eq_true] at hc
      obtain ⟨⟨h1, h2⟩, h3⟩ := hc
      have h1 := Nat.eq_of_beq_eq_true h1
      have h3' := Nat.le_of_ble_eq_true h3
      refine TriO.store (t := t) hx (hk b _ hb) hy hq rfl h1 h2 (by rw [Tr.gets_len]; exact h3) rfl ?_
      subst hn
      have e := RB.puts_blk (sz := sz) (o := o) (cs := cs) (dv := dv) (ty := bt) (qs := q.leaves) (by omega)
      show s.upd b _ = _
      simp only [RB.blk] at e
      simp only [St.upd, St.aft, aftH, RB.blk, pushT, e]
    · cases h
  · cases h

/-! ### literals, make -/
def fillT (e n : Nat) : Tr PV → List (Nat × PV) → Option (Tr PV)
  | cs, [] => some cs
  | cs, (i, p) :: l =>
    let ls := p.leaves
    bif p.known && Nat.beq ls.length e && Nat.ble (i * e + e) n then fillT e n (cs.puts (i * e) ls) l else none
theorem fillT_spec {F : FMem} {φ : Phi} {e n : Nat} {dv : PV} {f : Operand → Value} {g : Operand → PV} (hfg : ∀ x, VR F φ (g x) (f x)) : ∀ {l : List (Nat × Operand)} {cs qs : Tr PV} {cells : Array Value}, fillT e n cs (l.map fun x => (x.1, g x.2)) = some qs → n = cells.size →
    (∀ i, i < n → ∃ u, cells[i]? = some u ∧ VR F φ ((cs.get i).getD dv) u) → ∃ out, Instr.fill (fun i => some (i * e, e)) cells (l.map fun x => (x.1, f x.2)) = some out ∧ out.size = n ∧ ∀ i, i < n → ∃ u, out[i]? = some u ∧ VR F φ ((qs.get i).getD dv) u
  | [], cs, qs, cells, h, hn, hc => by cases h; exact ⟨cells, rfl, hn.symm, hc⟩
  | (i, x) :: l, cs, qs, cells, h, hn, hc => by
    simp only [List.map_cons, fillT] at h
    obtain ⟨hb, h⟩ := bif_some h
    simp only [Bool.and_eq_true] at hb
    obtain ⟨⟨hk, h1⟩, h2⟩ := hb
    have h1 := Nat.eq_of_beq_eq_true h1
    have h2 := Nat.le_of_ble_eq_true h2
    obtain ⟨c1, c2⟩ := (hfg x).cells hk
    have hsz : (f x).cells.size = e := by omega
    have ho := fill_one (i * e) (f x) cells (by omega)
    generalize hc' : (f x).cells.zipIdx.foldl (fun cs (y : Value × Nat) => cs.setIfInBounds (i * e + y.2) y.1) cells = cells' at ho
    have hlen : cells'.size = cells.size := by
      have := congrArg List.length ho
      simp at this; omega
    obtain ⟨out, e1, e2, e3⟩ := fillT_spec hfg (l := l) (cells := cells') h (by omega) (fun j hj => by
      have e4 : cells'[j]? = (cells.toList.take (i * e) ++ (f x).cells.toList ++ cells.toList.drop (i * e + (f x).cells.toList.length))[j]? := by
        rw [← Array.getElem?_toList, ho]; simp
      rw [e4, splice_get (by simp; omega), Tr.puts_get]
      have e5 : (f x).cells.toList.length = (g x).leaves.length := by simp [c1]
      rw [e5]
      by_cases q1 : j < i * e
      · rw [if_pos q1, if_neg (by omega)]
        obtain ⟨u, hu, hvr⟩ := hc j hj; exact ⟨u, by simpa using hu, hvr⟩
      · rw [if_neg q1]
        by_cases q2 : j < i * e + (g x).leaves.length
        · rw [if_pos q2, if_pos ⟨by omega, q2⟩]
          have hj2 : j - i * e < (g x).leaves.length := by omega
          obtain ⟨u, hu, hvr⟩ := c2 _ _ (List.getElem?_eq_getElem hj2)
          rw [List.getElem?_eq_getElem hj2]
          exact ⟨u, by simpa using hu, hvr⟩
        · rw [if_neg q2, if_neg (by omega)]
          obtain ⟨u, hu, hvr⟩ := hc j hj; exact ⟨u, by simpa using hu, hvr⟩)
    refine ⟨out, ?_, e2, e3⟩
    simp only [List.map_cons, Instr.fill]
    rw [if_neg (by simp; omega), hc']
    exact e1
/-- Zeros: cells, and what stands in all others. -/
def zeroT (z : Value) (e n : Nat) : Tr PV × PV :=
  let p := ofConst z
  bif p.known then
    (let ls := p.leaves
     bif Nat.beq e 1 then (.lf, ls.getD 0 .undef) else (Tr.lf.puts 0 ((List.range (n * e)).map fun i => ls.getD (i % e) .undef), .undef))
  else (.lf, .undef)
theorem zeroT_ok {F : FMem} {φ : Phi} {z : Value} {e n : Nat} (he : z.cells.size = e) : ∀ i, i < n * e → ∃ u, (madeCells z.cells (n * e))[i]? = some u ∧ VR F φ (((zeroT z e n).1.get i).getD (zeroT z e n).2) u := by
  intro i hi
  have hz : VR F φ (ofConst z) z := ofConst_vr z
  have he0 : 0 < e := by
    rcases Nat.eq_zero_or_pos e with h | h
    · subst h; omega
    · exact h
  have hm : i % e < z.cells.size := by rw [he]; exact Nat.mod_lt _ he0
  refine ⟨z.cells[i % e], ?_, ?_⟩
  · simp only [madeCells, Array.getElem?_map, Array.getElem?_range, hi, if_true, Option.map_some, he]
    rw [getElem!_pos z.cells (i % e) hm]
  · unfold zeroT
    cases hk : (ofConst z).known with
    | false => simp only [hk, cond_false, Tr.get_lf, Option.getD_none]; exact .undef _
    | true =>
      obtain ⟨c1, c2⟩ := hz.cells hk
      simp only [hk, cond_true]
      cases h1 : Nat.beq e 1 with
      | true =>
        have h1 := Nat.eq_of_beq_eq_true h1
        subst h1
        simp only [cond_true, Tr.get_lf, Option.getD_none]
        have h0 : 0 < (ofConst z).leaves.length := by omega
        obtain ⟨u, hu, hvr⟩ := c2 0 _ (List.getElem?_eq_getElem h0)
        rw [List.getD_eq_getElem?_getD, List.getElem?_eq_getElem h0]
        have : i % 1 = 0 := Nat.mod_one i
        simp only [this]
        rw [Array.getElem?_eq_getElem (by omega)] at hu
        cases hu
        exact hvr
      | false =>
        simp only [cond_false]
        rw [Tr.puts_get, if_pos ⟨Nat.zero_le _, by simpa using hi⟩, Nat.sub_zero, List.getElem?_map, List.getElem?_range hi]
        have hj : i % e < (ofConst z).leaves.length := by omega
        obtain ⟨u, hu, hvr⟩ := c2 _ _ (List.getElem?_eq_getElem hj)
        simp only [Option.map_some, Option.getD_some]
        rw [List.getD_eq_getElem?_getD, List.getElem?_eq_getElem hj]
        rw [Array.getElem?_eq_getElem hm] at hu
        cases hu
        exact hvr
def litR (E : Env P) (n : Nat) (t : TypeId) (len : Nat) (ps : List (Nat × PV)) : Option OR := match (E.tyAt t).map TyE.d with
  | some (.slice et) => match E.tyAt et with
    | some y =>
      let z := zeroT y.z y.sz (bif Nat.beq ps.length len then 0 else len)
      bif Nat.ble (len * y.sz) 16777216 then
        (match fillT y.sz (len * y.sz) (bif Nat.beq ps.length len then .lf else z.1) ps with
        | some cs => some ⟨.ref n y.sz 0 len len, [(n, some (.c (len * y.sz) cs (bif Nat.beq ps.length len then .undef else z.2) (some et)))], n + 1⟩
        | none => none) else none
    | none => none
  | _ => none
theorem litR_ok {tm : Tr PV} {n : Nat} {t : TypeId} {len : Nat} {parts : Array (Nat × Operand)} {ps : List (Nat × PV)} {r : OR} (K : Kn tm hg n ⟨some d, .buildSlice t len parts, ty, pos, af, g⟩ s) (hp : partsV tm parts.toList = some ps) (hN : Nat.blt d s.N = true) (h : litR E n t len ps = some r) :
    TriO P ⟨some d, .buildSlice t len parts, ty, pos, af, g⟩ (Is (s.aft (some d) r)) s := by
  have hps := partsV_ok (s := s) (fun x hx => K.ev x.2 (by simp only [Op.operands, List.mem_map]; exact ⟨x, hx, rfl⟩)) hp
  unfold litR at h
  split at h
  · rename_i et hd
    obtain ⟨_, _, _, ht⟩ := tyAt_d hd
    split at h
    · rename_i y hy
      have he := E.tyAt_ok hy
      obtain ⟨hle, h⟩ := bif_some h
      have hle := Nat.le_of_ble_eq_true hle
      split at h
      · rename_i cs hcs
        cases h
        refine TriO.newB (o := ⟨some d, .buildSlice t len parts, ty, pos, af, g⟩) rfl hN K.n fun B0 w0 φ0 F0 F φ a w hs => ?_
        have hcells : ∀ i, i < len * y.sz → ∃ u, (madeCells y.z.cells (len * y.sz))[i]? = some u ∧ VR F φ (((bif Nat.beq ps.length len then Tr.lf else (zeroT y.z y.sz (bif Nat.beq ps.length len then 0 else len)).1).get i).getD (bif Nat.beq ps.length len then .undef else (zeroT y.z y.sz (bif Nat.beq ps.length len then 0 else len)).2)) u := by
          intro i hi
          cases hb : Nat.beq ps.length len with
          | true => exact ⟨_, Array.getElem?_eq_getElem (by simpa [madeCells] using hi), .undef _⟩
          | false => exact zeroT_ok he.zsz i hi
        obtain ⟨out, o1, o2, o3⟩ := fillT_spec (F := F) (φ := φ) (f := a.eval) (g := s.ev) (fun x => hs.ev x) (l := parts.toList) (cells := madeCells y.z.cells (len * y.sz)) (by rw [hps]; exact hcs) (by simp [madeCells]) hcells
        refine ⟨.slice (some ⟨w.heap.size, 0, none⟩) len len, out, et, w, .inl rfl, ?_, ⟨Nat.le_of_eq o2.symm, fun t' e => (by cases e; rfl), o3⟩, fun ψ hψ => ?_⟩
        · simp only [execOp, Instr.buildSlice, Sem.run_bind, ht.under, he.sizeOf, Result.andThen_ok]
          rw [if_neg (by omega)]
          have hpl : (parts.map fun (x : Nat × Operand) => (x.1, a.eval x.2)).toList = parts.toList.map fun x => (x.1, a.eval x.2) := by simp
          by_cases h0 : len * y.sz = 0
          · simp only [h0, if_true, Sem.run_bind, Sem.run_pure, Result.andThen_ok]
            have : (Array.range 0).map (fun (i : Nat) => (#[] : Array Value)[i % (#[] : Array Value).size]!) = madeCells y.z.cells (len * y.sz) := by rw [h0]; simp [madeCells]
            rw [this, hpl, o1]
            simp only [newRow, newObj, Sem.run_bind, Sem.run, Result.andThen_ok, Sem.run_pure]
            rfl
          · simp only [h0, if_false, Sem.run_bind, he.zero, Sem.run_pure, Result.andThen_ok]
            rw [hpl]
            have : (Array.range (len * y.sz)).map (fun (i : Nat) => y.z.cells[i % y.z.cells.size]!) = madeCells y.z.cells (len * y.sz) := rfl
            rw [this, o1]
            simp only [newRow, newObj, Sem.run_bind, Sem.run, Result.andThen_ok, Sem.run_pure]
            rfl
        · have := VR.ref (F := F) (φ := ψ) (b := n) (e := y.sz) (off := 0) (len := len) (cap := len) (c := len) hψ (Nat.le_refl _) (Nat.le_refl _) (by omega)
          simpa using this
      · cases h
    · cases h
  · cases h
def makeR (E : Env P) (n : Nat) (t : TypeId) (p q : PV) : Option OR := match p, q with
  | .t (.v (.int _ l)), .t (.v (.int _ c)) => match (E.tyAt t).map TyE.d with
    | some (.slice et) => match E.tyAt et with
      | some y => bif decide (0 ≤ l) && decide (l ≤ c) && decide ((y.bytes : Int) * c ≤ 281474976710656) && decide (c ≤ 9223372036854775807) then
          (let z := zeroT y.z y.sz c.toNat
           some ⟨.ref n y.sz 0 l.toNat c.toNat, [(n, some (.c (c.toNat * y.sz) z.1 z.2 (some et)))], n + 1⟩) else none
      | none => none
    | _ => none
  | _, _ => none
theorem makeR_ok {n : Nat} {t : TypeId} {x y : Operand} {p q : PV} {r : OR} (hx : EvH True s x p) (hy : EvH True s y q) (hn : s.n = n) (hN : Nat.blt d s.N = true) (h : makeR E n t p q = some r) : TriO P ⟨some d, .makeSlice t x y, ty, pos, af, g⟩ (Is (s.aft (some d) r)) s := by
  unfold makeR at h
  split at h
  · rename_i kl l kc c
    split at h
    · rename_i et hd
      obtain ⟨_, _, _, ht⟩ := tyAt_d hd
      split at h
      · rename_i ye hye
        have he := E.tyAt_ok hye
        obtain ⟨hc, h⟩ := bif_some h
        cases h
        simp only [Bool.and_eq_true, decide_eq_true_eq] at hc
        obtain ⟨⟨⟨h1, h2⟩, h3⟩, h4⟩ := hc
        refine TriO.newB (o := ⟨some d, .makeSlice t x y, ty, pos, af, g⟩) rfl hN hn fun B0 w0 φ0 F0 F φ a w hs => ?_
        have hr := make_run (P := P) (d := d) (ty := ty) (pos := pos) (af := af) (g := g) (t := t) trivial hs hx hy h1 h2 h3 h4
        refine ⟨_, _, _, w, .inl rfl, hr, ⟨by simp [madeCells], fun t' e => (by cases e; rfl), fun i hi => zeroT_ok he.zsz i hi⟩, fun ψ hψ => ?_⟩
        have := VR.ref (F := F) (φ := ψ) (b := n) (e := ye.sz) (off := 0) (len := l.toNat) (cap := c.toNat) (c := c.toNat) hψ (by omega) (Nat.le_refl _) (by simp [madeCells])
        simpa using this
      · cases h
    · cases h
  · cases h
end
end
end Go.Proofs.YtldelbknkkeniaaGreatDoor.E

/- The engine runs closed code: append, copy. -/
namespace Go.Proofs.YtldelbknkkeniaaGreatDoor.E
open Go Go.RowKit
set_option linter.unusedVariables false
set_option linter.unusedSimpArgs false
variable {P : Program}
noncomputable section
section
variable {E : Env P} {d ty : Nat} {pos : String} {af : Array Edge} {g : Option (Nat × Bool)} {s : St} {hg : Nat → Option RB}
/-- Cells that are appended, or copied. -/
def SrcP (P : Program) (s : St) (tx : TypeId) (y : Operand) (e : Nat) (ps : List PV) (m : Nat) : Prop :=
  ∀ B0 w0 φ0 F0 F φ a w, Sim B0 w0 φ0 F0 s F φ a w → ∃ news, Src P e tx (a.eval y) m news w ∧ news.length = ps.length ∧ ps.length = m * e ∧ (∀ (i : Nat) (p : PV) (u : Value), ps[i]? = some p → news[i]? = some u → VR F φ p u) ∧ ∀ u ∈ news, u.oneCell' = true
def srcV (E : Env P) (hg : Nat → Option RB) (tx : TypeId) (e : Nat) (q : PV) : Option (List PV × Nat) := match (E.tyAt tx).map TyE.d with
  | some (.slice _) => match q with
    | .t (.sl true []) => some ([], 0)
    | .ref b e' off len _ => match hg b with
      | some (.c sz cs dv _) =>
        let ps := cs.gets dv (off * e) (len * e)
        bif Nat.beq e e' && Nat.ble ((off + len) * e) sz && allFlat ps then some (ps, len) else none
      | _ => none
    | _ => none
  | some .string => match q with
    | .t (.v (.string b)) => bif Nat.beq e 1 then some (b.data.toList.map fun c => .t (.v (.int .u8 c.toNat)), b.data.toList.length) else none
    | _ => none
  | _ => none
theorem srcV_ok {tx : TypeId} {y : Operand} {e : Nat} {q : PV} {ps : List PV} {m : Nat} (hy : s.ev y = q) (hk : HK hg s) (h : srcV E hg tx e q = some (ps, m)) : SrcP P s tx y e ps m := by
  intro B0 w0 φ0 F0 F φ a w hs
  have hv := hy ▸ hs.ev y
  unfold srcV at h
  split at h
  · rename_i et hd
    obtain ⟨_, _, _, ht⟩ := tyAt_d hd
    split at h
    · cases h
      have := tr_nil (vrt hv)
      rw [this]
      exact ⟨[], Src.ofNil w ht.und 0, rfl, by simp, fun i p u h => by simp at h, fun _ h => by cases h⟩
    · rename_i b e' off len cap
      split at h
      · rename_i sz cs dv bt hb
        obtain ⟨hc, h⟩ := bif_some h
        cases h
        simp only [Bool.and_eq_true, Nat.ble_eq] at hc
        obtain ⟨⟨c1, c2⟩, c3⟩ := hc
        have c1 := Nat.eq_of_beq_eq_true c1
        subst c1
        generalize hq : a.eval y = v at hv
        cases hv with
        | @ref _ _ _ _ _ B S c hφ k1 k2 k3 =>
          obtain ⟨vs, t, q1, q0, q2, q3, q4⟩ := cells_at hs hk hb hφ
          rw [Nat.add_mul] at c2
          have hlen : ((vs.toList.drop (off * e)).take (m * e)).length = m * e := by simp; omega
          have hget : ∀ i, i < m * e → ((vs.toList.drop (off * e)).take (m * e))[i]? = vs[off * e + i]? := fun i hi => by
            rw [List.getElem?_take_of_lt hi, List.getElem?_drop]; simp
          have hvr : ∀ (i : Nat) (p : PV) (u : Value), (cs.gets dv (off * e) (m * e))[i]? = some p → ((vs.toList.drop (off * e)).take (m * e))[i]? = some u → VR F φ p u := by
            intro i p u hp hu
            rw [Tr.gets_get] at hp
            split at hp
            · rename_i hi
              cases hp
              rw [hget i hi] at hu
              obtain ⟨u', h1, h2⟩ := q4 (off * e + i) (by omega)
              rw [h1] at hu; cases hu; exact h2
            · cases hp
          have hone : ∀ u ∈ (vs.toList.drop (off * e)).take (m * e), u.oneCell' = true := by
            intro u hu
            obtain ⟨i, hi⟩ := List.mem_iff_getElem?.1 hu
            have hil := (List.getElem?_eq_some_iff.1 hi).1
            rw [hlen] at hil
            have hp : (cs.gets dv (off * e) (m * e))[i]? = some ((cs.get (off * e + i)).getD dv) := by rw [Tr.gets_get, if_pos hil]
            exact (hvr i _ u hp hi).one (allFlat_get c3 i _ hp)
          refine ⟨(vs.toList.drop (off * e)).take (m * e), ?_, by rw [hlen, Tr.gets_len], Tr.gets_len _ _ _ _, hvr, hone⟩
          refine Src.ofSlice w ht.und ⟨B, off * e, none⟩ m c _ hlen (fun j u hj => ?_) hone
          have hjl := (List.getElem?_eq_some_iff.1 hj).1
          rw [hlen] at hjl
          rw [Addr.add_mid, cell_at q1, ← hget j hjl]; exact hj
      · cases h
    · cases h
  · rename_i hd
    obtain ⟨_, _, _, ht⟩ := tyAt_d hd
    split at h
    · rename_i b
      obtain ⟨hc, h⟩ := bif_some h
      have hc := Nat.eq_of_beq_eq_true hc
      subst hc
      cases h
      have h1 := (evv0 hs hy).1
      rw [h1]
      refine ⟨byteCells b, by have := Src.ofString w ht.und b; simpa using this, by simp [byteCells], by simp, fun i p u hp hu => ?_, fun u hu => ?_⟩
      · rw [List.getElem?_map, Option.map_eq_some_iff] at hp
        obtain ⟨c, hc, rfl⟩ := hp
        simp [byteCells] at hu
        simp only [Array.getElem?_toList] at hc
        rw [hc] at hu
        simp at hu
        subst hu
        exact .t (.v rfl)
      · obtain ⟨_, _, rfl⟩ := List.mem_map.1 hu; rfl
    · cases h
  · cases h

/-! ### append -/
def tyJoin (bt : Option TypeId) (et : TypeId) : Option TypeId := match bt with
  | some t' => bif Nat.beq t' et then some et else none
  | none => none
def appR (E : Env P) (hg : Nat → Option RB) (n : Nat) (t tx : TypeId) (p q : PV) : Option OR := match (E.tyAt t).map TyE.d with
  | some (.slice et) => match E.tyAt et with
    | some y => match srcV E hg tx y.sz q with
      | some (ps, m) => match p with
        | .t (.sl true []) => bif Nat.beq m 0 then some ⟨.t (.sl true []), [], n⟩
            else bif Nat.ble (m * y.bytes) 70368744177664 && Nat.ble m 4611686018427387904 then some ⟨.ref n y.sz 0 m m, [(n, some (RB.new ps (some et)))], n + 1⟩ else none
        | .ref b e off len cap => match hg b with
          | some (.c sz cs dv bt) =>
            bif Nat.beq e y.sz && allFlat ps then
              (bif Nat.ble (len + m) cap then
                (bif Nat.ble (off * e + (len + m) * e) sz then some ⟨.ref b e off (len + m) cap, [(b, some (.c sz (cs.puts (off * e + len * e) ps) dv bt))], n⟩ else none)
              else
                (bif Nat.beq off 0 && Nat.ble (len * e) sz && Nat.ble ((len + m) * y.bytes) 70368744177664 && Nat.ble (len + m) 4611686018427387904 then
                  some ⟨.ref n e 0 (len + m) (len + m), [(b, none), (n, some (.c ((len + m) * e) (cs.puts (len * e) ps) dv (tyJoin bt et)))], n + 1⟩ else none)) else none
          | _ => none
        | _ => none
      | none => none
    | none => none
  | _ => none
theorem cells_new {F : FMem} {φ : Phi} {ps : List PV} {news rest : List Value} {t : TypeId} (h1 : news.length = ps.length) (h2 : ∀ (i : Nat) (p : PV) (u : Value), ps[i]? = some p → news[i]? = some u → VR F φ p u) : CellsAt F φ (news ++ rest).toArray t (RB.new ps (some t)) := by
  refine ⟨by simp; omega, fun t' e => (by cases e; rfl), fun i hi => ?_⟩
  have hn : i < news.length := by omega
  refine ⟨news[i], by simp [List.getElem?_append_left hn, hn], ?_⟩
  rw [Tr.puts_get, if_pos ⟨Nat.zero_le _, by omega⟩, Nat.sub_zero, List.getElem?_eq_getElem hi]
  exact h2 i _ _ (List.getElem?_eq_getElem hi) (List.getElem?_eq_getElem hn)
theorem TriO.appNilC {n : Nat} {t tx et : TypeId} {x y : Operand} {ps : List PV} {m : Nat} {sz bytes e ebytes : Nat} {z ez : Value} {ed : TypeDesc} (ht : TyIs P t (.slice et) sz bytes z) (he : TyIs P et ed e ebytes ez)
    (hx : s.ev x = .t (.sl true [])) (hsrc : SrcP P s tx y e ps m) (h0 : 0 < m) (hm : m * ebytes ≤ 70368744177664) (hm2 : m ≤ 4611686018427387904) (hn : s.n = n) (hN : Nat.blt d s.N = true) :
    TriO P ⟨some d, .call ⟨.builtin .append, #[x, y], #[t, tx]⟩, ty, pos, af, g⟩ (Is (s.aft (some d) ⟨.ref n e 0 m m, [(n, some (RB.new ps (some et)))], n + 1⟩)) s := by
  refine TriO.newB (o := ⟨some d, .call ⟨.builtin .append, #[x, y], #[t, tx]⟩, ty, pos, af, g⟩) rfl hN hn fun B0 w0 φ0 F0 F φ a w hs => ?_
  obtain ⟨news, h1, h2, h3, h4, h5⟩ := hsrc B0 w0 φ0 F0 F φ a w hs
  obtain ⟨i, i1, i2, i3, i4⟩ := he.inf
  have hq : a.eval x = .slice none 0 0 := tr_nil (vrt (hx ▸ hs.ev x))
  have hcap := nextcap_le (n := 0 + m) (c := 0) (by omega)
  have hrun := run_append_grow_src (P := P) w t tx ty et i ez ht.und i1 i2 none 0 0 [] rfl (a.eval y) m news (i3 ▸ h1) (by omega) (by omega)
    (by rw [i4]; have := Nat.mul_le_mul_right ebytes hcap; have e3 : 2 * (0 + m) * ebytes = 2 * (m * ebytes) := by rw [Nat.zero_add, Nat.mul_assoc]
        omega)
  simp only [Nat.zero_add, List.nil_append] at hrun
  have hge := grownCap_ge w m 0 et
  refine ⟨.slice (some ⟨w.heap.size, 0, none⟩) m (grownCap w m 0 et), (news ++ (Builtin.zeroCells ez.cells (grownCap w m 0 et - m)).toList).toArray, et, w.drew, .inr (.inl rfl), ?_, cells_new h2 h4, fun ψ hψ => ?_⟩
  · simp only [execOp, resolve, invoke, builtin, List.map_toArray, List.map_cons, List.map_nil, hq, Sem.run_bind, Sem.run_pure, Result.andThen_ok, hrun]
    congr 3
    apply Array.ext'; simp
  · have hz : (news ++ (Builtin.zeroCells ez.cells (grownCap w m 0 et - m)).toList).toArray.size = grownCap w m 0 et * e := by
      simp [h2, h3, zeroCells_size, he.zsz]
      rw [← Nat.add_mul]; congr 1; omega
    have := VR.ref (F := F) (φ := ψ) (b := n) (e := e) (off := 0) (len := m) (cap := m) (B := w.heap.size) (sz := grownCap w m 0 et * e) (c := grownCap w m 0 et) (by rw [← hz]; exact hψ) (Nat.le_refl _) hge (by omega)
    simpa using this
theorem PO.appNilC0 {t tx et : TypeId} {x y : Operand} {sz bytes e ebytes : Nat} {z ez : Value} {ed : TypeDesc} {ps : List PV} (ht : TyIs P t (.slice et) sz bytes z) (he : TyIs P et ed e ebytes ez)
    (hx : s.ev x = .t (.sl true [])) (hsrc : SrcP P s tx y e ps 0) : PO P True ⟨some d, .call ⟨.builtin .append, #[x, y], #[t, tx]⟩, ty, pos, af, g⟩ s (.t (.sl true [])) := by
  refine PO.appNil0 hx (fun B0 w0 φ0 F0 F φ a w hs => ?_)
  obtain ⟨news, h1, h2, h3, h4, h5⟩ := hsrc B0 w0 φ0 F0 F φ a w hs
  have : news = [] := List.length_eq_zero_iff.1 (by omega)
  subst this
  exact ⟨[], h1, ⟨by simp, fun i y h => by simp at h, fun i y j p h => by simp at h, fun _ h => by cases h⟩⟩
/-- append to a row of our own: there is room, or not. -/
theorem appRef {t tx et : TypeId} {x y : Operand} {b off len cap m S : Nat} {cs : Tr PV} {dv : PV} {bt : Option TypeId} {ps : List PV} {sz bytes e ebytes : Nat} {z ez : Value} {ed : TypeDesc} (ht : TyIs P t (.slice et) sz bytes z) (he : TyIs P et ed e ebytes ez)
    (hx : s.ev x = .ref b e off len cap) (hk : HK hg s) (hb : hg b = some (.c S cs dv bt)) (hsrc : SrcP P s tx y e ps m) {B0 : Fr} {w0 : World} {φ0 : Phi} {F0 : FMem} {F : FMem} {φ : Phi} {a : Act} {w : World} (hs : Sim B0 w0 φ0 F0 s F φ a w) :
    ∃ B C c vs t' news, φ b = some (B, C) ∧ Live F φ B0 w b (RB.c S cs dv bt).blk B vs ∧ w.heap[B]? = some (.cells vs t' (0, 0)) ∧ (∀ q, bt = some q → q = t') ∧ S ≤ vs.size ∧ C = vs.size ∧ len ≤ cap ∧ cap ≤ c ∧ off * e + c * e ≤ C ∧ news.length = ps.length ∧ ps.length = m * e ∧
      (∀ i, i < S → ∃ u, vs[i]? = some u ∧ VR F φ ((cs.get i).getD dv) u) ∧ (∀ (i : Nat) (p : PV) (u : Value), ps[i]? = some p → news[i]? = some u → VR F φ p u) ∧ (∀ x u, F x = some u → x.block ≠ B) ∧
      (len + m ≤ c → (execOp a.eval ⟨some d, .call ⟨.builtin .append, #[x, y], #[t, tx]⟩, ty, pos, af, g⟩).run P w = .ok (.value (.slice (some ⟨B, off * e, none⟩) (len + m) c)) (w.setRow B (vs.toList.take (off * e + len * e) ++ news ++ vs.toList.drop (off * e + len * e + news.length)).toArray)) ∧
      (c < len + m → (off * e + len * e ≤ S) → (len + m) * ebytes ≤ 70368744177664 → len + m ≤ 4611686018427387904 →
        (execOp a.eval ⟨some d, .call ⟨.builtin .append, #[x, y], #[t, tx]⟩, ty, pos, af, g⟩).run P w = .ok (.value (.slice (some ⟨w.heap.size, 0, none⟩) (len + m) (grownCap w (len + m) c et))) (w.drew.alloc (.cells (((vs.toList.drop (off * e)).take (len * e) ++ news) ++ (Builtin.zeroCells ez.cells (grownCap w (len + m) c et - (len + m))).toList).toArray et))) := by
  obtain ⟨news, h1, h2, h3, h4, h5⟩ := hsrc B0 w0 φ0 F0 F φ a w hs
  obtain ⟨i, i1, i2, i3, i4⟩ := he.inf
  have hv := hx ▸ hs.ev x
  generalize hq : a.eval x = q at hv
  cases hv with
  | @ref _ _ _ _ _ B C c hφ k1 k2 k3 =>
    obtain ⟨B', vs, hl⟩ := hs.heap b _ (hk b _ hb)
    have e1 := hl.at_; rw [hφ] at e1; cases e1
    obtain ⟨vs', t', q1, q0, q2, q3, q4⟩ := cells_at hs hk hb hφ
    obtain ⟨t2, q1'⟩ := hl.cells rfl
    rw [q1] at q1'; cases q1'
    refine ⟨B, _, c, vs, t', news, hφ, hl, q1, q0, q2, rfl, k1, k2, k3, h2, h3, q4, h4, ?_, fun hroom => ?_, fun hcn hS hm hm2 => ?_⟩
    · cases hl.reads with | obj hn hr hF => exact hF
    · have hne : off * e + (len + m) * e ≤ vs.size := by
        have := Nat.mul_le_mul_right e hroom; omega
      rw [Nat.add_mul] at hne
      have hrun := run_append_room_src (P := P) w t tx ty et i ht.und i1 B (off * e) len c (a.eval y) m news (i3 ▸ h1) hroom
        (fun j hj => by rw [i3, cell_at q1, Array.getElem?_eq_getElem (by omega)]; rfl)
        (fun j hj => by simp [World.frozen?, q1])
      have hset : w.setCells B (off * e + len * e) news = w.setRow B (vs.toList.take (off * e + len * e) ++ news ++ vs.toList.drop (off * e + len * e + news.length)).toArray := by
        have r1 := run_storeCells_at (P := P) B (off * e + len * e) t' news 0 vs w q1 (by omega) h5
        have r2 := run_storeCells_cells (P := P) B (off * e + len * e) news 0 w (fun j hj => by rw [Nat.add_zero, cell_at q1, Array.getElem?_eq_getElem (by omega)]; rfl) (fun j hj => by simp [World.frozen?, q1]) h5
        simp only [Nat.add_zero] at r1 r2
        rw [r1] at r2
        injection r2 with _ r3
        exact r3.symm
      rw [i3, hset] at hrun
      simp only [execOp, resolve, invoke, builtin, List.map_toArray, List.map_cons, List.map_nil, hq, Sem.run_bind, Sem.run_pure, Result.andThen_ok, hrun]
    · have hcap2 := nextcap_le hcn
      have hold : ((vs.toList.drop (off * e)).take (len * e)).length = len * e := by simp; omega
      have hfirst : (Builtin.firstCells e len (.slice (some ⟨B, off * e, none⟩) len c)).run P w.drew = .ok (((vs.toList.drop (off * e)).take (len * e))).toArray w.drew := by
        refine run_firstCells_some w.drew e len ⟨B, off * e, none⟩ len c _ hold (fun j u hj => ?_)
        rw [Addr.add_mid]
        rw [List.getElem?_take] at hj
        split at hj
        · rw [show w.drew.cell? ⟨B, off * e + j, none⟩ = w.cell? ⟨B, off * e + j, none⟩ from rfl, cell_at q1]
          rw [List.getElem?_drop] at hj; simpa using hj
        · cases hj
      have hrun := run_append_grow_src (P := P) w t tx ty et i ez ht.und i1 i2 (some ⟨B, off * e, none⟩) len c ((vs.toList.drop (off * e)).take (len * e)) (by rw [i3]; exact hfirst) (a.eval y) m news (i3 ▸ h1) hcn (by omega)
        (by rw [i4]; have := Nat.mul_le_mul_right ebytes hcap2; have e3 : 2 * (len + m) * ebytes = 2 * ((len + m) * ebytes) := by rw [Nat.mul_assoc]
            omega)
      simp only [execOp, resolve, invoke, builtin, List.map_toArray, List.map_cons, List.map_nil, hq, Sem.run_bind, Sem.run_pure, Result.andThen_ok, hrun]
      congr 3
      apply Array.ext'; simp [i3]
theorem take_put {vs : Array Value} {news : List Value} {o : Nat} (h : o + news.length ≤ vs.size) : (vs.toList.take o ++ news ++ vs.toList.drop (o + news.length)).toArray.size = vs.size := by
  have := splice_len (l := vs.toList) (vs := news) (o := o) (by simpa using h)
  simp only [List.size_toArray]; rw [this]; simp
theorem get_put {F : FMem} {φ : Phi} {vs : Array Value} {news : List Value} {ps : List PV} {o S : Nat} {cs : Tr PV} {dv : PV} (h : o + news.length ≤ vs.size) (h2 : news.length = ps.length) (hc : ∀ i, i < S → ∃ u, vs[i]? = some u ∧ VR F φ ((cs.get i).getD dv) u)
    (hp : ∀ (i : Nat) (p : PV) (u : Value), ps[i]? = some p → news[i]? = some u → VR F φ p u) (i : Nat) (hi : i < S ∨ (o ≤ i ∧ i < o + ps.length)) : ∃ u, (vs.toList.take o ++ news ++ vs.toList.drop (o + news.length)).toArray[i]? = some u ∧ VR F φ (((cs.puts o ps).get i).getD dv) u := by
  simp only [List.getElem?_toArray]
  rw [splice_get (by simpa using h), Tr.puts_get]
  by_cases c1 : i < o
  · rw [if_pos c1, if_neg (by omega)]
    obtain ⟨u, g1, g2⟩ := hc i (by omega)
    exact ⟨u, by simpa using g1, g2⟩
  · rw [if_neg c1]
    by_cases c2 : i < o + news.length
    · rw [if_pos c2, if_pos ⟨by omega, by omega⟩]
      have hj : i - o < news.length := by omega
      refine ⟨news[i - o], List.getElem?_eq_getElem hj, ?_⟩
      rw [List.getElem?_eq_getElem (show i - o < ps.length by omega)]
      exact hp _ _ _ (List.getElem?_eq_getElem (by omega)) (List.getElem?_eq_getElem hj)
    · rw [if_neg c2, if_neg (by omega)]
      obtain ⟨u, g1, g2⟩ := hc i (by omega)
      exact ⟨u, by simpa using g1, g2⟩
/-- A block of our own takes a new number. -/
theorem Sim.renumber {B0 : Fr} {w0 : World} {φ0 : Phi} {F0 : FMem} {F : FMem} {φ : Phi} {a : Act} {w w' : World} (hs : Sim B0 w0 φ0 F0 s F φ a w) {b : Nat} {k k' : Blk} {B C : Nat} (hk : look b s.heap = some k) (hφ : φ b = some (B, C)) (hu : Sim B0 w0 φ0 F0 (s.upd b k') F φ a w') :
    Sim B0 w0 φ0 F0 { s with heap := (s.n, k') :: wipe b s.heap, n := s.n + 1 } F (φ.new s.n (B, C)) a w' := by
  have hφn : φ s.n = none := hs.fresh _ (Nat.le_refl _)
  have hle : φ.le (φ.new s.n (B, C)) := Phi.le_new hφn
  have hkeep : ∀ b2 k2, look b2 ((s.n, k') :: wipe b s.heap) = some k2 → (b2 = s.n ∧ k2 = k') ∨ (b2 ≠ s.n ∧ b2 ≠ b ∧ look b2 s.heap = some k2) := by
    intro b2 k2 h
    simp only [look] at h
    split at h
    · cases h; exact .inl ⟨‹_›, rfl⟩
    · rw [look_wipe] at h
      split at h
      · cases h
      · exact .inr ⟨‹_›, ‹_›, h⟩
  refine ⟨hu.below, hu.base, hu.fok, hu.fle, hu.fnew, fun b2 hb2 => ?_, Nat.le_succ_of_le hs.lo, fun b2 hb2 => ?_, hs.size, hs.defers, fun i p hp => (hu.tm i p hp).mono (FMem.le_refl F) hle, fun b2 k2 hk2 => ?_, fun b1 b2 k1 k2 B2 s1 s2 g1 g2 g3 g4 => ?_⟩
  · have := hs.lo; simp only at hb2
    rw [Phi.new, if_neg (by omega)]; exact hs.phi0 b2 hb2
  · simp only at hb2
    rw [Phi.new, if_neg (by omega)]; exact hs.fresh b2 (by omega)
  · rcases hkeep b2 k2 hk2 with ⟨rfl, rfl⟩ | ⟨n1, n2, n3⟩
    · obtain ⟨B1, cs1, l1⟩ := hu.heap b k2 (by simp [St.upd, look])
      have e := l1.at_; rw [hφ] at e; cases e
      exact ⟨B, cs1, l1.to rfl (if_pos rfl) l1.old (FMem.le_refl F) hle (l1.reads.mono hle)⟩
    · obtain ⟨B2, cs2, hl2⟩ := hu.heap b2 k2 (by simp only [St.upd, look]; rw [if_neg n2]; exact n3)
      exact ⟨B2, cs2, hl2.to rfl (hle _ _ hl2.at_) hl2.old (FMem.le_refl F) hle (hl2.reads.mono hle)⟩
  · rcases hkeep b1 k1 g1 with ⟨rfl, rfl⟩ | ⟨n1, n2, n3⟩ <;> rcases hkeep b2 k2 g2 with ⟨e2, e3⟩ | ⟨m1, m2, m3⟩
    · exact e2.symm
    · rw [Phi.new, if_pos rfl] at g3; rw [Phi.new, if_neg m1] at g4
      cases g3
      exact absurd (hs.inj b b2 _ k2 B _ _ hk m3 hφ g4) (Ne.symm m2)
    · subst e2; rw [Phi.new, if_pos rfl] at g4; rw [Phi.new, if_neg n1] at g3
      cases g4
      exact absurd (hs.inj b1 b k1 _ B _ _ n3 hk g3 hφ) n2
    · rw [Phi.new, if_neg n1] at g3; rw [Phi.new, if_neg m1] at g4
      exact hs.inj b1 b2 k1 k2 B2 s1 s2 n3 m3 g3 g4
theorem appR_ok {n : Nat} {t tx : TypeId} {x y : Operand} {p q : PV} {r : OR} (hx : s.ev x = p) (hy : s.ev y = q) (hk : HK hg s) (hn : s.n = n) (hN : Nat.blt d s.N = true) (h : appR E hg n t tx p q = some r) :
    TriO P ⟨some d, .call ⟨.builtin .append, #[x, y], #[t, tx]⟩, ty, pos, af, g⟩ (Is (s.aft (some d) r)) s := by
  unfold appR at h
  split at h
  · rename_i et hd
    obtain ⟨_, _, _, ht⟩ := tyAt_d hd
    split at h
    · rename_i ye hye
      have he := E.tyAt_ok hye
      split at h
      · rename_i ps m hsv
        have hsrc := srcV_ok (P := P) hy hk hsv
        split at h
        · cases hm : Nat.beq m 0 with
          | true =>
            rw [hm, cond_true] at h; cases h
            have hm := Nat.eq_of_beq_eq_true hm
            subst hm
            exact TriO.val (o := ⟨some d, .call ⟨.builtin .append, #[x, y], #[t, tx]⟩, ty, pos, af, g⟩) rfl hN (PO.appNilC0 ht he hx hsrc) hn
          | false =>
            rw [hm, cond_false] at h
            obtain ⟨hc, h⟩ := bif_some h
            cases h
            simp only [Bool.and_eq_true, Nat.ble_eq] at hc
            have := Nat.ne_of_beq_eq_false hm
            exact TriO.appNilC ht he hx hsrc (by omega) hc.1 hc.2 hn hN
        · rename_i b e off len cap
          split at h
          · rename_i S cs dv bt hb
            obtain ⟨hc, h⟩ := bif_some h
            simp only [Bool.and_eq_true] at hc
            obtain ⟨hc0, hfl⟩ := hc
            have hc0 := Nat.eq_of_beq_eq_true hc0
            subst hc0
            subst hn
            cases hroom : Nat.ble (len + m) cap with
            | true =>
              rw [hroom, cond_true] at h
              obtain ⟨hS, h⟩ := bif_some h
              cases h
              have hroom := Nat.le_of_ble_eq_true hroom
              have hS := Nat.le_of_ble_eq_true hS
              rw [Nat.add_mul] at hS
              refine .gen rfl hN (fun B0 w0 φ0 F0 F φ a w hs => ?_)
              obtain ⟨B, C, c, vs, t', news, a1, a2, a3, a4, a5, a6, a7, a8, a9, a10, a11, a12, a13, a14, a15, a16⟩ := appRef (ty := ty) (d := d) (pos := pos) (af := af) (g := g) ht he hx hk hb hsrc hs
              have hin : off * ye.sz + len * ye.sz + news.length ≤ vs.size := by omega
              have hupd := hs.upd (k' := (RB.c S (cs.puts (off * ye.sz + len * ye.sz) ps) dv bt).blk) (hk _ _ hb) a2 (take_put hin) (.obj (by rw [take_put hin, Tr.gets_len]; exact a5) (fun i p hp => by
                rw [Tr.gets_get] at hp
                split at hp
                · rename_i hi
                  cases hp
                  rw [Nat.zero_add]
                  exact get_put hin a10 a12 a13 i (.inl hi)
                · cases hp) a14) (fun x u e1 e2 => absurd e2 (a14 x u e1)) (fun t e => e) rfl rfl
              refine ⟨_, _, s.upd b (RB.c S (cs.puts (off * ye.sz + len * ye.sz) ps) dv bt).blk, F, φ, .ref b ye.sz off (len + m) cap, a15 (by omega), rfl, rfl, hupd, .ref a1 (by omega) a8 a9, rfl⟩
            | false =>
              rw [hroom, cond_false] at h
              obtain ⟨hc, h⟩ := bif_some h
              cases h
              simp only [Bool.and_eq_true, Nat.ble_eq] at hc
              obtain ⟨⟨⟨c1, c2⟩, c3⟩, c4⟩ := hc
              have c1 := Nat.eq_of_beq_eq_true c1
              subst c1
              simp only [Nat.zero_mul, Nat.zero_add] at *
              refine .gen rfl hN (fun B0 w0 φ0 F0 F φ a w hs => ?_)
              obtain ⟨B, C, c, vs, t', news, a1, a2, a3, a4, a5, a6, a7, a8, a9, a10, a11, a12, a13, a14, a15, a16⟩ := appRef (ty := ty) (d := d) (pos := pos) (af := af) (g := g) ht he hx hk hb hsrc hs
              simp only [Nat.zero_mul, Nat.zero_add, List.drop_zero] at a9 a15 a16
              generalize htt : (tyJoin bt et) = tt
              have htt1 : ∀ q, tt = some q → q = et ∧ bt = some et := by
                intro q hq
                subst htt
                unfold tyJoin at hq
                split at hq
                · rename_i t2
                  obtain ⟨e1, e2⟩ := bif_some hq
                  cases e2
                  exact ⟨rfl, by rw [Nat.eq_of_beq_eq_true e1]⟩
                · cases hq
              by_cases hfit : len + m ≤ c
              · have hle : (len + m) * ye.sz ≤ c * ye.sz := Nat.mul_le_mul_right _ hfit
                rw [Nat.add_mul] at hle
                have hin : len * ye.sz + news.length ≤ vs.size := by omega
                have hupd := hs.upd (k' := (RB.c ((len + m) * ye.sz) (cs.puts (len * ye.sz) ps) dv tt).blk) (hk _ _ hb) a2 (take_put hin) (.obj (by rw [take_put hin, Tr.gets_len, Nat.add_mul]; omega) (fun i p hp => by
                  rw [Tr.gets_get] at hp
                  split at hp
                  · rename_i hi
                    cases hp
                    rw [Nat.zero_add]
                    rw [Nat.add_mul] at hi
                    exact get_put hin a10 a12 a13 i (by omega)
                  · cases hp) a14) (fun x u e1 e2 => absurd e2 (a14 x u e1)) (fun t e => by
                    have := htt1 t e
                    rw [this.1]; exact this.2) rfl rfl
                have hren := hs.renumber (hk _ _ hb) a1 hupd
                refine ⟨_, _, { s with heap := (s.n, (RB.c ((len + m) * ye.sz) (cs.puts (len * ye.sz) ps) dv tt).blk) :: wipe b s.heap, n := s.n + 1 }, F, _, .ref s.n ye.sz 0 (len + m) (len + m), a15 hfit, rfl, rfl, hren, ?_, rfl⟩
                have := VR.ref (F := F) (φ := φ.new s.n (B, C)) (b := s.n) (e := ye.sz) (off := 0) (len := len + m) (cap := len + m) (c := c) (if_pos rfl) (Nat.le_refl _) hfit (by omega)
                simpa using this
              · have hrun := a16 (by omega) c2 c3 c4
                have hge := grownCap_ge w (len + m) c et
                generalize hall : (((vs.toList.take (len * ye.sz)) ++ news) ++ (Builtin.zeroCells _ (grownCap w (len + m) c et - (len + m))).toList).toArray = all at hrun
                have hsz : all.size = grownCap w (len + m) c et * ye.sz := by
                  subst hall
                  simp only [List.size_toArray, List.length_append, List.length_take, Array.length_toList, zeroCells_size, he.zsz, a10, a11]
                  rw [Nat.min_eq_left (by omega), ← Nat.add_mul, ← Nat.add_mul]; congr 1; omega
                have hget : ∀ i, i < (len + m) * ye.sz → ∃ u, all[i]? = some u ∧ VR F φ (((cs.puts (len * ye.sz) ps).get i).getD dv) u := by
                  intro i hi
                  rw [Nat.add_mul] at hi
                  obtain ⟨u, u1, u2⟩ := get_put (F := F) (φ := φ) (vs := (vs.toList.take (len * ye.sz) ++ news).toArray) (news := news) (ps := ps) (o := len * ye.sz) (S := len * ye.sz) (cs := cs) (dv := dv) (by simp; omega) a10 (fun j hj => by
                    obtain ⟨u, u1, u2⟩ := a12 j (by omega)
                    refine ⟨u, ?_, u2⟩
                    simp only [List.getElem?_toArray]
                    rw [List.getElem?_append_left (by simp; omega), List.getElem?_take_of_lt hj]
                    simpa using u1) a13 i (by omega)
                  refine ⟨u, ?_, u2⟩
                  subst hall
                  simp only [List.getElem?_toArray] at u1 ⊢
                  rw [List.getElem?_append_left (by simp; omega)]
                  have hl : (vs.toList.take (len * ye.sz)).length = len * ye.sz := by simp; omega
                  have e : ∀ (T : List Value), T.length = len * ye.sz → ((T ++ news).toArray.toList.take (len * ye.sz) ++ news ++ (T ++ news).toArray.toList.drop (len * ye.sz + news.length)) = T ++ news := by
                    intro T hT; rw [← hT]; simp
                  rw [e _ hl] at u1
                  exact u1
                have hcell : CellsAt F φ all et (RB.c ((len + m) * ye.sz) (cs.puts (len * ye.sz) ps) dv tt) := ⟨by rw [hsz]; exact Nat.mul_le_mul_right _ hge, fun q hq => (htt1 q hq).1, hget⟩
                obtain ⟨d1, d2, d3⟩ := hcell.hb (B := w.drew.heap.size) (fun _ _ e => Nat.ne_of_lt (hs.fok.lt e))
                obtain ⟨hle, hs1⟩ := (hs.drew).alloc d1 d2 d3
                have hs' := hs1.forget (l := (s.n, (RB.c ((len + m) * ye.sz) (cs.puts (len * ye.sz) ps) dv tt).blk) :: wipe b s.heap) (fun b2 k2 hk2 => by
                  simp only [look, St.alloc] at hk2 ⊢
                  split at hk2
                  · rename_i e1; rw [if_pos e1]; exact hk2
                  · rename_i e1; rw [if_neg e1]
                    rw [look_wipe] at hk2
                    split at hk2
                    · cases hk2
                    · exact hk2)
                refine ⟨_, _, { s with heap := (s.n, (RB.c ((len + m) * ye.sz) (cs.puts (len * ye.sz) ps) dv tt).blk) :: wipe b s.heap, n := s.n + 1 }, F, _, .ref s.n ye.sz 0 (len + m) (len + m), hrun, rfl, rfl, hs', ?_, rfl⟩
                have := VR.ref (F := F) (φ := φ.new s.n (w.drew.heap.size, all.size)) (b := s.n) (e := ye.sz) (off := 0) (len := len + m) (cap := len + m) (B := w.heap.size) (sz := all.size) (c := grownCap w (len + m) c et) (if_pos rfl) (Nat.le_refl _) hge (by omega)
                simpa using this
          · cases h
        · cases h
      · cases h
    · cases h
  · cases h
end
end
end Go.Proofs.YtldelbknkkeniaaGreatDoor.E

/- The engine runs closed code: maps, copy. -/
namespace Go.Proofs.YtldelbknkkeniaaGreatDoor.E
open Go Go.RowKit
set_option linter.unusedVariables false
set_option linter.unusedSimpArgs false
variable {P : Program}
noncomputable section
section
variable {E : Env P} {d ty : Nat} {pos : String} {af : Array Edge} {g : Option (Nat × Bool)} {s : St} {hg : Nat → Option RB}
/-- A call of a builtin, whether its answer is kept or not. -/
theorem TriO.genA {o : Oper} {r : OR} (hN : ∀ t, o.dst = some t → t < s.N)
    (h : ∀ B0 w0 φ0 F0 F φ a w, Sim B0 w0 φ0 F0 s F φ a w → ∃ v w' F' φ', (execOp a.eval o).run P w = .ok (.value v) w' ∧ Sim B0 w0 φ0 F0 ⟨s.tm, s.N, aftH r.u s.heap, s.lo, r.n⟩ F' φ' a w' ∧ VR F' φ' r.p v) : TriO P o (Is (s.aft o.dst r)) s := by
  intro B0 w0 φ0 F0 F φ a w hs next Q hQ
  obtain ⟨v, w', F', φ', hr, hs', hv⟩ := h B0 w0 φ0 F0 F φ a w hs
  simp only [Oper.wp, hr, Oper.upon]
  refine hQ (s.aft o.dst r) F' φ' _ _ rfl rfl rfl ?_
  unfold St.aft
  cases hd : o.dst with
  | none => exact hs'
  | some d => exact hs'.put (hN d hd) hv

/-! ### maps -/
/-- What stands at a key; none: it cannot be told. -/
def keyEq : Value → Value → Option Bool
  | .int k a, .int k' b => if k = k' then some (decide (a = b)) else none
  | .string a, .string b => some (beqL a.data.toList b.data.toList)
  | .bool a, .bool b => some (a == b)
  | _, _ => none
def kindK : TypeDesc → Value → Bool
  | .int k, .int k' _ => decide (k = k')
  | .string, .string _ => true
  | .bool, .bool _ => true
  | _, _ => false
theorem keyEq_same {ds : TypeDesc} {a b : Value} {r : Bool} (ha : kindK ds a = true) (h : keyEq a b = some r) : Instr.sameNow ds a b = some r := by
  unfold keyEq at h
  split at h
  · rename_i k x k' y
    split at h
    · rename_i hk
      cases h
      cases ds <;> simp [kindK] at ha
      simp [Instr.sameNow, hk]
      by_cases e : x = y <;> simp [e]
    · cases h
  · rename_i x y
    cases h
    cases ds <;> simp [kindK] at ha
    simp only [Instr.sameNow, beqL_eq, Option.some.injEq]
    have : (x == y) = (x.data.toList == y.data.toList) := by
      rw [Bool.eq_iff_iff, MapKept.bytes_beq]
      constructor
      · rintro rfl; simp
      · intro h
        have := eq_of_beq h
        exact bs_inj this
    exact this
  · cases h
    cases ds <;> simp [kindK] at ha
    simp [Instr.sameNow]
  · cases h
/-- Where a key stands. -/
def findM (k : Value) : List (Value × PV) → Nat → Option (Option (Nat × PV))
  | [], _ => some none
  | (e, p) :: l, i => match keyEq k e with
    | some true => some (some (i, p))
    | some false => findM k l (i + 1)
    | none => none
theorem findM_ok {F : FMem} {φ : Phi} {ds : TypeDesc} {k : Value} (hk : kindK ds k = true) : ∀ (es : List (Value × PV)) (ents : List MapEntry) (i : Nat) (r : Option (Nat × PV)), ents.length = es.length →
    (∀ (j : Nat) (e : MapEntry) (x : Value × PV), ents[j]? = some e → es[j]? = some x → e.key = x.1 ∧ VR F φ x.2 e.val) → findM k es i = some r →
    match r with
    | none => Instr.findNow ds k ents i = some none
    | some (j, p) => ∃ j' e, j = i + j' ∧ ents[j']? = some e ∧ Instr.findNow ds k ents i = some (some (j, e.val)) ∧ VR F φ p e.val ∧ j' < es.length ∧ Instr.sameNow ds k e.key = some true
  | [], [], i, r, hl, hv, h => by cases h; rfl
  | [], _ :: _, i, r, hl, hv, h => by simp at hl
  | _ :: _, [], i, r, hl, hv, h => by simp at hl
  | (e, p) :: es, x :: ents, i, r, hl, hv, h => by
    obtain ⟨h1, h2⟩ := hv 0 x (e, p) rfl rfl
    simp only [findM] at h
    split at h
    · rename_i hke
      cases h
      have hs := keyEq_same hk hke
      rw [← (show x.key = e from h1)] at hs
      exact ⟨0, x, rfl, rfl, by simp [Instr.findNow, hs], h2, by simp, hs⟩
    · rename_i hke
      have hs := keyEq_same hk hke
      rw [← (show x.key = e from h1)] at hs
      have ih := findM_ok hk es ents (i + 1) r (by simpa using hl) (fun j e x g1 g2 => hv (j + 1) e x (by simpa using g1) (by simpa using g2)) h
      cases r with
      | none => simp only at ih ⊢; simp [Instr.findNow, hs, ih]
      | some jp =>
        obtain ⟨j, p⟩ := jp
        obtain ⟨j', e', q1, q2, q3, q4, q5, q6⟩ := ih
        exact ⟨j' + 1, e', by omega, by simpa using q2, by simp [Instr.findNow, hs, q3], q4, by simp; omega, q6⟩
    · cases h
theorem kindK_is {ds : TypeDesc} {k : Value} (h : kindK ds k = true) : MapKept.IsKey ds k := by
  cases ds <;> cases k <;> simp_all [kindK, MapKept.IsKey]
/-- A map of our own, as the machine has it. -/
theorem map_at {B0 : Fr} {w0 : World} {φ0 : Phi} {F0 : FMem} {F : FMem} {φ : Phi} {a : Act} {w : World} (hs : Sim B0 w0 φ0 F0 s F φ a w) (hk : HK hg s) {b : Nat} {es : List (Value × PV)} (hb : hg b = some (.m es)) {B S : Nat} (hφ : φ b = some (B, S)) :
    ∃ ents clock cs, w.heap[B]? = some (.map ents clock) ∧ ents.size = es.length ∧ (∀ (i : Nat) (e : MapEntry) (x : Value × PV), ents[i]? = some e → es[i]? = some x → e.key = x.1 ∧ VR F φ x.2 e.val) ∧ Live F φ B0 w b (.map es) B cs ∧ cs.size = S := by
  obtain ⟨B', cs, hl⟩ := hs.heap b _ (hk b _ hb)
  have e := hl.at_; rw [hφ] at e; cases e
  obtain ⟨ents, clock, k1, k2, k3⟩ := hl.mp _ rfl
  exact ⟨ents, clock, cs, k1, k2, k3, hl, rfl⟩
theorem Sim.setMap {B0 : Fr} {w0 : World} {φ0 : Phi} {F0 : FMem} {F : FMem} {φ : Phi} {a : Act} {w : World} (h : Sim B0 w0 φ0 F0 s F φ a w) {b : Nat} {es es' : List (Value × PV)} {B : Nat} {cs : Array Value} (hk : look b s.heap = some (.map es)) (hl : Live F φ B0 w b (.map es) B cs)
    {ents : Array MapEntry} {clock : Nat} {o : Obj} (ho : o = .map ents clock) (h1 : ents.size = es'.length) (h2 : ∀ (i : Nat) (e : MapEntry) (x : Value × PV), ents[i]? = some e → es'[i]? = some x → e.key = x.1 ∧ VR F φ x.2 e.val) :
    Sim B0 w0 φ0 F0 (s.upd b (.map es')) F φ a { w with heap := w.heap.setIfInBounds B o } := by
  subst ho
  obtain ⟨ents0, clock0, m1, m2, m3⟩ := hl.mp _ rfl
  obtain ⟨q1, q2⟩ := MapKept.heap_set (o' := .map ents clock) m1
  refine ⟨?_, h.base, h.fok.grow (FMem.le_refl F) ?_ (fun g j u n _ e h2 => szW_block (q2 g (fun e2 => by subst e2; unfold szW at h2; rw [m1] at h2; cases h2)) h2), h.fle, h.fnew, h.phi0, h.lo, h.fresh, h.size, h.defers, h.tm, fun b2 k2 hk2 => ?_, fun b1 b2 k1 k2 B' sz sz' g1 g2 g3 g4 => ?_⟩
  · exact h.below.trans ⟨rfl, rfl, rfl, by simp, fun j hj => q2 j (fun e => hl.old (e ▸ hj))⟩
  · intro x u e
    obtain ⟨g1, g2⟩ := h.fok x u e
    refine ⟨?_, g2⟩
    by_cases eb : x.block = B
    · unfold World.cell? at g1
      rw [eb, m1] at g1
      cases g1
    · rw [World.cell?_of_block (w := w) (q2 _ eb)]; exact g1
  · simp only [St.upd, look] at hk2
    split at hk2
    · rename_i e; subst e; cases hk2
      refine ⟨B, cs, hl.at_, hl.old, fun e => (by cases e), fun t e => (by cases e), fun es2 e => ?_, .map ?_⟩
      · cases e
        exact ⟨ents, clock, q1, h1, h2⟩
      · cases hl.reads with | map hF => exact hF
    · rename_i e
      obtain ⟨B2, cs2, hl2⟩ := h.heap b2 k2 hk2
      have : B2 ≠ B := fun e2 => e (h.inj b2 b k2 _ B _ _ hk2 hk (e2 ▸ hl2.at_) hl.at_)
      exact ⟨B2, cs2, hl2.to (q2 _ this) hl2.at_ hl2.old (FMem.le_refl F) (Phi.le_refl φ) hl2.reads⟩
  · simp only [St.upd, look] at g1 g2
    by_cases e1 : b1 = b <;> by_cases e2 : b2 = b
    · rw [e1, e2]
    · rw [if_neg e2] at g2; subst e1; exact h.inj _ _ _ k2 B' sz sz' hk g2 g3 g4
    · rw [if_neg e1] at g1; subst e2; exact h.inj _ _ k1 _ B' sz sz' g1 hk g3 g4
    · rw [if_neg e1] at g1; rw [if_neg e2] at g2; exact h.inj _ _ k1 k2 B' sz sz' g1 g2 g3 g4
def valK : PV → Option Value
  | .t (.v v) => some v
  | _ => none
def lookV (E : Env P) (hg : Nat → Option RB) (t : TypeId) (ok : Bool) (p q : PV) : Option PV := match (E.tyAt t).map TyE.d, valK q with
  | some (.map kt et), some k => match (E.tyAt kt).map TyE.d, E.tyAt et with
    | some kd, some ye => bif kindK kd k then
        (match (match p with
          | .mp b => match hg b with
            | some (.m es) => findM k es 0
            | _ => none
          | .t (.v (.map none)) => some none
          | _ => none : Option (Option (Nat × PV))) with
        | some (some (_, v)) => some (bif ok then .tup [v, .t (.v (.bool true))] else v)
        | some none => some (bif ok then .tup [ofConst ye.z, .t (.v (.bool false))] else ofConst ye.z)
        | none => none) else none
    | _, _ => none
  | _, _ => none
theorem tup2 {F : FMem} {φ : Phi} {p q : PV} {u v : Value} (h1 : VR F φ p u) (h2 : VR F φ q v) : VR F φ (.tup [p, q]) (.tuple #[u, v]) := by
  refine .tup rfl (fun i r x hr hx => ?_)
  match i with
  | 0 => simp at hr hx; subst hr; subst hx; exact h1
  | 1 => simp at hr hx; subst hr; subst hx; exact h2
  | i + 2 => simp at hr
theorem lookV_ok {t : TypeId} {ok : Bool} {x y : Operand} {p q r : PV} (hx : EvH True s x p) (hy : EvH True s y q) (hk : HK hg s) (h : lookV E hg t ok p q = some r) : PO P True ⟨some d, .lookup t x y ok, ty, pos, af, g⟩ s r := by
  unfold lookV at h
  split at h
  · rename_i kt et k hd hkk
    obtain ⟨_, _, _, ht⟩ := tyAt_d hd
    split at h
    · rename_i kd ye hkd hye
      obtain ⟨_, _, _, hkt⟩ := tyAt_d hkd
      have he := E.tyAt_ok hye
      obtain ⟨hc, h9⟩ := bif_some h
      clear h
      intro hH B0 w0 φ0 F0 F φ a w hs
      have hqv : a.eval y = k := by
        unfold valK at hkk
        split at hkk
        · cases hkk; exact (evv hH hs hy).1
        · cases hkk
      have hv := hx.vr hH hs
      generalize hxe : a.eval x = u at hv
      have ck : ∀ em w, (Instr.checkKey em 10000 kt k).run P w = .ok () w := fun em w => MapKept.run_checkKey hkt.und (kindK_is hc) em 9999
      -- what is found
      have key : ∀ (ents : List MapEntry) (rr : Option (Nat × PV)), (match rr with
          | none => Instr.findNow kd k ents 0 = some none
          | some (j, p) => ∃ j' e, j = 0 + j' ∧ ents[j']? = some e ∧ Instr.findNow kd k ents 0 = some (some (j, e.val)) ∧ VR F φ p e.val) →
          (match rr with
            | some (_, v) => some (bif ok then .tup [v, .t (.v (.bool true))] else v)
            | none => some (bif ok then .tup [ofConst ye.z, .t (.v (.bool false))] else ofConst ye.z) : Option PV) = some r →
          ∃ v, (do
            let (v, ok') ← match ← Instr.findKey kt k ents with
              | some (_, v) => pure (v, true)
              | none => pure (← zeroValue et, false)
            pure (if ok then .tuple #[v, .bool ok'] else v) : Sem Value).run P w = .ok v w ∧ VR F φ r v := by
        intro ents rr h1 h2
        cases rr with
        | none =>
          cases h2
          have hf := MapKept.run_findKey (w := w) hkt.und h1
          refine ⟨if ok then .tuple #[ye.z, .bool false] else ye.z, ?_, ?_⟩
          · simp only [Sem.run_bind, hf, Result.andThen_ok, he.zero, Sem.run_pure]
          · cases ok with
            | true => exact tup2 (ofConst_vr _) (.t (.v rfl))
            | false => exact ofConst_vr _
        | some jp =>
          obtain ⟨j, v⟩ := jp
          obtain ⟨j', e, q1, q2, q3, q4⟩ := h1
          cases h2
          have hf := MapKept.run_findKey (w := w) hkt.und q3
          refine ⟨if ok then .tuple #[e.val, .bool true] else e.val, ?_, ?_⟩
          · simp only [Sem.run_bind, hf, Result.andThen_ok, Sem.run_pure]
          · cases ok with
            | true => exact tup2 q4 (.t (.v rfl))
            | false => exact q4
      have unf : ∀ (o : Option Nat) (es : Array MapEntry), (match o with | none => es = #[] | some B => ∃ c, w.heap[B]? = some (.map es c)) → ∀ v, (do
            let (v, ok') ← match ← Instr.findKey kt k es.toList with
              | some (_, v) => pure (v, true)
              | none => pure (← zeroValue et, false)
            pure (if ok then .tuple #[v, .bool ok'] else v) : Sem Value).run P w = .ok v w → (Instr.lookup t (.map o) k ok).run P w = .ok v w := by
        intro o es ho v hv
        cases o with
        | none =>
          subst ho
          simp only [Instr.lookup, Sem.run_bind, ht.under, Result.andThen_ok, Sem.run_pure, ck] at hv ⊢
          exact hv
        | some B =>
          obtain ⟨c, hB⟩ := ho
          simp only [Instr.lookup, Sem.run_bind, ht.under, Result.andThen_ok, Sem.run_pure, MapKept.run_getObj_map hB, ck] at hv ⊢
          exact hv
      split at h9
      · rename_i v hfound
        split at hfound
        · rename_i b
          split at hfound
          · rename_i es hb
            cases hv with
            | @mp _ B S hφ =>
              obtain ⟨ents, clock, cs, k1, k2, k3, k4, k5⟩ := map_at hs hk hb hφ
              have hf := findM_ok (F := F) (φ := φ) hc es ents.toList 0 _ (by simpa using k2) (fun j e x g1 g2 => k3 j e x (by simpa using g1) g2) hfound
              obtain ⟨j', e, q1, q2, q3, q4, q5, q6⟩ := hf
              obtain ⟨v', r1, r2⟩ := key ents.toList (some (_, v)) ⟨j', e, q1, q2, q3, q4⟩ h9
              exact ⟨v', by simp only [execOp, hxe, hqv, Sem.run_bind, unf (some B) ents ⟨clock, k1⟩ v' r1, Result.andThen_ok, Sem.run_pure], r2⟩
          · cases hfound
        · cases hfound
        · cases hfound
      · rename_i hfound
        split at hfound
        · rename_i b
          split at hfound
          · rename_i es hb
            cases hv with
            | @mp _ B S hφ =>
              obtain ⟨ents, clock, cs, k1, k2, k3, k4, k5⟩ := map_at hs hk hb hφ
              have hf := findM_ok (F := F) (φ := φ) hc es ents.toList 0 _ (by simpa using k2) (fun j e x g1 g2 => k3 j e x (by simpa using g1) g2) hfound
              obtain ⟨v', r1, r2⟩ := key ents.toList none hf h9
              exact ⟨v', by simp only [execOp, hxe, hqv, Sem.run_bind, unf (some B) ents ⟨clock, k1⟩ v' r1, Result.andThen_ok, Sem.run_pure], r2⟩
          · cases hfound
        · obtain rfl := vrv hv
          obtain ⟨v', r1, r2⟩ := key [] none rfl h9
          exact ⟨v', by simp only [execOp, hxe, hqv, Sem.run_bind, unf none #[] rfl v' r1, Result.andThen_ok, Sem.run_pure], r2⟩
        · cases hfound
      · cases h9
    · cases h
  · cases h
end
end
end Go.Proofs.YtldelbknkkeniaaGreatDoor.E

/- The engine runs closed code: maps that are made and written, copy. -/
namespace Go.Proofs.YtldelbknkkeniaaGreatDoor.E
open Go Go.RowKit
set_option linter.unusedVariables false
set_option linter.unusedSimpArgs false
variable {P : Program}
noncomputable section
section
variable {E : Env P} {d ty : Nat} {pos : String} {af : Array Edge} {g : Option (Nat × Bool)} {s : St} {hg : Nat → Option RB}
theorem Sim.allocMap {B0 : Fr} {w0 : World} {φ0 : Phi} {F0 : FMem} {F : FMem} {φ : Phi} {a : Act} {w : World} (h : Sim B0 w0 φ0 F0 s F φ a w) {es : List (Value × PV)} {ents : Array MapEntry} {clock : Nat} (h1 : ents.size = es.length)
    (h2 : ∀ (i : Nat) (e : MapEntry) (x : Value × PV), ents[i]? = some e → es[i]? = some x → e.key = x.1 ∧ VR F φ x.2 e.val) :
    Sim B0 w0 φ0 F0 (s.alloc (.map es)) F (φ.new s.n (w.heap.size, 0)) a (w.alloc (.map ents clock)) := by
  have hle : φ.le (φ.new s.n (w.heap.size, 0)) := Phi.le_new (h.fresh _ (Nat.le_refl _))
  have hnew : (w.alloc (.map ents clock)).heap[w.heap.size]? = some (.map ents clock) := by
    show (w.heap.push _)[w.heap.size]? = _
    simp
  refine ⟨h.below.alloc h.base_le _, h.base, h.fok.alloc _, h.fle, h.fnew, ?_, Nat.le_succ_of_le h.lo, ?_, h.size, h.defers, ?_, ?_, ?_⟩
  · intro b hb
    show (φ.new s.n _) b = _
    have := h.lo
    unfold Phi.new
    rw [if_neg (by simp [St.alloc] at hb; omega)]
    exact h.phi0 b hb
  · intro b hb
    simp only [St.alloc] at hb
    unfold Phi.new
    rw [if_neg (by omega)]
    exact h.fresh b (by omega)
  · intro i p hp
    exact (h.tm i p hp).mono (FMem.le_refl F) hle
  · intro b k' hk'
    simp only [St.alloc, look] at hk'
    split at hk'
    · rename_i e; subst e; cases hk'
      refine ⟨w.heap.size, #[], by simp [Phi.new], h.base_new (Nat.le_refl _), fun e => (by cases e), fun t' e => (by cases e), fun es2 e => ?_, .map fun x u e => Nat.ne_of_lt (h.fok.lt e)⟩
      cases e
      exact ⟨ents, clock, hnew, h1, fun i e x g1 g2 => ⟨(h2 i e x g1 g2).1, (h2 i e x g1 g2).2.mono (FMem.le_refl F) hle⟩⟩
    · obtain ⟨B, cs', hl⟩ := h.heap b k' hk'
      exact ⟨B, cs', hl.to (Below.heap_alloc _ _ _ hl.lt) (hle _ _ hl.at_) hl.old (FMem.le_refl F) hle (hl.reads.mono hle)⟩
  · intro b b' k1 k2 B sz sz' h1 h2 h3 h4
    simp only [St.alloc, look] at h1 h2
    unfold Phi.new at h3 h4
    by_cases e1 : b = s.n <;> by_cases e2 : b' = s.n
    · rw [e1, e2]
    · rw [if_pos e1] at h3; rw [if_neg e2] at h4 h2
      cases h3
      exact absurd (h.block_lt h2 h4) (by omega)
    · rw [if_pos e2] at h4; rw [if_neg e1] at h3 h1
      cases h4
      exact absurd (h.block_lt h1 h3) (by omega)
    · rw [if_neg e1] at h3 h1; rw [if_neg e2] at h4 h2
      exact h.inj b b' k1 k2 B sz sz' h1 h2 h3 h4
def mmapR (n : Nat) (r : Option Operand) : Option OR := match r with
  | none => some ⟨.mp n, [(n, some (.m []))], n + 1⟩
  | some _ => none
theorem mmapR_ok {n : Nat} {t : TypeId} {r : Option Operand} {x : OR} (hn : s.n = n) (hN : Nat.blt d s.N = true) (h : mmapR n r = some x) : TriO P ⟨some d, .makeMap t r, ty, pos, af, g⟩ (Is (s.aft (some d) x)) s := by
  unfold mmapR at h
  split at h
  · cases h
    subst hn
    refine .gen rfl hN (fun B0 w0 φ0 F0 F φ a w hs => ?_)
    have hs' := hs.allocMap (es := []) (ents := #[]) (clock := 0) rfl (fun i e x g1 g2 => by simp at g1)
    exact ⟨_, _, s.alloc (.map []), F, _, .mp s.n, rfl, rfl, rfl, hs', .mp (B := w.heap.size) (sz := 0) (if_pos rfl), rfl⟩
  · cases h
def setAt (v : PV) : Nat → List (Value × PV) → List (Value × PV)
  | _, [] => []
  | 0, x :: l => (x.1, v) :: l
  | i + 1, x :: l => x :: setAt v i l
theorem kindK_same {ds : TypeDesc} {k : Value} (h : kindK ds k = true) : ∀ n, Instr.sameBits n k k = true := by
  intro n
  unfold kindK at h
  split at h
  · cases n <;> simp [Instr.sameBits]
  · cases n <;> simp [Instr.sameBits, MapKept.bytes_beq]
  · cases n <;> simp [Instr.sameBits]
  · cases h
theorem setAt_len (v : PV) : ∀ (i : Nat) (l : List (Value × PV)), (setAt v i l).length = l.length
  | i, [] => by cases i <;> rfl
  | 0, x :: l => rfl
  | i + 1, x :: l => by simp [setAt, setAt_len v i l]
theorem setAt_get (v : PV) : ∀ (i : Nat) (l : List (Value × PV)) (j : Nat), (setAt v i l)[j]? = if j = i then (l[j]?).map (fun x => (x.1, v)) else l[j]?
  | i, [], j => by cases i <;> simp [setAt]
  | 0, x :: l, j => by cases j <;> simp [setAt]
  | i + 1, x :: l, j => by
    cases j with
    | zero => simp [setAt]
    | succ j => simp [setAt, setAt_get v i l j]
def updR (E : Env P) (hg : Nat → Option RB) (n : Nat) (t : TypeId) (p q v : PV) : Option OR := match (E.tyAt t).map TyE.d, valK q, p with
  | some (.map kt _), some k, .mp b => match (E.tyAt kt).map TyE.d, hg b with
    | some kd, some (.m es) => bif kindK kd k then
        (match findM k es 0 with
        | some (some (i, _)) => some ⟨.undef, [(b, some (.m (setAt v i es)))], n⟩
        | some none => some ⟨.undef, [(b, some (.m (es ++ [(k, v)])))], n⟩
        | none => none) else none
    | _, _ => none
  | _, _, _ => none
theorem same_eq {ds : TypeDesc} {a b : Value} (h : Instr.sameNow ds a b = some true) : a = b := by
  unfold Instr.sameNow at h
  split at h
  · rename_i k x k' y
    split at h
    · rename_i hk; subst hk; simp at h; rw [h]
    · cases h
  · rename_i x y
    have : x = y := (MapKept.bytes_beq x y).1 (by simpa using h)
    rw [this]
  · simp at h; rw [h]
  · cases h
theorem updR_run {n : Nat} {t : TypeId} {x y z : Operand} {p q v : PV} {r : OR} (hx : EvH True s x p) (hy : EvH True s y q) (hz : s.ev z = v) (hk : HK hg s) (hn : s.n = n) (h : updR E hg n t p q v = some r) :
    ∀ B0 w0 φ0 F0 F φ a w, Sim B0 w0 φ0 F0 s F φ a w → ∃ w', (Instr.mapUpdate t (a.eval x) (a.eval y) (a.eval z)).run P w = .ok () w' ∧ Sim B0 w0 φ0 F0 (s.aft none r) F φ a w' := by
  intro B0 w0 φ0 F0 F φ a w hs
  unfold updR at h
  split at h
  · rename_i kt et k b hd hkk
    obtain ⟨_, _, _, ht⟩ := tyAt_d hd
    split at h
    · rename_i kd es hkd hb
      obtain ⟨_, _, _, hkt⟩ := tyAt_d hkd
      obtain ⟨hc, h9⟩ := bif_some h
      clear h
      have hqv : a.eval y = k := by
        unfold valK at hkk
        split at hkk
        · cases hkk; exact (evv trivial hs hy).1
        · cases hkk
      have hv := hx.vr trivial hs
      have hvz : VR F φ v (a.eval z) := hz ▸ hs.ev z
      generalize hxe : a.eval x = u at hv
      have ck : ∀ em w, (Instr.checkKey em 10000 kt k).run P w = .ok () w := fun em w => MapKept.run_checkKey hkt.und (kindK_is hc) em 9999
      cases hv with
      | @mp _ B S hφ =>
        obtain ⟨ents, clock, cs, k1, k2, k3, k4, k5⟩ := map_at hs hk hb hφ
        split at h9
        · rename_i i pv hf
          cases h9
          obtain ⟨j', e, q1, q2, q3, q4, q5, q6⟩ := findM_ok (F := F) (φ := φ) hc es ents.toList 0 _ (by simpa using k2) (fun j e x g1 g2 => k3 j e x (by simpa using g1) g2) hf
          rw [Nat.zero_add] at q1
          subst q1
          have q2' : ents[i]? = some e := by simpa using q2
          have hke := same_eq q6
          have hstay : ∀ w : World, (Instr.keyThatStays e.key k).run P w = .ok k w := by
            intro w
            have : Instr.sameBits 10000 e.key k = true := by rw [← hke]; exact kindK_same hc _
            simp [Instr.keyThatStays, this]
          have hrun : (Instr.mapUpdate t (.map (some B)) k (a.eval z)).run P w = .ok () { w with heap := w.heap.setIfInBounds B (.map (ents.modify i fun e => { e with key := k, val := a.eval z }) clock) } := by
            simp only [Instr.mapUpdate, Sem.run_bind, ht.under, Result.andThen_ok, MapKept.run_getObj_map k1, ck, MapKept.run_findKey hkt.und q3, q2', Option.map_some, Option.getD_some, hstay]
            exact MapKept.run_setObj_map _ k1
          refine ⟨_, by rw [hqv]; exact hrun, ?_⟩
          have := hs.setMap (es' := setAt v i es) (ents := ents.modify i fun e => { e with key := k, val := a.eval z }) (clock := clock) (hk b _ hb) k4 rfl (by simp [setAt_len, k2]) (fun j e' x' g1 g2 => by
            rw [Array.getElem?_modify] at g1
            rw [setAt_get] at g2
            by_cases hji : i = j
            · subst hji
              rw [if_pos rfl] at g1 g2
              rw [q2'] at g1
              rw [Option.map_some] at g1
              cases g1
              rw [Option.map_eq_some_iff] at g2
              obtain ⟨x2, hx2, rfl⟩ := g2
              refine ⟨?_, hvz⟩
              rw [hke]
              exact (k3 i e x2 q2' hx2).1
            · rw [if_neg hji] at g1; rw [if_neg (Ne.symm hji)] at g2
              exact k3 j e' x' g1 g2)
          subst hn
          exact this
        · rename_i hf
          cases h9
          have hfn := findM_ok (F := F) (φ := φ) hc es ents.toList 0 _ (by simpa using k2) (fun j e x g1 g2 => k3 j e x (by simpa using g1) g2) hf
          simp only at hfn
          have hrun : (Instr.mapUpdate t (.map (some B)) k (a.eval z)).run P w = .ok () { w with heap := w.heap.setIfInBounds B (.map (ents.push { key := k, val := a.eval z, born := clock }) (clock + 1)) } := by
            simp only [Instr.mapUpdate, Sem.run_bind, ht.under, Result.andThen_ok, MapKept.run_getObj_map k1, ck, MapKept.run_findKey hkt.und hfn]
            exact MapKept.run_setObj_map _ k1
          refine ⟨_, by rw [hqv]; exact hrun, ?_⟩
          have := hs.setMap (es' := es ++ [(k, v)]) (ents := ents.push { key := k, val := a.eval z, born := clock }) (clock := clock + 1) (hk b _ hb) k4 rfl (by simp [k2]) (fun j e' x' g1 g2 => by
            rw [Array.getElem?_push] at g1
            rw [List.getElem?_append] at g2
            by_cases hj : j = ents.size
            · subst hj
              rw [if_pos rfl] at g1
              rw [if_neg (by omega), k2, Nat.sub_self] at g2
              cases g1; cases g2
              exact ⟨rfl, hvz⟩
            · rw [if_neg hj] at g1
              have := (Array.getElem?_eq_some_iff.1 g1).1
              rw [if_pos (by omega)] at g2
              exact k3 j e' x' g1 g2)
          subst hn
          exact this
        · cases h9
    · cases h
  · cases h
theorem updR_ok {n : Nat} {t : TypeId} {x y z : Operand} {p q v : PV} {r : OR} (hx : EvH True s x p) (hy : EvH True s y q) (hz : s.ev z = v) (hk : HK hg s) (hn : s.n = n) (h : updR E hg n t p q v = some r) :
    TriO P ⟨none, .mapUpdate t x y z, ty, pos, af, g⟩ (Is (s.aft none r)) s ∧ TriO P ⟨none, .insert t x y z, ty, pos, af, g⟩ (Is (s.aft none r)) s := by
  have hr := updR_run (P := P) hx hy hz hk hn h
  constructor
  · refine .act rfl (fun B0 w0 φ0 F0 F φ a w hs => ?_)
    obtain ⟨w', h1, h2⟩ := hr B0 w0 φ0 F0 F φ a w hs
    exact ⟨w', s.aft none r, F, φ, by simp only [execOp, Sem.run_bind, h1, Result.andThen_ok]; rfl, rfl, rfl, h2, rfl⟩
  · refine .act rfl (fun B0 w0 φ0 F0 F φ a w hs => ?_)
    obtain ⟨w', h1, h2⟩ := hr B0 w0 φ0 F0 F φ a w hs
    exact ⟨w', s.aft none r, F, φ, by simp only [execOp, Sem.run_bind, h1, Result.andThen_ok]; rfl, rfl, rfl, h2, rfl⟩
end
end
end Go.Proofs.YtldelbknkkeniaaGreatDoor.E

/- The engine runs closed code: delete, copy. -/
namespace Go.Proofs.YtldelbknkkeniaaGreatDoor.E
open Go Go.RowKit
set_option linter.unusedVariables false
set_option linter.unusedSimpArgs false
variable {P : Program}
noncomputable section
section
variable {E : Env P} {d ty : Nat} {pos : String} {af : Array Edge} {g : Option (Nat × Bool)} {s : St} {hg : Nat → Option RB}
/-- How many elements there are to copy. -/
def cntV (E : Env P) (tx : TypeId) (q : PV) : Option Nat := match q with
  | .t (.sl true []) => some 0
  | .ref _ _ _ len _ => some len
  | .t (.v (.string b)) => some b.data.toList.length
  | _ => none
/-- Cells that are copied: the first k elements. -/
def SrcQ (P : Program) (s : St) (y : Operand) (e m k : Nat) (ps : List PV) : Prop :=
  ∀ B0 w0 φ0 F0 F φ a w, Sim B0 w0 φ0 F0 s F φ a w → ∃ news : List Value, (Builtin.lenOf (a.eval y)).run P w = .ok m w ∧ (Builtin.firstCells e k (a.eval y)).run P w = .ok news.toArray w ∧ news.length = ps.length ∧ ps.length = k * e ∧
    (∀ (i : Nat) (p : PV) (u : Value), ps[i]? = some p → news[i]? = some u → VR F φ p u) ∧ ∀ u ∈ news, u.oneCell' = true
def srcQ (hg : Nat → Option RB) (e k : Nat) (q : PV) : Option (List PV) := match q with
  | .t (.sl true []) => bif Nat.beq k 0 then some [] else none
  | .ref b e' off len _ => match hg b with
    | some (.c sz cs dv _) =>
      let ps := cs.gets dv (off * e) (k * e)
      bif Nat.beq e e' && Nat.ble (off * e + k * e) sz && allFlat ps then some ps else none
    | _ => none
  | .t (.v (.string b)) => bif Nat.beq e 1 && Nat.ble k b.data.toList.length then some ((b.data.toList.take k).map fun c => .t (.v (.int .u8 c.toNat))) else none
  | _ => none
theorem srcQ_ok {y : Operand} {e m k : Nat} {q : PV} {ps : List PV} (hy : s.ev y = q) (hk : HK hg s) (hm : cntV E 0 q = some m) (h : srcQ hg e k q = some ps) : SrcQ P s y e m k ps := by
  intro B0 w0 φ0 F0 F φ a w hs
  have hv := hy ▸ hs.ev y
  unfold srcQ at h
  split at h
  · obtain ⟨hc, h⟩ := bif_some h
    have hc := Nat.eq_of_beq_eq_true hc
    subst hc
    cases h; cases hm
    have := tr_nil (vrt hv)
    rw [this]
    exact ⟨[], rfl, rfl, rfl, by simp, fun i p u h => by simp at h, fun _ h => by cases h⟩
  · rename_i b e' off len cap
    split at h
    · rename_i sz cs dv bt hb
      obtain ⟨hc, h⟩ := bif_some h
      cases h; cases hm
      simp only [Bool.and_eq_true, Nat.ble_eq] at hc
      obtain ⟨⟨c1, c2⟩, c3⟩ := hc
      have c1 := Nat.eq_of_beq_eq_true c1
      subst c1
      generalize hq : a.eval y = v at hv
      cases hv with
      | @ref _ _ _ _ _ B S c hφ k1 k2 k3 =>
        obtain ⟨vs, t, q1, q0, q2, q3, q4⟩ := cells_at hs hk hb hφ
        have hlen : ((vs.toList.drop (off * e)).take (k * e)).length = k * e := by simp; omega
        have hget : ∀ i, i < k * e → ((vs.toList.drop (off * e)).take (k * e))[i]? = vs[off * e + i]? := fun i hi => by
          rw [List.getElem?_take_of_lt hi, List.getElem?_drop]; simp
        have hvr : ∀ (i : Nat) (p : PV) (u : Value), (cs.gets dv (off * e) (k * e))[i]? = some p → ((vs.toList.drop (off * e)).take (k * e))[i]? = some u → VR F φ p u := by
          intro i p u hp hu
          rw [Tr.gets_get] at hp
          split at hp
          · rename_i hi
            cases hp
            rw [hget i hi] at hu
            obtain ⟨u', h1, h2⟩ := q4 (off * e + i) (by omega)
            rw [h1] at hu; cases hu; exact h2
          · cases hp
        have hone : ∀ u ∈ (vs.toList.drop (off * e)).take (k * e), u.oneCell' = true := by
          intro u hu
          obtain ⟨i, hi⟩ := List.mem_iff_getElem?.1 hu
          have hil := (List.getElem?_eq_some_iff.1 hi).1
          rw [hlen] at hil
          have hp : (cs.gets dv (off * e) (k * e))[i]? = some ((cs.get (off * e + i)).getD dv) := by rw [Tr.gets_get, if_pos hil]
          exact (hvr i _ u hp hi).one (allFlat_get c3 i _ hp)
        refine ⟨(vs.toList.drop (off * e)).take (k * e), rfl, ?_, by rw [hlen, Tr.gets_len], Tr.gets_len _ _ _ _, hvr, hone⟩
        refine run_firstCells_some w e k ⟨B, off * e, none⟩ m c _ hlen (fun j u hj => ?_)
        have hjl := (List.getElem?_eq_some_iff.1 hj).1
        rw [hlen] at hjl
        rw [Addr.add_mid, cell_at q1, ← hget j hjl]; exact hj
    · cases h
  · rename_i b
    obtain ⟨hc, h⟩ := bif_some h
    cases h; cases hm
    simp only [Bool.and_eq_true, Nat.ble_eq] at hc
    have c1 := Nat.eq_of_beq_eq_true hc.1
    subst c1
    have h1 := vrv hv
    rw [h1]
    refine ⟨(b.data.toList.take k).map fun c => .int .u8 c.toNat, by simp [Builtin.lenOf], ?_, by simp, by have := hc.2; simp at this ⊢; omega, fun i p u hp hu => ?_, fun u hu => ?_⟩
    · simp only [Builtin.firstCells, Sem.run_pure, Result.ok.injEq, and_true]
      apply Array.ext'
      rw [extract_bytes]
      simp
    · rw [List.getElem?_map, Option.map_eq_some_iff] at hp hu
      obtain ⟨c, hc, rfl⟩ := hp
      obtain ⟨c', hc', rfl⟩ := hu
      rw [hc] at hc'; cases hc'
      exact .t (.v rfl)
    · obtain ⟨_, _, rfl⟩ := List.mem_map.1 hu; rfl
  · cases h
def copyR (E : Env P) (hg : Nat → Option RB) (n : Nat) (t : TypeId) (p q : PV) : Option OR := match (E.tyAt t).map TyE.d with
  | some (.slice et) => match E.tyAt et, cntV E 0 q with
    | some y, some m => match p with
      | .ref b e off len _ => match hg b with
        | some (.c sz cs dv bt) =>
          let k := Nat.min m len
          match srcQ hg y.sz k q with
          | some ps => bif Nat.beq e y.sz && Nat.ble (off * e + k * e) sz then some ⟨.t (.v (.int .i64 k)), [(b, some (.c sz (cs.puts (off * e) ps) dv bt))], n⟩ else none
          | none => none
        | _ => none
      | _ => none
    | _, _ => none
  | _ => none
theorem copyR_ok {o : Oper} {n : Nat} {t tx : TypeId} {x y : Operand} {p q : PV} {r : OR} (ho : o.op = .call ⟨.builtin .copy, #[x, y], #[t, tx]⟩) (hx : s.ev x = p) (hy : s.ev y = q) (hk : HK hg s) (hn : s.n = n) (hN : ∀ t, o.dst = some t → t < s.N) (h : copyR E hg n t p q = some r) :
    TriO P o (Is (s.aft o.dst r)) s := by
  unfold copyR at h
  split at h
  · rename_i et hd
    obtain ⟨_, _, _, ht⟩ := tyAt_d hd
    split at h
    · rename_i ye m hye hm
      have he := E.tyAt_ok hye
      split at h
      · rename_i b e off len cap
        split at h
        · rename_i sz cs dv bt hb
          simp only at h
          split at h
          · rename_i ps hps
            obtain ⟨hc, h⟩ := bif_some h
            cases h
            simp only [Bool.and_eq_true, Nat.ble_eq] at hc
            obtain ⟨c1, c2⟩ := hc
            have c1 := Nat.eq_of_beq_eq_true c1
            subst c1
            have hsrc := srcQ_ok (P := P) hy hk hm hps
            subst hn
            refine .genA hN (fun B0 w0 φ0 F0 F φ a w hs => ?_)
            obtain ⟨news, n1, n2, n3, n4, n5, n6⟩ := hsrc B0 w0 φ0 F0 F φ a w hs
            have hv := hx ▸ hs.ev x
            generalize hq : a.eval x = v at hv
            cases hv with
            | @ref _ _ _ _ _ B C c hφ k1 k2 k3 =>
              obtain ⟨B', vs, hl⟩ := hs.heap b _ (hk b _ hb)
              have e1 := hl.at_; rw [hφ] at e1; cases e1
              obtain ⟨vs', t', q1, q0, q2, q3, q4⟩ := cells_at hs hk hb hφ
              obtain ⟨t2, q1'⟩ := hl.cells rfl
              rw [q1] at q1'; cases q1'
              have hin : off * ye.sz + news.length ≤ vs.size := by omega
              have hF : ∀ x u, F x = some u → x.block ≠ B := by cases hl.reads with | obj hn hr hF => exact hF
              have hupd := hs.upd (k' := (RB.c sz (cs.puts (off * ye.sz) ps) dv bt).blk) (hk _ _ hb) hl (take_put hin) (.obj (by rw [take_put hin, Tr.gets_len]; exact q2) (fun i p hp => by
                rw [Tr.gets_get] at hp
                split at hp
                · rename_i hi
                  cases hp
                  rw [Nat.zero_add]
                  exact get_put hin n3 q4 n5 i (.inl hi)
                · cases hp) hF) (fun x u e1 e2 => absurd e2 (hF x u e1)) (fun t e => e) rfl rfl
              refine ⟨.int .i64 (Nat.min m len), _, F, φ, ?_, hupd, .t (.v rfl)⟩
              have hst := run_storeCells_at (P := P) B (off * ye.sz) t' news 0 vs w q1 (by omega) n6
              simp only [Nat.add_zero] at hst
              have hrun : (Builtin.copy_ #[t, tx] o.type #[.slice (some ⟨B, off * ye.sz, none⟩) len c, a.eval y]).run P w = .ok (goInt (Nat.min m len)) (w.setRow B (vs.toList.take (off * ye.sz) ++ news ++ vs.toList.drop (off * ye.sz + news.length)).toArray) := by
                simp [Builtin.copy_, ht.under, n1, he.sizeOf, n2, hst]
              simp only [execOp, ho, resolve, invoke, builtin, List.map_toArray, List.map_cons, List.map_nil, hq, Sem.run_bind, Sem.run_pure, Result.andThen_ok, hrun]
              rfl
          · cases h
        · cases h
      · cases h
    · cases h
  · cases h
end
end
end Go.Proofs.YtldelbknkkeniaaGreatDoor.E

/- The engine runs closed code: delete. -/
namespace Go.Proofs.YtldelbknkkeniaaGreatDoor.E
open Go Go.RowKit
set_option linter.unusedVariables false
set_option linter.unusedSimpArgs false
variable {P : Program}
noncomputable section
section
variable {E : Env P} {d ty : Nat} {pos : String} {af : Array Edge} {g : Option (Nat × Bool)} {s : St} {hg : Nat → Option RB}
def delR (E : Env P) (hg : Nat → Option RB) (n : Nat) (t : TypeId) (p q : PV) : Option OR := match (E.tyAt t).map TyE.d, valK q, p with
  | some (.map kt _), some k, .mp b => match (E.tyAt kt).map TyE.d, hg b with
    | some kd, some (.m es) => bif kindK kd k then
        (match findM k es 0 with
        | some (some (i, _)) => some ⟨.undef, [(b, some (.m (es.eraseIdx i)))], n⟩
        | some none => some ⟨.undef, [(b, some (.m es))], n⟩
        | none => none) else none
    | _, _ => none
  | _, _, _ => none
theorem delR_ok {o : Oper} {n : Nat} {t tx : TypeId} {x y : Operand} {p q : PV} {r : OR} (ho : o.op = .call ⟨.builtin .delete, #[x, y], #[t, tx]⟩) (hx : EvH True s x p) (hy : EvH True s y q) (hk : HK hg s) (hn : s.n = n) (hN : ∀ t, o.dst = some t → t < s.N) (h : delR E hg n t p q = some r) :
    TriO P o (Is (s.aft o.dst r)) s := by
  refine .genA hN (fun B0 w0 φ0 F0 F φ a w hs => ?_)
  unfold delR at h
  split at h
  · rename_i kt et k b hd hkk
    obtain ⟨_, _, _, ht⟩ := tyAt_d hd
    split at h
    · rename_i kd es hkd hb
      obtain ⟨_, _, _, hkt⟩ := tyAt_d hkd
      obtain ⟨hc, h9⟩ := bif_some h
      clear h
      have hqv : a.eval y = k := by
        unfold valK at hkk
        split at hkk
        · cases hkk; exact (evv trivial hs hy).1
        · cases hkk
      have hv := hx.vr trivial hs
      generalize hxe : a.eval x = u at hv
      have ck : ∀ em w, (Instr.checkKey em 10000 kt k).run P w = .ok () w := fun em w => MapKept.run_checkKey hkt.und (kindK_is hc) em 9999
      cases hv with
      | @mp _ B S hφ =>
        obtain ⟨ents, clock, cs, k1, k2, k3, k4, k5⟩ := map_at hs hk hb hφ
        split at h9
        · rename_i i pv hf
          cases h9
          obtain ⟨j', e, q1, q2, q3, q4, q5, q6⟩ := findM_ok (F := F) (φ := φ) hc es ents.toList 0 _ (by simpa using k2) (fun j e x g1 g2 => k3 j e x (by simpa using g1) g2) hf
          rw [Nat.zero_add] at q1
          subst q1
          have hil : i < ents.size := by omega
          have hrun : (Builtin.delete_ #[t, tx] o.type #[.map (some B), k]).run P w = .ok (.tuple #[]) { w with heap := w.heap.setIfInBounds B (.map (ents.eraseIdxIfInBounds i) clock) } := by
            simp [Builtin.delete_, ht.under, MapKept.run_getObj_map k1, ck, MapKept.run_findKey hkt.und q3, MapKept.run_setObj_map _ k1]
          have := hs.setMap (es' := es.eraseIdx i) (ents := ents.eraseIdxIfInBounds i) (clock := clock) (hk b _ hb) k4 rfl (by
            rw [Array.eraseIdxIfInBounds, dif_pos hil]; simp [List.length_eraseIdx, k2]; omega) (fun j e' x' g1 g2 => by
            rw [Array.eraseIdxIfInBounds, dif_pos hil, ← Array.getElem?_toList, Array.toList_eraseIdx, List.getElem?_eraseIdx] at g1
            rw [List.getElem?_eraseIdx] at g2
            split at g1
            · rename_i hj; rw [if_pos hj] at g2; exact k3 j e' x' (by simpa using g1) g2
            · rename_i hj; rw [if_neg hj] at g2; exact k3 (j + 1) e' x' (by simpa using g1) g2)
          subst hn
          refine ⟨.tuple #[], _, F, φ, ?_, this, .undef _⟩
          simp only [execOp, ho, resolve, invoke, builtin, List.map_toArray, List.map_cons, List.map_nil, hxe, hqv, Sem.run_bind, Sem.run_pure, Result.andThen_ok, hrun]
        · rename_i hf
          cases h9
          have hfn := findM_ok (F := F) (φ := φ) hc es ents.toList 0 _ (by simpa using k2) (fun j e x g1 g2 => k3 j e x (by simpa using g1) g2) hf
          simp only at hfn
          have hrun : (Builtin.delete_ #[t, tx] o.type #[.map (some B), k]).run P w = .ok (.tuple #[]) { w with heap := w.heap.setIfInBounds B (.map ents clock) } := by
            simp [Builtin.delete_, ht.under, MapKept.run_getObj_map k1, ck, MapKept.run_findKey hkt.und hfn, MapKept.run_setObj_map _ k1]
          have := hs.setMap (es' := es) (ents := ents) (clock := clock) (hk b _ hb) k4 rfl k2 k3
          subst hn
          refine ⟨.tuple #[], _, F, φ, ?_, this, .undef _⟩
          simp only [execOp, ho, resolve, invoke, builtin, List.map_toArray, List.map_cons, List.map_nil, hxe, hqv, Sem.run_bind, Sem.run_pure, Result.andThen_ok, hrun]
        · cases h9
    · cases h
  · cases h
end
end
end Go.Proofs.YtldelbknkkeniaaGreatDoor.E

/- The engine runs closed code: pointers that are turned, functions of the model, strings over bytes. -/
namespace Go.Proofs.YtldelbknkkeniaaGreatDoor.E
open Go Go.RowKit
set_option linter.unusedVariables false
set_option linter.unusedSimpArgs false
variable {P : Program}
noncomputable section
section
variable {E : Env P} {d ty : Nat} {pos : String} {af : Array Edge} {g : Option (Nat × Bool)} {s : St} {hg : Nat → Option RB}
theorem liesAt_self {e : TypeId} (count : Nat) (hc : P.cellsOf e ≠ 0) (hn : 1 ≤ count) : liesAt P P.depth e count 0 e 1 = true := by
  have hd : P.depth = (2 * (P.types.size + Made.depth) + 1) + 1 := rfl
  rw [hd]
  simp only [liesAt, Bool.or_eq_true]
  left
  rw [hd]
  simp [rowAt, hc, hn, sameLayout]
theorem TyIs.cellsOf {t : TypeId} {d : TypeDesc} {sz bytes : Nat} {z : Value} (h : TyIs P t d sz bytes z) : P.cellsOf t = sz := by
  obtain ⟨i, h1, h2, h3, h4⟩ := h.inf
  simp [Program.cellsOf, h1, h3]
/-- Pointers that are turned. -/
def ptrV (E : Env P) (hg : Nat → Option RB) (src dst : TypeId) (p : PV) : Option PV := match E.tyAt src, E.tyAt dst with
  | some ys, some yd => match ys.d, yd.d, p with
    | .pointer t, .unsafePointer, .ptr b o => match E.tyAt t, hg b with
      | some yt, some (.c sz _ _ _) => bif Nat.blt o sz && !Nat.beq yt.sz 0 then some (.ptr b o) else none
      | _, _ => none
    | .unsafePointer, .pointer u, .ptr b 0 => match E.tyAt u, hg b with
      | some yu, some (.c sz _ _ (some e)) => bif Nat.beq e u && !Nat.beq yu.sz 0 && Nat.ble yu.sz sz then some (.ptr b 0) else none
      | _, _ => none
    | _, _, _ => none
  | _, _ => none
theorem ptrV_ok {src dst : TypeId} {x : Operand} {p q : PV} (hx : EvH True s x p) (hk : HK hg s) (h : ptrV E hg src dst p = some q) : PO P True ⟨some d, .convert src dst x, ty, pos, af, g⟩ s q := by
  unfold ptrV at h
  split at h
  · rename_i ys yd h1 h2
    have hs1 := E.tyAt_ok h1
    have hd1 := E.tyAt_ok h2
    split at h
    · rename_i t b o e1 e2
      rw [e1] at hs1
      rw [e2] at hd1
      split at h
      · rename_i yt sz cs dv bt ht hb
        obtain ⟨hc, h9⟩ := bif_some h
        cases h9
        simp only [Bool.and_eq_true, Nat.blt_eq, Bool.not_eq_true'] at hc
        obtain ⟨j, j1, j2, j3, j4⟩ := (E.tyAt_ok ht).inf
        have hne := Nat.ne_of_beq_eq_false hc.2
        intro hH B0 w0 φ0 F0 F φ a w hs
        have hv := hx.vr hH hs
        generalize hq : a.eval x = v at hv
        cases hv with
        | @ptr _ _ B S hφ =>
          obtain ⟨vs, t', q1, q0, q2, q3, q4⟩ := cells_at hs hk hb hφ
          refine ⟨_, ?_, .ptr hφ⟩
          have hr := Lib.run_to_unsafe (P := P) w (src := src) (dst := dst) (e := t') (cells := vs.size) ⟨B, o, none⟩ hs1.und hd1.und j1 (by rw [j3]; exact hne) (by simp [World.shape?, q1]) (by show o < vs.size; omega)
          simp only [execOp, hq, Sem.run_bind, hr, Result.andThen_ok]; rfl
      · cases h
    · rename_i u b e1 e2
      rw [e1] at hs1
      rw [e2] at hd1
      split at h
      · rename_i yu sz cs dv e hu hb
        obtain ⟨hc, h9⟩ := bif_some h
        cases h9
        simp only [Bool.and_eq_true, Nat.ble_eq, Bool.not_eq_true'] at hc
        obtain ⟨⟨c1, c2⟩, c3⟩ := hc
        have c1 := Nat.eq_of_beq_eq_true c1
        subst c1
        have hne := Nat.ne_of_beq_eq_false c2
        have hu1 := E.tyAt_ok hu
        obtain ⟨j, j1, j2, j3, j4⟩ := hu1.inf
        intro hH B0 w0 φ0 F0 F φ a w hs
        have hv := hx.vr hH hs
        generalize hq : a.eval x = v at hv
        cases hv with
        | @ptr _ _ B S hφ =>
          obtain ⟨vs, t', q1, q0, q2, q3, q4⟩ := cells_at hs hk hb hφ
          have := q0 _ rfl
          subst this
          refine ⟨_, ?_, .ptr hφ⟩
          have hr := Lib.run_from_unsafe (P := P) w (src := src) (dst := dst) (e := e) (cells := vs.size) ⟨B, 0, none⟩ hs1.und hd1.und j1 (by simp [World.shape?, q1]) (by
            refine liesAt_self _ (by rw [hu1.cellsOf]; exact hne) ?_
            rw [hu1.cellsOf]
            exact (Nat.le_div_iff_mul_le (by omega)).2 (by omega))
          simp only [execOp, hq, Sem.run_bind, hr, Result.andThen_ok]; rfl
      · cases h
    · cases h
  · cases h
/-- Floats. -/
def floV (E : Env P) (src dst : TypeId) (p : PV) : Option PV := match E.tyAt src, E.tyAt dst with
  | some _, some yd => match yd.d, p with
    | .float k, .t (.v (.int _ n)) => some (.t (.v (.float k (floatOfInt k n))))
    | .int q, .t (.v (.float k u)) => match floatToIntVal k u q with
      | some n => some (.t (.v (.int q n)))
      | none => none
    | _, _ => none
  | _, _ => none
theorem floV_ok {src dst : TypeId} {x : Operand} {p q : PV} (hx : EvH True s x p) (h : floV E src dst p = some q) : PO P True ⟨some d, .convert src dst x, ty, pos, af, g⟩ s q := by
  unfold floV at h
  split at h
  · rename_i ys yd h1 h2
    have hs1 := E.tyAt_ok h1
    have hd1 := E.tyAt_ok h2
    split at h
    · rename_i k _ n hd
      rw [hd] at hd1
      cases h
      exact PO.i2f hx
    · rename_i q1 k u hd
      rw [hd] at hd1
      split at h
      · rename_i n hn
        cases h
        exact PO.f2i hx (fun _ => hn)
      · cases h
    · cases h
  · cases h
def cpxV (b : Bool) (p : PV) : Option PV := match p with
  | .t (.v (.complex k re im)) => some (.t (.v (.float k (bif b then re else im))))
  | _ => none
theorem cpxV_ok {b : Bool} {t : TypeId} {x : Operand} {p q : PV} (hx : EvH True s x p) (h : cpxV b p = some q) : PO P True ⟨some d, .call ⟨.builtin (bif b then .real else .imag), #[x], #[t]⟩, ty, pos, af, g⟩ s q := by
  unfold cpxV at h
  split at h
  · cases h
    cases b with
    | true => exact PO.real hx
    | false => exact PO.imag hx
  · cases h
def mkcV (p q : PV) : Option PV := match p, q with
  | .t (.v (.float k re)), .t (.v (.float k' im)) => if k = k' then some (.t (.v (.complex k re im))) else none
  | _, _ => none
theorem mkcV_ok {t t' : TypeId} {x y : Operand} {p q r : PV} (hx : EvH True s x p) (hy : EvH True s y q) (h : mkcV p q = some r) : PO P True ⟨some d, .call ⟨.builtin .complex, #[x, y], #[t, t']⟩, ty, pos, af, g⟩ s r := by
  unfold mkcV at h
  split at h
  · split at h
    · rename_i hk
      subst hk
      cases h
      exact PO.cplx hx hy
    · cases h
  · cases h
def conv2 (E : Env P) (hg : Nat → Option RB) (src dst : TypeId) (p : PV) : Option PV := match convV E hg src dst p with
  | some q => some q
  | none => match ptrV E hg src dst p with
    | some q => some q
    | none => floV E src dst p
theorem conv2_ok {src dst : TypeId} {x : Operand} {p q : PV} (hx : EvH True s x p) (hk : HK hg s) (h : conv2 E hg src dst p = some q) : PO P True ⟨some d, .convert src dst x, ty, pos, af, g⟩ s q := by
  unfold conv2 at h
  split at h
  · rename_i q' hq; cases h; exact convV_ok hx hk hq
  · split at h
    · rename_i q' hq; cases h; exact ptrV_ok hx hk hq
    · exact floV_ok hx h
/-- A function of the model that gives a value. -/
def xtV (E : Env P) (tm : Tr PV) (f : FuncId) (xs : Array Operand) : Option PV := match allK tm xs.toList with
  | some ps => E.semX f ps
  | none => none
theorem xt_ok {tm : Tr PV} {n : Nat} {f : FuncId} {xs : Array Operand} {ts : Array TypeId} {p : PV} (K : Kn tm hg n ⟨some d, .call ⟨.value (.func f), xs, ts⟩, ty, pos, af, g⟩ s) (h : xtV E tm f xs = some p) : PO P True ⟨some d, .call ⟨.value (.func f), xs, ts⟩, ty, pos, af, g⟩ s p := by
  unfold xtV at h
  split at h
  · rename_i ps hps
    have e := allK_ok (s := s) (fun x hx => K.ev x (by simp only [Op.operands, Call.operands, Array.toList_append, List.mem_append]; exact .inr hx)) hps
    intro hH B0 w0 φ0 F0 F φ a w hs
    obtain ⟨h1, h2⟩ := vrs_of hs xs
    rw [e] at h1 h2
    obtain ⟨v, hv1, hv2⟩ := E.semX_ok h h1 h2 w
    refine ⟨v, ?_, hv2⟩
    have hfv : a.eval (.func f) = .func (.func f) #[] #[] := rfl
    simp only [execOp, resolve, hfv, Deferred.ofValue, Sem.run_bind, Sem.run_pure, Result.andThen_ok, invoke, Array.append_empty, Array.empty_append]
    exact hv1
  · cases h
/-! ### cuts with a bound for what is behind -/
def natV (tm : Tr PV) (x : Operand) : Option Nat := match evK tm x with
  | some (.t (.v (.int _ i))) => bif decide (0 ≤ i) then some i.toNat else none
  | _ => none
theorem natV_ok {tm : Tr PV} {x : Operand} {n : Nat} (he : ∀ p, evK tm x = some p → s.ev x = p) (h : natV tm x = some n) : ∃ q i, EvH True s x (.t (.v (.int q i))) ∧ 0 ≤ i ∧ n = i.toNat := by
  unfold natV at h
  split at h
  · rename_i q i hx
    obtain ⟨hc, h⟩ := bif_some h
    cases h
    exact ⟨q, i, .of (he _ hx) rfl, of_decide_eq_true hc, rfl⟩
  · cases h
def lowV (tm : Tr PV) : Option Operand → Option Nat
  | none => some 0
  | some x => natV tm x
def cut3V (E : Env P) (tm : Tr PV) (t : TypeId) (lo : Option Operand) (hi mx : Operand) (p : PV) : Option PV := match p with
  | .ref b e off len cap => match (E.tyAt t).map TyE.d, lowV tm lo, natV tm hi, natV tm mx with
    | some (.slice et), some l, some k, some m => match E.tyAt et with
      | some y => bif Nat.beq e y.sz && Nat.ble l k && Nat.ble k m && Nat.ble m cap && Nat.blt l m then some (.ref b e (off + l) (k - l) (m - l)) else none
      | none => none
    | _, _, _, _ => none
  | _ => none
theorem bound_run {B0 : Fr} {w0 : World} {φ0 : Phi} {F0 : FMem} {F : FMem} {φ : Phi} {a : Act} {w : World} (hs : Sim B0 w0 φ0 F0 s F φ a w) {x : Operand} {n m : Nat} (code : BoundsCode) (h : ∃ q i, EvH True s x (.t (.v (.int q i))) ∧ 0 ≤ i ∧ n = i.toNat) (hm : n ≤ m) : (Instr.sliceBound (a.eval x) m code).run P w = .ok n w := by
  obtain ⟨q, i, hx, h0, rfl⟩ := h
  have := (evv trivial hs hx).1
  simp only [Instr.sliceBound, this, asIntOf, Sem.run_bind, Sem.run_pure, Result.andThen_ok]
  rw [if_pos ⟨h0, by omega⟩]; rfl
theorem cut3V_ok {tm : Tr PV} {n : Nat} {t : TypeId} {x hi mx : Operand} {lo : Option Operand} {p q : PV} (K : Kn tm hg n ⟨some d, .slice t x lo (some hi) (some mx), ty, pos, af, g⟩ s) (hx : EvH True s x p) (h : cut3V E tm t lo hi mx p = some q) :
    PO P True ⟨some d, .slice t x lo (some hi) (some mx), ty, pos, af, g⟩ s q := by
  unfold cut3V at h
  split at h
  · rename_i b e off len cap
    split at h
    · rename_i et l k m hd h1 h2 h3
      obtain ⟨_, _, _, ht⟩ := tyAt_d hd
      split at h
      · rename_i y hy
        have he := E.tyAt_ok hy
        obtain ⟨hc, h⟩ := bif_some h
        cases h
        simp only [Bool.and_eq_true, Nat.ble_eq, Nat.blt_eq] at hc
        obtain ⟨⟨⟨⟨c0, c1⟩, c2⟩, c3⟩, c4⟩ := hc
        have c0 := Nat.eq_of_beq_eq_true c0
        subst c0
        have n2 := natV_ok (s := s) (fun p hp => K.ev hi (by simp [Op.operands]) p hp) h2
        have n3 := natV_ok (s := s) (fun p hp => K.ev mx (by simp [Op.operands]) p hp) h3
        intro hH B0 w0 φ0 F0 F φ a w hs
        have hv := hx.vr hH hs
        generalize hq : a.eval x = v at hv
        cases hv with
        | @ref _ _ _ _ _ B sz' c hφ k1 k2 k3 =>
          have hb : (Instr.sliceBounds true len c (lo.map a.eval) (some (a.eval hi)) (some (a.eval mx))).run P w = .ok (l, k, m) w := by
            cases lo with
            | none =>
              have : l = 0 := by simpa [lowV] using h1.symm
              subst this
              simp [Instr.sliceBounds, bound_run hs _ n3 (show m ≤ c by omega), bound_run hs _ n2 c2]
            | some z =>
              have n1 := natV_ok (s := s) (fun p hp => K.ev z (by simp [Op.operands]) p hp) h1
              simp [Instr.sliceBounds, bound_run hs _ n3 (show m ≤ c by omega), bound_run hs _ n2 c2, bound_run hs _ n1 c1]
          refine ⟨.slice (some ⟨B, (off + l) * y.sz, none⟩) (k - l) (m - l), ?_, .ref hφ (by omega) (by omega) ?_⟩
          · simp only [execOp, hq, Instr.sliceAt, Instr.slice, Sem.run_bind, ht.under, Result.andThen_ok, Option.map_some]
            rw [hb]
            simp only [Result.andThen_ok, he.sizeOf, Sem.run_pure, Sem.run_bind]
            rw [if_neg (by omega)]
            simp only [Option.map_some, Addr.add_mid, Nat.add_mul]
          · have : (off + l) * y.sz + (m - l) * y.sz = off * y.sz + m * y.sz := by rw [← Nat.add_mul, ← Nat.add_mul]; congr 1; omega
            have := Nat.mul_le_mul_right y.sz (show m ≤ c by omega)
            omega
      · cases h
    · cases h
  · cases h
/-! ### a string's bytes -/
def s2bV (E : Env P) (src dst : TypeId) (p : PV) : Option PV := match p with
  | .t (.v (.string b)) => match (E.tyAt src).map TyE.d, (E.tyAt dst).map TyE.d with
    | some .string, some (.slice et) => match (E.tyAt et).map TyE.d with
      | some (.int .u8) => some (.t (.sl false ((bs b).map tByte)))
      | _ => none
    | _, _ => none
  | _ => none
theorem s2bV_ok {n : Nat} {src dst : TypeId} {x : Operand} {p q : PV} (hx : EvH True s x p) (hn : s.n = n) (hN : Nat.blt d s.N = true) (h : s2bV E src dst p = some q) : TriO P ⟨some d, .convert src dst x, ty, pos, af, g⟩ (Is (s.aft (some d) ⟨q, [], n⟩)) s := by
  subst hn
  unfold s2bV at h
  split at h
  · rename_i b
    split at h
    · rename_i et h1 h2
      obtain ⟨_, _, _, hs1⟩ := tyAt_d h1
      obtain ⟨_, _, _, hd1⟩ := tyAt_d h2
      split at h
      · rename_i h3
        obtain ⟨_, _, _, he1⟩ := tyAt_d h3
        cases h
        exact TriO.vo (o := ⟨some d, .convert src dst x, ty, pos, af, g⟩) rfl hN (VO.s2b hx) rfl
      · cases h
    · cases h
  · cases h
/-! ### zeros, appended to nothing -/
theorem run_append_zeros {t tx et : TypeId} {i : TypeInfo} {z : Value} {k : IntKind} (w : World) (ty : TypeId) (ht : P.underlying t = some (.slice et)) (hx : P.underlying tx = some (.int k)) (hi : P.info? et = some i) (hz : i.zero = some z) (m : Nat) (h0 : 0 < m) (hsz : i.size ≠ 0)
    (hm : (m : Int) ≤ 4611686018427387904) (hb : m * i.bytes ≤ 70368744177664) :
    (Builtin.append_ #[t, tx] ty #[.slice none 0 0, .int .i64 m]).run P w =
      .ok (.slice (some ⟨w.heap.size, 0, none⟩) m (grownCap w m 0 et)) (w.drew.alloc (.cells (Builtin.zeroCells z.cells m ++ Builtin.zeroCells z.cells (grownCap w m 0 et - m)) et)) := by
  have hw : IntKind.i64.wrap (m : Int) = m := IntWalk.i64_in _ ⟨by omega, by omega⟩
  have hneg : ¬ (m : Int) < 0 := by omega
  have hcap := nextcap_le (n := 0 + m) (c := 0) (by omega)
  have h1 : ¬ (281474976710656 < (m : Int) * (i.bytes : Int)) := by
    have : ((m * i.bytes : Nat) : Int) ≤ ((70368744177664 : Nat) : Int) := Int.ofNat_le.2 hb
    rw [Int.natCast_mul] at this
    omega
  have h2 : ¬ (281474976710656 < Builtin.nextslicecap m 0 * i.bytes) := by
    have := Nat.mul_le_mul_right i.bytes hcap
    have e3 : 2 * (0 + m) * i.bytes = 2 * (m * i.bytes) := by rw [Nat.zero_add, Nat.mul_assoc]
    simp only [Nat.zero_add] at this e3
    omega
  have h3 : ¬ (9223372036854775807 < (m : Int)) := by omega
  have h4 : m ≠ 0 := by omega
  have h5 : Builtin.firstCells i.size 0 (.slice none 0 0) = pure #[] := rfl
  simp [Builtin.append_, run_underlying ht, run_underlying hx, sizeOf, typeInfo, zeroValue, hi, hz, asInt, asIntOf, hw, hneg, h1, h2, h3, h4, h5, hsz, Question.forced, newRow, grownCap]
  intro h
  exact absurd h (Nat.mul_ne_zero h4 hsz)
theorem zeroCells_made (z : Array Value) (n : Nat) : Builtin.zeroCells z n = madeCells z (n * z.size) := rfl
def zapR (E : Env P) (n : Nat) (t tx : TypeId) (p q : PV) : Option OR := match p, q with
  | .t (.sl true []), .t (.v (.int .i64 m)) => match (E.tyAt t).map TyE.d, (E.tyAt tx).map TyE.d with
    | some (.slice et), some (.int _) => match E.tyAt et with
      | some y => bif decide (0 < m) && decide (m ≤ 4611686018427387904) && Nat.ble (m.toNat * y.bytes) 70368744177664 && !Nat.beq y.sz 0 then
          (let z := zeroT y.z y.sz m.toNat
           some ⟨.ref n y.sz 0 m.toNat m.toNat, [(n, some (.c (m.toNat * y.sz) z.1 z.2 (some et)))], n + 1⟩) else none
      | none => none
    | _, _ => none
  | _, _ => none
theorem zapR_ok {n : Nat} {t tx : TypeId} {x y : Operand} {p q : PV} {r : OR} (hx : EvH True s x p) (hy : EvH True s y q) (hn : s.n = n) (hN : Nat.blt d s.N = true) (h : zapR E n t tx p q = some r) : TriO P ⟨some d, .call ⟨.builtin .append, #[x, y], #[t, tx]⟩, ty, pos, af, g⟩ (Is (s.aft (some d) r)) s := by
  unfold zapR at h
  split at h
  · rename_i m
    split at h
    · rename_i et k hd hdx
      obtain ⟨_, _, _, ht⟩ := tyAt_d hd
      obtain ⟨_, _, _, htx⟩ := tyAt_d hdx
      split at h
      · rename_i ye hye
        have he := E.tyAt_ok hye
        obtain ⟨hc, h⟩ := bif_some h
        cases h
        simp only [Bool.and_eq_true, decide_eq_true_eq, Nat.ble_eq, Bool.not_eq_true'] at hc
        obtain ⟨⟨⟨h1, h2⟩, h3⟩, h4⟩ := hc
        have h4 := Nat.ne_of_beq_eq_false h4
        obtain ⟨i, i1, i2, i3, i4⟩ := he.inf
        refine TriO.newB (o := ⟨some d, .call ⟨.builtin .append, #[x, y], #[t, tx]⟩, ty, pos, af, g⟩) rfl hN hn fun B0 w0 φ0 F0 F φ a w hs => ?_
        have hxv : a.eval x = .slice none 0 0 := tr_nil (vrt (hx.vr trivial hs))
        have hyv : a.eval y = .int .i64 m := vrv (hy.vr trivial hs)
        have hmm : ((m.toNat : Nat) : Int) = m := by omega
        have hrun := run_append_zeros (P := P) (i := i) (z := ye.z) w ty ht.und htx.und i1 i2 m.toNat (by omega) (by rw [i3]; exact h4) (by omega) (by rw [i4]; exact h3)
        rw [hmm] at hrun
        have hge := grownCap_ge w m.toNat 0 et
        refine ⟨.slice (some ⟨w.heap.size, 0, none⟩) m.toNat (grownCap w m.toNat 0 et), Builtin.zeroCells ye.z.cells m.toNat ++ Builtin.zeroCells ye.z.cells (grownCap w m.toNat 0 et - m.toNat), et, w.drew, .inr (.inl rfl), ?_, ⟨?_, fun t' e => (by cases e; rfl), fun i hi => ?_⟩, fun ψ hψ => ?_⟩
        · simp only [execOp, resolve, invoke, builtin, List.map_toArray, List.map_cons, List.map_nil, hxv, hyv, Sem.run_bind, Sem.run_pure, Result.andThen_ok, hrun]
        · simp only [Array.size_append, zeroCells_size, he.zsz]; omega
        · obtain ⟨u, hu, hvr⟩ := zeroT_ok (F := F) (φ := φ) (z := ye.z) (n := m.toNat) he.zsz i hi
          refine ⟨u, ?_, hvr⟩
          rw [Array.getElem?_append_left (by simp only [zeroCells_size, he.zsz]; exact hi), zeroCells_made, he.zsz]
          exact hu
        · have hz : (Builtin.zeroCells ye.z.cells m.toNat ++ Builtin.zeroCells ye.z.cells (grownCap w m.toNat 0 et - m.toNat)).size = grownCap w m.toNat 0 et * ye.sz := by
            simp only [Array.size_append, zeroCells_size, he.zsz]
            rw [← Nat.add_mul]; congr 1; omega
          have := VR.ref (F := F) (φ := ψ) (b := n) (e := ye.sz) (off := 0) (len := m.toNat) (cap := m.toNat) (B := w.heap.size) (sz := grownCap w m.toNat 0 et * ye.sz) (c := grownCap w m.toNat 0 et) (by rw [← hz]; exact hψ) (Nat.le_refl _) hge (by omega)
          simpa using this
      · cases h
    · cases h
  · cases h
def app2 (E : Env P) (hg : Nat → Option RB) (n : Nat) (t tx : TypeId) (p q : PV) : Option OR := match appR E hg n t tx p q with
  | some r => some r
  | none => zapR E n t tx p q
theorem app2_ok {n : Nat} {t tx : TypeId} {x y : Operand} {p q : PV} {r : OR} (hx : EvH True s x p) (hy : EvH True s y q) (hxe : s.ev x = p) (hye : s.ev y = q) (hk : HK hg s) (hn : s.n = n) (hN : Nat.blt d s.N = true) (h : app2 E hg n t tx p q = some r) : TriO P ⟨some d, .call ⟨.builtin .append, #[x, y], #[t, tx]⟩, ty, pos, af, g⟩ (Is (s.aft (some d) r)) s := by
  unfold app2 at h
  split at h
  · rename_i r' hr; cases h; exact appR_ok hxe hye hk hn hN hr
  · exact zapR_ok hx hy hn hN h
/-! ### a string over a row of bytes -/
theorem freeze_heap {w : World} {B n : Nat} (hn : n ≠ 0) {j : Nat} (hj : j ≠ B) : (w.freeze ⟨B, 0, none⟩ n).heap[j]? = w.heap[j]? := by
  simp only [World.freeze, if_neg hn, Array.getElem?_modify]
  rw [if_neg (by omega)]
theorem freeze_rest {w : World} {B n : Nat} : (w.freeze ⟨B, 0, none⟩ n).os = w.os ∧ (w.freeze ⟨B, 0, none⟩ n).tape = w.tape ∧ (w.freeze ⟨B, 0, none⟩ n).output = w.output ∧ (w.freeze ⟨B, 0, none⟩ n).heap.size = w.heap.size := by
  unfold World.freeze
  split
  · exact ⟨rfl, rfl, rfl, rfl⟩
  · exact ⟨rfl, rfl, rfl, by simp⟩
theorem Sim.froze {B0 : Fr} {w0 : World} {φ0 : Phi} {F0 : FMem} {F : FMem} {φ : Phi} {a : Act} {w : World} (hs : Sim B0 w0 φ0 F0 s F φ a w) {b : Nat} {cells : List PV} {bt : Option TypeId} {B : Nat} {cs : Array Value} (hb : look b s.heap = some (.obj cells bt)) (hl : Live F φ B0 w b (.obj cells bt) B cs) {n : Nat} (hn : n ≠ 0) :
    Sim B0 w0 φ0 F0 ⟨s.tm, s.N, wipe b s.heap, s.lo, s.n⟩ F φ a (w.freeze ⟨B, 0, none⟩ n) := by
  obtain ⟨f1, f2, f3, f4⟩ := freeze_rest (w := w) (B := B) (n := n)
  have hF : ∀ a u, F a = some u → a.block ≠ B := by
    cases hl.reads with
    | obj _ _ h => exact h
  have hkeep : ∀ b2 k2, look b2 (wipe b s.heap) = some k2 → b2 ≠ b ∧ look b2 s.heap = some k2 := by
    intro b2 k2 h
    rw [look_wipe] at h
    split at h
    · cases h
    · exact ⟨‹_›, h⟩
  refine { below := hs.below.trans ⟨f1, f2, f3, by omega, fun k hk => freeze_heap hn (fun e => hl.old (e ▸ hk))⟩, base := hs.base, fok := hs.fok.grow (FMem.le_refl _) (fun x u e => ?_) (fun g j u m e1 _ h2 => szW_block (freeze_heap hn (hF ⟨g, j, none⟩ u e1)) h2), fle := hs.fle, fnew := hs.fnew, phi0 := hs.phi0, lo := hs.lo, fresh := hs.fresh, size := hs.size, defers := hs.defers, tm := hs.tm, heap := fun b2 k2 h2 => ?_, inj := fun b1 b2 k1 k2 C sz sz' h1 h2 h3 h4 => hs.inj b1 b2 k1 k2 C sz sz' (hkeep _ _ h1).2 (hkeep _ _ h2).2 h3 h4 }
  · obtain ⟨g1, g2⟩ := hs.fok x u e
    refine ⟨?_, g2⟩
    unfold World.cell? at g1 ⊢
    rw [freeze_heap hn (hF x u e)]
    exact g1
  · obtain ⟨n1, n2⟩ := hkeep b2 k2 h2
    obtain ⟨B2, cs2, hl2⟩ := hs.heap b2 k2 n2
    have hne : B2 ≠ B := fun e => n1 (by subst e; exact hs.inj b2 b k2 _ B2 _ _ n2 hb hl2.at_ hl.at_)
    exact ⟨B2, cs2, hl2.to (freeze_heap hn hne) hl2.at_ hl2.old (FMem.le_refl _) (Phi.le_refl _) hl2.reads⟩
def usR (E : Env P) (hg : Nat → Option RB) (n : Nat) (pt : TypeId) (p q : PV) : Option OR := match q with
  | .t (.v (.int .i64 m)) => match p with
    | .t (.v (.pointer none)) => bif decide (m = 0) then some ⟨str [], [], n⟩ else none
    | .ptr b 0 => bif decide (m = 0) then some ⟨str [], [], n⟩ else match (E.tyAt pt).map TyE.d, hg b with
      | some (.pointer e), some (.c sz cs dv (some e')) => match E.tyAt e with
        | some ye => bif Nat.beq e e' && Nat.beq ye.sz 1 && decide (0 ≤ m) && Nat.ble m.toNat sz && decide (m ≤ 9223372036854775807) then
            (match bytesL (cs.gets dv 0 m.toNat) with
            | some l => some ⟨str l, [(b, none)], n⟩
            | none => none) else none
        | none => none
      | _, _ => none
    | _ => none
  | _ => none
theorem usR_ok {n : Nat} {pt it : TypeId} {x y : Operand} {p q : PV} {r : OR} (hx : EvH True s x p) (hy : EvH True s y q) (hk : HK hg s) (hn : s.n = n) (hN : ∀ t, (some d : Option Nat) = some t → t < s.N) (h : usR E hg n pt p q = some r) :
    TriO P ⟨some d, .call ⟨.builtin .unsafeString, #[x, y], #[pt, it]⟩, ty, pos, af, g⟩ (Is (s.aft (some d) r)) s := by
  subst hn
  unfold usR at h
  split at h
  · rename_i m
    refine TriO.genA (o := ⟨some d, .call ⟨.builtin .unsafeString, #[x, y], #[pt, it]⟩, ty, pos, af, g⟩) hN fun B0 w0 φ0 F0 F φ a w hs => ?_
    have hyv : a.eval y = .int .i64 m := vrv (hy.vr trivial hs)
    have fin : ∀ {v w'}, (Builtin.unsafeString_ #[pt, it] ty #[a.eval x, .int .i64 m]).run P w = .ok v w' → (execOp a.eval ⟨some d, .call ⟨.builtin .unsafeString, #[x, y], #[pt, it]⟩, ty, pos, af, g⟩).run P w = .ok (.value v) w' := by
      intro v w' hr
      simp only [execOp, resolve, Sem.run_bind, Sem.run_pure, Result.andThen_ok, invoke, builtin, List.map_toArray, List.map_cons, List.map_nil, hyv]
      rw [hr]; rfl
    split at h
    · obtain ⟨hm, h9⟩ := bif_some h
      cases h9
      have hm := of_decide_eq_true hm
      subst hm
      have hxv := vrv (hx.vr trivial hs)
      refine ⟨_, w, F, φ, fin (by rw [hxv]; exact Lib.run_unsafeString_none w pt it ty none), hs, .t (.v rfl)⟩
    · rename_i b
      have hv := hx.vr trivial hs
      generalize hq : a.eval x = v at hv fin
      cases hv with
      | @ptr _ _ B S hφ =>
        cases hm : decide (m = 0) with
        | true =>
          rw [hm] at h; cases h
          have hm := of_decide_eq_true hm
          subst hm
          exact ⟨_, w, F, φ, fin (Lib.run_unsafeString_none w pt it ty _), hs, .t (.v rfl)⟩
        | false =>
          rw [hm, cond_false] at h
          split at h
          · rename_i e sz cs dv e' hpt hb
            obtain ⟨_, _, _, hpt⟩ := tyAt_d hpt
            split at h
            · rename_i ye hye
              obtain ⟨hc, h9⟩ := bif_some h
              clear h
              simp only [Bool.and_eq_true, Nat.ble_eq, decide_eq_true_eq] at hc
              obtain ⟨⟨⟨⟨c1, c2⟩, c3⟩, c4⟩, c5⟩ := hc
              have c1 := Nat.eq_of_beq_eq_true c1
              have c2 := Nat.eq_of_beq_eq_true c2
              subst c1
              split at h9
              · rename_i l hl
                cases h9
                obtain ⟨g1, g2⟩ := bytesL_get hl
                rw [Tr.gets_len] at g1
                obtain ⟨vs, t', q1, q0, q2, q3, q4⟩ := cells_at hs hk hb hφ
                have := q0 _ rfl
                subst this
                have hml : m = (l.length : Int) := by omega
                have hm0 : m ≠ 0 := of_decide_eq_false hm
                have hcells : P.cellsOf e = 1 := by rw [(E.tyAt_ok hye).cellsOf]; exact c2
                have hrow := Lib.run_unsafeString_row (P := P) w pt it ty e hpt.und hcells B vs.size (by simp [World.shape?, q1]) l (fun e => hm0 (by rw [hml, e]; rfl)) (by omega) (by omega) (fun j x hj => by
                  have hjl := (List.getElem?_eq_some_iff.1 hj).1
                  have h3 := g2 j x hj
                  rw [Tr.gets_get, if_pos (by omega)] at h3
                  obtain ⟨u, hu, hvr⟩ := q4 (0 + j) (by omega)
                  rw [Option.some.inj h3] at hvr
                  obtain rfl := vrv hvr
                  rw [Addr.add_mid, cell_at q1]
                  simpa using hu)
                obtain ⟨B', cs', hlive⟩ := hs.heap b _ (hk b _ hb)
                have e2 := hlive.at_
                rw [hφ] at e2
                cases e2
                refine ⟨_, _, F, φ, fin (by rw [hml]; exact hrow), ?_, .t (.v rfl)⟩
                exact hs.froze (hk b _ hb) hlive (fun e => hm0 (by rw [hml, e]; rfl))
              · cases h9
            · cases h
          · cases h
    · cases h
  · cases h
end
end
end Go.Proofs.YtldelbknkkeniaaGreatDoor.E

/- The engine runs closed code: one operation that is no call of a function. -/
namespace Go.Proofs.YtldelbknkkeniaaGreatDoor.E
open Go Go.RowKit
set_option linter.unusedVariables false
set_option linter.unusedSimpArgs false
variable {P : Program}
noncomputable section
section
variable {E : Env P} {s : St} {hg : Nat → Option RB}
/-- A value of one operand, of two. -/
def on1 (tm : Tr PV) (x : Operand) (f : PV → Option PV) : Option PV := match evK tm x with
  | some p => f p
  | none => none
def on2 (tm : Tr PV) (x y : Operand) (f : PV → PV → Option PV) : Option PV := match evK tm x, evK tm y with
  | some p, some q => f p q
  | _, _ => none
/-- A cut of an array. -/
def cutA (E : Env P) (hg : Nat → Option RB) (tm : Tr PV) (t : TypeId) (lo hi : Option Operand) (p : PV) : Option PV := match p with
  | .ptr b o => match (E.tyAt t).map TyE.d, hg b with
    | some (.array m et), some (.c sz _ _ _) => match E.tyAt et, bndV tm lo 0, bndV tm hi m with
      | some y, some l, some k => bif Nat.beq y.sz 1 && Nat.ble l k && Nat.ble k m && Nat.ble (o + m) sz then (bif Nat.blt l m then some (.ref b 1 (o + l) (k - l) (m - l)) else some (.t (.sl false []))) else none
      | _, _, _ => none
    | _, _ => none
  | p => cutV E tm t lo hi p
theorem cutA_ok {d ty : Nat} {pos : String} {af : Array Edge} {g : Option (Nat × Bool)} {tm : Tr PV} {n : Nat} {t : TypeId} {x : Operand} {lo hi : Option Operand} {p q : PV} (K : Kn tm hg n ⟨some d, .slice t x lo hi none, ty, pos, af, g⟩ s) (hx : EvH True s x p) (hk : HK hg s) (h : cutA E hg tm t lo hi p = some q) :
    PO P True ⟨some d, .slice t x lo hi none, ty, pos, af, g⟩ s q := by
  have hev : ∀ y, (lo = some y ∨ hi = some y) → ∀ p, evK tm y = some p → s.ev y = p := fun y hy => K.ev y (by rcases hy with rfl | rfl <;> simp [Op.operands])
  unfold cutA at h
  split at h
  · rename_i b o
    split at h
    · rename_i m et sz cs dv bt hd hb
      obtain ⟨_, _, _, ht⟩ := tyAt_d hd
      split at h
      · rename_i y l k hy h1 h2
        have he := E.tyAt_ok hy
        obtain ⟨hc, h⟩ := bif_some h
        simp only [Bool.and_eq_true, Nat.ble_eq] at hc
        obtain ⟨⟨⟨c0, c1⟩, c2⟩, c3⟩ := hc
        have c0 := Nat.eq_of_beq_eq_true c0
        have hl := hk b _ hb
        simp only [RB.blk] at hl
        have hcut := cut_of hev h1 h2
        intro hH B0 w0 φ0 F0 F φ a w hs
        have hv := hx.vr hH hs
        generalize hqq : a.eval x = v at hv
        cases hv with
        | @ptr _ _ B szB hφ =>
          obtain ⟨B', cs', hlive⟩ := hs.heap b _ hl
          have hat := hlive.at_
          rw [hφ] at hat
          obtain ⟨rfl, hsz⟩ := Prod.mk.inj (Option.some.inj hat)
          have hle : sz ≤ szB := by
            rw [hsz]
            cases hlive.reads with
            | obj hn _ _ => rw [Tr.gets_len] at hn; exact hn
          have hr := cut_run (P := P) hH hs hcut c1 c2 false
          cases hlm : Nat.blt l m with
          | true =>
            rw [hlm, cond_true] at h; cases h
            have hlm := blt_lt hlm
            refine ⟨.slice (some ⟨B, (o + l) * 1, none⟩) (k - l) (m - l), ?_, .ref hφ (by omega) (by omega) (by omega)⟩
            simp only [execOp, hqq, Instr.sliceAt, Instr.sureAddr, Sem.run_bind, ht.under, Result.andThen_ok, Option.map_none, Sem.run_pure]
            rw [hr]
            simp only [Result.andThen_ok, he.sizeOf, Sem.run_pure, Sem.run_bind, c0]
            rw [if_neg (by omega)]
            simp only [Addr.add_mid, Nat.mul_one]
          | false =>
            rw [hlm, cond_false] at h; cases h
            have : ¬ l < m := fun e => by rw [show Nat.blt l m = true by simpa [Nat.blt_eq] using e] at hlm; cases hlm
            refine ⟨.slice (some ⟨B, o, none⟩) 0 (m - l), ?_, .t .sl0⟩
            simp only [execOp, hqq, Instr.sliceAt, Instr.sureAddr, Sem.run_bind, ht.under, Result.andThen_ok, Option.map_none, Sem.run_pure]
            rw [hr]
            simp only [Result.andThen_ok, he.sizeOf, Sem.run_pure, Sem.run_bind, c0]
            rw [if_pos (by omega), show k - l = 0 by omega]
      · cases h
    · cases h
  · exact cutV_ok K hx h
def valOp (E : Env P) (tm : Tr PV) (hg : Nat → Option RB) : Op → Option PV
  | .move x | .assign x => evK tm x
  | .pick c x y => pickV tm c x y
  | .load t x => on1 tm x (loadV E hg t)
  | .fieldAddr t x f => on1 tm x (fldV E t f)
  | .indexAddr t x y => on2 tm x y (idxV E t)
  | .field t x f => on1 tm x (partV E t f)
  | .index t x y => on2 tm x y (atV E t)
  | .extract x i => on1 tm x (extV i)
  | .nilCheck x => on1 tm x nckV
  | .binOp op t x y _ => on2 tm x y (binU E hg op t)
  | .unOp op _ x => on1 tm x (unV op)
  | .convert src dst x => on1 tm x (conv2 E hg src dst)
  | .call ⟨.value (.func f), xs, _⟩ => xtV E tm f xs
  | .slice t x lo hi none => on1 tm x (cutA E hg tm t lo hi)
  | .slice t x lo (some hi) (some mx) => on1 tm x (cut3V E tm t lo hi mx)
  | .build t parts => buildV E tm t parts
  | .makeFunc fn first caps => mkfV tm fn first caps
  | .lookup t x y ok => on2 tm x y (lookV E hg t ok)
  | .call ⟨.builtin b, ⟨[x]⟩, ts⟩ => match b with
    | .len => match ts with
      | ⟨[t]⟩ => on1 tm x (lenV E hg t)
      | _ => none
    | .cap => match ts with
      | ⟨[t]⟩ => on1 tm x (capV E t)
      | _ => none
    | .unsafeSliceData => on1 tm x dataV
    | .real => match ts with
      | ⟨[_]⟩ => on1 tm x (cpxV true)
      | _ => none
    | .imag => match ts with
      | ⟨[_]⟩ => on1 tm x (cpxV false)
      | _ => none
    | _ => none
  | .call ⟨.builtin b, ⟨[x, y]⟩, ⟨[_, _]⟩⟩ => match b with
    | .max => on2 tm x y (mmV true)
    | .min => on2 tm x y (mmV false)
    | .complex => on2 tm x y mkcV
    | _ => none
  | _ => none
theorem on1_ok {tm : Tr PV} {n : Nat} {o : Oper} {x : Operand} {f : PV → Option PV} {r : PV} (K : Kn tm hg n o s) (hx : x ∈ o.op.operands.toList) (h : on1 tm x f = some r) : ∃ p, f p = some r ∧ EvH True s x p ∧ s.ev x = p ∧ p.known = true := by
  unfold on1 at h
  split at h
  · rename_i p hp
    obtain ⟨h1, h2, h3⟩ := K.get hx hp
    exact ⟨p, h, h3 _, h1, h2⟩
  · cases h
theorem on2_ok {tm : Tr PV} {n : Nat} {o : Oper} {x y : Operand} {f : PV → PV → Option PV} {r : PV} (K : Kn tm hg n o s) (hx : x ∈ o.op.operands.toList) (hy : y ∈ o.op.operands.toList) (h : on2 tm x y f = some r) : ∃ p q, f p q = some r ∧ EvH True s x p ∧ EvH True s y q := by
  unfold on2 at h
  split at h
  · rename_i p q hp hq
    exact ⟨p, q, h, (K.get hx hp).2.2 _, (K.get hy hq).2.2 _⟩
  · cases h
theorem valOp_ok {tm : Tr PV} {n d ty : Nat} {pos : String} {af : Array Edge} {g : Option (Nat × Bool)} {op : Op} {r : PV} (K : Kn tm hg n ⟨some d, op, ty, pos, af, g⟩ s) (h : valOp E tm hg op = some r) : PO P True ⟨some d, op, ty, pos, af, g⟩ s r := by
  have hk : HK hg s := K.hp
  unfold valOp at h
  split at h
  · exact PO.move (.of (K.ev _ (by simp [Op.operands]) _ h) (evK_ok h).2)
  · exact PO.assign (.of (K.ev _ (by simp [Op.operands]) _ h) (evK_ok h).2)
  · exact pickV_ok K h
  · obtain ⟨p, h1, h2, _⟩ := on1_ok K (by simp [Op.operands]) h; exact loadV_ok h2 hk h1
  · obtain ⟨p, h1, h2, _⟩ := on1_ok K (by simp [Op.operands]) h; exact fldV_ok h2 h1
  · obtain ⟨p, q, h1, h2, h3⟩ := on2_ok K (by simp [Op.operands]) (by simp [Op.operands]) h; exact idxV_ok h2 h3 h1
  · obtain ⟨p, h1, h2, _⟩ := on1_ok K (by simp [Op.operands]) h; exact partV_ok h2 h1
  · obtain ⟨p, q, h1, h2, h3⟩ := on2_ok K (by simp [Op.operands]) (by simp [Op.operands]) h; exact atV_ok h2 h3 h1
  · obtain ⟨p, h1, h2, _⟩ := on1_ok K (by simp [Op.operands]) h; exact extV_ok h2 h1
  · obtain ⟨p, h1, h2, _⟩ := on1_ok K (by simp [Op.operands]) h; exact nckV_ok h2 h1
  · obtain ⟨p, q, h1, h2, h3⟩ := on2_ok K (by simp [Op.operands]) (by simp [Op.operands]) h; exact binU_ok h2 h3 hk h1
  · obtain ⟨p, h1, h2, _⟩ := on1_ok K (by simp [Op.operands]) h; exact unV_ok h2 h1
  · obtain ⟨p, h1, h2, _⟩ := on1_ok K (by simp [Op.operands]) h; exact conv2_ok h2 hk h1
  · exact xt_ok K h
  · obtain ⟨p, h1, h2, _⟩ := on1_ok K (by simp [Op.operands]) h; exact cutA_ok K h2 hk h1
  · obtain ⟨p, h1, h2, _⟩ := on1_ok K (by simp [Op.operands]) h; exact cut3V_ok K h2 h1
  · exact buildV_ok K h
  · exact mkfV_ok K h
  · obtain ⟨p, q, h1, h2, h3⟩ := on2_ok K (by simp [Op.operands]) (by simp [Op.operands]) h; exact lookV_ok h2 h3 hk h1
  · rename_i b x ts
    split at h
    · split at h
      · obtain ⟨p, h1, h2, _⟩ := on1_ok K (by simp [Op.operands, Call.operands]) h; exact lenV_ok h2 hk h1
      · cases h
    · split at h
      · obtain ⟨p, h1, h2, _⟩ := on1_ok K (by simp [Op.operands, Call.operands]) h; exact capV_ok h2 h1
      · cases h
    · obtain ⟨p, h1, h2, _⟩ := on1_ok K (by simp [Op.operands, Call.operands]) h; exact dataV_ok h2 h1
    · split at h
      · obtain ⟨p, h1, h2, _⟩ := on1_ok K (by simp [Op.operands, Call.operands]) h; exact cpxV_ok (b := true) h2 h1
      · cases h
    · split at h
      · obtain ⟨p, h1, h2, _⟩ := on1_ok K (by simp [Op.operands, Call.operands]) h; exact cpxV_ok (b := false) h2 h1
      · cases h
    · cases h
  · split at h
    · obtain ⟨p, q, h1, h2, h3⟩ := on2_ok K (by simp [Op.operands, Call.operands]) (by simp [Op.operands, Call.operands]) h; exact mmV_ok (mx := true) h2 h3 h1
    · obtain ⟨p, q, h1, h2, h3⟩ := on2_ok K (by simp [Op.operands, Call.operands]) (by simp [Op.operands, Call.operands]) h; exact mmV_ok (mx := false) h2 h3 h1
    · obtain ⟨p, q, h1, h2, h3⟩ := on2_ok K (by simp [Op.operands, Call.operands]) (by simp [Op.operands, Call.operands]) h; exact mkcV_ok h2 h3 h1
    · cases h
  · cases h
end
end
end Go.Proofs.YtldelbknkkeniaaGreatDoor.E
