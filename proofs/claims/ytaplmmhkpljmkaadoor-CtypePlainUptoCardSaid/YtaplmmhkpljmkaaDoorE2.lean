/- The engine's rules for operations that touch no memory. -/
import Derived.Test.YtaplmmhkpljmkaaDoorE1
import Derived.Laws.Cover3
import Derived.Laws.Concat
import Derived.Laws.Strings2
import Derived.Laws.Small
namespace Go.Proofs.YtaplmmhkpljmkaaDoor.E
set_option linter.unusedVariables false
set_option linter.unusedSimpArgs false
open Go Go.RowKit

/-- What a type is. -/
class TyIs (P : Program) (t : TypeId) (d : outParam TypeDesc) (sz bytes : outParam Nat) (z : outParam Value) : Prop where
  inf : ∃ i, P.info? t = some i ∧ i.zero = some z ∧ i.size = sz ∧ i.bytes = bytes
  und : P.underlying t = some d
  zsz : z.cells.size = sz

variable {P : Program}

theorem TyIs.of {t : TypeId} {d : TypeDesc} {sz bytes : Nat} {z : Value} (h : (P.info? t).map (fun i => (i.zero, i.size, i.bytes)) = some (some z, sz, bytes)) (hu : P.underlying t = some d) (hz : z.cells.size = sz) : TyIs P t d sz bytes z := by
  refine ⟨?_, hu, hz⟩
  simp only [Option.map_eq_some_iff, Prod.mk.injEq] at h
  obtain ⟨i, h1, h2, h3, h4⟩ := h
  exact ⟨i, h1, h2, h3, h4⟩
theorem TyIs.sizeOf {t : TypeId} {d : TypeDesc} {sz bytes : Nat} {z : Value} (h : TyIs P t d sz bytes z) (w : World) : (Go.sizeOf t).run P w = .ok sz w := by
  obtain ⟨i, h1, h2, h3, h4⟩ := h.inf
  simp [Go.sizeOf, typeInfo, program, Sem.run, h1, h3]
theorem TyIs.zero {t : TypeId} {d : TypeDesc} {sz bytes : Nat} {z : Value} (h : TyIs P t d sz bytes z) (w : World) : (zeroValue t).run P w = .ok z w := by
  obtain ⟨i, h1, h2, h3, h4⟩ := h.inf
  simp [zeroValue, typeInfo, program, Sem.run, h1, h2]
theorem TyIs.under {t : TypeId} {d : TypeDesc} {sz bytes : Nat} {z : Value} (h : TyIs P t d sz bytes z) (w : World) : (underlying t).run P w = .ok d w := run_underlying h.und w

/-- What a temporary holds, where H is known. -/
def PV.un : PV → PV
  | .cond _ _ p => p
  | p => p
def PV.okc (H : Prop) : PV → Prop
  | .cond b w _ => H → b = w
  | _ => True
structure EvH (H : Prop) (s : St) (x : Operand) (p : PV) : Prop where
  val : (s.ev x).un = p
  ok : (s.ev x).okc H
theorem EvH.r {H : Prop} {s : St} {x : Operand} {p : PV} (h : (s.ev x).un = p) (ok : (s.ev x).okc H := by first | exact trivial | exact id | exact And.right | exact And.left) : EvH H s x p := ⟨h, ok⟩
theorem EvH.vr {H : Prop} {s : St} {x : Operand} {p : PV} (h : EvH H s x p) (hH : H) {B0 : Nat} {w0 : World} {φ0 : Phi} {F0 : FMem} {F : FMem} {φ : Phi} {a : Act} {w : World} (hs : Sim B0 w0 φ0 F0 s F φ a w) : VR F φ p (a.eval x) := by
  obtain ⟨h1, h2⟩ := h
  subst h1
  have := hs.ev x
  revert this h2
  cases s.ev x with
  | cond b w q =>
    intro h2 h3
    cases h3 with | cond k _ => exact k (h2 hH)
  | _ => intro _ h; exact h
/-- An operation that gives a value and touches no memory. -/
def PO (P : Program) (H : Prop) (o : Oper) (s : St) (p : PV) : Prop :=
  H → ∀ B0 w0 φ0 F0 F φ a w, Sim B0 w0 φ0 F0 s F φ a w → ∃ v, (execOp a.eval o).run P w = .ok (.value v) w ∧ VR F φ p v
/-- An operation that gives a value; our own blocks stay as they are. -/
def VO (P : Program) (H : Prop) (o : Oper) (s : St) (p : PV) : Prop :=
  H → ∀ B0 w0 φ0 F0 F φ a w, Sim B0 w0 φ0 F0 s F φ a w → ∀ (next : Act → World → Prop) (Q : Exit → Act → World → Prop),
    (∀ v F' w', Sim B0 w0 φ0 F0 s F' φ a w' → VR F' φ p v → next (a.put o.dst v) w') → o.wp P a w next Q
theorem PO.vo {H : Prop} {o : Oper} {s : St} {p : PV} (h : PO P H o s p) : VO P H o s p := by
  intro hH B0 w0 φ0 F0 F φ a w hs next Q hQ
  obtain ⟨v, hr, hv⟩ := h hH B0 w0 φ0 F0 F φ a w hs
  simp only [Oper.wp, hr, Oper.upon]
  exact hQ v F w hs hv
theorem TriO.vo {o : Oper} {d : Nat} {p : PV} {K : St → Prop} {s : St} (hd : o.dst = some d) (hN : Nat.blt d s.N = true) (h : VO P True o s p) (hK : K (s.put d p)) : TriO P o K s := by
  intro B0 w0 φ0 F0 F φ a w hs next Q hQ
  refine h trivial B0 w0 φ0 F0 F φ a w hs next Q (fun v F' w' hs' hv => ?_)
  rw [hd]
  exact hQ (s.put d p) F' φ _ _ hK rfl rfl (hs'.put (by simpa [Nat.blt_eq] using hN) hv)
theorem TriL.vo {ops : Array Oper} {o : Oper} {l : List Oper} {d : Nat} {p : PV} {K : St → Prop} {s : St} (hg : o.guard = none) (hd : o.dst = some d) (hN : Nat.blt d s.N = true) (h : VO P True o s p) (hK : TriL P ops l K (s.put d p)) : TriL P ops (o :: l) K s :=
  .cons hg (.vo hd hN h hK)
/-- What a guard comes to: is the operation carried out? -/
def gval : PV → Bool → Option Bool
  | .t (.v (.bool b)), true => some b
  | .t (.v (.bool b)), false => some (!b)
  | .cond e true (.t (.v (.bool b))), true => some (e && b)
  | .cond e true (.t (.v (.bool b))), false => some (e && !b)
  | _, _ => none
theorem gvA {x y : Bool} (h : (x && y) = true) : x = true := by cases x <;> simp_all
theorem gvB {x y z : Bool} (h : ((x && y) && z) = true) : x = true := by cases x <;> simp_all
theorem gvN {H : Prop} {b : Bool} (h : H ∧ b = false) : (!b) = true := by simp [h.2]
theorem gvP2 {e b : Bool} (h : e = true ∧ b = true) : (e && b) = true := by simp [h.1, h.2]
theorem gvN2 {e b : Bool} (h : e = true ∧ b = false) : (e && !b) = true := by simp [h.1, h.2]
theorem gvLA {x y : Bool} {H : Prop} (h : (x && y) = true ∧ H) : x = true := gvA h.1
theorem yielded_bool {ops : Array Oper} {a : Act} {j g : Nat} (hj : (ops[j]?).bind (·.dst) = some g) {b : Bool} (h : a.tmps.getD g undef = .bool b) : yielded ops a.tmps j = some b := by
  have hq' : a.tmps[g]? = some (.bool b) := by
    rw [Array.getD_eq_getD_getElem?] at h
    cases hg' : a.tmps[g]? with
    | none => rw [hg'] at h; simp [undef] at h
    | some u => rw [hg'] at h; simp at h; rw [h]
  simp [yielded, hj, hq']
theorem yielded_undef {ops : Array Oper} {a : Act} {j g : Nat} (hj : (ops[j]?).bind (·.dst) = some g) (h : a.tmps.getD g undef = undef) : yielded ops a.tmps j = none := by
  rw [Array.getD_eq_getD_getElem?] at h
  cases hg' : a.tmps[g]? with
  | none => simp [yielded, hj, hg']
  | some u => rw [hg'] at h; simp at h; subst h; simp [yielded, hj, hg', undef]
theorem tr_bool {F : FMem} {b : Bool} {v : Value} (h : TR F (.v (.bool b)) v) : v = .bool b := by cases h; rfl
theorem wanted_gval {F : FMem} {φ : Phi} {ops : Array Oper} {o : Oper} {a : Act} {j g : Nat} {want e : Bool} {p : PV} (hg : o.guard = some (j, want)) (hj : (ops[j]?).bind (·.dst) = some g) (hv : VR F φ p (a.tmps.getD g undef)) (he : gval p want = some e) :
    Region.wanted o (yielded ops a.tmps) = e := by
  unfold gval at he
  split at he
  · cases he; cases hv with | t h => simp [Region.wanted, hg, yielded_bool hj (tr_bool h)]
  · cases he; cases hv with | t h => simp [Region.wanted, hg, yielded_bool hj (tr_bool h)]
  · rename_i e' b
    cases he
    cases hv with
    | cond h hn =>
      cases e' with
      | true => cases h rfl with | t h => simp [Region.wanted, hg, yielded_bool hj (tr_bool h)]
      | false => simp [Region.wanted, hg, yielded_undef hj (hn (by simp))]
  · rename_i e' b
    cases he
    cases hv with
    | cond h hn =>
      cases e' with
      | true => cases h rfl with | t h => simp [Region.wanted, hg, yielded_bool hj (tr_bool h)]
      | false => simp [Region.wanted, hg, yielded_undef hj (hn (by simp))]
  · cases he
/-- A guarded operation that gives a value: no ways part. -/
theorem TriL.gvo {ops : Array Oper} {o : Oper} {l : List Oper} {K : St → Prop} {s : St} {j : Nat} {want e : Bool} {d g : Nat} {p : PV} (hg : o.guard = some (j, want)) (hj : (ops[j]?).bind (·.dst) = some g)
    (hb : gval (s.ev (.tmp g)) want = some e) (hd : o.dst = some d) (hN : Nat.blt d s.N = true) (h : VO P (e = true) o s p) (hK : TriL P ops l K (s.put d (.cond e true p))) : TriL P ops (o :: l) K s := by
  have hN' : d < s.N := by simpa [Nat.blt_eq] using hN
  intro B0 w0 φ0 F0 F φ a w hs Q hQ
  have hw := wanted_gval (o := o) (a := a) hg hj (hs.ev (.tmp g)) hb
  refine wpList_step (fun K' hK' => ?_)
  rw [hw]
  cases e with
  | true =>
    rw [if_pos rfl]
    refine h rfl B0 w0 φ0 F0 F φ a w hs K' Q (fun v F' w' hs' hv => ?_)
    rw [hd]
    exact hK' _ _ (hK B0 w0 φ0 F0 F' φ _ w' (hs'.put hN' (.cond (fun _ => hv) (fun h => absurd rfl h))) Q (fun s2 F2 φ2 a2 w2 hk2 h12 h22 hs2 => hQ s2 F2 φ2 a2 w2 hk2 h12 h22 hs2))
  | false =>
    rw [if_neg (by simp)]
    rw [hd]
    exact hK' _ _ (hK B0 w0 φ0 F0 F φ _ w (hs.put hN' (.cond (fun h => by cases h) (fun _ => rfl))) Q (fun s2 F2 φ2 a2 w2 hk2 h12 h22 hs2 => hQ s2 F2 φ2 a2 w2 hk2 h12 h22 hs2))

section ops
variable {d ty : Nat} {pos : String} {af : Array Edge} {g : Option (Nat × Bool)} {K : St → Prop} {s : St} {H : Prop}

theorem evv0 {B0 : Nat} {w0 : World} {φ0 : Phi} {F0 : FMem} {F : FMem} {φ : Phi} {a : Act} {w : World} (h : Sim B0 w0 φ0 F0 s F φ a w) {x : Operand} {u : Value} (hx : s.ev x = .t (.v u)) : a.eval x = u ∧ sc u = true := by
  have := h.ev x
  rw [hx] at this
  cases this with
  | t ht =>
    generalize hq : a.eval x = q at ht
    cases ht with
    | v h => exact ⟨rfl, h⟩

theorem evv {B0 : Nat} {w0 : World} {φ0 : Phi} {F0 : FMem} {F : FMem} {φ : Phi} {a : Act} {w : World} (hH : H) (h : Sim B0 w0 φ0 F0 s F φ a w) {x : Operand} {u : Value} (hx : EvH H s x (.t (.v u))) : a.eval x = u ∧ sc u = true := by
  have := hx.vr hH h
  cases this with
  | t ht =>
    generalize hq : a.eval x = q at ht
    cases ht with
    | v h => exact ⟨rfl, h⟩
theorem PO.move {x : Operand} {p : PV} (hx : EvH H s x p) : PO P H ⟨some d, .move x, ty, pos, af, g⟩ s p :=
  fun hH _ _ _ _ _ _ a w hs => ⟨a.eval x, by simp [execOp], hx.vr hH hs⟩
theorem PO.assign {x : Operand} {p : PV} (hx : EvH H s x p) : PO P H ⟨some d, .assign x, ty, pos, af, g⟩ s p :=
  fun hH _ _ _ _ _ _ a w hs => ⟨a.eval x, by simp [execOp], hx.vr hH hs⟩
theorem PO.pickb {c x y : Operand} {b p q : Bool} (hc : EvH H s c (.t (.v (.bool b)))) (hx : EvH (H ∧ b = true) s x (.t (.v (.bool p)))) (hy : EvH (H ∧ b = false) s y (.t (.v (.bool q)))) :
    PO P H ⟨some d, .pick c x y, ty, pos, af, g⟩ s (.t (.v (.bool (bif b then p else q)))) := by
  intro hH B0 w0 φ0 F0 F φ a w hs
  refine ⟨.bool (bif b then p else q), ?_, .t (.v rfl)⟩
  have h1 := (evv hH hs hc).1
  cases b with
  | true => have h2 := (evv ⟨hH, rfl⟩ hs hx).1; simp [execOp, h1, h2, asBool]
  | false => have h3 := (evv ⟨hH, rfl⟩ hs hy).1; simp [execOp, h1, h3, asBool]
/-- A choice between values of whatever kind. -/
theorem PO.pick {c x y : Operand} {b : Bool} {p q : PV} (hc : EvH H s c (.t (.v (.bool b)))) (hx : EvH (H ∧ b = true) s x p) (hy : EvH (H ∧ b = false) s y q) :
    PO P H ⟨some d, .pick c x y, ty, pos, af, g⟩ s (if b then p else q) := by
  intro hH B0 w0 φ0 F0 F φ a w hs
  have h1 := (evv hH hs hc).1
  cases b with
  | true => exact ⟨a.eval x, by simp [execOp, h1, asBool], hx.vr ⟨hH, rfl⟩ hs⟩
  | false => exact ⟨a.eval y, by simp [execOp, h1, asBool], hy.vr ⟨hH, rfl⟩ hs⟩

/-! ### numbers -/
def binV (op : BinOp) : Value → Value → Option Value
  | .int k a, .int k' b =>
    if k = k' then
      match op with
      | .add => some (.int k (k.wrap (a + b)))
      | .sub => some (.int k (k.wrap (a - b)))
      | .mul => some (.int k (k.wrap (a * b)))
      | .quo => if b = 0 then none else some (.int k (k.wrap (a.tdiv b)))
      | .rem => if b = 0 then none else some (.int k (a.tmod b))
      | .eql => some (.bool (decide (a = b)))
      | .neq => some (.bool (decide (a ≠ b)))
      | .lss => some (.bool (decide (a < b)))
      | .leq => some (.bool (decide (a ≤ b)))
      | .gtr => some (.bool (decide (a > b)))
      | .geq => some (.bool (decide (a ≥ b)))
      | _ => none
    else none
  | .string a, .string b =>
    match op with
    | .eql => some (.bool (decide (a = b)))
    | .neq => some (.bool (decide (a ≠ b)))
    | _ => none
  | _, _ => none
theorem toList_inj {a b : ByteArray} : (a.toList == b.toList) = decide (a = b) := by
  by_cases e : a = b
  · subst e; simp
  · have : a.toList ≠ b.toList := fun h => e (by
      have h2 : a.data.toList = b.data.toList := by rw [← ByteArray.toList_eq, ← ByteArray.toList_eq]; exact h
      cases a; cases b; simp at h2; simp [h2])
    simp [e, this]
theorem binV_run {op : BinOp} {u v r : Value} (h : binV op u v = some r) (t : TypeId) (x y : Operand) (w : World) :
    (do eqGuard op t x y u v; binOp op t u v : Sem Value).run P w = .ok r w := by
  unfold binV at h
  split at h
  · rename_i k a k' b
    split at h
    · rename_i hk
      subst hk
      cases op <;> simp only [Option.some.injEq, reduceCtorEq] at h
      case quo =>
        split at h
        · cases h
        · cases h; rename_i hb; simp only [eqGuard_quo, pure_bind, binOp_quo, Op.intDiv, if_neg hb]; rfl
      case rem =>
        split at h
        · cases h
        · cases h; rename_i hb; simp only [eqGuard_rem, pure_bind, binOp_rem, Op.intDiv, if_neg hb]; rfl
      case add => cases h; simp only [eqGuard_add, pure_bind, binOp_add, Op.intArith]; rfl
      case sub => cases h; simp only [eqGuard_sub, pure_bind, binOp_sub, Op.intArith]; rfl
      case mul => cases h; simp only [eqGuard_mul, pure_bind, binOp_mul, Op.intArith]; rfl
      case eql => cases h; simp only [eqGuard_at_int, pure_bind, binOp_eql]; rfl
      case neq => cases h; simp only [eqGuard_at_int, pure_bind, binOp_neq]; by_cases e : a = b <;> simp [e]
      case lss => cases h; simp only [eqGuard_at_int, pure_bind, binOp_lss]; rfl
      case leq => cases h; simp only [eqGuard_at_int, pure_bind, binOp_leq]; rfl
      case gtr => cases h; simp only [eqGuard_at_int, pure_bind, binOp_gtr]; rfl
      case geq => cases h; simp only [eqGuard_at_int, pure_bind, binOp_geq]; rfl
    · cases h
  · rename_i a b
    cases op <;> simp only [Option.some.injEq, reduceCtorEq] at h
    case eql => cases h; simp only [eqGuard_at_string, pure_bind, binOp_string_eql, toList_inj]; rfl
    case neq => cases h; simp only [eqGuard_at_string, pure_bind, binOp_string_neq, toList_inj]; simp
  · cases h
theorem sc_binV {op : BinOp} {u v r : Value} (h : binV op u v = some r) : sc r = true := by
  unfold binV at h
  split at h
  · split at h
    · cases op <;> simp only [Option.some.injEq] at h <;> (try cases h) <;> (try rfl) <;> (try (split at h <;> cases h <;> rfl))
    · cases h
  · cases op <;> simp only [Option.some.injEq] at h <;> (try cases h) <;> rfl
  · cases h
theorem PO.bin {op : BinOp} {t t' : TypeId} {x y : Operand} {u v r : Value} (hx : EvH H s x (.t (.v u))) (hy : EvH H s y (.t (.v v))) (hr : binV op u v = some r) : PO P H ⟨some d, .binOp op t x y t', ty, pos, af, g⟩ s (.t (.v r)) := by
  intro hH _ _ _ _ _ _ a w hs; refine ⟨r, ?_, .t (.v (sc_binV hr))⟩
  have h1 := (evv hH hs hx).1
  have h2 := (evv hH hs hy).1
  have := binV_run (P := P) hr t x y w
  simp only [execOp, h1, h2]
  simp only [Sem.run_bind] at this ⊢
  rw [this]; rfl
/-- An int's sum that needs no wrap. -/
theorem PO.add {k : IntKind} {t t' : TypeId} {x y : Operand} {m n : Int} (hx : EvH H s x (.t (.v (.int k m)))) (hy : EvH H s y (.t (.v (.int k n)))) (hw : H → k.wrap (m + n) = m + n) : PO P H ⟨some d, .binOp .add t x y t', ty, pos, af, g⟩ s (.t (.v (.int k (m + n)))) :=
  fun hH => PO.bin hx hy (by simp [binV, hw hH]) hH
theorem PO.sub {k : IntKind} {t t' : TypeId} {x y : Operand} {m n : Int} (hx : EvH H s x (.t (.v (.int k m)))) (hy : EvH H s y (.t (.v (.int k n)))) (hw : H → k.wrap (m - n) = m - n) : PO P H ⟨some d, .binOp .sub t x y t', ty, pos, af, g⟩ s (.t (.v (.int k (m - n)))) :=
  fun hH => PO.bin hx hy (by simp [binV, hw hH]) hH
theorem PO.mul {k : IntKind} {t t' : TypeId} {x y : Operand} {m n : Int} (hx : EvH H s x (.t (.v (.int k m)))) (hy : EvH H s y (.t (.v (.int k n)))) (hw : H → k.wrap (m * n) = m * n) : PO P H ⟨some d, .binOp .mul t x y t', ty, pos, af, g⟩ s (.t (.v (.int k (m * n)))) :=
  fun hH => PO.bin hx hy (by simp [binV, hw hH]) hH
theorem PO.quo {k : IntKind} {t t' : TypeId} {x y : Operand} {m n r : Int} (hx : EvH H s x (.t (.v (.int k m)))) (hy : EvH H s y (.t (.v (.int k n)))) (h0 : H → n ≠ 0) (hw : H → k.wrap (m.tdiv n) = r) : PO P H ⟨some d, .binOp .quo t x y t', ty, pos, af, g⟩ s (.t (.v (.int k r))) :=
  fun hH => PO.bin hx hy (by simp [binV, hw hH, h0 hH]) hH
theorem PO.rem {k : IntKind} {t t' : TypeId} {x y : Operand} {m n : Int} (hx : EvH H s x (.t (.v (.int k m)))) (hy : EvH H s y (.t (.v (.int k n)))) (h0 : H → n ≠ 0) : PO P H ⟨some d, .binOp .rem t x y t', ty, pos, af, g⟩ s (.t (.v (.int k (m.tmod n)))) :=
  fun hH => PO.bin hx hy (by simp [binV, h0 hH]) hH
theorem PO.binr {op : BinOp} {t t' : TypeId} {x y : Operand} {u v r : Value} (hx : EvH H s x (.t (.v u))) (hy : EvH H s y (.t (.v v))) (hsc : sc r = true)
    (hr : ∀ w, (do eqGuard op t x y u v; binOp op t u v : Sem Value).run P w = .ok r w) : PO P H ⟨some d, .binOp op t x y t', ty, pos, af, g⟩ s (.t (.v r)) := by
  intro hH _ _ _ _ _ _ a w hs; refine ⟨r, ?_, .t (.v hsc)⟩
  have h1 := (evv hH hs hx).1
  have h2 := (evv hH hs hy).1
  have := hr w
  simp only [execOp, h1, h2]
  simp only [Sem.run_bind] at this ⊢
  rw [this]; rfl
theorem PO.cat {t t' : TypeId} {x y : Operand} {m n : ByteArray} (hx : EvH H s x (.t (.v (.string m)))) (hy : EvH H s y (.t (.v (.string n)))) (hw : H → m.size + n.size ≤ 4611686018427387904) : PO P H ⟨some d, .binOp .add t x y t', ty, pos, af, g⟩ s (.t (.v (.string (m ++ n)))) := by
  refine fun hH => PO.binr hx hy rfl (fun w => ?_) hH
  have hw := hw hH
  have h3 : ¬ ((m.size : Int) + n.size > IntKind.i64.max) := by simp [IntKind.max, IntKind.bits, IntKind.signed]; omega
  simp only [eqGuard_at_string, pure_bind, binOp_string_add, Op.stringOp]
  rw [if_neg (by simpa using h3)]; rfl
/-- Bools held against each other. -/
theorem PO.eqb {t t' : TypeId} {x y : Operand} {m n : Bool} {sz bytes : Nat} {z : Value} [ht : TyIs P t .bool sz bytes z] (hx : EvH H s x (.t (.v (.bool m)))) (hy : EvH H s y (.t (.v (.bool n)))) : PO P H ⟨some d, .binOp .eql t x y t', ty, pos, af, g⟩ s (.t (.v (.bool (decide (m = n))))) := by
  refine fun hH => PO.binr hx hy rfl (fun w => ?_) hH
  simp only [eqGuard_at_bool, pure_bind]
  rw [run_eql_bool _ _ _ _ ht.und]; rfl
theorem PO.neb {t t' : TypeId} {x y : Operand} {m n : Bool} {sz bytes : Nat} {z : Value} [ht : TyIs P t .bool sz bytes z] (hx : EvH H s x (.t (.v (.bool m)))) (hy : EvH H s y (.t (.v (.bool n)))) : PO P H ⟨some d, .binOp .neq t x y t', ty, pos, af, g⟩ s (.t (.v (.bool (decide (m ≠ n))))) := by
  refine fun hH => PO.binr hx hy rfl (fun w => ?_) hH
  simp only [eqGuard_at_bool, pure_bind]
  rw [run_neq_bool _ _ _ _ ht.und]; cases m <;> cases n <;> rfl
theorem PO.not {t : TypeId} {x : Operand} {m : Bool} (hx : EvH H s x (.t (.v (.bool m)))) : PO P H ⟨some d, .unOp .not t x, ty, pos, af, g⟩ s (.t (.v (.bool (!m)))) := by
  intro hH _ _ _ _ _ _ a w hs; refine ⟨_, ?_, .t (.v rfl)⟩
  have h1 := (evv hH hs hx).1
  simp only [execOp, h1, Op.unary]; rfl
theorem PO.neg {t : TypeId} {x : Operand} {k : IntKind} {m : Int} (hx : EvH H s x (.t (.v (.int k m)))) : PO P H ⟨some d, .unOp .neg t x, ty, pos, af, g⟩ s (.t (.v (.int k (k.wrap (0 - m))))) := by
  intro hH _ _ _ _ _ _ a w hs; refine ⟨_, ?_, .t (.v rfl)⟩
  have h1 := (evv hH hs hx).1
  simp only [execOp, h1, Op.unary, Op.intArith]; rfl
/-- A conversion between kinds of numbers. -/
theorem PO.conv {src dst : TypeId} {x : Operand} {k k' : IntKind} {m r : Int} {ds : TypeDesc} {sz bytes sz' bytes' : Nat} {z z' : Value} [hs1 : TyIs P src ds sz bytes z] [ht : TyIs P dst (.int k') sz' bytes' z']
    (hx : EvH H s x (.t (.v (.int k m)))) (hw : k'.wrap m = r) : PO P H ⟨some d, .convert src dst x, ty, pos, af, g⟩ s (.t (.v (.int k' r))) := by
  intro hH _ _ _ _ _ _ a w hs; refine ⟨.int k' r, ?_, .t (.v rfl)⟩
  have h1 := (evv hH hs hx).1
  simp only [execOp, h1, convert, Sem.run_bind, hs1.under, ht.under, Result.andThen_ok, Conv.intToInt, hw]; rfl
/-! ### strings -/
/-- A text's bytes. -/
def bs (s : ByteArray) : List UInt8 := s.data.toList
theorem bs_length (s : ByteArray) : (bs s).length = s.size := by simp [bs]
theorem bs_inj {a b : ByteArray} (h : bs a = bs b) : a = b := by
  cases a; cases b; simp [bs] at h; simp [h]
def byteAt (s : ByteArray) (i : Int) : UInt8 := (bs s).getD i.toNat 0
theorem byteAt_get {s : ByteArray} {i : Nat} (h : i < (bs s).length) : byteAt s i = (bs s)[i] := by
  rw [byteAt, Int.toNat_natCast, List.getD_eq_getElem?_getD, List.getElem?_eq_getElem h]; rfl
theorem u8_eq (c : UInt8) (n : Nat) (h : n < 256) : ((c.toNat : Int) = n) = (c = UInt8.ofNat n) := by
  refine propext ⟨fun e => ?_, ?_⟩
  · have : c.toNat = n := by omega
    rw [← this]; simp
  · rintro rfl; simp; omega
theorem PO.idxS {t : TypeId} {x y : Operand} {k : IntKind} {b : ByteArray} {i : Int} {sz bytes : Nat} {z : Value} [ht : TyIs P t .string sz bytes z] (hx : EvH H s x (.t (.v (.string b)))) (hy : EvH H s y (.t (.v (.int k i))))
    (h0 : H → 0 ≤ i) (h1 : H → i < b.size) : PO P H ⟨some d, .index t x y, ty, pos, af, g⟩ s (.t (.v (.int .u8 (byteAt b i).toNat))) := by
  intro hH _ _ _ _ _ _ a w hs; refine ⟨_, ?_, .t (.v rfl)⟩
  have e1 := (evv hH hs hx).1
  have e2 := (evv hH hs hy).1
  have h0 := h0 hH
  have h1 := h1 hH
  have h2 : i.toNat < b.size := by omega
  have h3 : b[i.toNat]? = some (b[i.toNat]) := by simp [h2]
  have h4 : byteAt b i = b[i.toNat] := by
    rw [byteAt, bs, List.getD_eq_getElem?_getD, List.getElem?_eq_getElem (by simpa using h2)]
    rfl
  simp only [execOp, e1, e2, Instr.index, asIntOf, Sem.run_bind, Sem.run_pure, ht.under, Result.andThen_ok, if_pos h0, h3, h4]
/-- A builtin that gives a value and touches no memory. -/
theorem PO.blt {b : Builtin} {xs : Array Operand} {ts : Array TypeId} {p : PV}
    (h : H → ∀ B0 w0 φ0 F0 F φ a w, Sim B0 w0 φ0 F0 s F φ a w → ∃ v, (builtin b ts ty (xs.map fun | .const _ => true | _ => false) (xs.map a.eval)).run P w = .ok (.value v) w ∧ VR F φ p v) :
    PO P H ⟨some d, .call ⟨.builtin b, xs, ts⟩, ty, pos, af, g⟩ s p := by
  intro hH B0 w0 φ0 F0 F φ a w hs
  obtain ⟨v, h1, h2⟩ := h hH B0 w0 φ0 F0 F φ a w hs
  refine ⟨v, ?_, h2⟩
  simp only [execOp, resolve, Sem.run_bind, Sem.run_pure, Result.andThen_ok, invoke]
  exact h1
theorem run_len_string (t ty : TypeId) (b : ByteArray) (h : P.underlying t = some .string) (w : World) : (Builtin.len_ #[t] ty #[.string b]).run P w = .ok (goInt b.size) w := by
  simp [Builtin.len_, run_underlying h]
theorem PO.lenS {t : TypeId} {x : Operand} {b : ByteArray} {sz bytes : Nat} {z : Value} [ht : TyIs P t .string sz bytes z] (hx : EvH H s x (.t (.v (.string b)))) : PO P H ⟨some d, .call ⟨.builtin .len, #[x], #[t]⟩, ty, pos, af, g⟩ s (.t (.v (.int .i64 b.size))) := by
  refine .blt (fun hH _ _ _ _ _ _ a w hs => ⟨.int .i64 b.size, ?_, .t (.v rfl)⟩)
  have e1 := (evv hH hs hx).1
  simp only [builtin, List.map_toArray, List.map_cons, List.map_nil, e1, Sem.run_bind]
  rw [run_len_string _ _ _ ht.und]; rfl
end ops
end Go.Proofs.YtaplmmhkpljmkaaDoor.E
