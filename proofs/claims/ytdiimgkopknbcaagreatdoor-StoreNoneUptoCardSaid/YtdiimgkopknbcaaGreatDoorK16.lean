/- The engine runs closed code: values. -/
import Derived.Test.YtdiimgkopknbcaaGreatDoorK13
import Derived.LaidEql
import Derived.LaidEqlPtr
import Derived.Laws.Tables
import Derived.Lib.UnsafeStr
import Derived.MapKept
namespace Go.Proofs.YtdiimgkopknbcaaGreatDoor.E
open Go Go.RowKit
set_option linter.unusedVariables false
set_option linter.unusedSimpArgs false
variable {P : Program}
noncomputable section

/-! ### what is known of the program -/
structure TyE (P : Program) where
  t : TypeId
  d : TypeDesc
  sz : Nat
  bytes : Nat
  z : Value
  ok : TyIs P t d sz bytes z
structure PlE (P : Program) where
  t : TypeId
  fs : Array Field
  pl : List (Nat × Nat)
  ok : PlIs P t fs pl
  und : P.underlying t = some (.struct fs)
  cmp : Bool
  eqs : cmp = true → P.stoodInHeld t = false ∧ (∀ f ∈ fs.toList, f.name ≠ "_") ∧ P.eqGuardType P.depth t = false
structure FnE (P : Program) where
  f : FuncId
  fn : Func
  c : Code
  hf : P.funcs[f]? = some fn
  hb : fn.body = some c
  is : FnIs P f
/-- A function of the model that gives a value and does nothing else. -/
structure XtE (P : Program) where
  f : FuncId
  sem : List PV → Option PV
  ok : ∀ ps q, sem ps = some q → ∀ (F : FMem) (φ : Phi) (vs : Array Value), ps.length = vs.size → (∀ (i : Nat) (p : PV) (v : Value), ps[i]? = some p → vs[i]? = some v → VR F φ p v) → ∀ w : World, ∃ v, (callFunc f vs).run P w = .ok (.value v) w ∧ VR F φ q v
/-- A function of the model that gives a new row of bytes of which nothing is known. -/
structure MkE (P : Program) where
  f : FuncId
  e : TypeId
  ok : ∀ (m : Nat), m ≤ 281474976710656 → ∀ w : World, ∃ cs : Array Value, (callFunc f #[.int .i64 m]).run P w = .ok (.value (.slice (some ⟨w.heap.size, 0, none⟩) m cs.size)) (w.drew.drew.alloc (.cells cs e)) ∧ m ≤ cs.size
inductive BT (α : Type) where
  | nil
  | node (k : Nat) (v : α) (l r : BT α)
noncomputable def BT.get {α : Type} (t : BT α) (i : Nat) : Option α :=
  BT.rec (motive := fun _ => Option α) none (fun k v _ _ gl gr => bif Nat.beq i k then some v else bif Nat.blt i k then gl else gr) t
structure Env (P : Program) where
  ty : BT (TyE P)
  pl : BT (PlE P)
  fn : BT (FnE P)
  xt : BT (XtE P)
  zt : BT (MkE P)
  mixed : P.follows .mixedOrders = true
section
variable (E : Env P)
def Env.tyAt (t : TypeId) : Option (TyE P) := match E.ty.get t with
  | some x => bif Nat.beq x.t t then some x else none
  | none => none
def Env.plAt (t : TypeId) : Option (PlE P) := match E.pl.get t with
  | some x => bif Nat.beq x.t t then some x else none
  | none => none
def Env.fnAt (t : FuncId) : Option (FnE P) := match E.fn.get t with
  | some x => bif Nat.beq x.f t then some x else none
  | none => none
def Env.mkAt (f : FuncId) : Option (MkE P) := match E.zt.get f with
  | some x => bif Nat.beq x.f f then some x else none
  | none => none
def Env.isX (f : FuncId) : Bool := match E.xt.get f with
  | some x => Nat.beq x.f f
  | none => match E.mkAt f with
    | some _ => true
    | none => false
def Env.semX (f : FuncId) (ps : List PV) : Option PV := match E.xt.get f with
  | some x => bif Nat.beq x.f f then x.sem ps else none
  | none => none
end
section
variable {E : Env P}
theorem Env.semX_ok {f : FuncId} {ps : List PV} {q : PV} (h : E.semX f ps = some q) {F : FMem} {φ : Phi} {vs : Array Value} (hn : ps.length = vs.size) (hv : ∀ (i : Nat) (p : PV) (v : Value), ps[i]? = some p → vs[i]? = some v → VR F φ p v) (w : World) : ∃ v, (callFunc f vs).run P w = .ok (.value v) w ∧ VR F φ q v := by
  unfold Env.semX at h
  split at h
  · rename_i x _
    cases hc : Nat.beq x.f f with
    | true =>
      rw [hc] at h
      have := Nat.eq_of_beq_eq_true hc
      subst this
      exact x.ok ps q h F φ vs hn hv w
    | false => rw [hc] at h; cases h
  · cases h
theorem Env.mkAt_ok {f : FuncId} {x : MkE P} (h : E.mkAt f = some x) {m : Nat} (hm : m ≤ 281474976710656) (w : World) : ∃ cs : Array Value, (callFunc f #[.int .i64 m]).run P w = .ok (.value (.slice (some ⟨w.heap.size, 0, none⟩) m cs.size)) (w.drew.drew.alloc (.cells cs x.e)) ∧ m ≤ cs.size := by
  unfold Env.mkAt at h
  split at h
  · rename_i y _
    cases hc : Nat.beq y.f f with
    | true =>
      rw [hc] at h; cases h
      have := Nat.eq_of_beq_eq_true hc
      subst this
      exact x.ok m hm w
    | false => rw [hc] at h; cases h
  · cases h
theorem Env.tyAt_ok {t : TypeId} {x : TyE P} (h : E.tyAt t = some x) : TyIs P t x.d x.sz x.bytes x.z := by
  unfold Env.tyAt at h
  split at h
  · rename_i y _
    cases hc : Nat.beq y.t t with
    | true => rw [hc] at h; cases h; have := x.ok; rwa [Nat.eq_of_beq_eq_true hc] at this
    | false => rw [hc] at h; cases h
  · cases h
theorem Env.plAt_ok {t : TypeId} {x : PlE P} (h : E.plAt t = some x) : PlIs P t x.fs x.pl ∧ P.underlying t = some (.struct x.fs) := by
  unfold Env.plAt at h
  split at h
  · rename_i y _
    cases hc : Nat.beq y.t t with
    | true => rw [hc] at h; cases h; have := Nat.eq_of_beq_eq_true hc; subst this; exact ⟨x.ok, x.und⟩
    | false => rw [hc] at h; cases h
  · cases h
theorem Env.plAt_eq {t : TypeId} {x : PlE P} (h : E.plAt t = some x) (hx : x.cmp = true) : P.stoodInHeld t = false ∧ (∀ f ∈ x.fs.toList, f.name ≠ "_") ∧ P.eqGuardType P.depth t = false := by
  unfold Env.plAt at h
  split at h
  · rename_i y _
    cases hc : Nat.beq y.t t with
    | true =>
      rw [hc] at h; cases h
      have := Nat.eq_of_beq_eq_true hc
      subst this
      exact x.eqs hx
    | false => rw [hc] at h; cases h
  · cases h
theorem Env.fnAt_ok {t : FuncId} {x : FnE P} (h : E.fnAt t = some x) : P.funcs[t]? = some x.fn ∧ x.fn.body = some x.c ∧ FnIs P t := by
  unfold Env.fnAt at h
  split at h
  · rename_i y _
    cases hc : Nat.beq y.f t with
    | true =>
      rw [hc] at h; cases h
      have := Nat.eq_of_beq_eq_true hc
      subst this
      exact ⟨x.hf, x.hb, x.is⟩
    | false => rw [hc] at h; cases h
  · cases h
end

/-! ### values -/
theorem run_intBits (op : BinOp) (h : op = .and ∨ op = .or ∨ op = .xor ∨ op = .andNot) (t : TypeId) (x y : Operand) (k : IntKind) (a b : Int) (w : World) :
    (do eqGuard op t x y (.int k a) (.int k b); binOp op t (.int k a) (.int k b) : Sem Value).run P w = (Op.intBits op k a b).run P w := by
  rcases h with rfl | rfl | rfl | rfl <;> simp [eqGuard, binOp]
def bitsV (op : BinOp) (k : IntKind) (a b : Int) : Option Int :=
  match op with
  | .and => some (k.wrap (BitVec.ofInt k.bits a &&& BitVec.ofInt k.bits b).toNat)
  | .or => some (k.wrap (BitVec.ofInt k.bits a ||| BitVec.ofInt k.bits b).toNat)
  | .xor => some (k.wrap (BitVec.ofInt k.bits a ^^^ BitVec.ofInt k.bits b).toNat)
  | .andNot => some (k.wrap (BitVec.ofInt k.bits a &&& ~~~ BitVec.ofInt k.bits b).toNat)
  | _ => none
def binE (E : Env P) (op : BinOp) (t : TypeId) (p q : PV) : Option PV :=
  match p, q with
  | .t (.v (.int k a)), .t (.v (.int k' b)) =>
    match op with
    | .shl => bif decide (0 ≤ b) then some (.t (.v (.int k (k.wrap (a * 2 ^ Nat.min b.toNat k.bits))))) else none
    | .shr => bif decide (0 ≤ b) then some (.t (.v (.int k (a / 2 ^ Nat.min b.toNat k.bits)))) else none
    | op => match binV op (.int k a) (.int k' b) with
      | some r => some (.t (.v r))
      | none => if k = k' then (bitsV op k a b).map fun n => .t (.v (.int k n)) else none
  | .t (.v (.string a)), .t (.v (.string b)) =>
    match op with
    | .add => bif Nat.ble (a.size + b.size) 4611686018427387904 then some (.t (.v (.string (a ++ b)))) else none
    | op => (binV op (.string a) (.string b)).map fun r => .t (.v r)
  | .t (.v (.bool a)), .t (.v (.bool b)) =>
    match op, (E.tyAt t).map TyE.d with
    | .eql, some .bool => some (.t (.v (.bool (decide (a = b)))))
    | .neq, some .bool => some (.t (.v (.bool (decide (a ≠ b)))))
    | _, _ => none
  | .t (.sl n xs), .t (.sl true []) =>
    match op, (E.tyAt t).map TyE.d with
    | .eql, some (.slice _) => some (.t (.v (.bool n)))
    | .neq, some (.slice _) => some (.t (.v (.bool (!n))))
    | _, _ => none
  | _, _ => none
section
variable {E : Env P} {d ty : Nat} {pos : String} {af : Array Edge} {g : Option (Nat × Bool)} {s : St}
theorem tyAt_d {t : TypeId} {d : TypeDesc} (h : (E.tyAt t).map TyE.d = some d) : ∃ sz bytes z, TyIs P t d sz bytes z := by
  cases hx : E.tyAt t with
  | none => rw [hx] at h; cases h
  | some x =>
    rw [hx] at h
    cases h
    exact ⟨_, _, _, E.tyAt_ok hx⟩
theorem binE_ok {op : BinOp} {t t' : TypeId} {x y : Operand} {p q r : PV} (hx : EvH True s x p) (hy : EvH True s y q) (h : binE E op t p q = some r) : PO P True ⟨some d, .binOp op t x y t', ty, pos, af, g⟩ s r := by
  unfold binE at h
  split at h
  · rename_i k a k' b
    split at h
    · cases hc : decide (0 ≤ b) with
      | true => rw [hc] at h; cases h; exact PO.shl hx hy fun _ => of_decide_eq_true hc
      | false => rw [hc] at h; cases h
    · cases hc : decide (0 ≤ b) with
      | true => rw [hc] at h; cases h; exact PO.shr hx hy fun _ => of_decide_eq_true hc
      | false => rw [hc] at h; cases h
    · split at h
      · rename_i hb; cases h; exact PO.bin hx hy hb
      · split at h
        · rename_i hk
          subst hk
          simp only [Option.map_eq_some_iff] at h
          obtain ⟨n, hn, rfl⟩ := h
          have hop : op = .and ∨ op = .or ∨ op = .xor ∨ op = .andNot := by
            unfold bitsV at hn; split at hn <;> simp_all
          refine PO.binr hx hy rfl fun w => ?_
          rw [run_intBits op hop]
          unfold bitsV at hn
          rcases hop with rfl | rfl | rfl | rfl <;> (cases hn; rfl)
        · cases h
  · rename_i a b
    split at h
    · cases hc : Nat.ble (a.size + b.size) 4611686018427387904 with
      | true => rw [hc] at h; cases h; exact PO.cat hx hy fun _ => Nat.le_of_ble_eq_true hc
      | false => rw [hc] at h; cases h
    · simp only [Option.map_eq_some_iff] at h
      obtain ⟨r', hr, rfl⟩ := h
      exact PO.bin hx hy hr
  · rename_i a b
    split at h
    · rename_i ht
      obtain ⟨_, _, _, ht⟩ := tyAt_d ht
      cases h; exact PO.eqb hx hy
    · rename_i ht
      obtain ⟨_, _, _, ht⟩ := tyAt_d ht
      cases h; exact PO.neb hx hy
    · cases h
  · rename_i n xs _
    split at h
    · rename_i ht
      obtain ⟨_, _, _, ht⟩ := tyAt_d ht
      cases h; exact PO.eqNil hx hy
    · rename_i ht
      obtain ⟨_, _, _, ht⟩ := tyAt_d ht
      cases h; exact PO.neNil hx hy
    · cases h
  · cases h
end
end
end Go.Proofs.YtdiimgkopknbcaaGreatDoor.E

/- The engine runs closed code: tries, blocks, what is known of a state. -/
namespace Go.Proofs.YtdiimgkopknbcaaGreatDoor.E
open Go Go.RowKit
set_option linter.unusedVariables false
set_option linter.unusedSimpArgs false
variable {P : Program}
noncomputable section

/-! ### tries -/
inductive Tr (α : Type) where
  | lf
  | nd (x : Option α) (l r : Tr α)
noncomputable def Tr.get {α : Type} (t : Tr α) : Nat → Option α :=
  Tr.rec (motive := fun _ => Nat → Option α) (fun _ => none) (fun x _ _ gl gr k => Nat.rec (motive := fun _ => Option α) x (fun j _ => Nat.rec (motive := fun _ => Option α) (gl (Nat.div j 2)) (fun _ _ => gr (Nat.div j 2)) (Nat.mod j 2)) k) t
theorem Tr.get_lf {α : Type} (k : Nat) : (Tr.lf : Tr α).get k = none := rfl
theorem Tr.get_nd0 {α : Type} (x : Option α) (l r : Tr α) : (Tr.nd x l r).get 0 = x := rfl
theorem Tr.get_nd1 {α : Type} (x : Option α) (l r : Tr α) (j : Nat) : (Tr.nd x l r).get (j + 1) = if j % 2 = 0 then l.get (j / 2) else r.get (j / 2) := by
  show Nat.rec (motive := fun _ => Option α) (l.get (j / 2)) (fun _ _ => r.get (j / 2)) (j % 2) = _
  cases h : j % 2 with
  | zero => exact (if_pos rfl).symm
  | succ m => exact (if_neg (by omega)).symm
noncomputable def Tr.set1 {α : Type} (rec_ : Tr α → Nat → Tr α) (v : Option α) (t : Tr α) (k : Nat) : Tr α :=
  Tr.rec (motive := fun _ => Tr α)
    (Nat.rec (motive := fun _ => Tr α) (.nd v .lf .lf) (fun j _ => Nat.rec (motive := fun _ => Tr α) (.nd none (rec_ .lf (Nat.div j 2)) .lf) (fun _ _ => .nd none .lf (rec_ .lf (Nat.div j 2))) (Nat.mod j 2)) k)
    (fun x l r _ _ => Nat.rec (motive := fun _ => Tr α) (.nd v l r) (fun j _ => Nat.rec (motive := fun _ => Tr α) (.nd x (rec_ l (Nat.div j 2)) r) (fun _ _ => .nd x l (rec_ r (Nat.div j 2))) (Nat.mod j 2)) k) t
noncomputable def Tr.setF {α : Type} (v : Option α) (f : Nat) : Tr α → Nat → Tr α := Nat.rec (motive := fun _ => Tr α → Nat → Tr α) (fun t _ => t) (fun _ ih => Tr.set1 ih v) f
noncomputable def Tr.put {α : Type} (t : Tr α) (k : Nat) (v : Option α) : Tr α := Tr.setF v (k + 1) t k
noncomputable def Tr.set {α : Type} (t : Tr α) (k : Nat) (v : α) : Tr α := t.put k (some v)
noncomputable def Tr.del {α : Type} (t : Tr α) (k : Nat) : Tr α := t.put k none
theorem Tr.setF_lf0 {α : Type} (v : Option α) (f : Nat) : Tr.setF v (f + 1) .lf 0 = .nd v .lf .lf := rfl
theorem Tr.setF_nd0 {α : Type} (v : Option α) (f : Nat) (x : Option α) (l r : Tr α) : Tr.setF v (f + 1) (.nd x l r) 0 = .nd v l r := rfl
theorem Tr.setF_lf1 {α : Type} (v : Option α) (f j : Nat) : Tr.setF v (f + 1) .lf (j + 1) = if j % 2 = 0 then .nd none (Tr.setF v f .lf (j / 2)) .lf else .nd none .lf (Tr.setF v f .lf (j / 2)) := by
  show Nat.rec (motive := fun _ => Tr α) (.nd none (Tr.setF v f .lf (j / 2)) .lf) (fun _ _ => .nd none .lf (Tr.setF v f .lf (j / 2))) (j % 2) = _
  cases h : j % 2 with
  | zero => exact (if_pos rfl).symm
  | succ m => exact (if_neg (by omega)).symm
theorem Tr.setF_nd1 {α : Type} (v : Option α) (f j : Nat) (x : Option α) (l r : Tr α) : Tr.setF v (f + 1) (.nd x l r) (j + 1) = if j % 2 = 0 then .nd x (Tr.setF v f l (j / 2)) r else .nd x l (Tr.setF v f r (j / 2)) := by
  show Nat.rec (motive := fun _ => Tr α) (.nd x (Tr.setF v f l (j / 2)) r) (fun _ _ => .nd x l (Tr.setF v f r (j / 2))) (j % 2) = _
  cases h : j % 2 with
  | zero => exact (if_pos rfl).symm
  | succ m => exact (if_neg (by omega)).symm
theorem Tr.get_setF {α : Type} (v : Option α) : ∀ (f : Nat) (t : Tr α) (k j : Nat), k < f → (Tr.setF v f t k).get j = if j = k then v else t.get j
  | 0, _, _, _, h => absurd h (by omega)
  | f + 1, t, 0, j, h => by
    cases t with
    | lf =>
      rw [Tr.setF_lf0]
      cases j with
      | zero => rfl
      | succ j => rw [Tr.get_nd1, if_neg (show ¬ j + 1 = 0 by omega), Tr.get_lf]; split <;> rfl
    | nd x l r =>
      rw [Tr.setF_nd0]
      cases j with
      | zero => rfl
      | succ j => rw [Tr.get_nd1, if_neg (show ¬ j + 1 = 0 by omega), Tr.get_nd1]
  | f + 1, t, k + 1, j, h => by
    have ih := Tr.get_setF v f
    cases t with
    | lf =>
      rw [Tr.setF_lf1, Tr.get_lf]
      by_cases k1 : k % 2 = 0
      · rw [if_pos k1]
        cases j with
        | zero => rw [Tr.get_nd0, if_neg (by omega)]
        | succ j =>
          rw [Tr.get_nd1]
          by_cases j1 : j % 2 = 0
          · rw [if_pos j1, ih _ _ _ (by omega), Tr.get_lf]
            by_cases e : j = k
            · rw [if_pos (by rw [e]), if_pos (by rw [e])]
            · rw [if_neg (by omega), if_neg (by omega)]
          · rw [if_neg j1, Tr.get_lf, if_neg (by omega)]
      · rw [if_neg k1]
        cases j with
        | zero => rw [Tr.get_nd0, if_neg (by omega)]
        | succ j =>
          rw [Tr.get_nd1]
          by_cases j1 : j % 2 = 0
          · rw [if_pos j1, Tr.get_lf, if_neg (by omega)]
          · rw [if_neg j1, ih _ _ _ (by omega), Tr.get_lf]
            by_cases e : j = k
            · rw [if_pos (by rw [e]), if_pos (by rw [e])]
            · rw [if_neg (by omega), if_neg (by omega)]
    | nd x l r =>
      rw [Tr.setF_nd1]
      by_cases k1 : k % 2 = 0
      · rw [if_pos k1]
        cases j with
        | zero => rw [Tr.get_nd0, Tr.get_nd0, if_neg (by omega)]
        | succ j =>
          rw [Tr.get_nd1, Tr.get_nd1]
          by_cases j1 : j % 2 = 0
          · rw [if_pos j1, if_pos j1, ih _ _ _ (by omega)]
            by_cases e : j = k
            · rw [if_pos (by rw [e]), if_pos (by rw [e])]
            · rw [if_neg (by omega), if_neg (by omega)]
          · rw [if_neg j1, if_neg j1, if_neg (by omega)]
      · rw [if_neg k1]
        cases j with
        | zero => rw [Tr.get_nd0, Tr.get_nd0, if_neg (by omega)]
        | succ j =>
          rw [Tr.get_nd1, Tr.get_nd1]
          by_cases j1 : j % 2 = 0
          · rw [if_pos j1, if_pos j1, if_neg (by omega)]
          · rw [if_neg j1, if_neg j1, ih _ _ _ (by omega)]
            by_cases e : j = k
            · rw [if_pos (by rw [e]), if_pos (by rw [e])]
            · rw [if_neg (by omega), if_neg (by omega)]
theorem Tr.get_put {α : Type} (t : Tr α) (k : Nat) (v : Option α) (j : Nat) : (t.put k v).get j = if j = k then v else t.get j := Tr.get_setF v (k + 1) t k j (Nat.lt_succ_self k)
theorem Tr.get_set {α : Type} (t : Tr α) (k : Nat) (v : α) (j : Nat) : (t.set k v).get j = if j = k then some v else t.get j := t.get_put k (some v) j
theorem Tr.get_del {α : Type} (t : Tr α) (k : Nat) (j : Nat) : (t.del k).get j = if j = k then none else t.get j := t.get_put k none j

/-! ### blocks -/
/-- A block: cells, or a map's entries. -/
inductive RB where
  | c (sz : Nat) (cs : Tr PV) (dv : PV) (ty : Option TypeId)
  | m (es : List (Value × PV))
/-- Some of the cells. -/
def Tr.gets (cs : Tr PV) (dv : PV) : Nat → Nat → List PV
  | _, 0 => []
  | o, n + 1 => ((cs.get o).getD dv) :: cs.gets dv (o + 1) n
/-- Cells are written. -/
def Tr.puts (cs : Tr PV) : Nat → List PV → Tr PV
  | _, [] => cs
  | o, p :: ps => (cs.set o p).puts (o + 1) ps
theorem Tr.gets_len (cs : Tr PV) (dv : PV) : ∀ (n o : Nat), (cs.gets dv o n).length = n
  | 0, _ => rfl
  | n + 1, o => by simp [Tr.gets, Tr.gets_len cs dv n]
theorem Tr.gets_get (cs : Tr PV) (dv : PV) : ∀ (n o i : Nat), (cs.gets dv o n)[i]? = if i < n then some ((cs.get (o + i)).getD dv) else none
  | 0, _, i => by simp [Tr.gets]
  | n + 1, o, i => by
    cases i with
    | zero => simp [Tr.gets]
    | succ i =>
      simp only [Tr.gets, List.getElem?_cons_succ, Tr.gets_get cs dv n (o + 1) i, Nat.add_lt_add_iff_right]
      rw [show o + 1 + i = o + (i + 1) by omega]
theorem Tr.puts_get : ∀ (ps : List PV) (cs : Tr PV) (o j : Nat), (cs.puts o ps).get j = if o ≤ j ∧ j < o + ps.length then ps[j - o]? else cs.get j
  | [], cs, o, j => by simp only [Tr.puts, List.length_nil]; rw [if_neg (by omega)]
  | p :: ps, cs, o, j => by
    simp only [Tr.puts, Tr.puts_get ps (cs.set o p) (o + 1) j, Tr.get_set, List.length_cons]
    by_cases h1 : o + 1 ≤ j ∧ j < o + 1 + ps.length
    · rw [if_pos h1, if_pos (by omega)]
      rw [show j - o = (j - (o + 1)) + 1 by omega, List.getElem?_cons_succ]
    · rw [if_neg h1]
      by_cases h2 : j = o
      · subst h2; rw [if_pos rfl, if_pos (by omega)]; simp
      · rw [if_neg h2, if_neg (by omega)]
def RB.blk : RB → Blk
  | .c sz cs dv ty => .obj (cs.gets dv 0 sz) ty
  | .m es => .map es
/-- A block of some cells. -/
def RB.new (ps : List PV) (ty : Option TypeId) : RB := .c ps.length (Tr.lf.puts 0 ps) .undef ty
theorem RB.new_blk (ps : List PV) (ty : Option TypeId) : (RB.new ps ty).blk = .obj ps ty := by
  simp only [RB.new, RB.blk]
  congr 1
  refine List.ext_getElem? fun i => ?_
  rw [Tr.gets_get, Nat.zero_add, Tr.puts_get]
  by_cases h : i < ps.length
  · rw [if_pos h, if_pos (by omega), Nat.sub_zero, List.getElem?_eq_getElem h]; rfl
  · rw [if_neg h, List.getElem?_eq_none (by omega)]
/-- Cells written into a block. -/
theorem RB.puts_blk {sz o : Nat} {cs : Tr PV} {dv : PV} {ty : Option TypeId} {qs : List PV} (h : o + qs.length ≤ sz) : (RB.c sz (cs.puts o qs) dv ty).blk = .obj ((cs.gets dv 0 sz).take o ++ qs ++ (cs.gets dv 0 sz).drop (o + qs.length)) ty := by
  simp only [RB.blk]
  congr 1
  refine List.ext_getElem? fun i => ?_
  rw [splice_get (by rw [Tr.gets_len]; exact h), Tr.gets_get, Tr.gets_get, Nat.zero_add, Tr.puts_get]
  by_cases h1 : i < o
  · rw [if_pos h1, if_neg (show ¬ (o ≤ i ∧ i < o + qs.length) by omega)]
  · rw [if_neg h1]
    by_cases h2 : i < o + qs.length
    · rw [if_pos (show i < sz by omega), if_pos (show o ≤ i ∧ i < o + qs.length from ⟨by omega, h2⟩), if_pos h2]
      rw [List.getElem?_eq_getElem (show i - o < qs.length by omega)]; rfl
    · rw [if_neg h2, if_neg (show ¬ (o ≤ i ∧ i < o + qs.length) by omega)]

/-! ### what is known of a state -/
def evR (tm : Tr PV) : Operand → PV
  | .tmp t => (tm.get t).getD .undef
  | .const v => ofConst v
  | .func f => .t (.v (.func (.func f) #[] #[]))
  | .global g => evG g
def evK (tm : Tr PV) (x : Operand) : Option PV := match evR tm x with
  | .undef => none
  | .cond _ _ _ => none
  | p => some p
theorem evK_ok {tm : Tr PV} {x : Operand} {p : PV} (h : evK tm x = some p) : evR tm x = p ∧ p.known = true := by
  unfold evK at h
  split at h <;> first | (cases h; done) | skip
  rename_i q h1 h2
  cases h
  refine ⟨rfl, ?_⟩
  cases hq : evR tm x <;> first | rfl | exact absurd hq h1 | exact absurd hq (h2 _ _ _)
structure Kn (tm : Tr PV) (hg : Nat → Option RB) (n : Nat) (o : Oper) (s : St) : Prop where
  ev : ∀ x ∈ o.op.operands.toList, ∀ p, evK tm x = some p → s.ev x = p
  hp : ∀ b k, hg b = some k → look b s.heap = some k.blk
  n : s.n = n
theorem EvH.of {H : Prop} {s : St} {x : Operand} {p : PV} (h : s.ev x = p) (hk : p.known = true) : EvH H s x p := by
  refine ⟨?_, ?_⟩
  · rw [h]; cases p <;> first | rfl | cases hk
  · rw [h]; cases p <;> first | trivial | cases hk
section
variable {tm : Tr PV} {hg : Nat → Option RB} {n : Nat} {o : Oper} {s : St}
theorem Kn.get (h : Kn tm hg n o s) {x : Operand} (hx : x ∈ o.op.operands.toList) {p : PV} (hp : evK tm x = some p) : s.ev x = p ∧ p.known = true ∧ ∀ H, EvH H s x p :=
  ⟨h.ev x hx p hp, (evK_ok hp).2, fun H => .of (h.ev x hx p hp) (evK_ok hp).2⟩
end
/-- What an operation comes to: a value, blocks that are written (or gone), how many there are then. -/
structure OR where
  p : PV
  u : List (Nat × Option RB)
  n : Nat
def aftH : List (Nat × Option RB) → List (Nat × Blk) → List (Nat × Blk)
  | [], h => h
  | (b, some k) :: us, h => aftH us ((b, k.blk) :: h)
  | (b, none) :: us, h => aftH us (wipe b h)
def St.aft (s : St) (d : Option Nat) (x : OR) : St := ⟨pushT d x.p s.tm, s.N, aftH x.u s.heap, s.lo, x.n⟩
def putH (h : Tr RB) : List (Nat × Option RB) → Tr RB
  | [] => h
  | (b, k) :: us => putH (h.put b k) us
theorem look_aftH : ∀ (us : List (Nat × Option RB)) (hr : Tr RB) (h : List (Nat × Blk)), (∀ b k, hr.get b = some k → look b h = some k.blk) → ∀ b k, (putH hr us).get b = some k → look b (aftH us h) = some k.blk
  | [], _, _, H, b, k, hk => H b k hk
  | (b', some k') :: us, hr, h, H, b, k, hk => by
    refine look_aftH us (hr.put b' (some k')) _ (fun c q hc => ?_) b k hk
    rw [Tr.get_put] at hc
    simp only [look]
    split at hc
    · cases hc; rename_i e; rw [if_pos e]
    · rename_i e; rw [if_neg e]; exact H c q hc
  | (b', none) :: us, hr, h, H, b, k, hk => by
    refine look_aftH us (hr.put b' none) _ (fun c q hc => ?_) b k hk
    rw [Tr.get_put] at hc
    rw [look_wipe]
    split at hc
    · cases hc
    · rename_i e; rw [if_neg e]; exact H c q hc
end
end Go.Proofs.YtdiimgkopknbcaaGreatDoor.E

/- The engine runs closed code: operations that give a value and leave memory as it is. -/
namespace Go.Proofs.YtdiimgkopknbcaaGreatDoor.E
open Go Go.RowKit
set_option linter.unusedVariables false
set_option linter.unusedSimpArgs false
variable {P : Program}
noncomputable section

theorem PO.weak {H : Prop} {o : Oper} {s : St} {p q : PV} (h : PO P H o s p) (hw : ∀ F φ v, VR F φ p v → VR F φ q v) : PO P H o s q :=
  fun hH B0 w0 φ0 F0 F φ a w hs => let ⟨v, h1, h2⟩ := h hH B0 w0 φ0 F0 F φ a w hs; ⟨v, h1, hw _ _ _ h2⟩
theorem mkAgg_agg {F : FMem} {φ : Phi} {ps : List PV} {v : Value} (h : VR F φ (mkAgg ps) v) : VR F φ (.agg ps) v := by
  unfold mkAgg at h
  split at h
  · rename_i xs hxs
    have := toTs_some hxs
    subst this
    cases h with
    | t h => cases h with
      | agg hn h => exact .agg (by simpa using hn) (fun i p u hp hu => by
          rw [List.getElem?_map, Option.map_eq_some_iff] at hp
          obtain ⟨x, hx, rfl⟩ := hp
          exact .t (h i x u hx hu))
  · exact h
theorem rptr_ptr {F : FMem} {φ : Phi} {b e i o : Nat} {v : Value} (h : VR F φ (.rptr b e i o) v) : VR F φ (.ptr b (i * e + o)) v := by
  cases h with | rptr hb => exact .ptr hb

theorem bif_some {α : Type} {c : Bool} {x : Option α} {q : α} (h : (bif c then x else none) = some q) : c = true ∧ x = some q := by
  cases c with
  | true => exact ⟨rfl, h⟩
  | false => cases h
theorem blt_lt {a b : Nat} (h : Nat.blt a b = true) : a < b := by simpa [Nat.blt_eq] using h
section
variable {E : Env P} {d ty : Nat} {pos : String} {af : Array Edge} {g : Option (Nat × Bool)} {s : St} {hg : Nat → Option RB}
/-- What stands in blocks is known. -/
abbrev HK (hg : Nat → Option RB) (s : St) : Prop := ∀ b k, hg b = some k → look b s.heap = some k.blk

/-! ### choices -/
def pickV (tm : Tr PV) (c x y : Operand) : Option PV := match evK tm c with
  | some (.t (.v (.bool b))) => evK tm (bif b then x else y)
  | _ => none
theorem PO.pick1 {c x y : Operand} {b : Bool} {p : PV} (hc : EvH True s c (.t (.v (.bool b)))) (hx : s.ev (bif b then x else y) = p) : PO P True ⟨some d, .pick c x y, ty, pos, af, g⟩ s p := by
  intro hH B0 w0 φ0 F0 F φ a w hs
  have h1 := (evv hH hs hc).1
  cases b with
  | true => exact ⟨a.eval x, by simp [execOp, h1, asBool], hx ▸ hs.ev _⟩
  | false => exact ⟨a.eval y, by simp [execOp, h1, asBool], hx ▸ hs.ev _⟩
theorem pickV_ok {tm : Tr PV} {n : Nat} {c x y : Operand} {p : PV} (K : Kn tm hg n ⟨some d, .pick c x y, ty, pos, af, g⟩ s) (h : pickV tm c x y = some p) : PO P True ⟨some d, .pick c x y, ty, pos, af, g⟩ s p := by
  unfold pickV at h
  split at h
  · rename_i b hc
    have hc := (K.get (by simp [Op.operands]) hc).2.2
    exact .pick1 (hc _) (K.ev _ (by cases b <;> simp [Op.operands]) _ h)
  · cases h

/-! ### loads -/
def loadV (E : Env P) (hg : Nat → Option RB) (t : TypeId) (p : PV) : Option PV := match p with
  | .ptr b o => match E.tyAt t, hg b with
    | some y, some (.c sz cs dv _) => bif aggD y.d then (bif Nat.ble (o + y.sz) sz then some (.agg (cs.gets dv o y.sz)) else none) else (bif Nat.blt o sz then some ((cs.get o).getD dv) else none)
    | _, _ => none
  | .eptr y o => match E.tyAt t with
    | some x => bif aggD x.d then (match y, o with
        | .agg ls, 0 => bif Nat.beq ls.length x.sz then some (.t (.agg ls)) else none
        | _, _ => none) else (match y.leaves[o]? with
        | some q => some (.t q)
        | none => none)
    | none => none
  | _ => none
theorem gets_drop (cs : Tr PV) (dv : PV) (sz o n : Nat) (h : o + n ≤ sz) : ((cs.gets dv 0 sz).drop o).take n = cs.gets dv o n := by
  refine List.ext_getElem? fun i => ?_
  rw [List.getElem?_take, Tr.gets_get]
  by_cases hi : i < n
  · rw [if_pos hi, if_pos hi, List.getElem?_drop, Tr.gets_get, if_pos (show o + i < sz by omega), Nat.zero_add]
  · rw [if_neg hi, if_neg hi]
theorem loadV_ok {t : TypeId} {x : Operand} {p q : PV} (hx : EvH True s x p) (hk : HK hg s) (h : loadV E hg t p = some q) : PO P True ⟨some d, .load t x, ty, pos, af, g⟩ s q := by
  unfold loadV at h
  split at h
  · rename_i b o
    split at h
    · rename_i y sz cs dv bt hy hb
      have ht := E.tyAt_ok hy
      have hl := hk b _ hb
      simp only [RB.blk] at hl
      cases hd : aggD y.d with
      | true =>
        rw [hd, cond_true] at h
        obtain ⟨hle, h⟩ := bif_some h
        cases h
        exact (PO.loadS (p := mkAgg (cs.gets dv o y.sz)) hd hx hl (gets_drop cs dv sz o y.sz (Nat.le_of_ble_eq_true hle)) (Tr.gets_len _ _ _ _) rfl).weak fun _ _ _ => mkAgg_agg
      | false =>
        rw [hd, cond_false] at h
        obtain ⟨hlt, h⟩ := bif_some h
        cases h
        exact PO.load hd hx hl (by rw [Tr.gets_get, if_pos (blt_lt hlt), Nat.zero_add])
    · cases h
  · rename_i y o
    split at h
    · rename_i x1 hx1
      have ht := E.tyAt_ok hx1
      cases hd : aggD x1.d with
      | true =>
        rw [hd, cond_true] at h
        split at h
        · obtain ⟨hle, h⟩ := bif_some h
          cases h
          exact PO.loadES hd hx rfl (Nat.eq_of_beq_eq_true hle)
        · cases h
      | false =>
        rw [hd, cond_false] at h
        split at h
        · rename_i q1 hq1
          cases h
          exact PO.loadE hd hx hq1
        · cases h
    · cases h
  · cases h

/-! ### addresses -/
def fldV (E : Env P) (t : TypeId) (f : Nat) (p : PV) : Option PV := match p with
  | .ptr b o => match (E.tyAt t).map TyE.d with
    | some (.struct fs) => match fldAt fs.toList f with
      | some (ft, off) => match E.tyAt ft with
        | some y => bif Nat.beq y.sz 0 then none else some (.ptr b (o + off))
        | none => none
      | none => none
    | _ => none
  | .eptr z o => match (E.tyAt t).map TyE.d with
    | some (.struct fs) => match fldAt fs.toList f with
      | some (ft, off) => match E.tyAt ft with
        | some y => bif Nat.beq y.sz 0 then none else some (.eptr z (o + off))
        | none => none
      | none => none
    | _ => none
  | _ => none
theorem fldV_ok {t : TypeId} {x : Operand} {f : Nat} {p q : PV} (hx : EvH True s x p) (h : fldV E t f p = some q) : PO P True ⟨some d, .fieldAddr t x f, ty, pos, af, g⟩ s q := by
  unfold fldV at h
  split at h
  · split at h
    · rename_i fs hy
      obtain ⟨_, _, _, ht⟩ := tyAt_d hy
      split at h
      · rename_i ft off hf
        split at h
        · rename_i y hy2
          simp only [Bool.cond_eq_ite] at h
          split at h
          · cases h
          · rename_i hz
            cases h
            exact PO.fld hx hf (E.tyAt_ok hy2) (fun e => hz (by rw [e]; rfl))
        · cases h
      · cases h
    · cases h
  · split at h
    · rename_i fs hy
      obtain ⟨_, _, _, ht⟩ := tyAt_d hy
      split at h
      · rename_i ft off hf
        split at h
        · rename_i y hy2
          simp only [Bool.cond_eq_ite] at h
          split at h
          · cases h
          · rename_i hz
            cases h
            exact PO.fldE hx hf (E.tyAt_ok hy2) (fun e => hz (by rw [e]; rfl))
        · cases h
      · cases h
    · cases h
  · cases h
theorem indexAt_arr {t et : TypeId} {m sz bytes esz ebytes : Nat} {z ez : Value} {ed : TypeDesc} (ht : TyIs P t (.array m et) sz bytes z) (he : TyIs P et ed esz ebytes ez) {B o : Nat} {k : IntKind} {i : Int} (h0 : 0 ≤ i) (h1 : i < m) (w : World) :
    (Instr.indexAt t (.pointer (some ⟨B, o, none⟩)) (.int k i)).run P w = .ok (.pointer (some ⟨B, o + i.toNat * esz, none⟩)) w := by
  simp [Instr.indexAt, Instr.sureAddr, asIntOf, ht.under, he.sizeOf, h0, h1, Addr.add_mid]
def idxV (E : Env P) (t : TypeId) (p q : PV) : Option PV := match q with
  | .t (.v (.int _ i)) => match p, (E.tyAt t).map TyE.d with
    | .ref b e off len _, some (.slice et) => match E.tyAt et with
      | some y => bif Nat.beq e y.sz && decide (0 ≤ i) && decide (i < len) then some (.ptr b ((off + i.toNat) * e + 0)) else none
      | none => none
    | .ptr b o, some (.array m et) => match E.tyAt et with
      | some y => bif decide (0 ≤ i) && decide (i < m) then some (.ptr b (o + i.toNat * y.sz)) else none
      | none => none
    | .eptr z o, some (.array m et) => match E.tyAt et with
      | some y => bif decide (0 ≤ i) && decide (i < m) then some (.eptr z (o + i.toNat * y.sz)) else none
      | none => none
    | .t (.sl _ xs), some (.slice et) => match E.tyAt et, xs[i.toNat]? with
      | some y, some e => bif decide (0 ≤ i) && Nat.beq e.leaves.length y.sz then some (.eptr e 0) else none
      | _, _ => none
    | _, _ => none
  | _ => none
theorem idxV_ok {t : TypeId} {x y : Operand} {p q r : PV} (hx : EvH True s x p) (hy : EvH True s y q) (h : idxV E t p q = some r) : PO P True ⟨some d, .indexAddr t x y, ty, pos, af, g⟩ s r := by
  unfold idxV at h
  split at h
  · rename_i k i
    split at h
    · rename_i b e off len cap et hd
      obtain ⟨_, _, _, ht⟩ := tyAt_d hd
      split at h
      · rename_i ye hye
        have he := E.tyAt_ok hye
        simp only [Bool.cond_eq_ite] at h
        split at h
        · rename_i hc
          cases h
          simp only [Bool.and_eq_true, decide_eq_true_eq] at hc
          obtain ⟨⟨h1, h2⟩, h3⟩ := hc
          have h1 := Nat.eq_of_beq_eq_true h1
          subst h1
          exact (PO.idxR hx hy (fun _ => h2) (fun _ => h3)).weak fun _ _ _ => rptr_ptr
        · cases h
      · cases h
    · rename_i b o m et hd
      obtain ⟨_, _, _, ht⟩ := tyAt_d hd
      split at h
      · rename_i ye hye
        have he := E.tyAt_ok hye
        simp only [Bool.cond_eq_ite] at h
        split at h
        · rename_i hc
          cases h
          simp only [Bool.and_eq_true, decide_eq_true_eq] at hc
          intro hH B0 w0 φ0 F0 F φ a w hs
          have hv := hx.vr hH hs
          have hi := (evv hH hs hy).1
          generalize hq : a.eval x = q at hv
          cases hv with
          | ptr hb =>
            refine ⟨_, ?_, .ptr hb⟩
            simp only [execOp, hq, hi, Sem.run_bind]
            rw [indexAt_arr ht he hc.1 hc.2]; rfl
        · cases h
      · cases h
    · rename_i b o m et hd
      obtain ⟨_, _, _, ht⟩ := tyAt_d hd
      split at h
      · rename_i ye hye
        have he := E.tyAt_ok hye
        simp only [Bool.cond_eq_ite] at h
        split at h
        · rename_i hc
          cases h
          simp only [Bool.and_eq_true, decide_eq_true_eq] at hc
          intro hH B0 w0 φ0 F0 F φ a w hs
          have hv := hx.vr hH hs
          have hi := (evv hH hs hy).1
          generalize hq : a.eval x = q at hv
          cases hv with
          | eptr us hb =>
            refine ⟨_, ?_, .eptr us hb⟩
            simp only [execOp, hq, hi, Sem.run_bind]
            rw [indexAt_arr ht he hc.1 hc.2, Nat.add_assoc]; rfl
        · cases h
      · cases h
    · rename_i nn xs et hd
      obtain ⟨_, _, _, ht⟩ := tyAt_d hd
      split at h
      · rename_i ye e hye hxe
        have he := E.tyAt_ok hye
        obtain ⟨hc, h⟩ := bif_some h
        cases h
        simp only [Bool.and_eq_true, decide_eq_true_eq] at hc
        exact PO.idx hx hy (fun _ => hc.1) (fun _ => hxe) (fun _ => Nat.eq_of_beq_eq_true hc.2)
      · cases h
    · cases h
  · cases h

/-! ### parts of values -/
theorem PO.part {t : TypeId} {x : Operand} {fs : Array Field} {f ft off sz bytes fsz fbytes : Nat} {z fz : Value} {fd : TypeDesc} {p : PV} {qs : List PV} [ht : TyIs P t (.struct fs) sz bytes z] (hx : EvH True s x p) (hp : p.known = true) (ha : fldAt fs.toList f = some (ft, off))
    (hft' : TyIs P ft fd fsz fbytes fz) (hd : aggD fd = true) (hagg : p.isAgg = true) (hq : (p.leaves.drop off).take fsz = qs) : PO P True ⟨some d, .field t x f, ty, pos, af, g⟩ s (.agg qs) := by
  obtain ⟨fl, ha2, hft, rfl⟩ := fldAt_spec ha
  intro hH B0 w0 φ0 F0 F φ a w hs
  have hv := hx.vr hH hs
  obtain ⟨h1, h2⟩ := hv.cells hp
  generalize he : a.eval x = v at hv h1 h2
  have hv' : ∃ cs, v = .agg cs := by
    cases hv with
    | agg => exact ⟨_, rfl⟩
    | t h => cases h with
      | agg => exact ⟨_, rfl⟩
      | _ => cases hagg
    | _ => cases hagg
  obtain ⟨cs, rfl⟩ := hv'
  subst hft
  simp only [Value.cells] at h1 h2
  refine ⟨.agg (cs.extract fl.offset (fl.offset + fsz)), ?_, ?_⟩
  · simp only [execOp, he, Instr.field, Sem.run_bind, ht.under, Result.andThen_ok, ha2, asAgg, Sem.run_pure, Go.part, isAgg_run hft', hd, if_true, hft'.sizeOf]
  · subst hq
    refine .agg (by simp [h1]; omega) (fun i y u hy hu => ?_)
    rw [List.getElem?_take] at hy
    split at hy
    · rw [List.getElem?_drop] at hy
      obtain ⟨u', hu', hr⟩ := h2 _ y hy
      rw [Array.getElem?_extract] at hu
      split at hu
      · rw [hu] at hu'; cases hu'; exact hr
      · cases hu
    · cases hy
def partV (E : Env P) (t : TypeId) (f : Nat) (p : PV) : Option PV := match (E.tyAt t).map TyE.d with
  | some (.struct fs) => match fldAt fs.toList f with
    | some (ft, off) => match E.tyAt ft with
      | some y => bif p.isAgg then (bif aggD y.d then some (.agg ((p.leaves.drop off).take y.sz)) else p.leaves[off]?) else none
      | none => none
    | none => none
  | _ => none
theorem isAgg_known {p : PV} (h : p.isAgg = true) : p.known = true := by cases p <;> first | rfl | cases h
theorem partV_ok {t : TypeId} {x : Operand} {f : Nat} {p q : PV} (hx : EvH True s x p) (h : partV E t f p = some q) : PO P True ⟨some d, .field t x f, ty, pos, af, g⟩ s q := by
  unfold partV at h
  split at h
  · rename_i fs hy
    obtain ⟨_, _, _, ht⟩ := tyAt_d hy
    split at h
    · rename_i ft off hf
      split at h
      · rename_i y hy2
        cases hag : p.isAgg with
        | false => rw [hag] at h; cases h
        | true =>
          rw [hag, cond_true] at h
          cases hd : aggD y.d with
          | true => rw [hd, cond_true] at h; cases h; exact PO.part hx (isAgg_known hag) hf (E.tyAt_ok hy2) hd hag rfl
          | false => rw [hd, cond_false] at h; exact PO.field hx (isAgg_known hag) hf (E.tyAt_ok hy2) hd hag h
      · cases h
    · cases h
  · cases h
/-- An element of an array's value. -/
theorem PO.idxA {t et : TypeId} {x y : Operand} {k : IntKind} {i : Int} {m sz bytes esz ebytes : Nat} {z ez : Value} {ed : TypeDesc} {p q : PV} [ht : TyIs P t (.array m et) sz bytes z] (hx : EvH True s x p) (hy : EvH True s y (.t (.v (.int k i)))) (hp : p.known = true)
    (he : TyIs P et ed esz ebytes ez) (hd : aggD ed = false) (hagg : p.isAgg = true) (h0 : 0 ≤ i) (h1 : i < m) (hq : p.leaves[i.toNat * esz]? = some q) : PO P True ⟨some d, .index t x y, ty, pos, af, g⟩ s q := by
  intro hH B0 w0 φ0 F0 F φ a w hs
  have hv := hx.vr hH hs
  have hi := (evv hH hs hy).1
  obtain ⟨k1, k2⟩ := hv.cells hp
  obtain ⟨u, hu, hr⟩ := k2 _ _ hq
  generalize he' : a.eval x = v at hv hu
  have hv' : ∃ cs, v = .agg cs := by
    cases hv with
    | agg => exact ⟨_, rfl⟩
    | t h => cases h with
      | agg => exact ⟨_, rfl⟩
      | _ => cases hagg
    | _ => cases hagg
  obtain ⟨cs, rfl⟩ := hv'
  refine ⟨u, ?_, hr⟩
  simp only [Value.cells] at hu
  simp only [execOp, he', hi, Instr.index, asIntOf, Sem.run_bind, Sem.run_pure, ht.under, Result.andThen_ok, if_pos (show 0 ≤ i ∧ i < (m : Int) from ⟨h0, h1⟩), he.sizeOf, Go.part, isAgg_run he, hd, Bool.false_eq_true, if_false, hu]
def atV (E : Env P) (t : TypeId) (p q : PV) : Option PV := match q with
  | .t (.v (.int _ i)) => match p with
    | .t (.v (.string b)) => match (E.tyAt t).map TyE.d with
      | some .string => bif decide (0 ≤ i) && Nat.blt i.toNat b.size then some (.t (.v (.int .u8 ((b.data.toList).getD i.toNat 0).toNat))) else none
      | _ => none
    | p => match (E.tyAt t).map TyE.d with
      | some (.array m et) => match E.tyAt et with
        | some y => bif p.isAgg && !(aggD y.d) && decide (0 ≤ i) && decide (i < m) then p.leaves[i.toNat * y.sz]? else none
        | none => none
      | _ => none
  | _ => none
theorem atV_ok {t : TypeId} {x y : Operand} {p q r : PV} (hx : EvH True s x p) (hy : EvH True s y q) (h : atV E t p q = some r) : PO P True ⟨some d, .index t x y, ty, pos, af, g⟩ s r := by
  unfold atV at h
  split at h
  · rename_i k i
    split at h
    · rename_i b
      split at h
      · rename_i hd
        obtain ⟨_, _, _, ht⟩ := tyAt_d hd
        simp only [Bool.cond_eq_ite] at h
        split at h
        · rename_i hc
          cases h
          simp only [Bool.and_eq_true, decide_eq_true_eq, Nat.blt_eq] at hc
          exact PO.idxS hx hy (fun _ => hc.1) (fun _ => by omega)
        · cases h
      · cases h
    · split at h
      · rename_i m et hd
        obtain ⟨_, _, _, ht⟩ := tyAt_d hd
        split at h
        · rename_i y hy2
          simp only [Bool.cond_eq_ite] at h
          split at h
          · rename_i hc
            simp only [Bool.and_eq_true, decide_eq_true_eq, Bool.not_eq_true'] at hc
            exact PO.idxA hx hy (isAgg_known hc.1.1.1) (E.tyAt_ok hy2) hc.1.1.2 hc.1.1.1 hc.1.2 hc.2 h
          · cases h
        · cases h
      · cases h
  · cases h
def extV (i : Nat) (p : PV) : Option PV := match p with
  | .tup ps => ps[i]?
  | _ => none
theorem extV_ok {x : Operand} {i : Nat} {p q : PV} (hx : EvH True s x p) (h : extV i p = some q) : PO P True ⟨some d, .extract x i, ty, pos, af, g⟩ s q := by
  unfold extV at h
  split at h
  · exact PO.ext hx h
  · cases h
def nckV (p : PV) : Option PV := match p with
  | .ptr b o => some (.ptr b o)
  | _ => none
theorem nckV_ok {x : Operand} {p q : PV} (hx : EvH True s x p) (h : nckV p = some q) : PO P True ⟨some d, .nilCheck x, ty, pos, af, g⟩ s q := by
  unfold nckV at h
  split at h
  · cases h; exact PO.nilchk hx
  · cases h
end
end
end Go.Proofs.YtdiimgkopknbcaaGreatDoor.E

/- The engine runs closed code: comparisons, strings, cuts, structs, conversions. -/
namespace Go.Proofs.YtdiimgkopknbcaaGreatDoor.E
open Go Go.RowKit
set_option linter.unusedVariables false
set_option linter.unusedSimpArgs false
variable {P : Program}
noncomputable section

/-! ### the same, by '==' -/
def numV : Value → Bool
  | .int .. | .float .. | .complex .. | .string _ | .agg _ | .nilIface => true
  | _ => false
def EqG (P : Program) (t : TypeId) (u v : Value) : Prop := numV u = false ∨ ∃ xs ys, u = .agg xs ∧ v = .agg ys ∧ P.eqGuardType P.depth t = false
theorem run_eqop {op : BinOp} {t : TypeId} {x y : Operand} {u v : Value} {b : Bool} {w : World} (hop : op = .eql ∨ op = .neq) (hu : EqG P t u v) (h : (Op.equal t u v).run P w = .ok b w) :
    (do eqGuard op t x y u v; binOp op t u v : Sem Value).run P w = .ok (.bool (bif op matches .eql then b else !b)) w := by
  have h1 : (eqGuard op t x y u v).run P w = .ok () w := by
    rcases hu with hu | ⟨xs, ys, rfl, rfl, hg⟩
    · have : eqGuard op t x y u v = (pure () : Sem Unit) := by
        rcases hop with rfl | rfl <;> cases u <;> first | rfl | cases hu
      rw [this]; rfl
    · rcases hop with rfl | rfl <;> simp [eqGuard, program, Sem.run, hg]
  rw [Sem.run_bind, h1, Result.andThen_ok]
  clear h1
  rcases hop with rfl | rfl
  · have h2 : binOp .eql t u v = (do pure (.bool (← Op.equal t u v)) : Sem Value) := by
      rcases hu with hu | ⟨xs, ys, rfl, rfl, hg⟩
      · cases u <;> first | rfl | cases hu
      · rfl
    simp only [h2, Sem.run_bind, h, Result.andThen_ok, Sem.run_pure, cond_true]
  · have h2 : binOp .neq t u v = (do pure (.bool (!(← Op.equal t u v))) : Sem Value) := by
      rcases hu with hu | ⟨xs, ys, rfl, rfl, hg⟩
      · cases u <;> first | rfl | cases hu
      · rfl
    simp only [h2, Sem.run_bind, h, Result.andThen_ok, Sem.run_pure, cond_false]
theorem vrt {F : FMem} {φ : Phi} {x : T} {v : Value} (h : VR F φ (.t x) v) : TR F x v := by cases h with | t h => exact h
theorem vrv {F : FMem} {φ : Phi} {x v : Value} (h : VR F φ (.t (.v x)) v) : v = x := by cases vrt h; rfl
/-- Structs, field by field. -/
def eqFs (E : Env P) : List Field → List PV → List PV → Option Bool
  | [], _, _ => some true
  | f :: l, ps, qs => match (E.tyAt f.type).map TyE.d, ps[f.offset]?, qs[f.offset]? with
    | some (.int _), some (.t (.v (.int k a))), some (.t (.v (.int k' b))) => if k = k' then (bif decide (a = b) then eqFs E l ps qs else some false) else none
    | some .bool, some (.t (.v (.bool a))), some (.t (.v (.bool b))) => bif a == b then eqFs E l ps qs else some false
    | some .string, some (.t (.v (.string a))), some (.t (.v (.string b))) => bif a == b then eqFs E l ps qs else some false
    | _, _, _ => none
def isAggP : PV → Bool
  | .agg _ => true
  | .t (.agg _) => true
  | _ => false
theorem isAggP_ok {F : FMem} {φ : Phi} {p : PV} {u : Value} (h : isAggP p = true) (hv : VR F φ p u) : ∃ xs, u = .agg xs := by
  cases hv with
  | t ht => cases ht <;> first | exact ⟨_, rfl⟩ | (cases h; done)
  | agg _ _ => exact ⟨_, rfl⟩
  | _ => cases h
theorem eqFs_run {E : Env P} {ps qs : List PV} {xs ys : Array Value} {F : FMem} {φ : Phi} {w : World} {d : Nat} (hx : ∀ (i : Nat) (p : PV), ps[i]? = some p → ∃ u, xs[i]? = some u ∧ VR F φ p u) (hy : ∀ (i : Nat) (p : PV), qs[i]? = some p → ∃ u, ys[i]? = some u ∧ VR F φ p u) :
    ∀ (l : List Field) {b : Bool}, (∀ f ∈ l, f.name ≠ "_") → eqFs E l ps qs = some b →
    (forIn (m := Sem) l ((none, ()) : Option Bool × Unit) fun f __s =>
            if f.name = "_" then pure (ForInStep.yield (none, ()))
            else do
              let a ← Go.part f.type xs f.offset
              let b ← Go.part f.type ys f.offset
              let c ← Op.equalIn (d + 1) f.type a b
              if c = false then pure (ForInStep.done (some false, ())) else pure (ForInStep.yield (none, ()))).run P w = .ok (bif b then (none, ()) else (some false, ())) w
  | [], b, _, h => by cases h; rfl
  | f :: l, b, hn, h => by
    have ih := fun {b} => eqFs_run (E := E) (w := w) (d := d) hx hy l (b := b) (fun g hg => hn g (List.mem_cons_of_mem _ hg))
    have h0 := hn f List.mem_cons_self
    have one : ∀ {p q : PV} {u v : Value} {td : TypeDesc} {c : Bool}, (E.tyAt f.type).map TyE.d = some td → aggD td = false → ps[f.offset]? = some p → qs[f.offset]? = some q → (∀ u v, VR F φ p u → VR F φ q v → (Op.equalIn (d + 1) f.type u v).run P w = .ok c w) → (bif c then eqFs E l ps qs else some false) = some b →
        (forIn (m := Sem) (f :: l) ((none, ()) : Option Bool × Unit) fun f __s =>
            if f.name = "_" then pure (ForInStep.yield (none, ()))
            else do
              let a ← Go.part f.type xs f.offset
              let b ← Go.part f.type ys f.offset
              let c ← Op.equalIn (d + 1) f.type a b
              if c = false then pure (ForInStep.done (some false, ())) else pure (ForInStep.yield (none, ()))).run P w = .ok (bif b then (none, ()) else (some false, ())) w := by
      intro p q u v td c htd hag hp hq heq hb
      obtain ⟨_, _, _, ht⟩ := tyAt_d htd
      obtain ⟨u, hu, hu2⟩ := hx _ _ hp
      obtain ⟨v, hv, hv2⟩ := hy _ _ hq
      have h1 : (Go.part f.type xs f.offset).run P w = .ok u w := by
        simp only [Go.part, Sem.run_bind, isAgg_run ht, hag, Result.andThen_ok, Bool.false_eq_true, if_false, hu, Sem.run_pure]
      have h2 : (Go.part f.type ys f.offset).run P w = .ok v w := by
        simp only [Go.part, Sem.run_bind, isAgg_run ht, hag, Result.andThen_ok, Bool.false_eq_true, if_false, hv, Sem.run_pure]
      rw [List.forIn_cons]
      simp only [if_neg h0, Sem.run_bind, h1, h2, heq u v hu2 hv2, Result.andThen_ok]
      cases c with
      | true =>
        simp only [Bool.true_eq_false, if_false, Sem.run_pure, Result.andThen_ok]
        exact ih hb
      | false =>
        cases hb
        simp only [if_true, Sem.run_pure, Result.andThen_ok]
        rfl
    unfold eqFs at h
    split at h
    · rename_i k1 k a k' b' hd hp hq
      split at h
      · rename_i hk
        subst hk
        obtain ⟨_, _, _, ht⟩ := tyAt_d hd
        refine one (u := .nilFunc) (v := .nilFunc) (c := decide (a = b')) hd rfl hp hq (fun u v hu hv => ?_) h
        obtain rfl := vrv hu; obtain rfl := vrv hv
        simp [Op.equalIn, run_underlying ht.und]
        rfl
      · cases h
    · rename_i a b' hd hp hq
      obtain ⟨_, _, _, ht⟩ := tyAt_d hd
      refine one (u := .nilFunc) (v := .nilFunc) (c := a == b') hd rfl hp hq (fun u v hu hv => ?_) h
      obtain rfl := vrv hu; obtain rfl := vrv hv
      simp [Op.equalIn, run_underlying ht.und]
    · rename_i a b' hd hp hq
      obtain ⟨_, _, _, ht⟩ := tyAt_d hd
      refine one (u := .nilFunc) (v := .nilFunc) (c := a == b') hd rfl hp hq (fun u v hu hv => ?_) h
      obtain rfl := vrv hu; obtain rfl := vrv hv
      simp [Op.equalIn, run_underlying ht.und]
    · cases h
def eqV (E : Env P) (hg : Nat → Option RB) (t : TypeId) (p q : PV) : Option Bool := match (E.tyAt t).map TyE.d with
  | some .bool => match p, q with
    | .t (.v (.bool a)), .t (.v (.bool b)) => some (a == b)
    | _, _ => none
  | some (.slice _) => match q with
    | .t (.sl true []) => match p with
      | .t (.sl n _) => some n
      | .ref .. => some false
      | _ => none
    | _ => none
  | some (.map _ _) => match q with
    | .t (.v (.map none)) => match p with
      | .t (.v (.map none)) => some true
      | .mp _ => some false
      | _ => none
    | _ => none
  | some (.func _ _ _) => match q with
    | .t (.v .nilFunc) => match p with
      | .t (.v .nilFunc) => some true
      | .fn _ _ _ => some false
      | .t (.v (.func _ _ _)) => some false
      | _ => none
    | _ => none
  | some (.pointer te) => match p, q with
    | .t (.v (.pointer none)), .t (.v (.pointer none)) => some true
    | .ptr _ _, .t (.v (.pointer none)) => some false
    | .t (.v (.pointer none)), .ptr _ _ => some false
    | .ptr b o, .ptr b' o' => match E.tyAt te with
      | some y => bif Nat.beq b b' then (bif Nat.beq o o' then some true else none)
          else match hg b, hg b' with
            | some (.c _ _ _ _), some (.c _ _ _ _) => bif Nat.beq y.sz 0 then none else some false
            | _, _ => none
      | none => none
    | _, _ => none
  | some (.struct _) => match E.plAt t with
    | some x => bif isAggP p && isAggP q && x.cmp then eqFs E x.fs.toList p.leaves q.leaves else none
    | none => none
  | _ => none
section
variable {E : Env P} {d ty : Nat} {pos : String} {af : Array Edge} {g : Option (Nat × Bool)} {s : St} {hg : Nat → Option RB}
theorem equal_at {t : TypeId} {ds : TypeDesc} (hd : P.underlying t = some ds) {u v : Value} {b : Bool} {w : World} (h : ∀ n, (Op.equalIn (n + 1) t u v).run P w = .ok b w) : (Op.equal t u v).run P w = .ok b w := h 9999
theorem eqV_ok {t : TypeId} {p q : PV} {b : Bool} {B0 : Fr} {w0 : World} {φ0 : Phi} {F0 : FMem} {F : FMem} {φ : Phi} {a : Act} {w : World} (hs : Sim B0 w0 φ0 F0 s F φ a w) (hk : HK hg s) {u v : Value} (hu : VR F φ p u) (hv : VR F φ q v) (h : eqV E hg t p q = some b) :
    EqG P t u v ∧ (Op.equal t u v).run P w = .ok b w := by
  unfold eqV at h
  split at h
  · rename_i hd
    obtain ⟨_, _, _, ht⟩ := tyAt_d hd
    split at h
    · cases h
      obtain rfl := vrv hu; obtain rfl := vrv hv
      exact ⟨.inl rfl, equal_at ht.und (fun n => by simp [Op.equalIn, run_underlying ht.und])⟩
    · cases h
  · rename_i hd
    obtain ⟨_, _, _, ht⟩ := tyAt_d hd
    split at h
    · obtain rfl := tr_nil (vrt hv)
      split at h
      · cases h
        obtain ⟨aa, l, c, rfl, rfl⟩ := tr_sl (vrt hu)
        exact ⟨.inl rfl, equal_at ht.und (fun n => by cases aa <;> simp [Op.equalIn, run_underlying ht.und])⟩
      · cases h
        cases hu with | ref _ _ _ _ => exact ⟨.inl rfl, equal_at ht.und (fun n => by simp [Op.equalIn, run_underlying ht.und])⟩
      · cases h
    · cases h
  · rename_i hd
    obtain ⟨_, _, _, ht⟩ := tyAt_d hd
    split at h
    · obtain rfl := vrv hv
      split at h
      · cases h
        obtain rfl := vrv hu; exact ⟨.inl rfl, equal_at ht.und (fun n => by simp [Op.equalIn, run_underlying ht.und])⟩
      · cases h
        cases hu with | mp _ => exact ⟨.inl rfl, equal_at ht.und (fun n => by simp [Op.equalIn, run_underlying ht.und])⟩
      · cases h
    · cases h
  · rename_i hd
    obtain ⟨_, _, _, ht⟩ := tyAt_d hd
    split at h
    · obtain rfl := vrv hv
      split at h
      · cases h
        obtain rfl := vrv hu; exact ⟨.inl rfl, equal_at ht.und (fun n => by simp [Op.equalIn, run_underlying ht.und])⟩
      · cases h
        cases hu with | fn _ _ _ _ => exact ⟨.inl rfl, equal_at ht.und (fun n => by simp [Op.equalIn, run_underlying ht.und])⟩
      · cases h
        obtain rfl := vrv hu; exact ⟨.inl rfl, equal_at ht.und (fun n => by simp [Op.equalIn, run_underlying ht.und])⟩
      · cases h
    · cases h
  · rename_i te hd
    obtain ⟨_, _, _, ht⟩ := tyAt_d hd
    split at h
    · cases h
      obtain rfl := vrv hu; obtain rfl := vrv hv
      exact ⟨.inl rfl, equal_at ht.und (fun n => by simp [Op.equalIn, run_underlying ht.und])⟩
    · cases h
      obtain rfl := vrv hv; cases hu with | ptr _ =>
        exact ⟨.inl rfl, equal_at ht.und (fun n => by simp [Op.equalIn, run_underlying ht.und])⟩
    · cases h
      obtain rfl := vrv hu; cases hv with | ptr _ =>
        exact ⟨.inl rfl, equal_at ht.und (fun n => by simp [Op.equalIn, run_underlying ht.und])⟩
    · rename_i b1 o1 b2 o2
      split at h
      · rename_i y hy
        have hy := E.tyAt_ok hy
        cases hu with | @ptr _ _ B1 s1 e1 =>
        cases hv with | @ptr _ _ B2 s2 e2 =>
        refine ⟨.inl rfl, equal_at ht.und fun n => ?_⟩
        cases hb : Nat.beq b1 b2 with
        | true =>
          rw [hb, cond_true] at h
          obtain ⟨ho, h⟩ := bif_some h
          cases h
          have hb := Nat.eq_of_beq_eq_true hb
          have ho := Nat.eq_of_beq_eq_true ho
          subst hb; subst ho
          rw [e1] at e2; cases e2
          by_cases h0 : y.sz = 0
          · simp [Op.equalIn, run_underlying ht.und, hy.sizeOf, h0]
          · simp [Op.equalIn, run_underlying ht.und, hy.sizeOf, h0, run_sameAddr_same]
        | false =>
          rw [hb, cond_false] at h
          split at h
          · rename_i g1 g2
            cases hz : Nat.beq y.sz 0 with
            | true => rw [hz] at h; cases h
            | false =>
              rw [hz] at h; cases h
              have hz := Nat.ne_of_beq_eq_false hz
              obtain ⟨C1, c1, l1⟩ := hs.heap _ _ (hk _ _ g1)
              obtain ⟨C2, c2, l2⟩ := hs.heap _ _ (hk _ _ g2)
              have := l1.at_; rw [e1] at this; cases this
              have := l2.at_; rw [e2] at this; cases this
              have hne : B1 ≠ B2 := fun e => by
                subst e
                exact Nat.ne_of_beq_eq_false hb (hs.inj _ _ _ _ _ _ _ (hk _ _ g1) (hk _ _ g2) e1 e2)
              obtain ⟨t1, k1⟩ := l1.cells rfl
              obtain ⟨t2, k2⟩ := l2.cells rfl
              have hsame := run_sameAddr_other (P := P) w (a := ⟨B1, o1, none⟩) (b := ⟨B2, o2, none⟩) (by simp [hne]) k1 k2
              simp [Op.equalIn, run_underlying ht.und, hy.sizeOf, hz, hsame]
          · cases h
      · cases h
    · cases h
  · rename_i fs0 hd
    split at h
    · rename_i x hx
      obtain ⟨hc, h⟩ := bif_some h
      simp only [Bool.and_eq_true] at hc
      have hund := (E.plAt_ok hx).2
      obtain ⟨hc, hcmp⟩ := hc
      obtain ⟨hst, hnu, hgd⟩ := E.plAt_eq hx hcmp
      have hpk : p.known = true := by cases p <;> first | rfl | exact absurd hc.1 (by simp [isAggP])
      have hqk : q.known = true := by cases q <;> first | rfl | exact absurd hc.2 (by simp [isAggP])
      obtain ⟨xs, rfl⟩ := isAggP_ok hc.1 hu
      obtain ⟨ys, rfl⟩ := isAggP_ok hc.2 hv
      refine ⟨.inr ⟨xs, ys, rfl, rfl, hgd⟩, ?_⟩
      have hrun := eqFs_run (P := P) (w := w) (d := 9998) (xs := xs) (ys := ys) (hu.cells hpk).2 (hv.cells hqk).2 x.fs.toList hnu h
      show (Op.equalIn (9998 + 1 + 1) t (.agg xs) (.agg ys)).run P w = .ok b w
      rw [Op.equalIn]
      simp only [Sem.run_bind, run_underlying hund, Result.andThen_ok]
      simp [program, Sem.run, hst]
      simp only [← Array.forIn_toList] 
      rw [hrun]
      cases b <;> rfl
    · cases h
  · cases h
theorem PO.eqG {op : BinOp} {t t' : TypeId} {x y : Operand} {p q : PV} {b : Bool} (hop : op = .eql ∨ op = .neq) (hx : EvH True s x p) (hy : EvH True s y q) (hk : HK hg s) (h : eqV E hg t p q = some b) :
    PO P True ⟨some d, .binOp op t x y t', ty, pos, af, g⟩ s (.t (.v (.bool (bif op matches .eql then b else !b)))) := by
  intro hH B0 w0 φ0 F0 F φ a w hs
  obtain ⟨h1, h2⟩ := eqV_ok hs hk (hx.vr hH hs) (hy.vr hH hs) h
  refine ⟨_, ?_, .t (.v rfl)⟩
  have := run_eqop (x := x) (y := y) hop h1 h2
  simp only [execOp]
  simp only [Sem.run_bind] at this ⊢
  rw [this]; rfl

/-! ### strings -/
def str (l : List UInt8) : PV := .t (.v (.string ⟨⟨l⟩⟩))
def beqL : List UInt8 → List UInt8 → Bool
  | [], [] => true
  | a :: l1, b :: l2 => bif Nat.beq a.toNat b.toNat then beqL l1 l2 else false
  | _, _ => false
def ltL : List UInt8 → List UInt8 → Bool
  | _, [] => false
  | [], _ :: _ => true
  | a :: l1, b :: l2 => bif Nat.blt a.toNat b.toNat then true else bif Nat.beq a.toNat b.toNat then ltL l1 l2 else false
theorem beqL_eq : ∀ l m : List UInt8, beqL l m = (l == m)
  | [], [] => rfl
  | [], _ :: _ => rfl
  | _ :: _, [] => rfl
  | a :: l, b :: m => by
    simp only [beqL, List.cons_beq_cons, beqL_eq l m]
    cases h : Nat.beq a.toNat b.toNat with
    | true =>
      have : a = b := UInt8.toNat_inj.1 (Nat.eq_of_beq_eq_true h)
      simp [this]
    | false =>
      have : a ≠ b := fun e => Nat.ne_of_beq_eq_false h (by rw [e])
      simp [this]
theorem ltL_eq : ∀ l m : List UInt8, ltL l m = Op.bytesLess l m
  | l, [] => by cases l <;> rfl
  | [], _ :: _ => rfl
  | a :: l, b :: m => by
    simp only [ltL, Op.bytesLess, ltL_eq l m]
    cases h : Nat.blt a.toNat b.toNat with
    | true =>
      have : a < b := UInt8.lt_iff_toNat_lt.2 (by simpa [Nat.blt_eq] using h)
      simp [this]
    | false =>
      have hn : ¬ a < b := fun e => by
        have := UInt8.lt_iff_toNat_lt.1 e
        rw [show Nat.blt a.toNat b.toNat = true by simpa [Nat.blt_eq] using this] at h; cases h
      cases h2 : Nat.beq a.toNat b.toNat with
      | true =>
        have : a = b := UInt8.toNat_inj.1 (Nat.eq_of_beq_eq_true h2)
        simp [this]
      | false =>
        have : a ≠ b := fun e => Nat.ne_of_beq_eq_false h2 (by rw [e])
        simp [hn, this]
def strOp (op : BinOp) (a b : List UInt8) : Option PV := match op with
  | .add => bif Nat.ble (a.length + b.length) 4611686018427387904 then some (str (a ++ b)) else none
  | .eql => some (.t (.v (.bool (beqL a b))))
  | .neq => some (.t (.v (.bool (!beqL a b))))
  | .lss => some (.t (.v (.bool (ltL a b))))
  | .leq => some (.t (.v (.bool (ltL a b || beqL a b))))
  | .gtr => some (.t (.v (.bool (!(ltL a b || beqL a b)))))
  | .geq => some (.t (.v (.bool (!ltL a b))))
  | _ => none
theorem strOp_ok {op : BinOp} {t t' : TypeId} {x y : Operand} {m n : ByteArray} {r : PV} (hx : EvH True s x (.t (.v (.string m)))) (hy : EvH True s y (.t (.v (.string n)))) (h : strOp op m.data.toList n.data.toList = some r) :
    PO P True ⟨some d, .binOp op t x y t', ty, pos, af, g⟩ s r := by
  have e1 : m.toList = m.data.toList := ByteArray.toList_eq m
  have e2 : n.toList = n.data.toList := ByteArray.toList_eq n
  unfold strOp at h
  split at h
  · obtain ⟨hc, h⟩ := bif_some h
    cases h
    have hl := Nat.le_of_ble_eq_true hc
    have e3 : m ++ n = ⟨⟨m.data.toList ++ n.data.toList⟩⟩ := by
      apply ByteArray.ext
      rw [ByteArray.data_append]
      simp
    have := PO.cat (P := P) (d := d) (ty := ty) (pos := pos) (af := af) (g := g) (t := t) (t' := t') hx hy (fun _ => by simpa using hl)
    rw [e3] at this
    exact this
  all_goals first
    | (cases h; done)
    | (cases h
       refine PO.binr hx hy rfl fun w => ?_
       simp only [eqGuard_at_string, pure_bind, binOp, Op.stringOp, beqL_eq, ltL_eq, ← e1, ← e2]
       rfl)
def binU (E : Env P) (hg : Nat → Option RB) (op : BinOp) (t : TypeId) (p q : PV) : Option PV := match p with
  | .t (.v (.int _ _)) => binE E op t p q
  | .t (.v (.string a)) => match q with
    | .t (.v (.string b)) => strOp op a.data.toList b.data.toList
    | _ => none
  | _ => match op with
    | .eql => (eqV E hg t p q).map fun b => .t (.v (.bool b))
    | .neq => (eqV E hg t p q).map fun b => .t (.v (.bool (!b)))
    | _ => none
theorem binU_ok {op : BinOp} {t t' : TypeId} {x y : Operand} {p q r : PV} (hx : EvH True s x p) (hy : EvH True s y q) (hk : HK hg s) (h : binU E hg op t p q = some r) : PO P True ⟨some d, .binOp op t x y t', ty, pos, af, g⟩ s r := by
  unfold binU at h
  split at h
  · exact binE_ok hx hy h
  · split at h
    · exact strOp_ok hx hy h
    · cases h
  · split at h
    · rw [Option.map_eq_some_iff] at h
      obtain ⟨b, hb, rfl⟩ := h
      exact PO.eqG (op := .eql) (.inl rfl) hx hy hk hb
    · rw [Option.map_eq_some_iff] at h
      obtain ⟨b, hb, rfl⟩ := h
      exact PO.eqG (op := .neq) (.inr rfl) hx hy hk hb
    · cases h
def unV (op : UnOp) (p : PV) : Option PV := match op, p with
  | .not, .t (.v (.bool b)) => some (.t (.v (.bool (!b))))
  | .neg, .t (.v (.int k m)) => some (.t (.v (.int k (k.wrap (0 - m)))))
  | _, _ => none
theorem unV_ok {op : UnOp} {t : TypeId} {x : Operand} {p r : PV} (hx : EvH True s x p) (h : unV op p = some r) : PO P True ⟨some d, .unOp op t x, ty, pos, af, g⟩ s r := by
  unfold unV at h
  split at h
  · cases h; exact PO.not hx
  · cases h; exact PO.neg hx
  · cases h
end
end
end Go.Proofs.YtdiimgkopknbcaaGreatDoor.E

/- The engine runs closed code: cuts, structs, conversions, lengths, functions' values, maps that are looked at. -/
namespace Go.Proofs.YtdiimgkopknbcaaGreatDoor.E
open Go Go.RowKit
set_option linter.unusedVariables false
set_option linter.unusedSimpArgs false
variable {P : Program}
noncomputable section
section
variable {E : Env P} {d ty : Nat} {pos : String} {af : Array Edge} {g : Option (Nat × Bool)} {s : St} {hg : Nat → Option RB}

/-! ### cuts -/
def bndV (tm : Tr PV) (o : Option Operand) (n : Nat) : Option Nat := match o with
  | none => some n
  | some x => match evK tm x with
    | some (.t (.v (.int _ i))) => bif decide (0 ≤ i) then some i.toNat else none
    | _ => none
def cutV (E : Env P) (tm : Tr PV) (t : TypeId) (lo hi : Option Operand) (p : PV) : Option PV := match p with
  | .t (.v (.string b)) => match (E.tyAt t).map TyE.d, bndV tm lo 0, bndV tm hi b.data.toList.length with
    | some .string, some l, some k => bif Nat.ble l k && Nat.ble k b.data.toList.length then some (str ((b.data.toList.drop l).take (k - l))) else none
    | _, _, _ => none
  | .ref b e off len cap => match (E.tyAt t).map TyE.d, bndV tm lo 0, bndV tm hi len with
    | some (.slice et), some l, some k => match E.tyAt et with
      | some y => bif Nat.beq e y.sz && Nat.ble l k && Nat.ble k cap then (bif Nat.blt l cap then some (.ref b e (off + l) (k - l) (cap - l)) else some (.t (.sl false []))) else none
      | none => none
    | _, _, _ => none
  | .t (.sl n []) => match (E.tyAt t).map TyE.d, bndV tm lo 0, bndV tm hi 0 with
    | some (.slice et), some l, some k => match E.tyAt et with
      | some y => bif Nat.beq l 0 && Nat.beq k 0 then some (.t (.sl n [])) else none
      | none => none
    | _, _, _ => none
  | _ => none
theorem cut_of {tm : Tr PV} {len : Nat} {lo hi : Option Operand} {l k : Nat} (hev : ∀ x, (lo = some x ∨ hi = some x) → ∀ p, evK tm x = some p → s.ev x = p) (h1 : bndV tm lo 0 = some l) (h2 : bndV tm hi len = some k) : Cut True s len lo hi l k := by
  have key : ∀ (o : Option Operand) (n m : Nat), (∀ x, o = some x → ∀ p, evK tm x = some p → s.ev x = p) → bndV tm o n = some m → match o with | none => m = n | some x => ∃ q i, EvH True s x (.t (.v (.int q i))) ∧ 0 ≤ i ∧ m = i.toNat := by
    intro o n m he h
    unfold bndV at h
    split at h
    · cases h; rfl
    · rename_i x
      split at h
      · rename_i q i hx
        obtain ⟨hc, h⟩ := bif_some h
        cases h
        exact ⟨q, i, .of (he x rfl _ hx) rfl, of_decide_eq_true hc, rfl⟩
      · cases h
  exact ⟨key lo 0 l (fun x hx => hev x (.inl hx)) h1, key hi len k (fun x hx => hev x (.inr hx)) h2⟩
theorem extract_bytes (b : ByteArray) (l k : Nat) : b.extract l k = ⟨⟨(b.data.toList.drop l).take (k - l)⟩⟩ := by
  apply ByteArray.ext
  apply Array.ext'
  simp [ByteArray.extract, ByteArray.copySlice, Array.toList_extract, List.extract_eq_take_drop]
theorem PO.cutEnd {t et : TypeId} {x : Operand} {low high : Option Operand} {b off len cap l k : Nat} {sz bytes e ebytes : Nat} {z ez : Value} {ed : TypeDesc} [ht : TyIs P t (.slice et) sz bytes z] [he : TyIs P et ed e ebytes ez]
    (hx : EvH True s x (.ref b e off len cap)) (hc : Cut True s len low high l k) (h1 : l = k) (h2 : k ≤ cap) : PO P True ⟨some d, .slice t x low high none, ty, pos, af, g⟩ s (.t (.sl false [])) := by
  intro hH B0 w0 φ0 F0 F φ a w hs
  have hv := hx.vr hH hs
  generalize hq : a.eval x = q at hv
  cases hv with
  | @ref _ _ _ _ _ B sz' c hφ k1 k2 k3 =>
    have hr := cut_run (P := P) hH hs hc (Nat.le_of_eq h1) (Nat.le_trans h2 k2) true
    subst h1
    by_cases hcl : c = l
    · refine ⟨.slice (some ⟨B, off * e, none⟩) 0 (c - l), ?_, .t .sl0⟩
      simp only [execOp, hq, Instr.sliceAt, Instr.slice, Sem.run_bind, ht.under, Result.andThen_ok, Option.map_none]
      rw [hr]
      simp only [Result.andThen_ok, he.sizeOf, Sem.run_pure, Sem.run_bind]
      rw [if_pos hcl, Nat.sub_self]
    · refine ⟨.slice (some ⟨B, (off + l) * e, none⟩) 0 (c - l), ?_, .t .sl0⟩
      simp only [execOp, hq, Instr.sliceAt, Instr.slice, Sem.run_bind, ht.under, Result.andThen_ok, Option.map_none]
      rw [hr]
      simp only [Result.andThen_ok, he.sizeOf, Sem.run_pure, Sem.run_bind]
      rw [if_neg hcl, Nat.sub_self]
      simp only [Option.map_some, Addr.add_mid, Nat.add_mul]
theorem cutV_ok {tm : Tr PV} {n : Nat} {t : TypeId} {x : Operand} {lo hi : Option Operand} {p q : PV} (K : Kn tm hg n ⟨some d, .slice t x lo hi none, ty, pos, af, g⟩ s) (hx : EvH True s x p) (h : cutV E tm t lo hi p = some q) :
    PO P True ⟨some d, .slice t x lo hi none, ty, pos, af, g⟩ s q := by
  have hev : ∀ y, (lo = some y ∨ hi = some y) → ∀ p, evK tm y = some p → s.ev y = p := fun y hy => K.ev y (by rcases hy with rfl | rfl <;> simp [Op.operands])
  unfold cutV at h
  split at h
  · rename_i b
    split at h
    · rename_i l k hd h1 h2
      obtain ⟨_, _, _, ht⟩ := tyAt_d hd
      obtain ⟨hc, h⟩ := bif_some h
      cases h
      simp only [Bool.and_eq_true, Nat.ble_eq] at hc
      have hc2 := cut_of hev h1 h2
      have e : b.data.toList.length = b.size := by simp
      rw [e] at hc2 hc
      have := PX.cutS (P := P) (d := d) (ty := ty) (pos := pos) (af := af) (g := g) (t := t) hx hc2 hc.1 hc.2
      rw [extract_bytes] at this
      exact this
    · cases h
  · rename_i b e off len cap
    split at h
    · rename_i et l k hd h1 h2
      obtain ⟨_, _, _, ht⟩ := tyAt_d hd
      split at h
      · rename_i y hy
        have he := E.tyAt_ok hy
        obtain ⟨hc, h⟩ := bif_some h
        simp only [Bool.and_eq_true, Nat.ble_eq] at hc
        obtain ⟨⟨hc0, hc1⟩, hc2⟩ := hc
        have hc0 := Nat.eq_of_beq_eq_true hc0
        subst hc0
        cases hl : Nat.blt l cap with
        | true =>
          rw [hl, cond_true] at h; cases h
          exact PX.cutR hx (cut_of hev h1 h2) hc1 hc2 (blt_lt hl)
        | false =>
          rw [hl, cond_false] at h; cases h
          have : ¬ l < cap := fun e => by rw [show Nat.blt l cap = true by simpa [Nat.blt_eq] using e] at hl; cases hl
          exact PO.cutEnd hx (cut_of hev h1 h2) (by omega) hc2
      · cases h
    · cases h
  · rename_i n
    split at h
    · rename_i et l k hd h1 h2
      obtain ⟨_, _, _, ht⟩ := tyAt_d hd
      split at h
      · rename_i y hy
        have he := E.tyAt_ok hy
        obtain ⟨hc, h⟩ := bif_some h
        cases h
        simp only [Bool.and_eq_true] at hc
        have hl := Nat.eq_of_beq_eq_true hc.1
        have hk := Nat.eq_of_beq_eq_true hc.2
        subst hl; subst hk
        have := PX.cut (P := P) (d := d) (ty := ty) (pos := pos) (af := af) (g := g) (t := t) (et := et) (xs := []) hx (cut_of hev h1 h2) (Nat.le_refl _) (Nat.zero_le _) (fun i x h => by simp at h)
        simpa using this
      · cases h
    · cases h
  · cases h

/-! ### structs, arrays -/
def partsV (tm : Tr PV) : List (Nat × Operand) → Option (List (Nat × PV))
  | [] => some []
  | x :: l => match evK tm x.2, partsV tm l with
    | some p, some ps => some ((x.1, p) :: ps)
    | _, _ => none
theorem partsV_ok {tm : Tr PV} : ∀ {l : List (Nat × Operand)} {ps : List (Nat × PV)}, (∀ x ∈ l, ∀ p, evK tm x.2 = some p → s.ev x.2 = p) → partsV tm l = some ps → l.map (fun x => (x.1, s.ev x.2)) = ps
  | [], _, _, h => by cases h; rfl
  | x :: l, ps, he, h => by
    simp only [partsV] at h
    split at h
    · rename_i p qs h1 h2
      cases h
      rw [List.map_cons, he x List.mem_cons_self p h1, partsV_ok (fun y hy => he y (List.mem_cons_of_mem _ hy)) h2]
    · cases h
def seqPl (e : Nat) : Nat → Nat → List (Nat × Nat)
  | _, 0 => []
  | i, n + 1 => (i * e, e) :: seqPl e (i + 1) n
theorem seqPl_get (e : Nat) : ∀ (n i j : Nat) (x : Nat × Nat), (seqPl e i n)[j]? = some x → x = ((i + j) * e, e)
  | 0, _, _, _, h => by simp [seqPl] at h
  | n + 1, i, 0, x, h => by simp [seqPl] at h; simp [← h]
  | n + 1, i, j + 1, x, h => by
    have := seqPl_get e n (i + 1) j x (by simpa [seqPl] using h)
    rw [this, show i + 1 + j = i + (j + 1) by omega]
theorem fill_ext {p q : Nat → Option (Nat × Nat)} (hpq : ∀ i x, p i = some x → q i = some x) : ∀ {l : List (Nat × Value)} {cells out : Array Value}, Instr.fill p cells l = some out → Instr.fill q cells l = some out
  | [], _, _, h => h
  | (i, v) :: l, cells, out, h => by
    simp only [Instr.fill] at h ⊢
    split at h
    · cases h
    · rename_i off size hp
      rw [hpq i _ hp]
      simp only
      split at h
      · cases h
      · rename_i hn
        rw [if_neg hn]
        exact fill_ext hpq h
theorem PO.buildA {t et : TypeId} {m : Nat} {parts : List (Nat × Operand)} {sz bytes e ebytes : Nat} {z ez : Value} {ed : TypeDesc} {zs qs : List PV} [ht : TyIs P t (.array m et) sz bytes z] [he : TyIs P et ed e ebytes ez]
    (hz : (ofConst z).leaves = zs) (hzk : (ofConst z).known = true) (hq : fillP (seqPl e 0 m) zs (parts.map fun x => (x.1, s.ev x.2)) = some qs) : PO P True ⟨some d, .build t parts.toArray, ty, pos, af, g⟩ s (.agg qs) := by
  intro _ B0 w0 φ0 F0 F φ a w hs
  have hv : VR F φ (ofConst z) z := ofConst_vr z
  obtain ⟨h1, h2⟩ := hv.cells hzk
  rw [hz] at h1 h2
  obtain ⟨out, e1, e2, e3⟩ := fillP_spec (f := a.eval) (g := s.ev) (cells := z.cells) (fun x => hs.ev x) hq h1 h2
  refine ⟨.agg out, ?_, ?_⟩
  · obtain ⟨i, i1, i2, i3, i4⟩ := ht.inf
    obtain ⟨j, j1, j2, j3, j4⟩ := he.inf
    have hb := run_build (P := P) w t (parts.toArray.map fun (x : Nat × Operand) => (x.1, a.eval x.2)) out (by
      unfold Program.built
      rw [i1, ht.und]
      simp only [i2, j1, j3]
      refine fill_ext (fun k x hk => ?_) (by simpa using e1)
      have := seqPl_get e m 0 k x (by simpa using hk)
      rw [this, Nat.zero_add])
    simp only [execOp, Sem.run_bind]
    rw [hb]; rfl
  · refine .agg e2 (fun i p u hp hu => ?_)
    obtain ⟨u', hu', hvr⟩ := e3 i p hp
    rw [hu] at hu'; cases hu'; exact hvr
def buildV (E : Env P) (tm : Tr PV) (t : TypeId) (parts : Array (Nat × Operand)) : Option PV := match E.tyAt t, partsV tm parts.toList with
  | some y, some ps => bif (ofConst y.z).known then (match y.d with
    | .struct _ => match E.plAt t with
      | some pl => (fillP pl.pl (ofConst y.z).leaves ps).map .agg
      | none => none
    | .array m et => match E.tyAt et with
      | some ye => (fillP (seqPl ye.sz 0 m) (ofConst y.z).leaves ps).map .agg
      | none => none
    | _ => none) else none
  | _, _ => none
theorem buildV_ok {tm : Tr PV} {n : Nat} {t : TypeId} {parts : Array (Nat × Operand)} {q : PV} (K : Kn tm hg n ⟨some d, .build t parts, ty, pos, af, g⟩ s) (h : buildV E tm t parts = some q) : PO P True ⟨some d, .build t parts, ty, pos, af, g⟩ s q := by
  unfold buildV at h
  split at h
  · rename_i y ps hy hp
    have ht := E.tyAt_ok hy
    obtain ⟨hz, h⟩ := bif_some h
    have hps := partsV_ok (s := s) (fun x hx => K.ev x.2 (by simp only [Op.operands, List.mem_map]; exact ⟨x, hx, rfl⟩)) hp
    split at h
    · rename_i fs hd
      rw [hd] at ht
      split at h
      · rename_i pl hpl
        rw [Option.map_eq_some_iff] at h
        obtain ⟨qs, h1, rfl⟩ := h
        obtain ⟨hpi, hu⟩ := E.plAt_ok hpl
        have e : pl.fs = fs := by
          have := ht.und
          rw [hu] at this
          cases this; rfl
        rw [e] at hpi
        have := (PO.build (P := P) (d := d) (ty := ty) (pos := pos) (af := af) (g := g) (t := t) (parts := parts.toList) (s := s) rfl hz (by rw [hps]; exact h1) rfl).weak fun _ _ _ => mkAgg_agg
        simpa using this
      · cases h
    · rename_i m et hd
      rw [hd] at ht
      split at h
      · rename_i ye hye
        have he := E.tyAt_ok hye
        rw [Option.map_eq_some_iff] at h
        obtain ⟨qs, h1, rfl⟩ := h
        have := PO.buildA (P := P) (d := d) (ty := ty) (pos := pos) (af := af) (g := g) (t := t) (et := et) (m := m) (parts := parts.toList) (s := s) rfl hz (by rw [hps]; exact h1)
        simpa using this
      · cases h
    · cases h
  · cases h
end
end
end Go.Proofs.YtdiimgkopknbcaaGreatDoor.E

/- The engine runs closed code: conversions, lengths, functions' values, maps that are looked at. -/
namespace Go.Proofs.YtdiimgkopknbcaaGreatDoor.E
open Go Go.RowKit
set_option linter.unusedVariables false
set_option linter.unusedSimpArgs false
variable {P : Program}
noncomputable section
section
variable {E : Env P} {d ty : Nat} {pos : String} {af : Array Edge} {g : Option (Nat × Bool)} {s : St} {hg : Nat → Option RB}

/-! ### bytes -/
def bytesL : List PV → Option (List UInt8)
  | [] => some []
  | .t (.v (.int .u8 m)) :: l => bif decide (0 ≤ m) && decide (m < 256) then (bytesL l).map (UInt8.ofNat m.toNat :: ·) else none
  | _ => none
theorem bytesL_get : ∀ {ps : List PV} {l : List UInt8}, bytesL ps = some l → l.length = ps.length ∧ ∀ (j : Nat) (x : UInt8), l[j]? = some x → ps[j]? = some (.t (.v (.int .u8 x.toNat)))
  | [], l, h => by cases h; exact ⟨rfl, fun j x h => by simp at h⟩
  | p :: ps, l, h => by
    unfold bytesL at h
    split at h
    · cases ‹p :: ps = []›
    · rename_i m l' e
      cases e
      obtain ⟨hc, h⟩ := bif_some h
      rw [Option.map_eq_some_iff] at h
      obtain ⟨q, hq, rfl⟩ := h
      obtain ⟨h1, h2⟩ := bytesL_get hq
      simp only [Bool.and_eq_true, decide_eq_true_eq] at hc
      refine ⟨by simp [h1], fun j x hx => ?_⟩
      cases j with
      | zero =>
        simp at hx; subst hx
        have : ((UInt8.ofNat m.toNat).toNat : Int) = m := by
          rw [UInt8.toNat_ofNat', Nat.mod_eq_of_lt (by omega)]; omega
        simp only [List.getElem?_cons_zero, this]
      | succ j => simpa using h2 j x (by simpa using hx)
    · cases h
/-- Cells of a block, as the machine has them. -/
theorem cells_at {B0 : Fr} {w0 : World} {φ0 : Phi} {F0 : FMem} {F : FMem} {φ : Phi} {a : Act} {w : World} (hs : Sim B0 w0 φ0 F0 s F φ a w) (hk : HK hg s) {b sz : Nat} {cs : Tr PV} {dv : PV} {bt : Option TypeId} (hb : hg b = some (.c sz cs dv bt)) {B S : Nat} (hφ : φ b = some (B, S)) :
    ∃ vs t, w.heap[B]? = some (.cells vs t (0, 0)) ∧ (∀ t', bt = some t' → t' = t) ∧ sz ≤ vs.size ∧ vs.size = S ∧ ∀ i, i < sz → ∃ u, vs[i]? = some u ∧ VR F φ ((cs.get i).getD dv) u := by
  obtain ⟨B', vs, hl⟩ := hs.heap b _ (hk b _ hb)
  have e := hl.at_; rw [hφ] at e; cases e
  obtain ⟨t, ht⟩ := hl.cells rfl
  refine ⟨vs, t, ht, fun t' e => ?_, ?_⟩
  · have := hl.ty t' e; rw [ht] at this; cases this; rfl
  cases hl.reads with
  | obj hn hr hF =>
    rw [Tr.gets_len] at hn
    refine ⟨hn, rfl, fun i hi => ?_⟩
    have := hr i ((cs.get (0 + i)).getD dv) (by rw [Tr.gets_get, if_pos hi])
    rwa [Nat.zero_add] at this
def convV (E : Env P) (hg : Nat → Option RB) (src dst : TypeId) (p : PV) : Option PV := match E.tyAt src, E.tyAt dst with
  | some ys, some yd => match yd.d, p with
    | .int k, .t (.v (.int _ m)) => some (.t (.v (.int k (k.wrap m))))
    | .string, .t (.v (.string b)) => some (.t (.v (.string b)))
    | .string, .ref b e off len _ => match ys.d, hg b with
      | .slice et, some (.c sz cs dv _) => match (E.tyAt et).map TyE.d with
        | some (.int .u8) => bif Nat.beq e 1 && Nat.ble (off + len) sz then (bytesL (cs.gets dv off len)).map str else none
        | _ => none
      | _, _ => none
    | .string, .t (.sl true []) => match ys.d with
      | .slice et => match (E.tyAt et).map TyE.d with
        | some (.int .u8) => some (str [])
        | _ => none
      | _ => none
    | _, _ => none
  | _, _ => none
theorem convV_ok {src dst : TypeId} {x : Operand} {p q : PV} (hx : EvH True s x p) (hk : HK hg s) (h : convV E hg src dst p = some q) : PO P True ⟨some d, .convert src dst x, ty, pos, af, g⟩ s q := by
  unfold convV at h
  split at h
  · rename_i ys yd h1 h2
    have hs1 := E.tyAt_ok h1
    have hd1 := E.tyAt_ok h2
    split at h
    · rename_i k k' m hd
      cases h
      rw [hd] at hd1
      exact PO.conv hx rfl
    · rename_i b hd
      cases h
      rw [hd] at hd1
      intro hH B0 w0 φ0 F0 F φ a w hs
      have h3 := (evv hH hs hx).1
      refine ⟨_, ?_, .t (.v rfl)⟩
      simp only [execOp, h3, convert, Sem.run_bind, hs1.under, hd1.under, Result.andThen_ok]
      cases ys.d <;> rfl
    · rename_i b e off len cap hd
      rw [hd] at hd1
      split at h
      · rename_i et sz cs dv bt hsd hb
        rw [hsd] at hs1
        split at h
        · rename_i hde
          obtain ⟨_, _, _, he1⟩ := tyAt_d hde
          obtain ⟨hc, h⟩ := bif_some h
          rw [Option.map_eq_some_iff] at h
          obtain ⟨l, hl, rfl⟩ := h
          simp only [Bool.and_eq_true, Nat.ble_eq] at hc
          have e1 := Nat.eq_of_beq_eq_true hc.1
          subst e1
          obtain ⟨g1, g2⟩ := bytesL_get hl
          rw [Tr.gets_len] at g1
          intro hH B0 w0 φ0 F0 F φ a w hs
          have hv := hx.vr hH hs
          generalize hq : a.eval x = v at hv
          cases hv with
          | @ref _ _ _ _ _ B S c hφ k1 k2 k3 =>
            obtain ⟨vs, t, q1, q0, q2, q3, q4⟩ := cells_at hs hk hb hφ
            subst g1
            have hr := run_convert_bytes_back (P := P) w src dst et ⟨B, off * 1, none⟩ c l hs1.und he1.und hd1.und (fun j hj => by
              have h3 := g2 j l[j] (List.getElem?_eq_getElem hj)
              rw [Tr.gets_get, if_pos hj] at h3
              obtain ⟨u, hu, hvr⟩ := q4 (off + j) (by omega)
              rw [Option.some.inj h3] at hvr
              obtain rfl := vrv hvr
              rw [Addr.add_mid, cell_at q1, Nat.mul_one]
              simpa using hu)
            refine ⟨_, ?_, .t (.v rfl)⟩
            simp only [execOp, hq, Sem.run_bind, hr, Result.andThen_ok]; rfl
        · cases h
      · cases h
    · rename_i hd
      rw [hd] at hd1
      split at h
      · rename_i et hsd
        rw [hsd] at hs1
        split at h
        · rename_i hde
          obtain ⟨_, _, _, he1⟩ := tyAt_d hde
          cases h
          exact PO.b2s (l := []) hx rfl
        · cases h
      · cases h
    · cases h
  · cases h

/-! ### builtins that read alone -/
def lenV (E : Env P) (hg : Nat → Option RB) (t : TypeId) (p : PV) : Option PV := match (E.tyAt t).map TyE.d with
  | some .string => match p with
    | .t (.v (.string b)) => some (.t (.v (.int .i64 b.data.toList.length)))
    | _ => none
  | some (.slice _) => match p with
    | .ref _ _ _ len _ => some (.t (.v (.int .i64 len)))
    | .t (.sl _ xs) => some (.t (.v (.int .i64 xs.length)))
    | _ => none
  | some (.map _ _) => match p with
    | .mp b => match hg b with
      | some (.m es) => some (.t (.v (.int .i64 es.length)))
      | _ => none
    | .t (.v (.map none)) => some (.t (.v (.int .i64 0)))
    | _ => none
  | _ => none
theorem lenV_ok {t : TypeId} {x : Operand} {p q : PV} (hx : EvH True s x p) (hk : HK hg s) (h : lenV E hg t p = some q) : PO P True ⟨some d, .call ⟨.builtin .len, #[x], #[t]⟩, ty, pos, af, g⟩ s q := by
  unfold lenV at h
  split at h
  · rename_i hd
    obtain ⟨_, _, _, ht⟩ := tyAt_d hd
    split at h
    · rename_i b
      cases h
      have := PO.lenS (P := P) (d := d) (ty := ty) (pos := pos) (af := af) (g := g) (t := t) hx
      simpa using this
    · cases h
  · rename_i hd
    obtain ⟨_, _, _, ht⟩ := tyAt_d hd
    split at h
    · cases h; exact PO.lenR hx
    · cases h; exact PO.len hx
    · cases h
  · rename_i kt et hd
    obtain ⟨_, _, _, ht⟩ := tyAt_d hd
    split at h
    · rename_i b
      split at h
      · rename_i es hb
        cases h
        refine .blt (fun hH _ _ _ _ _ _ a w hs => ⟨.int .i64 es.length, ?_, .t (.v rfl)⟩)
        have hv := hx.vr hH hs
        generalize hq : a.eval x = q at hv
        cases hv with
        | @mp _ B sz hφ =>
          obtain ⟨B', vs, hl⟩ := hs.heap b _ (hk b _ hb)
          have e := hl.at_; rw [hφ] at e; cases e
          obtain ⟨ents, clock, k1, k2, k3⟩ := hl.mp _ rfl
          simp only [builtin, List.map_toArray, List.map_cons, List.map_nil, hq, Sem.run_bind]
          have : (Builtin.len_ #[t] ty #[.map (some B)]).run P w = .ok (goInt ents.size) w := by
            simp [Builtin.len_, run_underlying ht.und, getObj, Sem.run, k1]
          rw [this, k2]; rfl
      · cases h
    · cases h
      refine .blt (fun hH _ _ _ _ _ _ a w hs => ⟨.int .i64 0, ?_, .t (.v rfl)⟩)
      have h1 := (evv hH hs hx).1
      simp only [builtin, List.map_toArray, List.map_cons, List.map_nil, h1, Sem.run_bind]
      have : (Builtin.len_ #[t] ty #[.map none]).run P w = .ok (goInt 0) w := by
        simp [Builtin.len_, run_underlying ht.und]
      rw [this]; rfl
    · cases h
  · cases h
def capV (E : Env P) (t : TypeId) (p : PV) : Option PV := match (E.tyAt t).map TyE.d with
  | some (.slice _) => match p with
    | .t (.sl true []) => some (.t (.v (.int .i64 0)))
    | _ => none
  | _ => none
theorem capV_ok {t : TypeId} {x : Operand} {p q : PV} (hx : EvH True s x p) (h : capV E t p = some q) : PO P True ⟨some d, .call ⟨.builtin .cap, #[x], #[t]⟩, ty, pos, af, g⟩ s q := by
  unfold capV at h
  split at h
  · rename_i hd
    obtain ⟨_, _, _, ht⟩ := tyAt_d hd
    split at h
    · cases h
      refine .blt (fun hH _ _ _ _ _ _ a w hs => ⟨.int .i64 0, ?_, .t (.v rfl)⟩)
      have hv := tr_nil (vrt (hx.vr hH hs))
      simp only [builtin, List.map_toArray, List.map_cons, List.map_nil, hv, Sem.run_bind]
      have : (Builtin.cap_ #[t] ty #[.slice none 0 0]).run P w = .ok (goInt 0) w := by
        simp [Builtin.cap_, run_underlying ht.und]
      rw [this]; rfl
    · cases h
  · cases h
def mmV (mx : Bool) (p q : PV) : Option PV := match p, q with
  | .t (.v (.int k a)), .t (.v (.int k' b)) => if k = k' then some (.t (.v (.int k (bif mx then Max.max a b else Min.min a b)))) else none
  | _, _ => none
theorem mmV_ok {mx : Bool} {t t' : TypeId} {x y : Operand} {p q r : PV} (hx : EvH True s x p) (hy : EvH True s y q) (h : mmV mx p q = some r) : PO P True ⟨some d, .call ⟨.builtin (bif mx then .max else .min), #[x, y], #[t, t']⟩, ty, pos, af, g⟩ s r := by
  unfold mmV at h
  split at h
  · split at h
    · rename_i hk
      subst hk
      cases h
      cases mx with
      | true => exact PO.max hx hy
      | false => exact PO.min hx hy
    · cases h
  · cases h
/-- Where a slice's elements begin. -/
def dataV (p : PV) : Option PV := match p with
  | .t (.sl true []) => some (.t (.v (.pointer none)))
  | .ref b e off _ cap => bif Nat.blt 0 cap then some (.ptr b (off * e)) else none
  | _ => none
theorem dataV_ok {ts : Array TypeId} {x : Operand} {p q : PV} (hx : EvH True s x p) (h : dataV p = some q) : PO P True ⟨some d, .call ⟨.builtin .unsafeSliceData, #[x], ts⟩, ty, pos, af, g⟩ s q := by
  unfold dataV at h
  split at h
  · cases h
    refine .blt (fun hH _ _ _ _ _ _ a w hs => ⟨.pointer none, ?_, .t (.v rfl)⟩)
    have hv := tr_nil (vrt (hx.vr hH hs))
    simp only [builtin, List.map_toArray, List.map_cons, List.map_nil, hv, Sem.run_bind, Lib.run_unsafeSliceData_nil]; rfl
  · rename_i b e off len cap
    obtain ⟨hc, h⟩ := bif_some h
    cases h
    intro hH
    refine PO.blt (P := P) (H := True) (fun hH _ _ _ _ _ _ a w hs => ?_) trivial
    have hv := hx.vr hH hs
    generalize hq : a.eval x = v at hv
    cases hv with
    | @ref _ _ _ _ _ B S c hφ k1 k2 k3 =>
      refine ⟨_, ?_, .ptr hφ⟩
      have := blt_lt hc
      simp only [builtin, List.map_toArray, List.map_cons, List.map_nil, hq, Sem.run_bind, Lib.run_unsafeSliceData_row w ts ty ⟨B, off * e, none⟩ len c (by omega)]; rfl
  · cases h

/-! ### functions' values -/
def allK (tm : Tr PV) : List Operand → Option (List PV)
  | [] => some []
  | x :: l => match evK tm x, allK tm l with
    | some p, some ps => some (p :: ps)
    | _, _ => none
theorem allK_ok {tm : Tr PV} : ∀ {l : List Operand} {ps : List PV}, (∀ x ∈ l, ∀ p, evK tm x = some p → s.ev x = p) → allK tm l = some ps → l.map s.ev = ps
  | [], _, _, h => by cases h; rfl
  | x :: l, ps, he, h => by
    simp only [allK] at h
    split at h
    · rename_i p qs h1 h2
      cases h
      rw [List.map_cons, he x List.mem_cons_self p h1, allK_ok (fun y hy => he y (List.mem_cons_of_mem _ hy)) h2]
    · cases h
def mkfV (tm : Tr PV) (fn : Fn) (first caps : Array Operand) : Option PV := match fn with
  | .func f => match allK tm first.toList, allK tm caps.toList with
    | some fs, some ps => some (.fn f fs ps)
    | _, _ => none
  | _ => none
theorem vrs_of {B0 : Fr} {w0 : World} {φ0 : Phi} {F0 : FMem} {F : FMem} {φ : Phi} {a : Act} {w : World} (hs : Sim B0 w0 φ0 F0 s F φ a w) (xs : Array Operand) : ((xs.toList.map s.ev).length = (xs.map a.eval).size) ∧ ∀ (i : Nat) (p : PV) (u : Value), (xs.toList.map s.ev)[i]? = some p → (xs.map a.eval)[i]? = some u → VR F φ p u := by
  refine ⟨by simp, fun i p u hp hu => ?_⟩
  rw [List.getElem?_map, Option.map_eq_some_iff] at hp
  obtain ⟨x, hx, rfl⟩ := hp
  rw [Array.getElem?_map, Option.map_eq_some_iff] at hu
  obtain ⟨y, hy, rfl⟩ := hu
  rw [← Array.getElem?_toList, hx] at hy
  cases hy
  exact hs.ev x
theorem mkfV_ok {tm : Tr PV} {n : Nat} {fn : Fn} {first caps : Array Operand} {q : PV} (K : Kn tm hg n ⟨some d, .makeFunc fn first caps, ty, pos, af, g⟩ s) (h : mkfV tm fn first caps = some q) : PO P True ⟨some d, .makeFunc fn first caps, ty, pos, af, g⟩ s q := by
  unfold mkfV at h
  split at h
  · split at h
    · rename_i fs ps h1 h2
      cases h
      have e1 := allK_ok (s := s) (fun x hx => K.ev x (by simp only [Op.operands, Array.toList_append, List.mem_append]; exact .inl hx)) h1
      have e2 := allK_ok (s := s) (fun x hx => K.ev x (by simp only [Op.operands, Array.toList_append, List.mem_append]; exact .inr hx)) h2
      intro hH B0 w0 φ0 F0 F φ a w hs
      obtain ⟨a1, a2⟩ := vrs_of hs first
      obtain ⟨b1, b2⟩ := vrs_of hs caps
      rw [e1] at a1 a2
      rw [e2] at b1 b2
      exact ⟨_, by simp only [execOp, Instr.makeFunc, Sem.run_bind, Sem.run_pure, Result.andThen_ok], .fn a1 a2 b1 b2⟩
    · cases h
  · cases h
end
end
end Go.Proofs.YtdiimgkopknbcaaGreatDoor.E

/- The engine runs closed code: new blocks, stores. -/
namespace Go.Proofs.YtdiimgkopknbcaaGreatDoor.E
open Go Go.RowKit
set_option linter.unusedVariables false
set_option linter.unusedSimpArgs false
variable {P : Program}
noncomputable section
section
variable {E : Env P} {d ty : Nat} {pos : String} {af : Array Edge} {g : Option (Nat × Bool)} {s : St} {hg : Nat → Option RB}
/-- It comes to this alone. -/
abbrev Is (s2 : St) : St → Prop := fun s' => s' = s2
theorem TriO.val {o : Oper} {p : PV} {n : Nat} (hd : o.dst = some d) (hN : Nat.blt d s.N = true) (h : PO P True o s p) (hn : s.n = n) : TriO P o (Is (s.aft o.dst ⟨p, [], n⟩)) s := by
  subst hn
  rw [hd]
  exact TriO.vo hd hN h.vo rfl
/-- A block of some cells lies there. -/
def CellsAt (F : FMem) (φ : Phi) (vs : Array Value) (t : TypeId) : RB → Prop
  | .c sz cs dv bt => sz ≤ vs.size ∧ (∀ t', bt = some t' → t' = t) ∧ ∀ i, i < sz → ∃ u, vs[i]? = some u ∧ VR F φ ((cs.get i).getD dv) u
  | .m _ => False
theorem CellsAt.hb {F : FMem} {φ : Phi} {vs : Array Value} {t : TypeId} {k : RB} (h : CellsAt F φ vs t k) {B : Nat} (hF : ∀ a u, F a = some u → a.block ≠ B) : HB F φ B vs k.blk ∧ (∀ t', k.blk.ty = some t' → t' = t) ∧ k.blk.isMap = false := by
  cases k with
  | m => exact h.elim
  | c sz cs dv bt =>
    obtain ⟨h1, h2, h3⟩ := h
    refine ⟨.obj (by rw [Tr.gets_len]; exact h1) (fun i p hp => ?_) hF, h2, rfl⟩
    rw [Tr.gets_get] at hp
    split at hp
    · rename_i hi
      cases hp
      obtain ⟨u, q1, q2⟩ := h3 i hi
      exact ⟨u, q1, by rw [Nat.zero_add]; exact q2⟩
    · cases hp
theorem TriO.newB {o : Oper} {p : PV} {k : RB} {n : Nat} (hd : o.dst = some d) (hN : Nat.blt d s.N = true) (hn : s.n = n)
    (h : ∀ B0 w0 φ0 F0 F φ a w, Sim B0 w0 φ0 F0 s F φ a w → ∃ v vs t w1, (w1 = w ∨ w1 = w.drew ∨ w1 = w.drew.drew) ∧ (execOp a.eval o).run P w = .ok (.value v) (w1.alloc (.cells vs t)) ∧ CellsAt F φ vs t k ∧ ∀ ψ : Phi, ψ n = some (w.heap.size, vs.size) → VR F ψ p v) : TriO P o (Is (s.aft o.dst ⟨p, [(n, some k)], n + 1⟩)) s := by
  subst hn
  refine .gen hd hN (fun B0 w0 φ0 F0 F φ a w hs => ?_)
  obtain ⟨v, vs, t, w1, hw, hr, hc, hv⟩ := h B0 w0 φ0 F0 F φ a w hs
  have hs1 : Sim B0 w0 φ0 F0 s F φ a w1 := by
    rcases hw with rfl | rfl | rfl
    · exact hs
    · exact hs.drew
    · exact hs.drew.drew
  have hsz : w1.heap.size = w.heap.size := by rcases hw with rfl | rfl | rfl <;> rfl
  obtain ⟨c1, c2, c3⟩ := hc.hb (B := w1.heap.size) (fun _ _ e => Nat.ne_of_lt (hs1.fok.lt e))
  obtain ⟨hle, hs'⟩ := hs1.alloc c1 c2 c3
  refine ⟨v, _, s.alloc k.blk, F, _, p, hr, rfl, rfl, hs', hv _ (by rw [← hsz]; exact if_pos rfl), ?_⟩
  rw [hd]; rfl
theorem leaves_at {F : FMem} {φ : Phi} {p : PV} {v : Value} (h : VR F φ p v) (hp : p.known = true) (t : TypeId) : CellsAt F φ v.cells t (RB.new p.leaves (some t)) := by
  obtain ⟨h1, h2⟩ := h.cells hp
  refine ⟨Nat.le_of_eq h1, fun t' e => (by cases e; rfl), fun i hi => ?_⟩
  obtain ⟨u, q1, q2⟩ := h2 i _ (List.getElem?_eq_getElem hi)
  refine ⟨u, q1, ?_⟩
  rw [Tr.puts_get, if_pos ⟨Nat.zero_le _, by omega⟩, Nat.sub_zero, List.getElem?_eq_getElem hi]
  exact q2
def allocR (E : Env P) (n : Nat) (t : TypeId) : Option OR := match E.tyAt t with
  | some y => bif (ofConst y.z).known then some ⟨.ptr n 0, [(n, some (RB.new (ofConst y.z).leaves (some t)))], n + 1⟩ else none
  | none => none
theorem allocR_ok {n : Nat} {t : TypeId} {x : OR} (hn : s.n = n) (hN : Nat.blt d s.N = true) (h : allocR E n t = some x) : TriO P ⟨some d, .alloc t, ty, pos, af, g⟩ (Is (s.aft (some d) x)) s := by
  unfold allocR at h
  split at h
  · rename_i y hy
    have ht := E.tyAt_ok hy
    obtain ⟨hc, h⟩ := bif_some h
    cases h
    refine TriO.newB (o := ⟨some d, .alloc t, ty, pos, af, g⟩) rfl hN hn fun B0 w0 φ0 F0 F φ a w hs => ?_
    have hv : VR F φ (ofConst y.z) y.z := ofConst_vr y.z
    refine ⟨_, y.z.cells, t, w, .inl rfl, ?_, leaves_at hv hc t, fun ψ hψ => .ptr (B := w.heap.size) (off := 0) hψ⟩
    simp only [execOp, Instr.alloc, newVar, newRow, newObj, Sem.run_bind, ht.zero, Sem.run, Result.andThen_ok, Sem.run_pure]
    rfl
  · cases h
def boxR (n : Nat) (t : TypeId) (p : PV) : Option OR := some ⟨.ptr n 0, [(n, some (RB.new p.leaves (some t)))], n + 1⟩
theorem boxR_ok {n : Nat} {t : TypeId} {x : Operand} {p : PV} {r : OR} (hx : s.ev x = p) (hp : p.known = true) (hn : s.n = n) (hN : Nat.blt d s.N = true) (h : boxR n t p = some r) : TriO P ⟨some d, .box t x, ty, pos, af, g⟩ (Is (s.aft (some d) r)) s := by
  cases h
  refine TriO.newB (o := ⟨some d, .box t x, ty, pos, af, g⟩) rfl hN hn fun B0 w0 φ0 F0 F φ a w hs => ?_
  have hv : VR F φ p (a.eval x) := hx ▸ hs.ev x
  refine ⟨_, (a.eval x).cells, t, w, .inl rfl, ?_, leaves_at hv hp t, fun ψ hψ => .ptr (B := w.heap.size) (off := 0) hψ⟩
  simp only [execOp, Instr.box, newVar, newRow, newObj, Sem.run_bind, Sem.run, Result.andThen_ok, Sem.run_pure]
  rfl

/-! ### stores -/
def storeR (E : Env P) (hg : Nat → Option RB) (n : Nat) (t : TypeId) (p q : PV) : Option OR := match p with
  | .ptr b o => match E.tyAt t, hg b with
    | some y, some (.c sz cs dv bt) =>
      let qs := q.leaves
      bif Nat.beq qs.length y.sz && allFlat qs && Nat.ble (o + y.sz) sz then some ⟨.undef, [(b, some (.c sz (cs.puts o qs) dv bt))], n⟩ else none
    | _, _ => none
  | _ => none
theorem storeR_ok {n : Nat} {t : TypeId} {x y : Operand} {p q : PV} {r : OR} (hx : s.ev x = p) (hy : s.ev y = q) (hq : q.known = true) (hk : HK hg s) (hn : s.n = n) (h : storeR E hg n t p q = some r) : TriO P ⟨none, .store t x y, ty, pos, af, g⟩ (Is (s.aft none r)) s := by
  unfold storeR at h
  split at h
  · rename_i b o
    split at h
    · rename_i yy sz cs dv bt hyy hb
      have ht := E.tyAt_ok hyy
      obtain ⟨hc, h⟩ := bif_some h
      cases h
      simp only [Bool.and_eq_true] at hc
      obtain ⟨⟨h1, h2⟩, h3⟩ := hc
      have h1 := Nat.eq_of_beq_eq_true h1
      have h3' := Nat.le_of_ble_eq_true h3
      refine TriO.store (t := t) hx (hk b _ hb) hy hq rfl h1 h2 (by rw [Tr.gets_len]; exact h3) rfl ?_
      subst hn
      have e := RB.puts_blk (sz := sz) (o := o) (cs := cs) (dv := dv) (ty := bt) (qs := q.leaves) (by omega)
      show s.upd b _ = _
      simp only [RB.blk] at e
      simp only [St.upd, St.aft, aftH, RB.blk, pushT, e]
    · cases h
  · cases h

/-! ### literals, make -/
def fillT (e n : Nat) : Tr PV → List (Nat × PV) → Option (Tr PV)
  | cs, [] => some cs
  | cs, (i, p) :: l =>
    let ls := p.leaves
    bif p.known && Nat.beq ls.length e && Nat.ble (i * e + e) n then fillT e n (cs.puts (i * e) ls) l else none
theorem fillT_spec {F : FMem} {φ : Phi} {e n : Nat} {dv : PV} {f : Operand → Value} {g : Operand → PV} (hfg : ∀ x, VR F φ (g x) (f x)) : ∀ {l : List (Nat × Operand)} {cs qs : Tr PV} {cells : Array Value}, fillT e n cs (l.map fun x => (x.1, g x.2)) = some qs → n = cells.size →
    (∀ i, i < n → ∃ u, cells[i]? = some u ∧ VR F φ ((cs.get i).getD dv) u) → ∃ out, Instr.fill (fun i => some (i * e, e)) cells (l.map fun x => (x.1, f x.2)) = some out ∧ out.size = n ∧ ∀ i, i < n → ∃ u, out[i]? = some u ∧ VR F φ ((qs.get i).getD dv) u
  | [], cs, qs, cells, h, hn, hc => by cases h; exact ⟨cells, rfl, hn.symm, hc⟩
  | (i, x) :: l, cs, qs, cells, h, hn, hc => by
    simp only [List.map_cons, fillT] at h
    obtain ⟨hb, h⟩ := bif_some h
    simp only [Bool.and_eq_true] at hb
    obtain ⟨⟨hk, h1⟩, h2⟩ := hb
    have h1 := Nat.eq_of_beq_eq_true h1
    have h2 := Nat.le_of_ble_eq_true h2
    obtain ⟨c1, c2⟩ := (hfg x).cells hk
    have hsz : (f x).cells.size = e := by omega
    have ho := fill_one (i * e) (f x) cells (by omega)
    generalize hc' : (f x).cells.zipIdx.foldl (fun cs (y : Value × Nat) => cs.setIfInBounds (i * e + y.2) y.1) cells = cells' at ho
    have hlen : cells'.size = cells.size := by
      have := congrArg List.length ho
      simp at this; omega
    obtain ⟨out, e1, e2, e3⟩ := fillT_spec hfg (l := l) (cells := cells') h (by omega) (fun j hj => by
      have e4 : cells'[j]? = (cells.toList.take (i * e) ++ (f x).cells.toList ++ cells.toList.drop (i * e + (f x).cells.toList.length))[j]? := by
        rw [← Array.getElem?_toList, ho]; simp
      rw [e4, splice_get (by simp; omega), Tr.puts_get]
      have e5 : (f x).cells.toList.length = (g x).leaves.length := by simp [c1]
      rw [e5]
      by_cases q1 : j < i * e
      · rw [if_pos q1, if_neg (by omega)]
        obtain ⟨u, hu, hvr⟩ := hc j hj; exact ⟨u, by simpa using hu, hvr⟩
      · rw [if_neg q1]
        by_cases q2 : j < i * e + (g x).leaves.length
        · rw [if_pos q2, if_pos ⟨by omega, q2⟩]
          have hj2 : j - i * e < (g x).leaves.length := by omega
          obtain ⟨u, hu, hvr⟩ := c2 _ _ (List.getElem?_eq_getElem hj2)
          rw [List.getElem?_eq_getElem hj2]
          exact ⟨u, by simpa using hu, hvr⟩
        · rw [if_neg q2, if_neg (by omega)]
          obtain ⟨u, hu, hvr⟩ := hc j hj; exact ⟨u, by simpa using hu, hvr⟩)
    refine ⟨out, ?_, e2, e3⟩
    simp only [List.map_cons, Instr.fill]
    rw [if_neg (by simp; omega), hc']
    exact e1
/-- Zeros: cells, and what stands in all others. -/
def zeroT (z : Value) (e n : Nat) : Tr PV × PV :=
  let p := ofConst z
  bif p.known then
    (let ls := p.leaves
     bif Nat.beq e 1 then (.lf, ls.getD 0 .undef) else (Tr.lf.puts 0 ((List.range (n * e)).map fun i => ls.getD (i % e) .undef), .undef))
  else (.lf, .undef)
theorem zeroT_ok {F : FMem} {φ : Phi} {z : Value} {e n : Nat} (he : z.cells.size = e) : ∀ i, i < n * e → ∃ u, (madeCells z.cells (n * e))[i]? = some u ∧ VR F φ (((zeroT z e n).1.get i).getD (zeroT z e n).2) u := by
  intro i hi
  have hz : VR F φ (ofConst z) z := ofConst_vr z
  have he0 : 0 < e := by
    rcases Nat.eq_zero_or_pos e with h | h
    · subst h; omega
    · exact h
  have hm : i % e < z.cells.size := by rw [he]; exact Nat.mod_lt _ he0
  refine ⟨z.cells[i % e], ?_, ?_⟩
  · simp only [madeCells, Array.getElem?_map, Array.getElem?_range, hi, if_true, Option.map_some, he]
    rw [getElem!_pos z.cells (i % e) hm]
  · unfold zeroT
    cases hk : (ofConst z).known with
    | false => simp only [hk, cond_false, Tr.get_lf, Option.getD_none]; exact .undef _
    | true =>
      obtain ⟨c1, c2⟩ := hz.cells hk
      simp only [hk, cond_true]
      cases h1 : Nat.beq e 1 with
      | true =>
        have h1 := Nat.eq_of_beq_eq_true h1
        subst h1
        simp only [cond_true, Tr.get_lf, Option.getD_none]
        have h0 : 0 < (ofConst z).leaves.length := by omega
        obtain ⟨u, hu, hvr⟩ := c2 0 _ (List.getElem?_eq_getElem h0)
        rw [List.getD_eq_getElem?_getD, List.getElem?_eq_getElem h0]
        have : i % 1 = 0 := Nat.mod_one i
        simp only [this]
        rw [Array.getElem?_eq_getElem (by omega)] at hu
        cases hu
        exact hvr
      | false =>
        simp only [cond_false]
        rw [Tr.puts_get, if_pos ⟨Nat.zero_le _, by simpa using hi⟩, Nat.sub_zero, List.getElem?_map, List.getElem?_range hi]
        have hj : i % e < (ofConst z).leaves.length := by omega
        obtain ⟨u, hu, hvr⟩ := c2 _ _ (List.getElem?_eq_getElem hj)
        simp only [Option.map_some, Option.getD_some]
        rw [List.getD_eq_getElem?_getD, List.getElem?_eq_getElem hj]
        rw [Array.getElem?_eq_getElem hm] at hu
        cases hu
        exact hvr
def litR (E : Env P) (n : Nat) (t : TypeId) (len : Nat) (ps : List (Nat × PV)) : Option OR := match (E.tyAt t).map TyE.d with
  | some (.slice et) => match E.tyAt et with
    | some y =>
      let z := zeroT y.z y.sz (bif Nat.beq ps.length len then 0 else len)
      bif Nat.ble (len * y.sz) 16777216 then
        (match fillT y.sz (len * y.sz) (bif Nat.beq ps.length len then .lf else z.1) ps with
        | some cs => some ⟨.ref n y.sz 0 len len, [(n, some (.c (len * y.sz) cs (bif Nat.beq ps.length len then .undef else z.2) (some et)))], n + 1⟩
        | none => none) else none
    | none => none
  | _ => none
theorem litR_ok {tm : Tr PV} {n : Nat} {t : TypeId} {len : Nat} {parts : Array (Nat × Operand)} {ps : List (Nat × PV)} {r : OR} (K : Kn tm hg n ⟨some d, .buildSlice t len parts, ty, pos, af, g⟩ s) (hp : partsV tm parts.toList = some ps) (hN : Nat.blt d s.N = true) (h : litR E n t len ps = some r) :
    TriO P ⟨some d, .buildSlice t len parts, ty, pos, af, g⟩ (Is (s.aft (some d) r)) s := by
  have hps := partsV_ok (s := s) (fun x hx => K.ev x.2 (by simp only [Op.operands, List.mem_map]; exact ⟨x, hx, rfl⟩)) hp
  unfold litR at h
  split at h
  · rename_i et hd
    obtain ⟨_, _, _, ht⟩ := tyAt_d hd
    split at h
    · rename_i y hy
      have he := E.tyAt_ok hy
      obtain ⟨hle, h⟩ := bif_some h
      have hle := Nat.le_of_ble_eq_true hle
      split at h
      · rename_i cs hcs
        cases h
        refine TriO.newB (o := ⟨some d, .buildSlice t len parts, ty, pos, af, g⟩) rfl hN K.n fun B0 w0 φ0 F0 F φ a w hs => ?_
        have hcells : ∀ i, i < len * y.sz → ∃ u, (madeCells y.z.cells (len * y.sz))[i]? = some u ∧ VR F φ (((bif Nat.beq ps.length len then Tr.lf else (zeroT y.z y.sz (bif Nat.beq ps.length len then 0 else len)).1).get i).getD (bif Nat.beq ps.length len then .undef else (zeroT y.z y.sz (bif Nat.beq ps.length len then 0 else len)).2)) u := by
          intro i hi
          cases hb : Nat.beq ps.length len with
          | true => exact ⟨_, Array.getElem?_eq_getElem (by simpa [madeCells] using hi), .undef _⟩
          | false => exact zeroT_ok he.zsz i hi
        obtain ⟨out, o1, o2, o3⟩ := fillT_spec (F := F) (φ := φ) (f := a.eval) (g := s.ev) (fun x => hs.ev x) (l := parts.toList) (cells := madeCells y.z.cells (len * y.sz)) (by rw [hps]; exact hcs) (by simp [madeCells]) hcells
        refine ⟨.slice (some ⟨w.heap.size, 0, none⟩) len len, out, et, w, .inl rfl, ?_, ⟨Nat.le_of_eq o2.symm, fun t' e => (by cases e; rfl), o3⟩, fun ψ hψ => ?_⟩
        · simp only [execOp, Instr.buildSlice, Sem.run_bind, ht.under, he.sizeOf, Result.andThen_ok]
          rw [if_neg (by omega)]
          have hpl : (parts.map fun (x : Nat × Operand) => (x.1, a.eval x.2)).toList = parts.toList.map fun x => (x.1, a.eval x.2) := by simp
          by_cases h0 : len * y.sz = 0
          · simp only [h0, if_true, Sem.run_bind, Sem.run_pure, Result.andThen_ok]
            have : (Array.range 0).map (fun (i : Nat) => (#[] : Array Value)[i % (#[] : Array Value).size]!) = madeCells y.z.cells (len * y.sz) := by rw [h0]; simp [madeCells]
            rw [this, hpl, o1]
            simp only [newRow, newObj, Sem.run_bind, Sem.run, Result.andThen_ok, Sem.run_pure]
            rfl
          · simp only [h0, if_false, Sem.run_bind, he.zero, Sem.run_pure, Result.andThen_ok]
            rw [hpl]
            have : (Array.range (len * y.sz)).map (fun (i : Nat) => y.z.cells[i % y.z.cells.size]!) = madeCells y.z.cells (len * y.sz) := rfl
            rw [this, o1]
            simp only [newRow, newObj, Sem.run_bind, Sem.run, Result.andThen_ok, Sem.run_pure]
            rfl
        · have := VR.ref (F := F) (φ := ψ) (b := n) (e := y.sz) (off := 0) (len := len) (cap := len) (c := len) hψ (Nat.le_refl _) (Nat.le_refl _) (by omega)
          simpa using this
      · cases h
    · cases h
  · cases h
def makeR (E : Env P) (n : Nat) (t : TypeId) (p q : PV) : Option OR := match p, q with
  | .t (.v (.int _ l)), .t (.v (.int _ c)) => match (E.tyAt t).map TyE.d with
    | some (.slice et) => match E.tyAt et with
      | some y => bif decide (0 ≤ l) && decide (l ≤ c) && decide ((y.bytes : Int) * c ≤ 281474976710656) && decide (c ≤ 9223372036854775807) then
          (let z := zeroT y.z y.sz c.toNat
           some ⟨.ref n y.sz 0 l.toNat c.toNat, [(n, some (.c (c.toNat * y.sz) z.1 z.2 (some et)))], n + 1⟩) else none
      | none => none
    | _ => none
  | _, _ => none
theorem makeR_ok {n : Nat} {t : TypeId} {x y : Operand} {p q : PV} {r : OR} (hx : EvH True s x p) (hy : EvH True s y q) (hn : s.n = n) (hN : Nat.blt d s.N = true) (h : makeR E n t p q = some r) : TriO P ⟨some d, .makeSlice t x y, ty, pos, af, g⟩ (Is (s.aft (some d) r)) s := by
  unfold makeR at h
  split at h
  · rename_i kl l kc c
    split at h
    · rename_i et hd
      obtain ⟨_, _, _, ht⟩ := tyAt_d hd
      split at h
      · rename_i ye hye
        have he := E.tyAt_ok hye
        obtain ⟨hc, h⟩ := bif_some h
        cases h
        simp only [Bool.and_eq_true, decide_eq_true_eq] at hc
        obtain ⟨⟨⟨h1, h2⟩, h3⟩, h4⟩ := hc
        refine TriO.newB (o := ⟨some d, .makeSlice t x y, ty, pos, af, g⟩) rfl hN hn fun B0 w0 φ0 F0 F φ a w hs => ?_
        have hr := make_run (P := P) (d := d) (ty := ty) (pos := pos) (af := af) (g := g) (t := t) trivial hs hx hy h1 h2 h3 h4
        refine ⟨_, _, _, w, .inl rfl, hr, ⟨by simp [madeCells], fun t' e => (by cases e; rfl), fun i hi => zeroT_ok he.zsz i hi⟩, fun ψ hψ => ?_⟩
        have := VR.ref (F := F) (φ := ψ) (b := n) (e := ye.sz) (off := 0) (len := l.toNat) (cap := c.toNat) (c := c.toNat) hψ (by omega) (Nat.le_refl _) (by simp [madeCells])
        simpa using this
      · cases h
    · cases h
  · cases h
end
end
end Go.Proofs.YtdiimgkopknbcaaGreatDoor.E

/- The engine runs closed code: append, copy. -/
namespace Go.Proofs.YtdiimgkopknbcaaGreatDoor.E
open Go Go.RowKit
set_option linter.unusedVariables false
set_option linter.unusedSimpArgs false
variable {P : Program}
noncomputable section
section
variable {E : Env P} {d ty : Nat} {pos : String} {af : Array Edge} {g : Option (Nat × Bool)} {s : St} {hg : Nat → Option RB}
/-- Cells that are appended, or copied. -/
def SrcP (P : Program) (s : St) (tx : TypeId) (y : Operand) (e : Nat) (ps : List PV) (m : Nat) : Prop :=
  ∀ B0 w0 φ0 F0 F φ a w, Sim B0 w0 φ0 F0 s F φ a w → ∃ news, Src P e tx (a.eval y) m news w ∧ news.length = ps.length ∧ ps.length = m * e ∧ (∀ (i : Nat) (p : PV) (u : Value), ps[i]? = some p → news[i]? = some u → VR F φ p u) ∧ ∀ u ∈ news, u.oneCell' = true
def srcV (E : Env P) (hg : Nat → Option RB) (tx : TypeId) (e : Nat) (q : PV) : Option (List PV × Nat) := match (E.tyAt tx).map TyE.d with
  | some (.slice _) => match q with
    | .t (.sl true []) => some ([], 0)
    | .ref b e' off len _ => match hg b with
      | some (.c sz cs dv _) =>
        let ps := cs.gets dv (off * e) (len * e)
        bif Nat.beq e e' && Nat.ble ((off + len) * e) sz && allFlat ps then some (ps, len) else none
      | _ => none
    | _ => none
  | some .string => match q with
    | .t (.v (.string b)) => bif Nat.beq e 1 then some (b.data.toList.map fun c => .t (.v (.int .u8 c.toNat)), b.data.toList.length) else none
    | _ => none
  | _ => none
theorem srcV_ok {tx : TypeId} {y : Operand} {e : Nat} {q : PV} {ps : List PV} {m : Nat} (hy : s.ev y = q) (hk : HK hg s) (h : srcV E hg tx e q = some (ps, m)) : SrcP P s tx y e ps m := by
  intro B0 w0 φ0 F0 F φ a w hs
  have hv := hy ▸ hs.ev y
  unfold srcV at h
  split at h
  · rename_i et hd
    obtain ⟨_, _, _, ht⟩ := tyAt_d hd
    split at h
    · cases h
      have := tr_nil (vrt hv)
      rw [this]
      exact ⟨[], Src.ofNil w ht.und 0, rfl, by simp, fun i p u h => by simp at h, fun _ h => by cases h⟩
    · rename_i b e' off len cap
      split at h
      · rename_i sz cs dv bt hb
        obtain ⟨hc, h⟩ := bif_some h
        cases h
        simp only [Bool.and_eq_true, Nat.ble_eq] at hc
        obtain ⟨⟨c1, c2⟩, c3⟩ := hc
        have c1 := Nat.eq_of_beq_eq_true c1
        subst c1
        generalize hq : a.eval y = v at hv
        cases hv with
        | @ref _ _ _ _ _ B S c hφ k1 k2 k3 =>
          obtain ⟨vs, t, q1, q0, q2, q3, q4⟩ := cells_at hs hk hb hφ
          rw [Nat.add_mul] at c2
          have hlen : ((vs.toList.drop (off * e)).take (m * e)).length = m * e := by simp; omega
          have hget : ∀ i, i < m * e → ((vs.toList.drop (off * e)).take (m * e))[i]? = vs[off * e + i]? := fun i hi => by
            rw [List.getElem?_take_of_lt hi, List.getElem?_drop]; simp
          have hvr : ∀ (i : Nat) (p : PV) (u : Value), (cs.gets dv (off * e) (m * e))[i]? = some p → ((vs.toList.drop (off * e)).take (m * e))[i]? = some u → VR F φ p u := by
            intro i p u hp hu
            rw [Tr.gets_get] at hp
            split at hp
            · rename_i hi
              cases hp
              rw [hget i hi] at hu
              obtain ⟨u', h1, h2⟩ := q4 (off * e + i) (by omega)
              rw [h1] at hu; cases hu; exact h2
            · cases hp
          have hone : ∀ u ∈ (vs.toList.drop (off * e)).take (m * e), u.oneCell' = true := by
            intro u hu
            obtain ⟨i, hi⟩ := List.mem_iff_getElem?.1 hu
            have hil := (List.getElem?_eq_some_iff.1 hi).1
            rw [hlen] at hil
            have hp : (cs.gets dv (off * e) (m * e))[i]? = some ((cs.get (off * e + i)).getD dv) := by rw [Tr.gets_get, if_pos hil]
            exact (hvr i _ u hp hi).one (allFlat_get c3 i _ hp)
          refine ⟨(vs.toList.drop (off * e)).take (m * e), ?_, by rw [hlen, Tr.gets_len], Tr.gets_len _ _ _ _, hvr, hone⟩
          refine Src.ofSlice w ht.und ⟨B, off * e, none⟩ m c _ hlen (fun j u hj => ?_) hone
          have hjl := (List.getElem?_eq_some_iff.1 hj).1
          rw [hlen] at hjl
          rw [Addr.add_mid, cell_at q1, ← hget j hjl]; exact hj
      · cases h
    · cases h
  · rename_i hd
    obtain ⟨_, _, _, ht⟩ := tyAt_d hd
    split at h
    · rename_i b
      obtain ⟨hc, h⟩ := bif_some h
      have hc := Nat.eq_of_beq_eq_true hc
      subst hc
      cases h
      have h1 := (evv0 hs hy).1
      rw [h1]
      refine ⟨byteCells b, by have := Src.ofString w ht.und b; simpa using this, by simp [byteCells], by simp, fun i p u hp hu => ?_, fun u hu => ?_⟩
      · rw [List.getElem?_map, Option.map_eq_some_iff] at hp
        obtain ⟨c, hc, rfl⟩ := hp
        simp [byteCells] at hu
        simp only [Array.getElem?_toList] at hc
        rw [hc] at hu
        simp at hu
        subst hu
        exact .t (.v rfl)
      · obtain ⟨_, _, rfl⟩ := List.mem_map.1 hu; rfl
    · cases h
  · cases h

/-! ### append -/
def tyJoin (bt : Option TypeId) (et : TypeId) : Option TypeId := match bt with
  | some t' => bif Nat.beq t' et then some et else none
  | none => none
def appR (E : Env P) (hg : Nat → Option RB) (n : Nat) (t tx : TypeId) (p q : PV) : Option OR := match (E.tyAt t).map TyE.d with
  | some (.slice et) => match E.tyAt et with
    | some y => match srcV E hg tx y.sz q with
      | some (ps, m) => match p with
        | .t (.sl true []) => bif Nat.beq m 0 then some ⟨.t (.sl true []), [], n⟩
            else bif Nat.ble (m * y.bytes) 70368744177664 && Nat.ble m 4611686018427387904 then some ⟨.ref n y.sz 0 m m, [(n, some (RB.new ps (some et)))], n + 1⟩ else none
        | .ref b e off len cap => match hg b with
          | some (.c sz cs dv bt) =>
            bif Nat.beq e y.sz && allFlat ps then
              (bif Nat.ble (len + m) cap then
                (bif Nat.ble (off * e + (len + m) * e) sz then some ⟨.ref b e off (len + m) cap, [(b, some (.c sz (cs.puts (off * e + len * e) ps) dv bt))], n⟩ else none)
              else
                (bif Nat.beq off 0 && Nat.ble (len * e) sz && Nat.ble ((len + m) * y.bytes) 70368744177664 && Nat.ble (len + m) 4611686018427387904 then
                  some ⟨.ref n e 0 (len + m) (len + m), [(b, none), (n, some (.c ((len + m) * e) (cs.puts (len * e) ps) dv (tyJoin bt et)))], n + 1⟩ else none)) else none
          | _ => none
        | _ => none
      | none => none
    | none => none
  | _ => none
theorem cells_new {F : FMem} {φ : Phi} {ps : List PV} {news rest : List Value} {t : TypeId} (h1 : news.length = ps.length) (h2 : ∀ (i : Nat) (p : PV) (u : Value), ps[i]? = some p → news[i]? = some u → VR F φ p u) : CellsAt F φ (news ++ rest).toArray t (RB.new ps (some t)) := by
  refine ⟨by simp; omega, fun t' e => (by cases e; rfl), fun i hi => ?_⟩
  have hn : i < news.length := by omega
  refine ⟨news[i], by simp [List.getElem?_append_left hn, hn], ?_⟩
  rw [Tr.puts_get, if_pos ⟨Nat.zero_le _, by omega⟩, Nat.sub_zero, List.getElem?_eq_getElem hi]
  exact h2 i _ _ (List.getElem?_eq_getElem hi) (List.getElem?_eq_getElem hn)
theorem TriO.appNilC {n : Nat} {t tx et : TypeId} {x y : Operand} {ps : List PV} {m : Nat} {sz bytes e ebytes : Nat} {z ez : Value} {ed : TypeDesc} (ht : TyIs P t (.slice et) sz bytes z) (he : TyIs P et ed e ebytes ez)
    (hx : s.ev x = .t (.sl true [])) (hsrc : SrcP P s tx y e ps m) (h0 : 0 < m) (hm : m * ebytes ≤ 70368744177664) (hm2 : m ≤ 4611686018427387904) (hn : s.n = n) (hN : Nat.blt d s.N = true) :
    TriO P ⟨some d, .call ⟨.builtin .append, #[x, y], #[t, tx]⟩, ty, pos, af, g⟩ (Is (s.aft (some d) ⟨.ref n e 0 m m, [(n, some (RB.new ps (some et)))], n + 1⟩)) s := by
  refine TriO.newB (o := ⟨some d, .call ⟨.builtin .append, #[x, y], #[t, tx]⟩, ty, pos, af, g⟩) rfl hN hn fun B0 w0 φ0 F0 F φ a w hs => ?_
  obtain ⟨news, h1, h2, h3, h4, h5⟩ := hsrc B0 w0 φ0 F0 F φ a w hs
  obtain ⟨i, i1, i2, i3, i4⟩ := he.inf
  have hq : a.eval x = .slice none 0 0 := tr_nil (vrt (hx ▸ hs.ev x))
  have hcap := nextcap_le (n := 0 + m) (c := 0) (by omega)
  have hrun := run_append_grow_src (P := P) w t tx ty et i ez ht.und i1 i2 none 0 0 [] rfl (a.eval y) m news (i3 ▸ h1) (by omega) (by omega)
    (by rw [i4]; have := Nat.mul_le_mul_right ebytes hcap; have e3 : 2 * (0 + m) * ebytes = 2 * (m * ebytes) := by rw [Nat.zero_add, Nat.mul_assoc]
        omega)
  simp only [Nat.zero_add, List.nil_append] at hrun
  have hge := grownCap_ge w m 0 et
  refine ⟨.slice (some ⟨w.heap.size, 0, none⟩) m (grownCap w m 0 et), (news ++ (Builtin.zeroCells ez.cells (grownCap w m 0 et - m)).toList).toArray, et, w.drew, .inr (.inl rfl), ?_, cells_new h2 h4, fun ψ hψ => ?_⟩
  · simp only [execOp, resolve, invoke, builtin, List.map_toArray, List.map_cons, List.map_nil, hq, Sem.run_bind, Sem.run_pure, Result.andThen_ok, hrun]
    congr 3
    apply Array.ext'; simp
  · have hz : (news ++ (Builtin.zeroCells ez.cells (grownCap w m 0 et - m)).toList).toArray.size = grownCap w m 0 et * e := by
      simp [h2, h3, zeroCells_size, he.zsz]
      rw [← Nat.add_mul]; congr 1; omega
    have := VR.ref (F := F) (φ := ψ) (b := n) (e := e) (off := 0) (len := m) (cap := m) (B := w.heap.size) (sz := grownCap w m 0 et * e) (c := grownCap w m 0 et) (by rw [← hz]; exact hψ) (Nat.le_refl _) hge (by omega)
    simpa using this
theorem PO.appNilC0 {t tx et : TypeId} {x y : Operand} {sz bytes e ebytes : Nat} {z ez : Value} {ed : TypeDesc} {ps : List PV} (ht : TyIs P t (.slice et) sz bytes z) (he : TyIs P et ed e ebytes ez)
    (hx : s.ev x = .t (.sl true [])) (hsrc : SrcP P s tx y e ps 0) : PO P True ⟨some d, .call ⟨.builtin .append, #[x, y], #[t, tx]⟩, ty, pos, af, g⟩ s (.t (.sl true [])) := by
  refine PO.appNil0 hx (fun B0 w0 φ0 F0 F φ a w hs => ?_)
  obtain ⟨news, h1, h2, h3, h4, h5⟩ := hsrc B0 w0 φ0 F0 F φ a w hs
  have : news = [] := List.length_eq_zero_iff.1 (by omega)
  subst this
  exact ⟨[], h1, ⟨by simp, fun i y h => by simp at h, fun i y j p h => by simp at h, fun _ h => by cases h⟩⟩
/-- append to a row of our own: there is room, or not. -/
theorem appRef {t tx et : TypeId} {x y : Operand} {b off len cap m S : Nat} {cs : Tr PV} {dv : PV} {bt : Option TypeId} {ps : List PV} {sz bytes e ebytes : Nat} {z ez : Value} {ed : TypeDesc} (ht : TyIs P t (.slice et) sz bytes z) (he : TyIs P et ed e ebytes ez)
    (hx : s.ev x = .ref b e off len cap) (hk : HK hg s) (hb : hg b = some (.c S cs dv bt)) (hsrc : SrcP P s tx y e ps m) {B0 : Fr} {w0 : World} {φ0 : Phi} {F0 : FMem} {F : FMem} {φ : Phi} {a : Act} {w : World} (hs : Sim B0 w0 φ0 F0 s F φ a w) :
    ∃ B C c vs t' news, φ b = some (B, C) ∧ Live F φ B0 w b (RB.c S cs dv bt).blk B vs ∧ w.heap[B]? = some (.cells vs t' (0, 0)) ∧ (∀ q, bt = some q → q = t') ∧ S ≤ vs.size ∧ C = vs.size ∧ len ≤ cap ∧ cap ≤ c ∧ off * e + c * e ≤ C ∧ news.length = ps.length ∧ ps.length = m * e ∧
      (∀ i, i < S → ∃ u, vs[i]? = some u ∧ VR F φ ((cs.get i).getD dv) u) ∧ (∀ (i : Nat) (p : PV) (u : Value), ps[i]? = some p → news[i]? = some u → VR F φ p u) ∧ (∀ x u, F x = some u → x.block ≠ B) ∧
      (len + m ≤ c → (execOp a.eval ⟨some d, .call ⟨.builtin .append, #[x, y], #[t, tx]⟩, ty, pos, af, g⟩).run P w = .ok (.value (.slice (some ⟨B, off * e, none⟩) (len + m) c)) (w.setRow B (vs.toList.take (off * e + len * e) ++ news ++ vs.toList.drop (off * e + len * e + news.length)).toArray)) ∧
      (c < len + m → (off * e + len * e ≤ S) → (len + m) * ebytes ≤ 70368744177664 → len + m ≤ 4611686018427387904 →
        (execOp a.eval ⟨some d, .call ⟨.builtin .append, #[x, y], #[t, tx]⟩, ty, pos, af, g⟩).run P w = .ok (.value (.slice (some ⟨w.heap.size, 0, none⟩) (len + m) (grownCap w (len + m) c et))) (w.drew.alloc (.cells (((vs.toList.drop (off * e)).take (len * e) ++ news) ++ (Builtin.zeroCells ez.cells (grownCap w (len + m) c et - (len + m))).toList).toArray et))) := by
  obtain ⟨news, h1, h2, h3, h4, h5⟩ := hsrc B0 w0 φ0 F0 F φ a w hs
  obtain ⟨i, i1, i2, i3, i4⟩ := he.inf
  have hv := hx ▸ hs.ev x
  generalize hq : a.eval x = q at hv
  cases hv with
  | @ref _ _ _ _ _ B C c hφ k1 k2 k3 =>
    obtain ⟨B', vs, hl⟩ := hs.heap b _ (hk b _ hb)
    have e1 := hl.at_; rw [hφ] at e1; cases e1
    obtain ⟨vs', t', q1, q0, q2, q3, q4⟩ := cells_at hs hk hb hφ
    obtain ⟨t2, q1'⟩ := hl.cells rfl
    rw [q1] at q1'; cases q1'
    refine ⟨B, _, c, vs, t', news, hφ, hl, q1, q0, q2, rfl, k1, k2, k3, h2, h3, q4, h4, ?_, fun hroom => ?_, fun hcn hS hm hm2 => ?_⟩
    · cases hl.reads with | obj hn hr hF => exact hF
    · have hne : off * e + (len + m) * e ≤ vs.size := by
        have := Nat.mul_le_mul_right e hroom; omega
      rw [Nat.add_mul] at hne
      have hrun := run_append_room_src (P := P) w t tx ty et i ht.und i1 B (off * e) len c (a.eval y) m news (i3 ▸ h1) hroom
        (fun j hj => by rw [i3, cell_at q1, Array.getElem?_eq_getElem (by omega)]; rfl)
        (fun j hj => by simp [World.frozen?, q1])
      have hset : w.setCells B (off * e + len * e) news = w.setRow B (vs.toList.take (off * e + len * e) ++ news ++ vs.toList.drop (off * e + len * e + news.length)).toArray := by
        have r1 := run_storeCells_at (P := P) B (off * e + len * e) t' news 0 vs w q1 (by omega) h5
        have r2 := run_storeCells_cells (P := P) B (off * e + len * e) news 0 w (fun j hj => by rw [Nat.add_zero, cell_at q1, Array.getElem?_eq_getElem (by omega)]; rfl) (fun j hj => by simp [World.frozen?, q1]) h5
        simp only [Nat.add_zero] at r1 r2
        rw [r1] at r2
        injection r2 with _ r3
        exact r3.symm
      rw [i3, hset] at hrun
      simp only [execOp, resolve, invoke, builtin, List.map_toArray, List.map_cons, List.map_nil, hq, Sem.run_bind, Sem.run_pure, Result.andThen_ok, hrun]
    · have hcap2 := nextcap_le hcn
      have hold : ((vs.toList.drop (off * e)).take (len * e)).length = len * e := by simp; omega
      have hfirst : (Builtin.firstCells e len (.slice (some ⟨B, off * e, none⟩) len c)).run P w.drew = .ok (((vs.toList.drop (off * e)).take (len * e))).toArray w.drew := by
        refine run_firstCells_some w.drew e len ⟨B, off * e, none⟩ len c _ hold (fun j u hj => ?_)
        rw [Addr.add_mid]
        rw [List.getElem?_take] at hj
        split at hj
        · rw [show w.drew.cell? ⟨B, off * e + j, none⟩ = w.cell? ⟨B, off * e + j, none⟩ from rfl, cell_at q1]
          rw [List.getElem?_drop] at hj; simpa using hj
        · cases hj
      have hrun := run_append_grow_src (P := P) w t tx ty et i ez ht.und i1 i2 (some ⟨B, off * e, none⟩) len c ((vs.toList.drop (off * e)).take (len * e)) (by rw [i3]; exact hfirst) (a.eval y) m news (i3 ▸ h1) hcn (by omega)
        (by rw [i4]; have := Nat.mul_le_mul_right ebytes hcap2; have e3 : 2 * (len + m) * ebytes = 2 * ((len + m) * ebytes) := by rw [Nat.mul_assoc]
            omega)
      simp only [execOp, resolve, invoke, builtin, List.map_toArray, List.map_cons, List.map_nil, hq, Sem.run_bind, Sem.run_pure, Result.andThen_ok, hrun]
      congr 3
      apply Array.ext'; simp [i3]
theorem take_put {vs : Array Value} {news : List Value} {o : Nat} (h : o + news.length ≤ vs.size) : (vs.toList.take o ++ news ++ vs.toList.drop (o + news.length)).toArray.size = vs.size := by
  have := splice_len (l := vs.toList) (vs := news) (o := o) (by simpa using h)
  simp only [List.size_toArray]; rw [this]; simp
theorem get_put {F : FMem} {φ : Phi} {vs : Array Value} {news : List Value} {ps : List PV} {o S : Nat} {cs : Tr PV} {dv : PV} (h : o + news.length ≤ vs.size) (h2 : news.length = ps.length) (hc : ∀ i, i < S → ∃ u, vs[i]? = some u ∧ VR F φ ((cs.get i).getD dv) u)
    (hp : ∀ (i : Nat) (p : PV) (u : Value), ps[i]? = some p → news[i]? = some u → VR F φ p u) (i : Nat) (hi : i < S ∨ (o ≤ i ∧ i < o + ps.length)) : ∃ u, (vs.toList.take o ++ news ++ vs.toList.drop (o + news.length)).toArray[i]? = some u ∧ VR F φ (((cs.puts o ps).get i).getD dv) u := by
  simp only [List.getElem?_toArray]
  rw [splice_get (by simpa using h), Tr.puts_get]
  by_cases c1 : i < o
  · rw [if_pos c1, if_neg (by omega)]
    obtain ⟨u, g1, g2⟩ := hc i (by omega)
    exact ⟨u, by simpa using g1, g2⟩
  · rw [if_neg c1]
    by_cases c2 : i < o + news.length
    · rw [if_pos c2, if_pos ⟨by omega, by omega⟩]
      have hj : i - o < news.length := by omega
      refine ⟨news[i - o], List.getElem?_eq_getElem hj, ?_⟩
      rw [List.getElem?_eq_getElem (show i - o < ps.length by omega)]
      exact hp _ _ _ (List.getElem?_eq_getElem (by omega)) (List.getElem?_eq_getElem hj)
    · rw [if_neg c2, if_neg (by omega)]
      obtain ⟨u, g1, g2⟩ := hc i (by omega)
      exact ⟨u, by simpa using g1, g2⟩
/-- A block of our own takes a new number. -/
theorem Sim.renumber {B0 : Fr} {w0 : World} {φ0 : Phi} {F0 : FMem} {F : FMem} {φ : Phi} {a : Act} {w w' : World} (hs : Sim B0 w0 φ0 F0 s F φ a w) {b : Nat} {k k' : Blk} {B C : Nat} (hk : look b s.heap = some k) (hφ : φ b = some (B, C)) (hu : Sim B0 w0 φ0 F0 (s.upd b k') F φ a w') :
    Sim B0 w0 φ0 F0 { s with heap := (s.n, k') :: wipe b s.heap, n := s.n + 1 } F (φ.new s.n (B, C)) a w' := by
  have hφn : φ s.n = none := hs.fresh _ (Nat.le_refl _)
  have hle : φ.le (φ.new s.n (B, C)) := Phi.le_new hφn
  have hkeep : ∀ b2 k2, look b2 ((s.n, k') :: wipe b s.heap) = some k2 → (b2 = s.n ∧ k2 = k') ∨ (b2 ≠ s.n ∧ b2 ≠ b ∧ look b2 s.heap = some k2) := by
    intro b2 k2 h
    simp only [look] at h
    split at h
    · cases h; exact .inl ⟨‹_›, rfl⟩
    · rw [look_wipe] at h
      split at h
      · cases h
      · exact .inr ⟨‹_›, ‹_›, h⟩
  refine ⟨hu.below, hu.base, hu.fok, hu.fle, hu.fnew, fun b2 hb2 => ?_, Nat.le_succ_of_le hs.lo, fun b2 hb2 => ?_, hs.size, hs.defers, fun i p hp => (hu.tm i p hp).mono (FMem.le_refl F) hle, fun b2 k2 hk2 => ?_, fun b1 b2 k1 k2 B2 s1 s2 g1 g2 g3 g4 => ?_⟩
  · have := hs.lo; simp only at hb2
    rw [Phi.new, if_neg (by omega)]; exact hs.phi0 b2 hb2
  · simp only at hb2
    rw [Phi.new, if_neg (by omega)]; exact hs.fresh b2 (by omega)
  · rcases hkeep b2 k2 hk2 with ⟨rfl, rfl⟩ | ⟨n1, n2, n3⟩
    · obtain ⟨B1, cs1, l1⟩ := hu.heap b k2 (by simp [St.upd, look])
      have e := l1.at_; rw [hφ] at e; cases e
      exact ⟨B, cs1, l1.to rfl (if_pos rfl) l1.old (FMem.le_refl F) hle (l1.reads.mono hle)⟩
    · obtain ⟨B2, cs2, hl2⟩ := hu.heap b2 k2 (by simp only [St.upd, look]; rw [if_neg n2]; exact n3)
      exact ⟨B2, cs2, hl2.to rfl (hle _ _ hl2.at_) hl2.old (FMem.le_refl F) hle (hl2.reads.mono hle)⟩
  · rcases hkeep b1 k1 g1 with ⟨rfl, rfl⟩ | ⟨n1, n2, n3⟩ <;> rcases hkeep b2 k2 g2 with ⟨e2, e3⟩ | ⟨m1, m2, m3⟩
    · exact e2.symm
    · rw [Phi.new, if_pos rfl] at g3; rw [Phi.new, if_neg m1] at g4
      cases g3
      exact absurd (hs.inj b b2 _ k2 B _ _ hk m3 hφ g4) (Ne.symm m2)
    · subst e2; rw [Phi.new, if_pos rfl] at g4; rw [Phi.new, if_neg n1] at g3
      cases g4
      exact absurd (hs.inj b1 b k1 _ B _ _ n3 hk g3 hφ) n2
    · rw [Phi.new, if_neg n1] at g3; rw [Phi.new, if_neg m1] at g4
      exact hs.inj b1 b2 k1 k2 B2 s1 s2 n3 m3 g3 g4
theorem appR_ok {n : Nat} {t tx : TypeId} {x y : Operand} {p q : PV} {r : OR} (hx : s.ev x = p) (hy : s.ev y = q) (hk : HK hg s) (hn : s.n = n) (hN : Nat.blt d s.N = true) (h : appR E hg n t tx p q = some r) :
    TriO P ⟨some d, .call ⟨.builtin .append, #[x, y], #[t, tx]⟩, ty, pos, af, g⟩ (Is (s.aft (some d) r)) s := by
  unfold appR at h
  split at h
  · rename_i et hd
    obtain ⟨_, _, _, ht⟩ := tyAt_d hd
    split at h
    · rename_i ye hye
      have he := E.tyAt_ok hye
      split at h
      · rename_i ps m hsv
        have hsrc := srcV_ok (P := P) hy hk hsv
        split at h
        · cases hm : Nat.beq m 0 with
          | true =>
            rw [hm, cond_true] at h; cases h
            have hm := Nat.eq_of_beq_eq_true hm
            subst hm
            exact TriO.val (o := ⟨some d, .call ⟨.builtin .append, #[x, y], #[t, tx]⟩, ty, pos, af, g⟩) rfl hN (PO.appNilC0 ht he hx hsrc) hn
          | false =>
            rw [hm, cond_false] at h
            obtain ⟨hc, h⟩ := bif_some h
            cases h
            simp only [Bool.and_eq_true, Nat.ble_eq] at hc
            have := Nat.ne_of_beq_eq_false hm
            exact TriO.appNilC ht he hx hsrc (by omega) hc.1 hc.2 hn hN
        · rename_i b e off len cap
          split at h
          · rename_i S cs dv bt hb
            obtain ⟨hc, h⟩ := bif_some h
            simp only [Bool.and_eq_true] at hc
            obtain ⟨hc0, hfl⟩ := hc
            have hc0 := Nat.eq_of_beq_eq_true hc0
            subst hc0
            subst hn
            cases hroom : Nat.ble (len + m) cap with
            | true =>
              rw [hroom, cond_true] at h
              obtain ⟨hS, h⟩ := bif_some h
              cases h
              have hroom := Nat.le_of_ble_eq_true hroom
              have hS := Nat.le_of_ble_eq_true hS
              rw [Nat.add_mul] at hS
              refine .gen rfl hN (fun B0 w0 φ0 F0 F φ a w hs => ?_)
              obtain ⟨B, C, c, vs, t', news, a1, a2, a3, a4, a5, a6, a7, a8, a9, a10, a11, a12, a13, a14, a15, a16⟩ := appRef (ty := ty) (d := d) (pos := pos) (af := af) (g := g) ht he hx hk hb hsrc hs
              have hin : off * ye.sz + len * ye.sz + news.length ≤ vs.size := by omega
              have hupd := hs.upd (k' := (RB.c S (cs.puts (off * ye.sz + len * ye.sz) ps) dv bt).blk) (hk _ _ hb) a2 (take_put hin) (.obj (by rw [take_put hin, Tr.gets_len]; exact a5) (fun i p hp => by
                rw [Tr.gets_get] at hp
                split at hp
                · rename_i hi
                  cases hp
                  rw [Nat.zero_add]
                  exact get_put hin a10 a12 a13 i (.inl hi)
                · cases hp) a14) (fun x u e1 e2 => absurd e2 (a14 x u e1)) (fun t e => e) rfl rfl
              refine ⟨_, _, s.upd b (RB.c S (cs.puts (off * ye.sz + len * ye.sz) ps) dv bt).blk, F, φ, .ref b ye.sz off (len + m) cap, a15 (by omega), rfl, rfl, hupd, .ref a1 (by omega) a8 a9, rfl⟩
            | false =>
              rw [hroom, cond_false] at h
              obtain ⟨hc, h⟩ := bif_some h
              cases h
              simp only [Bool.and_eq_true, Nat.ble_eq] at hc
              obtain ⟨⟨⟨c1, c2⟩, c3⟩, c4⟩ := hc
              have c1 := Nat.eq_of_beq_eq_true c1
              subst c1
              simp only [Nat.zero_mul, Nat.zero_add] at *
              refine .gen rfl hN (fun B0 w0 φ0 F0 F φ a w hs => ?_)
              obtain ⟨B, C, c, vs, t', news, a1, a2, a3, a4, a5, a6, a7, a8, a9, a10, a11, a12, a13, a14, a15, a16⟩ := appRef (ty := ty) (d := d) (pos := pos) (af := af) (g := g) ht he hx hk hb hsrc hs
              simp only [Nat.zero_mul, Nat.zero_add, List.drop_zero] at a9 a15 a16
              generalize htt : (tyJoin bt et) = tt
              have htt1 : ∀ q, tt = some q → q = et ∧ bt = some et := by
                intro q hq
                subst htt
                unfold tyJoin at hq
                split at hq
                · rename_i t2
                  obtain ⟨e1, e2⟩ := bif_some hq
                  cases e2
                  exact ⟨rfl, by rw [Nat.eq_of_beq_eq_true e1]⟩
                · cases hq
              by_cases hfit : len + m ≤ c
              · have hle : (len + m) * ye.sz ≤ c * ye.sz := Nat.mul_le_mul_right _ hfit
                rw [Nat.add_mul] at hle
                have hin : len * ye.sz + news.length ≤ vs.size := by omega
                have hupd := hs.upd (k' := (RB.c ((len + m) * ye.sz) (cs.puts (len * ye.sz) ps) dv tt).blk) (hk _ _ hb) a2 (take_put hin) (.obj (by rw [take_put hin, Tr.gets_len, Nat.add_mul]; omega) (fun i p hp => by
                  rw [Tr.gets_get] at hp
                  split at hp
                  · rename_i hi
                    cases hp
                    rw [Nat.zero_add]
                    rw [Nat.add_mul] at hi
                    exact get_put hin a10 a12 a13 i (by omega)
                  · cases hp) a14) (fun x u e1 e2 => absurd e2 (a14 x u e1)) (fun t e => by
                    have := htt1 t e
                    rw [this.1]; exact this.2) rfl rfl
                have hren := hs.renumber (hk _ _ hb) a1 hupd
                refine ⟨_, _, { s with heap := (s.n, (RB.c ((len + m) * ye.sz) (cs.puts (len * ye.sz) ps) dv tt).blk) :: wipe b s.heap, n := s.n + 1 }, F, _, .ref s.n ye.sz 0 (len + m) (len + m), a15 hfit, rfl, rfl, hren, ?_, rfl⟩
                have := VR.ref (F := F) (φ := φ.new s.n (B, C)) (b := s.n) (e := ye.sz) (off := 0) (len := len + m) (cap := len + m) (c := c) (if_pos rfl) (Nat.le_refl _) hfit (by omega)
                simpa using this
              · have hrun := a16 (by omega) c2 c3 c4
                have hge := grownCap_ge w (len + m) c et
                generalize hall : (((vs.toList.take (len * ye.sz)) ++ news) ++ (Builtin.zeroCells _ (grownCap w (len + m) c et - (len + m))).toList).toArray = all at hrun
                have hsz : all.size = grownCap w (len + m) c et * ye.sz := by
                  subst hall
                  simp only [List.size_toArray, List.length_append, List.length_take, Array.length_toList, zeroCells_size, he.zsz, a10, a11]
                  rw [Nat.min_eq_left (by omega), ← Nat.add_mul, ← Nat.add_mul]; congr 1; omega
                have hget : ∀ i, i < (len + m) * ye.sz → ∃ u, all[i]? = some u ∧ VR F φ (((cs.puts (len * ye.sz) ps).get i).getD dv) u := by
                  intro i hi
                  rw [Nat.add_mul] at hi
                  obtain ⟨u, u1, u2⟩ := get_put (F := F) (φ := φ) (vs := (vs.toList.take (len * ye.sz) ++ news).toArray) (news := news) (ps := ps) (o := len * ye.sz) (S := len * ye.sz) (cs := cs) (dv := dv) (by simp; omega) a10 (fun j hj => by
                    obtain ⟨u, u1, u2⟩ := a12 j (by omega)
                    refine ⟨u, ?_, u2⟩
                    simp only [List.getElem?_toArray]
                    rw [List.getElem?_append_left (by simp; omega), List.getElem?_take_of_lt hj]
                    simpa using u1) a13 i (by omega)
                  refine ⟨u, ?_, u2⟩
                  subst hall
                  simp only [List.getElem?_toArray] at u1 ⊢
                  rw [List.getElem?_append_left (by simp; omega)]
                  have hl : (vs.toList.take (len * ye.sz)).length = len * ye.sz := by simp; omega
                  have e : ∀ (T : List Value), T.length = len * ye.sz → ((T ++ news).toArray.toList.take (len * ye.sz) ++ news ++ (T ++ news).toArray.toList.drop (len * ye.sz + news.length)) = T ++ news := by
                    intro T hT; rw [← hT]; simp
                  rw [e _ hl] at u1
                  exact u1
                have hcell : CellsAt F φ all et (RB.c ((len + m) * ye.sz) (cs.puts (len * ye.sz) ps) dv tt) := ⟨by rw [hsz]; exact Nat.mul_le_mul_right _ hge, fun q hq => (htt1 q hq).1, hget⟩
                obtain ⟨d1, d2, d3⟩ := hcell.hb (B := w.drew.heap.size) (fun _ _ e => Nat.ne_of_lt (hs.fok.lt e))
                obtain ⟨hle, hs1⟩ := (hs.drew).alloc d1 d2 d3
                have hs' := hs1.forget (l := (s.n, (RB.c ((len + m) * ye.sz) (cs.puts (len * ye.sz) ps) dv tt).blk) :: wipe b s.heap) (fun b2 k2 hk2 => by
                  simp only [look, St.alloc] at hk2 ⊢
                  split at hk2
                  · rename_i e1; rw [if_pos e1]; exact hk2
                  · rename_i e1; rw [if_neg e1]
                    rw [look_wipe] at hk2
                    split at hk2
                    · cases hk2
                    · exact hk2)
                refine ⟨_, _, { s with heap := (s.n, (RB.c ((len + m) * ye.sz) (cs.puts (len * ye.sz) ps) dv tt).blk) :: wipe b s.heap, n := s.n + 1 }, F, _, .ref s.n ye.sz 0 (len + m) (len + m), hrun, rfl, rfl, hs', ?_, rfl⟩
                have := VR.ref (F := F) (φ := φ.new s.n (w.drew.heap.size, all.size)) (b := s.n) (e := ye.sz) (off := 0) (len := len + m) (cap := len + m) (B := w.heap.size) (sz := all.size) (c := grownCap w (len + m) c et) (if_pos rfl) (Nat.le_refl _) hge (by omega)
                simpa using this
          · cases h
        · cases h
      · cases h
    · cases h
  · cases h
end
end
end Go.Proofs.YtdiimgkopknbcaaGreatDoor.E

/- The engine runs closed code: maps, copy. -/
namespace Go.Proofs.YtdiimgkopknbcaaGreatDoor.E
open Go Go.RowKit
set_option linter.unusedVariables false
set_option linter.unusedSimpArgs false
variable {P : Program}
noncomputable section
section
variable {E : Env P} {d ty : Nat} {pos : String} {af : Array Edge} {g : Option (Nat × Bool)} {s : St} {hg : Nat → Option RB}
/-- A call of a builtin, whether its answer is kept or not. -/
theorem TriO.genA {o : Oper} {r : OR} (hN : ∀ t, o.dst = some t → t < s.N)
    (h : ∀ B0 w0 φ0 F0 F φ a w, Sim B0 w0 φ0 F0 s F φ a w → ∃ v w' F' φ', (execOp a.eval o).run P w = .ok (.value v) w' ∧ Sim B0 w0 φ0 F0 ⟨s.tm, s.N, aftH r.u s.heap, s.lo, r.n⟩ F' φ' a w' ∧ VR F' φ' r.p v) : TriO P o (Is (s.aft o.dst r)) s := by
  intro B0 w0 φ0 F0 F φ a w hs next Q hQ
  obtain ⟨v, w', F', φ', hr, hs', hv⟩ := h B0 w0 φ0 F0 F φ a w hs
  simp only [Oper.wp, hr, Oper.upon]
  refine hQ (s.aft o.dst r) F' φ' _ _ rfl rfl rfl ?_
  unfold St.aft
  cases hd : o.dst with
  | none => exact hs'
  | some d => exact hs'.put (hN d hd) hv

/-! ### maps -/
/-- What stands at a key; none: it cannot be told. -/
def keyEq : Value → Value → Option Bool
  | .int k a, .int k' b => if k = k' then some (decide (a = b)) else none
  | .string a, .string b => some (beqL a.data.toList b.data.toList)
  | .bool a, .bool b => some (a == b)
  | _, _ => none
def kindK : TypeDesc → Value → Bool
  | .int k, .int k' _ => decide (k = k')
  | .string, .string _ => true
  | .bool, .bool _ => true
  | _, _ => false
theorem keyEq_same {ds : TypeDesc} {a b : Value} {r : Bool} (ha : kindK ds a = true) (h : keyEq a b = some r) : Instr.sameNow ds a b = some r := by
  unfold keyEq at h
  split at h
  · rename_i k x k' y
    split at h
    · rename_i hk
      cases h
      cases ds <;> simp [kindK] at ha
      simp [Instr.sameNow, hk]
      by_cases e : x = y <;> simp [e]
    · cases h
  · rename_i x y
    cases h
    cases ds <;> simp [kindK] at ha
    simp only [Instr.sameNow, beqL_eq, Option.some.injEq]
    have : (x == y) = (x.data.toList == y.data.toList) := by
      rw [Bool.eq_iff_iff, MapKept.bytes_beq]
      constructor
      · rintro rfl; simp
      · intro h
        have := eq_of_beq h
        exact bs_inj this
    exact this
  · cases h
    cases ds <;> simp [kindK] at ha
    simp [Instr.sameNow]
  · cases h
/-- Where a key stands. -/
def findM (k : Value) : List (Value × PV) → Nat → Option (Option (Nat × PV))
  | [], _ => some none
  | (e, p) :: l, i => match keyEq k e with
    | some true => some (some (i, p))
    | some false => findM k l (i + 1)
    | none => none
theorem findM_ok {F : FMem} {φ : Phi} {ds : TypeDesc} {k : Value} (hk : kindK ds k = true) : ∀ (es : List (Value × PV)) (ents : List MapEntry) (i : Nat) (r : Option (Nat × PV)), ents.length = es.length →
    (∀ (j : Nat) (e : MapEntry) (x : Value × PV), ents[j]? = some e → es[j]? = some x → e.key = x.1 ∧ VR F φ x.2 e.val) → findM k es i = some r →
    match r with
    | none => Instr.findNow ds k ents i = some none
    | some (j, p) => ∃ j' e, j = i + j' ∧ ents[j']? = some e ∧ Instr.findNow ds k ents i = some (some (j, e.val)) ∧ VR F φ p e.val ∧ j' < es.length ∧ Instr.sameNow ds k e.key = some true
  | [], [], i, r, hl, hv, h => by cases h; rfl
  | [], _ :: _, i, r, hl, hv, h => by simp at hl
  | _ :: _, [], i, r, hl, hv, h => by simp at hl
  | (e, p) :: es, x :: ents, i, r, hl, hv, h => by
    obtain ⟨h1, h2⟩ := hv 0 x (e, p) rfl rfl
    simp only [findM] at h
    split at h
    · rename_i hke
      cases h
      have hs := keyEq_same hk hke
      rw [← (show x.key = e from h1)] at hs
      exact ⟨0, x, rfl, rfl, by simp [Instr.findNow, hs], h2, by simp, hs⟩
    · rename_i hke
      have hs := keyEq_same hk hke
      rw [← (show x.key = e from h1)] at hs
      have ih := findM_ok hk es ents (i + 1) r (by simpa using hl) (fun j e x g1 g2 => hv (j + 1) e x (by simpa using g1) (by simpa using g2)) h
      cases r with
      | none => simp only at ih ⊢; simp [Instr.findNow, hs, ih]
      | some jp =>
        obtain ⟨j, p⟩ := jp
        obtain ⟨j', e', q1, q2, q3, q4, q5, q6⟩ := ih
        exact ⟨j' + 1, e', by omega, by simpa using q2, by simp [Instr.findNow, hs, q3], q4, by simp; omega, q6⟩
    · cases h
theorem kindK_is {ds : TypeDesc} {k : Value} (h : kindK ds k = true) : MapKept.IsKey ds k := by
  cases ds <;> cases k <;> simp_all [kindK, MapKept.IsKey]
/-- A map of our own, as the machine has it. -/
theorem map_at {B0 : Fr} {w0 : World} {φ0 : Phi} {F0 : FMem} {F : FMem} {φ : Phi} {a : Act} {w : World} (hs : Sim B0 w0 φ0 F0 s F φ a w) (hk : HK hg s) {b : Nat} {es : List (Value × PV)} (hb : hg b = some (.m es)) {B S : Nat} (hφ : φ b = some (B, S)) :
    ∃ ents clock cs, w.heap[B]? = some (.map ents clock) ∧ ents.size = es.length ∧ (∀ (i : Nat) (e : MapEntry) (x : Value × PV), ents[i]? = some e → es[i]? = some x → e.key = x.1 ∧ VR F φ x.2 e.val) ∧ Live F φ B0 w b (.map es) B cs ∧ cs.size = S := by
  obtain ⟨B', cs, hl⟩ := hs.heap b _ (hk b _ hb)
  have e := hl.at_; rw [hφ] at e; cases e
  obtain ⟨ents, clock, k1, k2, k3⟩ := hl.mp _ rfl
  exact ⟨ents, clock, cs, k1, k2, k3, hl, rfl⟩
theorem Sim.setMap {B0 : Fr} {w0 : World} {φ0 : Phi} {F0 : FMem} {F : FMem} {φ : Phi} {a : Act} {w : World} (h : Sim B0 w0 φ0 F0 s F φ a w) {b : Nat} {es es' : List (Value × PV)} {B : Nat} {cs : Array Value} (hk : look b s.heap = some (.map es)) (hl : Live F φ B0 w b (.map es) B cs)
    {ents : Array MapEntry} {clock : Nat} {o : Obj} (ho : o = .map ents clock) (h1 : ents.size = es'.length) (h2 : ∀ (i : Nat) (e : MapEntry) (x : Value × PV), ents[i]? = some e → es'[i]? = some x → e.key = x.1 ∧ VR F φ x.2 e.val) :
    Sim B0 w0 φ0 F0 (s.upd b (.map es')) F φ a { w with heap := w.heap.setIfInBounds B o } := by
  subst ho
  obtain ⟨ents0, clock0, m1, m2, m3⟩ := hl.mp _ rfl
  obtain ⟨q1, q2⟩ := MapKept.heap_set (o' := .map ents clock) m1
  refine ⟨?_, h.base, h.fok.grow (FMem.le_refl F) ?_ (fun g j u n _ e h2 => szW_block (q2 g (fun e2 => by subst e2; unfold szW at h2; rw [m1] at h2; cases h2)) h2), h.fle, h.fnew, h.phi0, h.lo, h.fresh, h.size, h.defers, h.tm, fun b2 k2 hk2 => ?_, fun b1 b2 k1 k2 B' sz sz' g1 g2 g3 g4 => ?_⟩
  · exact h.below.trans ⟨rfl, rfl, rfl, by simp, fun j hj => q2 j (fun e => hl.old (e ▸ hj))⟩
  · intro x u e
    obtain ⟨g1, g2⟩ := h.fok x u e
    refine ⟨?_, g2⟩
    by_cases eb : x.block = B
    · unfold World.cell? at g1
      rw [eb, m1] at g1
      cases g1
    · rw [World.cell?_of_block (w := w) (q2 _ eb)]; exact g1
  · simp only [St.upd, look] at hk2
    split at hk2
    · rename_i e; subst e; cases hk2
      refine ⟨B, cs, hl.at_, hl.old, fun e => (by cases e), fun t e => (by cases e), fun es2 e => ?_, .map ?_⟩
      · cases e
        exact ⟨ents, clock, q1, h1, h2⟩
      · cases hl.reads with | map hF => exact hF
    · rename_i e
      obtain ⟨B2, cs2, hl2⟩ := h.heap b2 k2 hk2
      have : B2 ≠ B := fun e2 => e (h.inj b2 b k2 _ B _ _ hk2 hk (e2 ▸ hl2.at_) hl.at_)
      exact ⟨B2, cs2, hl2.to (q2 _ this) hl2.at_ hl2.old (FMem.le_refl F) (Phi.le_refl φ) hl2.reads⟩
  · simp only [St.upd, look] at g1 g2
    by_cases e1 : b1 = b <;> by_cases e2 : b2 = b
    · rw [e1, e2]
    · rw [if_neg e2] at g2; subst e1; exact h.inj _ _ _ k2 B' sz sz' hk g2 g3 g4
    · rw [if_neg e1] at g1; subst e2; exact h.inj _ _ k1 _ B' sz sz' g1 hk g3 g4
    · rw [if_neg e1] at g1; rw [if_neg e2] at g2; exact h.inj _ _ k1 k2 B' sz sz' g1 g2 g3 g4
def valK : PV → Option Value
  | .t (.v v) => some v
  | _ => none
def lookV (E : Env P) (hg : Nat → Option RB) (t : TypeId) (ok : Bool) (p q : PV) : Option PV := match (E.tyAt t).map TyE.d, valK q with
  | some (.map kt et), some k => match (E.tyAt kt).map TyE.d, E.tyAt et with
    | some kd, some ye => bif kindK kd k then
        (match (match p with
          | .mp b => match hg b with
            | some (.m es) => findM k es 0
            | _ => none
          | .t (.v (.map none)) => some none
          | _ => none : Option (Option (Nat × PV))) with
        | some (some (_, v)) => some (bif ok then .tup [v, .t (.v (.bool true))] else v)
        | some none => some (bif ok then .tup [ofConst ye.z, .t (.v (.bool false))] else ofConst ye.z)
        | none => none) else none
    | _, _ => none
  | _, _ => none
theorem tup2 {F : FMem} {φ : Phi} {p q : PV} {u v : Value} (h1 : VR F φ p u) (h2 : VR F φ q v) : VR F φ (.tup [p, q]) (.tuple #[u, v]) := by
  refine .tup rfl (fun i r x hr hx => ?_)
  match i with
  | 0 => simp at hr hx; subst hr; subst hx; exact h1
  | 1 => simp at hr hx; subst hr; subst hx; exact h2
  | i + 2 => simp at hr
theorem lookV_ok {t : TypeId} {ok : Bool} {x y : Operand} {p q r : PV} (hx : EvH True s x p) (hy : EvH True s y q) (hk : HK hg s) (h : lookV E hg t ok p q = some r) : PO P True ⟨some d, .lookup t x y ok, ty, pos, af, g⟩ s r := by
  unfold lookV at h
  split at h
  · rename_i kt et k hd hkk
    obtain ⟨_, _, _, ht⟩ := tyAt_d hd
    split at h
    · rename_i kd ye hkd hye
      obtain ⟨_, _, _, hkt⟩ := tyAt_d hkd
      have he := E.tyAt_ok hye
      obtain ⟨hc, h9⟩ := bif_some h
      clear h
      intro hH B0 w0 φ0 F0 F φ a w hs
      have hqv : a.eval y = k := by
        unfold valK at hkk
        split at hkk
        · cases hkk; exact (evv hH hs hy).1
        · cases hkk
      have hv := hx.vr hH hs
      generalize hxe : a.eval x = u at hv
      have ck : ∀ em w, (Instr.checkKey em 10000 kt k).run P w = .ok () w := fun em w => MapKept.run_checkKey hkt.und (kindK_is hc) em 9999
      -- what is found
      have key : ∀ (ents : List MapEntry) (rr : Option (Nat × PV)), (match rr with
          | none => Instr.findNow kd k ents 0 = some none
          | some (j, p) => ∃ j' e, j = 0 + j' ∧ ents[j']? = some e ∧ Instr.findNow kd k ents 0 = some (some (j, e.val)) ∧ VR F φ p e.val) →
          (match rr with
            | some (_, v) => some (bif ok then .tup [v, .t (.v (.bool true))] else v)
            | none => some (bif ok then .tup [ofConst ye.z, .t (.v (.bool false))] else ofConst ye.z) : Option PV) = some r →
          ∃ v, (do
            let (v, ok') ← match ← Instr.findKey kt k ents with
              | some (_, v) => pure (v, true)
              | none => pure (← zeroValue et, false)
            pure (if ok then .tuple #[v, .bool ok'] else v) : Sem Value).run P w = .ok v w ∧ VR F φ r v := by
        intro ents rr h1 h2
        cases rr with
        | none =>
          cases h2
          have hf := MapKept.run_findKey (w := w) hkt.und h1
          refine ⟨if ok then .tuple #[ye.z, .bool false] else ye.z, ?_, ?_⟩
          · simp only [Sem.run_bind, hf, Result.andThen_ok, he.zero, Sem.run_pure]
          · cases ok with
            | true => exact tup2 (ofConst_vr _) (.t (.v rfl))
            | false => exact ofConst_vr _
        | some jp =>
          obtain ⟨j, v⟩ := jp
          obtain ⟨j', e, q1, q2, q3, q4⟩ := h1
          cases h2
          have hf := MapKept.run_findKey (w := w) hkt.und q3
          refine ⟨if ok then .tuple #[e.val, .bool true] else e.val, ?_, ?_⟩
          · simp only [Sem.run_bind, hf, Result.andThen_ok, Sem.run_pure]
          · cases ok with
            | true => exact tup2 q4 (.t (.v rfl))
            | false => exact q4
      have unf : ∀ (o : Option Nat) (es : Array MapEntry), (match o with | none => es = #[] | some B => ∃ c, w.heap[B]? = some (.map es c)) → ∀ v, (do
            let (v, ok') ← match ← Instr.findKey kt k es.toList with
              | some (_, v) => pure (v, true)
              | none => pure (← zeroValue et, false)
            pure (if ok then .tuple #[v, .bool ok'] else v) : Sem Value).run P w = .ok v w → (Instr.lookup t (.map o) k ok).run P w = .ok v w := by
        intro o es ho v hv
        cases o with
        | none =>
          subst ho
          simp only [Instr.lookup, Sem.run_bind, ht.under, Result.andThen_ok, Sem.run_pure, ck] at hv ⊢
          exact hv
        | some B =>
          obtain ⟨c, hB⟩ := ho
          simp only [Instr.lookup, Sem.run_bind, ht.under, Result.andThen_ok, Sem.run_pure, MapKept.run_getObj_map hB, ck] at hv ⊢
          exact hv
      split at h9
      · rename_i v hfound
        split at hfound
        · rename_i b
          split at hfound
          · rename_i es hb
            cases hv with
            | @mp _ B S hφ =>
              obtain ⟨ents, clock, cs, k1, k2, k3, k4, k5⟩ := map_at hs hk hb hφ
              have hf := findM_ok (F := F) (φ := φ) hc es ents.toList 0 _ (by simpa using k2) (fun j e x g1 g2 => k3 j e x (by simpa using g1) g2) hfound
              obtain ⟨j', e, q1, q2, q3, q4, q5, q6⟩ := hf
              obtain ⟨v', r1, r2⟩ := key ents.toList (some (_, v)) ⟨j', e, q1, q2, q3, q4⟩ h9
              exact ⟨v', by simp only [execOp, hxe, hqv, Sem.run_bind, unf (some B) ents ⟨clock, k1⟩ v' r1, Result.andThen_ok, Sem.run_pure], r2⟩
          · cases hfound
        · cases hfound
        · cases hfound
      · rename_i hfound
        split at hfound
        · rename_i b
          split at hfound
          · rename_i es hb
            cases hv with
            | @mp _ B S hφ =>
              obtain ⟨ents, clock, cs, k1, k2, k3, k4, k5⟩ := map_at hs hk hb hφ
              have hf := findM_ok (F := F) (φ := φ) hc es ents.toList 0 _ (by simpa using k2) (fun j e x g1 g2 => k3 j e x (by simpa using g1) g2) hfound
              obtain ⟨v', r1, r2⟩ := key ents.toList none hf h9
              exact ⟨v', by simp only [execOp, hxe, hqv, Sem.run_bind, unf (some B) ents ⟨clock, k1⟩ v' r1, Result.andThen_ok, Sem.run_pure], r2⟩
          · cases hfound
        · obtain rfl := vrv hv
          obtain ⟨v', r1, r2⟩ := key [] none rfl h9
          exact ⟨v', by simp only [execOp, hxe, hqv, Sem.run_bind, unf none #[] rfl v' r1, Result.andThen_ok, Sem.run_pure], r2⟩
        · cases hfound
      · cases h9
    · cases h
  · cases h
end
end
end Go.Proofs.YtdiimgkopknbcaaGreatDoor.E
