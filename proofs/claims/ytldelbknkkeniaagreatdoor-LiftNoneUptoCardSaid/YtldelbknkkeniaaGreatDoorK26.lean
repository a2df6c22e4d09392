/- The engine runs closed code: values. -/
import Derived.Test.YtldelbknkkeniaaGreatDoorK19
import Derived.LaidEql
import Derived.LaidEqlPtr
import Derived.Test.YtldelbknkkeniaaGreatDoorK16
import Derived.Test.YtldelbknkkeniaaGreatDoorK21
namespace Go.Proofs.YtldelbknkkeniaaGreatDoor.E
open Go Go.RowKit
set_option linter.unusedVariables false
set_option linter.unusedSimpArgs false
variable {P : Program}
noncomputable section

/-! ### what is known of the program -/
structure TyE (P : Program) where
  t : TypeId
  d : TypeDesc
  sz : Nat
  bytes : Nat
  z : Value
  ok : TyIs P t d sz bytes z
structure PlE (P : Program) where
  t : TypeId
  fs : Array Field
  pl : List (Nat × Nat)
  ok : PlIs P t fs pl
  und : P.underlying t = some (.struct fs)
  cmp : Bool
  eqs : cmp = true → P.stoodInHeld t = false ∧ (∀ f ∈ fs.toList, f.name ≠ "_") ∧ P.eqGuardType P.depth t = false
structure FnE (P : Program) where
  f : FuncId
  fn : Func
  c : Code
  hf : P.funcs[f]? = some fn
  hb : fn.body = some c
  is : FnIs P f
/-- A function of the model that gives a value and does nothing else. -/
structure XtE (P : Program) where
  f : FuncId
  sem : List PV → Option PV
  ok : ∀ ps q, sem ps = some q → ∀ (F : FMem) (φ : Phi) (vs : Array Value), ps.length = vs.size → (∀ (i : Nat) (p : PV) (v : Value), ps[i]? = some p → vs[i]? = some v → VR F φ p v) → ∀ w : World, ∃ v, (callFunc f vs).run P w = .ok (.value v) w ∧ VR F φ q v
/-- A function of the model that gives a new row of bytes of which nothing is known. -/
structure MkE (P : Program) where
  f : FuncId
  e : TypeId
  ok : ∀ (m : Nat), m ≤ 281474976710656 → ∀ w : World, ∃ cs : Array Value, (callFunc f #[.int .i64 m]).run P w = .ok (.value (.slice (some ⟨w.heap.size, 0, none⟩) m cs.size)) (w.drew.drew.alloc (.cells cs e)) ∧ m ≤ cs.size
inductive BT (α : Type) where
  | nil
  | node (k : Nat) (v : α) (l r : BT α)
noncomputable def BT.get {α : Type} (t : BT α) (i : Nat) : Option α :=
  BT.rec (motive := fun _ => Option α) none (fun k v _ _ gl gr => bif Nat.beq i k then some v else bif Nat.blt i k then gl else gr) t
structure Env (P : Program) where
  ty : BT (TyE P)
  pl : BT (PlE P)
  fn : BT (FnE P)
  xt : BT (XtE P)
  zt : BT (MkE P)
  mixed : P.follows .mixedOrders = true
section
variable (E : Env P)
def Env.tyAt (t : TypeId) : Option (TyE P) := match E.ty.get t with
  | some x => bif Nat.beq x.t t then some x else none
  | none => none
def Env.plAt (t : TypeId) : Option (PlE P) := match E.pl.get t with
  | some x => bif Nat.beq x.t t then some x else none
  | none => none
def Env.fnAt (t : FuncId) : Option (FnE P) := match E.fn.get t with
  | some x => bif Nat.beq x.f t then some x else none
  | none => none
def Env.mkAt (f : FuncId) : Option (MkE P) := match E.zt.get f with
  | some x => bif Nat.beq x.f f then some x else none
  | none => none
def Env.isX (f : FuncId) : Bool := match E.xt.get f with
  | some x => Nat.beq x.f f
  | none => match E.mkAt f with
    | some _ => true
    | none => false
def Env.semX (f : FuncId) (ps : List PV) : Option PV := match E.xt.get f with
  | some x => bif Nat.beq x.f f then x.sem ps else none
  | none => none
end
section
variable {E : Env P}
theorem Env.semX_ok {f : FuncId} {ps : List PV} {q : PV} (h : E.semX f ps = some q) {F : FMem} {φ : Phi} {vs : Array Value} (hn : ps.length = vs.size) (hv : ∀ (i : Nat) (p : PV) (v : Value), ps[i]? = some p → vs[i]? = some v → VR F φ p v) (w : World) : ∃ v, (callFunc f vs).run P w = .ok (.value v) w ∧ VR F φ q v := by
  unfold Env.semX at h
  split at h
  · rename_i x _
    cases hc : Nat.beq x.f f with
    | true =>
      rw [hc] at h
      have := Nat.eq_of_beq_eq_true hc
      subst this
      exact x.ok ps q h F φ vs hn hv w
    | false => rw [hc] at h; cases h
  · cases h
theorem Env.mkAt_ok {f : FuncId} {x : MkE P} (h : E.mkAt f = some x) {m : Nat} (hm : m ≤ 281474976710656) (w : World) : ∃ cs : Array Value, (callFunc f #[.int .i64 m]).run P w = .ok (.value (.slice (some ⟨w.heap.size, 0, none⟩) m cs.size)) (w.drew.drew.alloc (.cells cs x.e)) ∧ m ≤ cs.size := by
  unfold Env.mkAt at h
  split at h
  · rename_i y _
    cases hc : Nat.beq y.f f with
    | true =>
      rw [hc] at h; cases h
      have := Nat.eq_of_beq_eq_true hc
      subst this
      exact x.ok m hm w
    | false => rw [hc] at h; cases h
  · cases h
theorem Env.tyAt_ok {t : TypeId} {x : TyE P} (h : E.tyAt t = some x) : TyIs P t x.d x.sz x.bytes x.z := by
  unfold Env.tyAt at h
  split at h
  · rename_i y _
    cases hc : Nat.beq y.t t with
    | true => rw [hc] at h; cases h; have := x.ok; rwa [Nat.eq_of_beq_eq_true hc] at this
    | false => rw [hc] at h; cases h
  · cases h
theorem Env.plAt_ok {t : TypeId} {x : PlE P} (h : E.plAt t = some x) : PlIs P t x.fs x.pl ∧ P.underlying t = some (.struct x.fs) := by
  unfold Env.plAt at h
  split at h
  · rename_i y _
    cases hc : Nat.beq y.t t with
    | true => rw [hc] at h; cases h; have := Nat.eq_of_beq_eq_true hc; subst this; exact ⟨x.ok, x.und⟩
    | false => rw [hc] at h; cases h
  · cases h
theorem Env.plAt_eq {t : TypeId} {x : PlE P} (h : E.plAt t = some x) (hx : x.cmp = true) : P.stoodInHeld t = false ∧ (∀ f ∈ x.fs.toList, f.name ≠ "_") ∧ P.eqGuardType P.depth t = false := by
  unfold Env.plAt at h
  split at h
  · rename_i y _
    cases hc : Nat.beq y.t t with
    | true =>
      rw [hc] at h; cases h
      have := Nat.eq_of_beq_eq_true hc
      subst this
      exact x.eqs hx
    | false => rw [hc] at h; cases h
  · cases h
theorem Env.fnAt_ok {t : FuncId} {x : FnE P} (h : E.fnAt t = some x) : P.funcs[t]? = some x.fn ∧ x.fn.body = some x.c ∧ FnIs P t := by
  unfold Env.fnAt at h
  split at h
  · rename_i y _
    cases hc : Nat.beq y.f t with
    | true =>
      rw [hc] at h; cases h
      have := Nat.eq_of_beq_eq_true hc
      subst this
      exact ⟨x.hf, x.hb, x.is⟩
    | false => rw [hc] at h; cases h
  · cases h
end

/-! ### values -/
theorem run_intBits (op : BinOp) (h : op = .and ∨ op = .or ∨ op = .xor ∨ op = .andNot) (t : TypeId) (x y : Operand) (k : IntKind) (a b : Int) (w : World) :
    (do eqGuard op t x y (.int k a) (.int k b); binOp op t (.int k a) (.int k b) : Sem Value).run P w = (Op.intBits op k a b).run P w := by
  rcases h with rfl | rfl | rfl | rfl <;> simp [eqGuard, binOp]
def bitsV (op : BinOp) (k : IntKind) (a b : Int) : Option Int :=
  match op with
  | .and => some (k.wrap (BitVec.ofInt k.bits a &&& BitVec.ofInt k.bits b).toNat)
  | .or => some (k.wrap (BitVec.ofInt k.bits a ||| BitVec.ofInt k.bits b).toNat)
  | .xor => some (k.wrap (BitVec.ofInt k.bits a ^^^ BitVec.ofInt k.bits b).toNat)
  | .andNot => some (k.wrap (BitVec.ofInt k.bits a &&& ~~~ BitVec.ofInt k.bits b).toNat)
  | _ => none
def binE (E : Env P) (op : BinOp) (t : TypeId) (p q : PV) : Option PV :=
  match p, q with
  | .t (.v (.int k a)), .t (.v (.int k' b)) =>
    match op with
    | .shl => bif decide (0 ≤ b) then some (.t (.v (.int k (k.wrap (a * 2 ^ Nat.min b.toNat k.bits))))) else none
    | .shr => bif decide (0 ≤ b) then some (.t (.v (.int k (a / 2 ^ Nat.min b.toNat k.bits)))) else none
    | op => match binV op (.int k a) (.int k' b) with
      | some r => some (.t (.v r))
      | none => if k = k' then (bitsV op k a b).map fun n => .t (.v (.int k n)) else none
  | .t (.v (.string a)), .t (.v (.string b)) =>
    match op with
    | .add => bif Nat.ble (a.size + b.size) 4611686018427387904 then some (.t (.v (.string (a ++ b)))) else none
    | op => (binV op (.string a) (.string b)).map fun r => .t (.v r)
  | .t (.v (.bool a)), .t (.v (.bool b)) =>
    match op, (E.tyAt t).map TyE.d with
    | .eql, some .bool => some (.t (.v (.bool (decide (a = b)))))
    | .neq, some .bool => some (.t (.v (.bool (decide (a ≠ b)))))
    | _, _ => none
  | .t (.sl n xs), .t (.sl true []) =>
    match op, (E.tyAt t).map TyE.d with
    | .eql, some (.slice _) => some (.t (.v (.bool n)))
    | .neq, some (.slice _) => some (.t (.v (.bool (!n))))
    | _, _ => none
  | _, _ => none
section
variable {E : Env P} {d ty : Nat} {pos : String} {af : Array Edge} {g : Option (Nat × Bool)} {s : St}
theorem tyAt_d {t : TypeId} {d : TypeDesc} (h : (E.tyAt t).map TyE.d = some d) : ∃ sz bytes z, TyIs P t d sz bytes z := by
  cases hx : E.tyAt t with
  | none => rw [hx] at h; cases h
  | some x =>
    rw [hx] at h
    cases h
    exact ⟨_, _, _, E.tyAt_ok hx⟩
theorem binE_ok {op : BinOp} {t t' : TypeId} {x y : Operand} {p q r : PV} (hx : EvH True s x p) (hy : EvH True s y q) (h : binE E op t p q = some r) : PO P True ⟨some d, .binOp op t x y t', ty, pos, af, g⟩ s r := by
  unfold binE at h
  split at h
  · rename_i k a k' b
    split at h
    · cases hc : decide (0 ≤ b) with
      | true => rw [hc] at h; cases h; exact PO.shl hx hy fun _ => of_decide_eq_true hc
      | false => rw [hc] at h; cases h
    · cases hc : decide (0 ≤ b) with
      | true => rw [hc] at h; cases h; exact PO.shr hx hy fun _ => of_decide_eq_true hc
      | false => rw [hc] at h; cases h
    · split at h
      · rename_i hb; cases h; exact PO.bin hx hy hb
      · split at h
        · rename_i hk
          subst hk
          simp only [Option.map_eq_some_iff] at h
          obtain ⟨n, hn, rfl⟩ := h
          have hop : op = .and ∨ op = .or ∨ op = .xor ∨ op = .andNot := by
            unfold bitsV at hn; split at hn <;> simp_all
          refine PO.binr hx hy rfl fun w => ?_
          rw [run_intBits op hop]
          unfold bitsV at hn
          rcases hop with rfl | rfl | rfl | rfl <;> (cases hn; rfl)
        · cases h
  · rename_i a b
    split at h
    · cases hc : Nat.ble (a.size + b.size) 4611686018427387904 with
      | true => rw [hc] at h; cases h; exact PO.cat hx hy fun _ => Nat.le_of_ble_eq_true hc
      | false => rw [hc] at h; cases h
    · simp only [Option.map_eq_some_iff] at h
      obtain ⟨r', hr, rfl⟩ := h
      exact PO.bin hx hy hr
  · rename_i a b
    split at h
    · rename_i ht
      obtain ⟨_, _, _, ht⟩ := tyAt_d ht
      cases h; exact PO.eqb hx hy
    · rename_i ht
      obtain ⟨_, _, _, ht⟩ := tyAt_d ht
      cases h; exact PO.neb hx hy
    · cases h
  · rename_i n xs _
    split at h
    · rename_i ht
      obtain ⟨_, _, _, ht⟩ := tyAt_d ht
      cases h; exact PO.eqNil hx hy
    · rename_i ht
      obtain ⟨_, _, _, ht⟩ := tyAt_d ht
      cases h; exact PO.neNil hx hy
    · cases h
  · cases h
end
end
end Go.Proofs.YtldelbknkkeniaaGreatDoor.E

/- The engine runs closed code: tries, blocks, what is known of a state. -/
namespace Go.Proofs.YtldelbknkkeniaaGreatDoor.E
open Go Go.RowKit
set_option linter.unusedVariables false
set_option linter.unusedSimpArgs false
variable {P : Program}
noncomputable section

/-! ### tries -/
inductive Tr (α : Type) where
  | lf
  | nd (x : Option α) (l r : Tr α)
noncomputable def Tr.get {α : Type} (t : Tr α) : Nat → Option α :=
  Tr.rec (motive := fun _ => Nat → Option α) (fun _ => none) (fun x _ _ gl gr k => Nat.rec (motive := fun _ => Option α) x (fun j _ => Nat.rec (motive := fun _ => Option α) (gl (Nat.div j 2)) (fun _ _ => gr (Nat.div j 2)) (Nat.mod j 2)) k) t
theorem Tr.get_lf {α : Type} (k : Nat) : (Tr.lf : Tr α).get k = none := rfl
theorem Tr.get_nd0 {α : Type} (x : Option α) (l r : Tr α) : (Tr.nd x l r).get 0 = x := rfl
theorem Tr.get_nd1 {α : Type} (x : Option α) (l r : Tr α) (j : Nat) : (Tr.nd x l r).get (j + 1) = if j % 2 = 0 then l.get (j / 2) else r.get (j / 2) := by
  show Nat.rec (motive := fun _ => Option α) (l.get (j / 2)) (fun _ _ => r.get (j / 2)) (j % 2) = _
  cases h : j % 2 with
  | zero => exact (if_pos rfl).symm
  | succ m => exact (if_neg (by omega)).symm
noncomputable def Tr.set1 {α : Type} (rec_ : Tr α → Nat → Tr α) (v : Option α) (t : Tr α) (k : Nat) : Tr α :=
  Tr.rec (motive := fun _ => Tr α)
    (Nat.rec (motive := fun _ => Tr α) (.nd v .lf .lf) (fun j _ => Nat.rec (motive := fun _ => Tr α) (.nd none (rec_ .lf (Nat.div j 2)) .lf) (fun _ _ => .nd none .lf (rec_ .lf (Nat.div j 2))) (Nat.mod j 2)) k)
    (fun x l r _ _ => Nat.rec (motive := fun _ => Tr α) (.nd v l r) (fun j _ => Nat.rec (motive := fun _ => Tr α) (.nd x (rec_ l (Nat.div j 2)) r) (fun _ _ => .nd x l (rec_ r (Nat.div j 2))) (Nat.mod j 2)) k) t
noncomputable def Tr.setF {α : Type} (v : Option α) (f : Nat) : Tr α → Nat → Tr α := Nat.rec (motive := fun _ => Tr α → Nat → Tr α) (fun t _ => t) (fun _ ih => Tr.set1 ih v) f
noncomputable def Tr.put {α : Type} (t : Tr α) (k : Nat) (v : Option α) : Tr α := Tr.setF v (k + 1) t k
noncomputable def Tr.set {α : Type} (t : Tr α) (k : Nat) (v : α) : Tr α := t.put k (some v)
noncomputable def Tr.del {α : Type} (t : Tr α) (k : Nat) : Tr α := t.put k none
theorem Tr.setF_lf0 {α : Type} (v : Option α) (f : Nat) : Tr.setF v (f + 1) .lf 0 = .nd v .lf .lf := rfl
theorem Tr.setF_nd0 {α : Type} (v : Option α) (f : Nat) (x : Option α) (l r : Tr α) : Tr.setF v (f + 1) (.nd x l r) 0 = .nd v l r := rfl
theorem Tr.setF_lf1 {α : Type} (v : Option α) (f j : Nat) : Tr.setF v (f + 1) .lf (j + 1) = if j % 2 = 0 then .nd none (Tr.setF v f .lf (j / 2)) .lf else .nd none .lf (Tr.setF v f .lf (j / 2)) := by
  show Nat.rec (motive := fun _ => Tr α) (.nd none (Tr.setF v f .lf (j / 2)) .lf) (fun _ _ => .nd none .lf (Tr.setF v f .lf (j / 2))) (j % 2) = _
  cases h : j % 2 with
  | zero => exact (if_pos rfl).symm
  | succ m => exact (if_neg (by omega)).symm
theorem Tr.setF_nd1 {α : Type} (v : Option α) (f j : Nat) (x : Option α) (l r : Tr α) : Tr.setF v (f + 1) (.nd x l r) (j + 1) = if j % 2 = 0 then .nd x (Tr.setF v f l (j / 2)) r else .nd x l (Tr.setF v f r (j / 2)) := by
  show Nat.rec (motive := fun _ => Tr α) (.nd x (Tr.setF v f l (j / 2)) r) (fun _ _ => .nd x l (Tr.setF v f r (j / 2))) (j % 2) = _
  cases h : j % 2 with
  | zero => exact (if_pos rfl).symm
  | succ m => exact (if_neg (by omega)).symm
theorem Tr.get_setF {α : Type} (v : Option α) : ∀ (f : Nat) (t : Tr α) (k j : Nat), k < f → (Tr.setF v f t k).get j = if j = k then v else t.get j
  | 0, _, _, _, h => absurd h (by omega)
  | f + 1, t, 0, j, h => by
    cases t with
    | lf =>
      rw [Tr.setF_lf0]
      cases j with
      | zero => rfl
      | succ j => rw [Tr.get_nd1, if_neg (show ¬ j + 1 = 0 by omega), Tr.get_lf]; split <;> rfl
    | nd x l r =>
      rw [Tr.setF_nd0]
      cases j with
      | zero => rfl
      | succ j => rw [Tr.get_nd1, if_neg (show ¬ j + 1 = 0 by omega), Tr.get_nd1]
  | f + 1, t, k + 1, j, h => by
    have ih := Tr.get_setF v f
    cases t with
    | lf =>
      rw [Tr.setF_lf1, Tr.get_lf]
      by_cases k1 : k % 2 = 0
      · rw [if_pos k1]
        cases j with
        | zero => rw [Tr.get_nd0, if_neg (by omega)]
        | succ j =>
          rw [Tr.get_nd1]
          by_cases j1 : j % 2 = 0
          · rw [if_pos j1, ih _ _ _ (by omega), Tr.get_lf]
            by_cases e : j = k
            · rw [if_pos (by rw [e]), if_pos (by rw [e])]
            · rw [if_neg (by omega), if_neg (by omega)]
          · rw [if_neg j1, Tr.get_lf, if_neg (by omega)]
      · rw [if_neg k1]
        cases j with
        | zero => rw [Tr.get_nd0, if_neg (by omega)]
        | succ j =>
          rw [Tr.get_nd1]
          by_cases j1 : j % 2 = 0
          · rw [if_pos j1, Tr.get_lf, if_neg (by omega)]
          · rw [if_neg j1, ih _ _ _ (by omega), Tr.get_lf]
            by_cases e : j = k
            · rw [if_pos (by rw [e]), if_pos (by rw [e])]
            · rw [if_neg (by omega), if_neg (by omega)]
    | nd x l r =>
      rw [Tr.setF_nd1]
      by_cases k1 : k % 2 = 0
      · rw [if_pos k1]
        cases j with
        | zero => rw [Tr.get_nd0, Tr.get_nd0, if_neg (by omega)]
        | succ j =>
          rw [Tr.get_nd1, Tr.get_nd1]
          by_cases j1 : j % 2 = 0
          · rw [if_pos j1, if_pos j1, ih _ _ _ (by omega)]
            by_cases e : j = k
            · rw [if_pos (by rw [e]), if_pos (by rw [e])]
            · rw [if_neg (by omega), if_neg (by omega)]
          · rw [if_neg j1, if_neg j1, if_neg (by omega)]
      · rw [if_neg k1]
        cases j with
        | zero => rw [Tr.get_nd0, Tr.get_nd0, if_neg (by omega)]
        | succ j =>
          rw [Tr.get_nd1, Tr.get_nd1]
          by_cases j1 : j % 2 = 0
          · rw [if_pos j1, if_pos j1, if_neg (by omega)]
          · rw [if_neg j1, if_neg j1, ih _ _ _ (by omega)]
            by_cases e : j = k
            · rw [if_pos (by rw [e]), if_pos (by rw [e])]
            · rw [if_neg (by omega), if_neg (by omega)]
theorem Tr.get_put {α : Type} (t : Tr α) (k : Nat) (v : Option α) (j : Nat) : (t.put k v).get j = if j = k then v else t.get j := Tr.get_setF v (k + 1) t k j (Nat.lt_succ_self k)
theorem Tr.get_set {α : Type} (t : Tr α) (k : Nat) (v : α) (j : Nat) : (t.set k v).get j = if j = k then some v else t.get j := t.get_put k (some v) j
theorem Tr.get_del {α : Type} (t : Tr α) (k : Nat) (j : Nat) : (t.del k).get j = if j = k then none else t.get j := t.get_put k none j

/-! ### blocks -/
/-- A block: cells, or a map's entries. -/
inductive RB where
  | c (sz : Nat) (cs : Tr PV) (dv : PV) (ty : Option TypeId)
  | m (es : List (Value × PV))
/-- Some of the cells. -/
def Tr.gets (cs : Tr PV) (dv : PV) : Nat → Nat → List PV
  | _, 0 => []
  | o, n + 1 => ((cs.get o).getD dv) :: cs.gets dv (o + 1) n
/-- Cells are written. -/
def Tr.puts (cs : Tr PV) : Nat → List PV → Tr PV
  | _, [] => cs
  | o, p :: ps => (cs.set o p).puts (o + 1) ps
theorem Tr.gets_len (cs : Tr PV) (dv : PV) : ∀ (n o : Nat), (cs.gets dv o n).length = n
  | 0, _ => rfl
  | n + 1, o => by simp [Tr.gets, Tr.gets_len cs dv n]
theorem Tr.gets_get (cs : Tr PV) (dv : PV) : ∀ (n o i : Nat), (cs.gets dv o n)[i]? = if i < n then some ((cs.get (o + i)).getD dv) else none
  | 0, _, i => by simp [Tr.gets]
  | n + 1, o, i => by
    cases i with
    | zero => simp [Tr.gets]
    | succ i =>
      simp only [Tr.gets, List.getElem?_cons_succ, Tr.gets_get cs dv n (o + 1) i, Nat.add_lt_add_iff_right]
      rw [show o + 1 + i = o + (i + 1) by omega]
theorem Tr.puts_get : ∀ (ps : List PV) (cs : Tr PV) (o j : Nat), (cs.puts o ps).get j = if o ≤ j ∧ j < o + ps.length then ps[j - o]? else cs.get j
  | [], cs, o, j => by simp only [Tr.puts, List.length_nil]; rw [if_neg (by omega)]
  | p :: ps, cs, o, j => by
    simp only [Tr.puts, Tr.puts_get ps (cs.set o p) (o + 1) j, Tr.get_set, List.length_cons]
    by_cases h1 : o + 1 ≤ j ∧ j < o + 1 + ps.length
    · rw [if_pos h1, if_pos (by omega)]
      rw [show j - o = (j - (o + 1)) + 1 by omega, List.getElem?_cons_succ]
    · rw [if_neg h1]
      by_cases h2 : j = o
      · subst h2; rw [if_pos rfl, if_pos (by omega)]; simp
      · rw [if_neg h2, if_neg (by omega)]
def RB.blk : RB → Blk
  | .c sz cs dv ty => .obj (cs.gets dv 0 sz) ty
  | .m es => .map es
/-- A block of some cells. -/
def RB.new (ps : List PV) (ty : Option TypeId) : RB := .c ps.length (Tr.lf.puts 0 ps) .undef ty
/-- Cells written into a block. -/
theorem RB.puts_blk {sz o : Nat} {cs : Tr PV} {dv : PV} {ty : Option TypeId} {qs : List PV} (h : o + qs.length ≤ sz) : (RB.c sz (cs.puts o qs) dv ty).blk = .obj ((cs.gets dv 0 sz).take o ++ qs ++ (cs.gets dv 0 sz).drop (o + qs.length)) ty := by
  simp only [RB.blk]
  congr 1
  refine List.ext_getElem? fun i => ?_
  rw [splice_get (by rw [Tr.gets_len]; exact h), Tr.gets_get, Tr.gets_get, Nat.zero_add, Tr.puts_get]
  by_cases h1 : i < o
  · rw [if_pos h1, if_neg (show ¬ (o ≤ i ∧ i < o + qs.length) by omega)]
  · rw [if_neg h1]
    by_cases h2 : i < o + qs.length
    · rw [if_pos (show i < sz by omega), if_pos (show o ≤ i ∧ i < o + qs.length from ⟨by omega, h2⟩), if_pos h2]
      rw [List.getElem?_eq_getElem (show i - o < qs.length by omega)]; rfl
    · rw [if_neg h2, if_neg (show ¬ (o ≤ i ∧ i < o + qs.length) by omega)]

/-! ### what is known of a state -/
def evR (tm : Tr PV) : Operand → PV
  | .tmp t => (tm.get t).getD .undef
  | .const v => ofConst v
  | .func f => .t (.v (.func (.func f) #[] #[]))
  | .global g => evG g
def evK (tm : Tr PV) (x : Operand) : Option PV := match evR tm x with
  | .undef => none
  | .cond _ _ _ => none
  | p => some p
theorem evK_ok {tm : Tr PV} {x : Operand} {p : PV} (h : evK tm x = some p) : evR tm x = p ∧ p.known = true := by
  unfold evK at h
  split at h <;> first | (cases h; done) | skip
  rename_i q h1 h2
  cases h
  refine ⟨rfl, ?_⟩
  cases hq : evR tm x <;> first | rfl | exact absurd hq h1 | exact absurd hq (h2 _ _ _)
structure Kn (tm : Tr PV) (hg : Nat → Option RB) (n : Nat) (o : Oper) (s : St) : Prop where
  ev : ∀ x ∈ o.op.operands.toList, ∀ p, evK tm x = some p → s.ev x = p
  hp : ∀ b k, hg b = some k → look b s.heap = some k.blk
  n : s.n = n
theorem EvH.of {H : Prop} {s : St} {x : Operand} {p : PV} (h : s.ev x = p) (hk : p.known = true) : EvH H s x p := by
  refine ⟨?_, ?_⟩
  · rw [h]; cases p <;> first | rfl | cases hk
  · rw [h]; cases p <;> first | trivial | cases hk
section
variable {tm : Tr PV} {hg : Nat → Option RB} {n : Nat} {o : Oper} {s : St}
theorem Kn.get (h : Kn tm hg n o s) {x : Operand} (hx : x ∈ o.op.operands.toList) {p : PV} (hp : evK tm x = some p) : s.ev x = p ∧ p.known = true ∧ ∀ H, EvH H s x p :=
  ⟨h.ev x hx p hp, (evK_ok hp).2, fun H => .of (h.ev x hx p hp) (evK_ok hp).2⟩
end
/-- What an operation comes to: a value, blocks that are written (or gone), how many there are then. -/
structure OR where
  p : PV
  u : List (Nat × Option RB)
  n : Nat
def aftH : List (Nat × Option RB) → List (Nat × Blk) → List (Nat × Blk)
  | [], h => h
  | (b, some k) :: us, h => aftH us ((b, k.blk) :: h)
  | (b, none) :: us, h => aftH us (wipe b h)
def St.aft (s : St) (d : Option Nat) (x : OR) : St := ⟨pushT d x.p s.tm, s.N, aftH x.u s.heap, s.lo, x.n⟩
def putH (h : Tr RB) : List (Nat × Option RB) → Tr RB
  | [] => h
  | (b, k) :: us => putH (h.put b k) us
theorem look_aftH : ∀ (us : List (Nat × Option RB)) (hr : Tr RB) (h : List (Nat × Blk)), (∀ b k, hr.get b = some k → look b h = some k.blk) → ∀ b k, (putH hr us).get b = some k → look b (aftH us h) = some k.blk
  | [], _, _, H, b, k, hk => H b k hk
  | (b', some k') :: us, hr, h, H, b, k, hk => by
    refine look_aftH us (hr.put b' (some k')) _ (fun c q hc => ?_) b k hk
    rw [Tr.get_put] at hc
    simp only [look]
    split at hc
    · cases hc; rename_i e; rw [if_pos e]
    · rename_i e; rw [if_neg e]; exact H c q hc
  | (b', none) :: us, hr, h, H, b, k, hk => by
    refine look_aftH us (hr.put b' none) _ (fun c q hc => ?_) b k hk
    rw [Tr.get_put] at hc
    rw [look_wipe]
    split at hc
    · cases hc
    · rename_i e; rw [if_neg e]; exact H c q hc
end
end Go.Proofs.YtldelbknkkeniaaGreatDoor.E

/- The engine runs closed code: operations that give a value and leave memory as it is. -/
namespace Go.Proofs.YtldelbknkkeniaaGreatDoor.E
open Go Go.RowKit
set_option linter.unusedVariables false
set_option linter.unusedSimpArgs false
variable {P : Program}
noncomputable section

theorem PO.weak {H : Prop} {o : Oper} {s : St} {p q : PV} (h : PO P H o s p) (hw : ∀ F φ v, VR F φ p v → VR F φ q v) : PO P H o s q :=
  fun hH B0 w0 φ0 F0 F φ a w hs => let ⟨v, h1, h2⟩ := h hH B0 w0 φ0 F0 F φ a w hs; ⟨v, h1, hw _ _ _ h2⟩
theorem mkAgg_agg {F : FMem} {φ : Phi} {ps : List PV} {v : Value} (h : VR F φ (mkAgg ps) v) : VR F φ (.agg ps) v := by
  unfold mkAgg at h
  split at h
  · rename_i xs hxs
    have := toTs_some hxs
    subst this
    cases h with
    | t h => cases h with
      | agg hn h => exact .agg (by simpa using hn) (fun i p u hp hu => by
          rw [List.getElem?_map, Option.map_eq_some_iff] at hp
          obtain ⟨x, hx, rfl⟩ := hp
          exact .t (h i x u hx hu))
  · exact h
theorem rptr_ptr {F : FMem} {φ : Phi} {b e i o : Nat} {v : Value} (h : VR F φ (.rptr b e i o) v) : VR F φ (.ptr b (i * e + o)) v := by
  cases h with | rptr hb => exact .ptr hb

theorem bif_some {α : Type} {c : Bool} {x : Option α} {q : α} (h : (bif c then x else none) = some q) : c = true ∧ x = some q := by
  cases c with
  | true => exact ⟨rfl, h⟩
  | false => cases h
theorem blt_lt {a b : Nat} (h : Nat.blt a b = true) : a < b := by simpa [Nat.blt_eq] using h
section
variable {E : Env P} {d ty : Nat} {pos : String} {af : Array Edge} {g : Option (Nat × Bool)} {s : St} {hg : Nat → Option RB}
/-- What stands in blocks is known. -/
abbrev HK (hg : Nat → Option RB) (s : St) : Prop := ∀ b k, hg b = some k → look b s.heap = some k.blk

/-! ### choices -/
def pickV (tm : Tr PV) (c x y : Operand) : Option PV := match evK tm c with
  | some (.t (.v (.bool b))) => evK tm (bif b then x else y)
  | _ => none
theorem PO.pick1 {c x y : Operand} {b : Bool} {p : PV} (hc : EvH True s c (.t (.v (.bool b)))) (hx : s.ev (bif b then x else y) = p) : PO P True ⟨some d, .pick c x y, ty, pos, af, g⟩ s p := by
  intro hH B0 w0 φ0 F0 F φ a w hs
  have h1 := (evv hH hs hc).1
  cases b with
  | true => exact ⟨a.eval x, by simp [execOp, h1, asBool], hx ▸ hs.ev _⟩
  | false => exact ⟨a.eval y, by simp [execOp, h1, asBool], hx ▸ hs.ev _⟩
theorem pickV_ok {tm : Tr PV} {n : Nat} {c x y : Operand} {p : PV} (K : Kn tm hg n ⟨some d, .pick c x y, ty, pos, af, g⟩ s) (h : pickV tm c x y = some p) : PO P True ⟨some d, .pick c x y, ty, pos, af, g⟩ s p := by
  unfold pickV at h
  split at h
  · rename_i b hc
    have hc := (K.get (by simp [Op.operands]) hc).2.2
    exact .pick1 (hc _) (K.ev _ (by cases b <;> simp [Op.operands]) _ h)
  · cases h

/-! ### loads -/
def loadV (E : Env P) (hg : Nat → Option RB) (t : TypeId) (p : PV) : Option PV := match p with
  | .ptr b o => match E.tyAt t, hg b with
    | some y, some (.c sz cs dv _) => bif aggD y.d then (bif Nat.ble (o + y.sz) sz then some (.agg (cs.gets dv o y.sz)) else none) else (bif Nat.blt o sz then some ((cs.get o).getD dv) else none)
    | _, _ => none
  | .eptr y o => match E.tyAt t with
    | some x => bif aggD x.d then (match y, o with
        | .agg ls, 0 => bif Nat.beq ls.length x.sz then some (.t (.agg ls)) else none
        | _, _ => none) else (match y.leaves[o]? with
        | some q => some (.t q)
        | none => none)
    | none => none
  | _ => none
theorem gets_drop (cs : Tr PV) (dv : PV) (sz o n : Nat) (h : o + n ≤ sz) : ((cs.gets dv 0 sz).drop o).take n = cs.gets dv o n := by
  refine List.ext_getElem? fun i => ?_
  rw [List.getElem?_take, Tr.gets_get]
  by_cases hi : i < n
  · rw [if_pos hi, if_pos hi, List.getElem?_drop, Tr.gets_get, if_pos (show o + i < sz by omega), Nat.zero_add]
  · rw [if_neg hi, if_neg hi]
theorem loadV_ok {t : TypeId} {x : Operand} {p q : PV} (hx : EvH True s x p) (hk : HK hg s) (h : loadV E hg t p = some q) : PO P True ⟨some d, .load t x, ty, pos, af, g⟩ s q := by
  unfold loadV at h
  split at h
  · rename_i b o
    split at h
    · rename_i y sz cs dv bt hy hb
      have ht := E.tyAt_ok hy
      have hl := hk b _ hb
      simp only [RB.blk] at hl
      cases hd : aggD y.d with
      | true =>
        rw [hd, cond_true] at h
        obtain ⟨hle, h⟩ := bif_some h
        cases h
        exact (PO.loadS (p := mkAgg (cs.gets dv o y.sz)) hd hx hl (gets_drop cs dv sz o y.sz (Nat.le_of_ble_eq_true hle)) (Tr.gets_len _ _ _ _) rfl).weak fun _ _ _ => mkAgg_agg
      | false =>
        rw [hd, cond_false] at h
        obtain ⟨hlt, h⟩ := bif_some h
        cases h
        exact PO.load hd hx hl (by rw [Tr.gets_get, if_pos (blt_lt hlt), Nat.zero_add])
    · cases h
  · rename_i y o
    split at h
    · rename_i x1 hx1
      have ht := E.tyAt_ok hx1
      cases hd : aggD x1.d with
      | true =>
        rw [hd, cond_true] at h
        split at h
        · obtain ⟨hle, h⟩ := bif_some h
          cases h
          exact PO.loadES hd hx rfl (Nat.eq_of_beq_eq_true hle)
        · cases h
      | false =>
        rw [hd, cond_false] at h
        split at h
        · rename_i q1 hq1
          cases h
          exact PO.loadE hd hx hq1
        · cases h
    · cases h
  · cases h

/-! ### addresses -/
def fldV (E : Env P) (t : TypeId) (f : Nat) (p : PV) : Option PV := match p with
  | .ptr b o => match (E.tyAt t).map TyE.d with
    | some (.struct fs) => match fldAt fs.toList f with
      | some (ft, off) => match E.tyAt ft with
        | some y => bif Nat.beq y.sz 0 then none else some (.ptr b (o + off))
        | none => none
      | none => none
    | _ => none
  | .eptr z o => match (E.tyAt t).map TyE.d with
    | some (.struct fs) => match fldAt fs.toList f with
      | some (ft, off) => match E.tyAt ft with
        | some y => bif Nat.beq y.sz 0 then none else some (.eptr z (o + off))
        | none => none
      | none => none
    | _ => none
  | _ => none
theorem fldV_ok {t : TypeId} {x : Operand} {f : Nat} {p q : PV} (hx : EvH True s x p) (h : fldV E t f p = some q) : PO P True ⟨some d, .fieldAddr t x f, ty, pos, af, g⟩ s q := by
  unfold fldV at h
  split at h
  · split at h
    · rename_i fs hy
      obtain ⟨_, _, _, ht⟩ := tyAt_d hy
      split at h
      · rename_i ft off hf
        split at h
        · rename_i y hy2
          simp only [Bool.cond_eq_ite] at h
          split at h
          · cases h
          · rename_i hz
            cases h
            exact PO.fld hx hf (E.tyAt_ok hy2) (fun e => hz (by rw [e]; rfl))
        · cases h
      · cases h
    · cases h
  · split at h
    · rename_i fs hy
      obtain ⟨_, _, _, ht⟩ := tyAt_d hy
      split at h
      · rename_i ft off hf
        split at h
        · rename_i y hy2
          simp only [Bool.cond_eq_ite] at h
          split at h
          · cases h
          · rename_i hz
            cases h
            exact PO.fldE hx hf (E.tyAt_ok hy2) (fun e => hz (by rw [e]; rfl))
        · cases h
      · cases h
    · cases h
  · cases h
theorem indexAt_arr {t et : TypeId} {m sz bytes esz ebytes : Nat} {z ez : Value} {ed : TypeDesc} (ht : TyIs P t (.array m et) sz bytes z) (he : TyIs P et ed esz ebytes ez) {B o : Nat} {k : IntKind} {i : Int} (h0 : 0 ≤ i) (h1 : i < m) (w : World) :
    (Instr.indexAt t (.pointer (some ⟨B, o, none⟩)) (.int k i)).run P w = .ok (.pointer (some ⟨B, o + i.toNat * esz, none⟩)) w := by
  simp [Instr.indexAt, Instr.sureAddr, asIntOf, ht.under, he.sizeOf, h0, h1, Addr.add_mid]
def idxV (E : Env P) (t : TypeId) (p q : PV) : Option PV := match q with
  | .t (.v (.int _ i)) => match p, (E.tyAt t).map TyE.d with
    | .ref b e off len _, some (.slice et) => match E.tyAt et with
      | some y => bif Nat.beq e y.sz && decide (0 ≤ i) && decide (i < len) then some (.ptr b ((off + i.toNat) * e + 0)) else none
      | none => none
    | .ptr b o, some (.array m et) => match E.tyAt et with
      | some y => bif decide (0 ≤ i) && decide (i < m) then some (.ptr b (o + i.toNat * y.sz)) else none
      | none => none
    | .eptr z o, some (.array m et) => match E.tyAt et with
      | some y => bif decide (0 ≤ i) && decide (i < m) then some (.eptr z (o + i.toNat * y.sz)) else none
      | none => none
    | .t (.sl _ xs), some (.slice et) => match E.tyAt et, xs[i.toNat]? with
      | some y, some e => bif decide (0 ≤ i) && Nat.beq e.leaves.length y.sz then some (.eptr e 0) else none
      | _, _ => none
    | _, _ => none
  | _ => none
theorem idxV_ok {t : TypeId} {x y : Operand} {p q r : PV} (hx : EvH True s x p) (hy : EvH True s y q) (h : idxV E t p q = some r) : PO P True ⟨some d, .indexAddr t x y, ty, pos, af, g⟩ s r := by
  unfold idxV at h
  split at h
  · rename_i k i
    split at h
    · rename_i b e off len cap et hd
      obtain ⟨_, _, _, ht⟩ := tyAt_d hd
      split at h
      · rename_i ye hye
        have he := E.tyAt_ok hye
        simp only [Bool.cond_eq_ite] at h
        split at h
        · rename_i hc
          cases h
          simp only [Bool.and_eq_true, decide_eq_true_eq] at hc
          obtain ⟨⟨h1, h2⟩, h3⟩ := hc
          have h1 := Nat.eq_of_beq_eq_true h1
          subst h1
          exact (PO.idxR hx hy (fun _ => h2) (fun _ => h3)).weak fun _ _ _ => rptr_ptr
        · cases h
      · cases h
    · rename_i b o m et hd
      obtain ⟨_, _, _, ht⟩ := tyAt_d hd
      split at h
      · rename_i ye hye
        have he := E.tyAt_ok hye
        simp only [Bool.cond_eq_ite] at h
        split at h
        · rename_i hc
          cases h
          simp only [Bool.and_eq_true, decide_eq_true_eq] at hc
          intro hH B0 w0 φ0 F0 F φ a w hs
          have hv := hx.vr hH hs
          have hi := (evv hH hs hy).1
          generalize hq : a.eval x = q at hv
          cases hv with
          | ptr hb =>
            refine ⟨_, ?_, .ptr hb⟩
            simp only [execOp, hq, hi, Sem.run_bind]
            rw [indexAt_arr ht he hc.1 hc.2]; rfl
        · cases h
      · cases h
    · rename_i b o m et hd
      obtain ⟨_, _, _, ht⟩ := tyAt_d hd
      split at h
      · rename_i ye hye
        have he := E.tyAt_ok hye
        simp only [Bool.cond_eq_ite] at h
        split at h
        · rename_i hc
          cases h
          simp only [Bool.and_eq_true, decide_eq_true_eq] at hc
          intro hH B0 w0 φ0 F0 F φ a w hs
          have hv := hx.vr hH hs
          have hi := (evv hH hs hy).1
          generalize hq : a.eval x = q at hv
          cases hv with
          | eptr us hb =>
            refine ⟨_, ?_, .eptr us hb⟩
            simp only [execOp, hq, hi, Sem.run_bind]
            rw [indexAt_arr ht he hc.1 hc.2, Nat.add_assoc]; rfl
        · cases h
      · cases h
    · rename_i nn xs et hd
      obtain ⟨_, _, _, ht⟩ := tyAt_d hd
      split at h
      · rename_i ye e hye hxe
        have he := E.tyAt_ok hye
        obtain ⟨hc, h⟩ := bif_some h
        cases h
        simp only [Bool.and_eq_true, decide_eq_true_eq] at hc
        exact PO.idx hx hy (fun _ => hc.1) (fun _ => hxe) (fun _ => Nat.eq_of_beq_eq_true hc.2)
      · cases h
    · cases h
  · cases h

/-! ### parts of values -/
theorem PO.part {t : TypeId} {x : Operand} {fs : Array Field} {f ft off sz bytes fsz fbytes : Nat} {z fz : Value} {fd : TypeDesc} {p : PV} {qs : List PV} [ht : TyIs P t (.struct fs) sz bytes z] (hx : EvH True s x p) (hp : p.known = true) (ha : fldAt fs.toList f = some (ft, off))
    (hft' : TyIs P ft fd fsz fbytes fz) (hd : aggD fd = true) (hagg : p.isAgg = true) (hq : (p.leaves.drop off).take fsz = qs) : PO P True ⟨some d, .field t x f, ty, pos, af, g⟩ s (.agg qs) := by
  obtain ⟨fl, ha2, hft, rfl⟩ := fldAt_spec ha
  intro hH B0 w0 φ0 F0 F φ a w hs
  have hv := hx.vr hH hs
  obtain ⟨h1, h2⟩ := hv.cells hp
  generalize he : a.eval x = v at hv h1 h2
  have hv' : ∃ cs, v = .agg cs := by
    cases hv with
    | agg => exact ⟨_, rfl⟩
    | t h => cases h with
      | agg => exact ⟨_, rfl⟩
      | _ => cases hagg
    | _ => cases hagg
  obtain ⟨cs, rfl⟩ := hv'
  subst hft
  simp only [Value.cells] at h1 h2
  refine ⟨.agg (cs.extract fl.offset (fl.offset + fsz)), ?_, ?_⟩
  · simp only [execOp, he, Instr.field, Sem.run_bind, ht.under, Result.andThen_ok, ha2, asAgg, Sem.run_pure, Go.part, isAgg_run hft', hd, if_true, hft'.sizeOf]
  · subst hq
    refine .agg (by simp [h1]; omega) (fun i y u hy hu => ?_)
    rw [List.getElem?_take] at hy
    split at hy
    · rw [List.getElem?_drop] at hy
      obtain ⟨u', hu', hr⟩ := h2 _ y hy
      rw [Array.getElem?_extract] at hu
      split at hu
      · rw [hu] at hu'; cases hu'; exact hr
      · cases hu
    · cases hy
def partV (E : Env P) (t : TypeId) (f : Nat) (p : PV) : Option PV := match (E.tyAt t).map TyE.d with
  | some (.struct fs) => match fldAt fs.toList f with
    | some (ft, off) => match E.tyAt ft with
      | some y => bif p.isAgg then (bif aggD y.d then some (.agg ((p.leaves.drop off).take y.sz)) else p.leaves[off]?) else none
      | none => none
    | none => none
  | _ => none
theorem isAgg_known {p : PV} (h : p.isAgg = true) : p.known = true := by cases p <;> first | rfl | cases h
theorem partV_ok {t : TypeId} {x : Operand} {f : Nat} {p q : PV} (hx : EvH True s x p) (h : partV E t f p = some q) : PO P True ⟨some d, .field t x f, ty, pos, af, g⟩ s q := by
  unfold partV at h
  split at h
  · rename_i fs hy
    obtain ⟨_, _, _, ht⟩ := tyAt_d hy
    split at h
    · rename_i ft off hf
      split at h
      · rename_i y hy2
        cases hag : p.isAgg with
        | false => rw [hag] at h; cases h
        | true =>
          rw [hag, cond_true] at h
          cases hd : aggD y.d with
          | true => rw [hd, cond_true] at h; cases h; exact PO.part hx (isAgg_known hag) hf (E.tyAt_ok hy2) hd hag rfl
          | false => rw [hd, cond_false] at h; exact PO.field hx (isAgg_known hag) hf (E.tyAt_ok hy2) hd hag h
      · cases h
    · cases h
  · cases h
/-- An element of an array's value. -/
theorem PO.idxA {t et : TypeId} {x y : Operand} {k : IntKind} {i : Int} {m sz bytes esz ebytes : Nat} {z ez : Value} {ed : TypeDesc} {p q : PV} [ht : TyIs P t (.array m et) sz bytes z] (hx : EvH True s x p) (hy : EvH True s y (.t (.v (.int k i)))) (hp : p.known = true)
    (he : TyIs P et ed esz ebytes ez) (hd : aggD ed = false) (hagg : p.isAgg = true) (h0 : 0 ≤ i) (h1 : i < m) (hq : p.leaves[i.toNat * esz]? = some q) : PO P True ⟨some d, .index t x y, ty, pos, af, g⟩ s q := by
  intro hH B0 w0 φ0 F0 F φ a w hs
  have hv := hx.vr hH hs
  have hi := (evv hH hs hy).1
  obtain ⟨k1, k2⟩ := hv.cells hp
  obtain ⟨u, hu, hr⟩ := k2 _ _ hq
  generalize he' : a.eval x = v at hv hu
  have hv' : ∃ cs, v = .agg cs := by
    cases hv with
    | agg => exact ⟨_, rfl⟩
    | t h => cases h with
      | agg => exact ⟨_, rfl⟩
      | _ => cases hagg
    | _ => cases hagg
  obtain ⟨cs, rfl⟩ := hv'
  refine ⟨u, ?_, hr⟩
  simp only [Value.cells] at hu
  simp only [execOp, he', hi, Instr.index, asIntOf, Sem.run_bind, Sem.run_pure, ht.under, Result.andThen_ok, if_pos (show 0 ≤ i ∧ i < (m : Int) from ⟨h0, h1⟩), he.sizeOf, Go.part, isAgg_run he, hd, Bool.false_eq_true, if_false, hu]
def atV (E : Env P) (t : TypeId) (p q : PV) : Option PV := match q with
  | .t (.v (.int _ i)) => match p with
    | .t (.v (.string b)) => match (E.tyAt t).map TyE.d with
      | some .string => bif decide (0 ≤ i) && Nat.blt i.toNat b.size then some (.t (.v (.int .u8 ((b.data.toList).getD i.toNat 0).toNat))) else none
      | _ => none
    | p => match (E.tyAt t).map TyE.d with
      | some (.array m et) => match E.tyAt et with
        | some y => bif p.isAgg && !(aggD y.d) && decide (0 ≤ i) && decide (i < m) then p.leaves[i.toNat * y.sz]? else none
        | none => none
      | _ => none
  | _ => none
theorem atV_ok {t : TypeId} {x y : Operand} {p q r : PV} (hx : EvH True s x p) (hy : EvH True s y q) (h : atV E t p q = some r) : PO P True ⟨some d, .index t x y, ty, pos, af, g⟩ s r := by
  unfold atV at h
  split at h
  · rename_i k i
    split at h
    · rename_i b
      split at h
      · rename_i hd
        obtain ⟨_, _, _, ht⟩ := tyAt_d hd
        simp only [Bool.cond_eq_ite] at h
        split at h
        · rename_i hc
          cases h
          simp only [Bool.and_eq_true, decide_eq_true_eq, Nat.blt_eq] at hc
          exact PO.idxS hx hy (fun _ => hc.1) (fun _ => by omega)
        · cases h
      · cases h
    · split at h
      · rename_i m et hd
        obtain ⟨_, _, _, ht⟩ := tyAt_d hd
        split at h
        · rename_i y hy2
          simp only [Bool.cond_eq_ite] at h
          split at h
          · rename_i hc
            simp only [Bool.and_eq_true, decide_eq_true_eq, Bool.not_eq_true'] at hc
            exact PO.idxA hx hy (isAgg_known hc.1.1.1) (E.tyAt_ok hy2) hc.1.1.2 hc.1.1.1 hc.1.2 hc.2 h
          · cases h
        · cases h
      · cases h
  · cases h
def extV (i : Nat) (p : PV) : Option PV := match p with
  | .tup ps => ps[i]?
  | _ => none
theorem extV_ok {x : Operand} {i : Nat} {p q : PV} (hx : EvH True s x p) (h : extV i p = some q) : PO P True ⟨some d, .extract x i, ty, pos, af, g⟩ s q := by
  unfold extV at h
  split at h
  · exact PO.ext hx h
  · cases h
def nckV (p : PV) : Option PV := match p with
  | .ptr b o => some (.ptr b o)
  | _ => none
theorem nckV_ok {x : Operand} {p q : PV} (hx : EvH True s x p) (h : nckV p = some q) : PO P True ⟨some d, .nilCheck x, ty, pos, af, g⟩ s q := by
  unfold nckV at h
  split at h
  · cases h; exact PO.nilchk hx
  · cases h
end
end
end Go.Proofs.YtldelbknkkeniaaGreatDoor.E

/- The engine runs closed code: comparisons, strings, cuts, structs, conversions. -/
namespace Go.Proofs.YtldelbknkkeniaaGreatDoor.E
open Go Go.RowKit
set_option linter.unusedVariables false
set_option linter.unusedSimpArgs false
variable {P : Program}
noncomputable section

/-! ### the same, by '==' -/
def numV : Value → Bool
  | .int .. | .float .. | .complex .. | .string _ | .agg _ | .nilIface => true
  | _ => false
def EqG (P : Program) (t : TypeId) (u v : Value) : Prop := numV u = false ∨ ∃ xs ys, u = .agg xs ∧ v = .agg ys ∧ P.eqGuardType P.depth t = false
theorem run_eqop {op : BinOp} {t : TypeId} {x y : Operand} {u v : Value} {b : Bool} {w : World} (hop : op = .eql ∨ op = .neq) (hu : EqG P t u v) (h : (Op.equal t u v).run P w = .ok b w) :
    (do eqGuard op t x y u v; binOp op t u v : Sem Value).run P w = .ok (.bool (bif op matches .eql then b else !b)) w := by
  have h1 : (eqGuard op t x y u v).run P w = .ok () w := by
    rcases hu with hu | ⟨xs, ys, rfl, rfl, hg⟩
    · have : eqGuard op t x y u v = (pure () : Sem Unit) := by
        rcases hop with rfl | rfl <;> cases u <;> first | rfl | cases hu
      rw [this]; rfl
    · rcases hop with rfl | rfl <;> simp [eqGuard, program, Sem.run, hg]
  rw [Sem.run_bind, h1, Result.andThen_ok]
  clear h1
  rcases hop with rfl | rfl
  · have h2 : binOp .eql t u v = (do pure (.bool (← Op.equal t u v)) : Sem Value) := by
      rcases hu with hu | ⟨xs, ys, rfl, rfl, hg⟩
      · cases u <;> first | rfl | cases hu
      · rfl
    simp only [h2, Sem.run_bind, h, Result.andThen_ok, Sem.run_pure, cond_true]
  · have h2 : binOp .neq t u v = (do pure (.bool (!(← Op.equal t u v))) : Sem Value) := by
      rcases hu with hu | ⟨xs, ys, rfl, rfl, hg⟩
      · cases u <;> first | rfl | cases hu
      · rfl
    simp only [h2, Sem.run_bind, h, Result.andThen_ok, Sem.run_pure, cond_false]
theorem vrt {F : FMem} {φ : Phi} {x : T} {v : Value} (h : VR F φ (.t x) v) : TR F x v := by cases h with | t h => exact h
theorem vrv {F : FMem} {φ : Phi} {x v : Value} (h : VR F φ (.t (.v x)) v) : v = x := by cases vrt h; rfl
/-- Structs, field by field. -/
def eqFs (E : Env P) : List Field → List PV → List PV → Option Bool
  | [], _, _ => some true
  | f :: l, ps, qs => match (E.tyAt f.type).map TyE.d, ps[f.offset]?, qs[f.offset]? with
    | some (.int _), some (.t (.v (.int k a))), some (.t (.v (.int k' b))) => if k = k' then (bif decide (a = b) then eqFs E l ps qs else some false) else none
    | some .bool, some (.t (.v (.bool a))), some (.t (.v (.bool b))) => bif a == b then eqFs E l ps qs else some false
    | some .string, some (.t (.v (.string a))), some (.t (.v (.string b))) => bif a == b then eqFs E l ps qs else some false
    | _, _, _ => none
def isAggP : PV → Bool
  | .agg _ => true
  | .t (.agg _) => true
  | _ => false
theorem isAggP_ok {F : FMem} {φ : Phi} {p : PV} {u : Value} (h : isAggP p = true) (hv : VR F φ p u) : ∃ xs, u = .agg xs := by
  cases hv with
  | t ht => cases ht <;> first | exact ⟨_, rfl⟩ | (cases h; done)
  | agg _ _ => exact ⟨_, rfl⟩
  | _ => cases h
theorem eqFs_run {E : Env P} {ps qs : List PV} {xs ys : Array Value} {F : FMem} {φ : Phi} {w : World} {d : Nat} (hx : ∀ (i : Nat) (p : PV), ps[i]? = some p → ∃ u, xs[i]? = some u ∧ VR F φ p u) (hy : ∀ (i : Nat) (p : PV), qs[i]? = some p → ∃ u, ys[i]? = some u ∧ VR F φ p u) :
    ∀ (l : List Field) {b : Bool}, (∀ f ∈ l, f.name ≠ "_") → eqFs E l ps qs = some b →
    (forIn (m := Sem) l ((none, ()) : Option Bool × Unit) fun f __s =>
            if f.name = "_" then pure (ForInStep.yield (none, ()))
            else do
              let a ← Go.part f.type xs f.offset
              let b ← Go.part f.type ys f.offset
              let c ← Op.equalIn (d + 1) f.type a b
              if c = false then pure (ForInStep.done (some false, ())) else pure (ForInStep.yield (none, ()))).run P w = .ok (bif b then (none, ()) else (some false, ())) w
  | [], b, _, h => by cases h; rfl
  | f :: l, b, hn, h => by
    have ih := fun {b} => eqFs_run (E := E) (w := w) (d := d) hx hy l (b := b) (fun g hg => hn g (List.mem_cons_of_mem _ hg))
    have h0 := hn f List.mem_cons_self
    have one : ∀ {p q : PV} {u v : Value} {td : TypeDesc} {c : Bool}, (E.tyAt f.type).map TyE.d = some td → aggD td = false → ps[f.offset]? = some p → qs[f.offset]? = some q → (∀ u v, VR F φ p u → VR F φ q v → (Op.equalIn (d + 1) f.type u v).run P w = .ok c w) → (bif c then eqFs E l ps qs else some false) = some b →
        (forIn (m := Sem) (f :: l) ((none, ()) : Option Bool × Unit) fun f __s =>
            if f.name = "_" then pure (ForInStep.yield (none, ()))
            else do
              let a ← Go.part f.type xs f.offset
              let b ← Go.part f.type ys f.offset
              let c ← Op.equalIn (d + 1) f.type a b
              if c = false then pure (ForInStep.done (some false, ())) else pure (ForInStep.yield (none, ()))).run P w = .ok (bif b then (none, ()) else (some false, ())) w := by
      intro p q u v td c htd hag hp hq heq hb
      obtain ⟨_, _, _, ht⟩ := tyAt_d htd
      obtain ⟨u, hu, hu2⟩ := hx _ _ hp
      obtain ⟨v, hv, hv2⟩ := hy _ _ hq
      have h1 : (Go.part f.type xs f.offset).run P w = .ok u w := by
        simp only [Go.part, Sem.run_bind, isAgg_run ht, hag, Result.andThen_ok, Bool.false_eq_true, if_false, hu, Sem.run_pure]
      have h2 : (Go.part f.type ys f.offset).run P w = .ok v w := by
        simp only [Go.part, Sem.run_bind, isAgg_run ht, hag, Result.andThen_ok, Bool.false_eq_true, if_false, hv, Sem.run_pure]
      rw [List.forIn_cons]
      simp only [if_neg h0, Sem.run_bind, h1, h2, heq u v hu2 hv2, Result.andThen_ok]
      cases c with
      | true =>
        simp only [Bool.true_eq_false, if_false, Sem.run_pure, Result.andThen_ok]
        exact ih hb
      | false =>
        cases hb
        simp only [if_true, Sem.run_pure, Result.andThen_ok]
        rfl
    unfold eqFs at h
    split at h
    · rename_i k1 k a k' b' hd hp hq
      split at h
      · rename_i hk
        subst hk
        obtain ⟨_, _, _, ht⟩ := tyAt_d hd
        refine one (u := .nilFunc) (v := .nilFunc) (c := decide (a = b')) hd rfl hp hq (fun u v hu hv => ?_) h
        obtain rfl := vrv hu; obtain rfl := vrv hv
        simp [Op.equalIn, run_underlying ht.und]
        rfl
      · cases h
    · rename_i a b' hd hp hq
      obtain ⟨_, _, _, ht⟩ := tyAt_d hd
      refine one (u := .nilFunc) (v := .nilFunc) (c := a == b') hd rfl hp hq (fun u v hu hv => ?_) h
      obtain rfl := vrv hu; obtain rfl := vrv hv
      simp [Op.equalIn, run_underlying ht.und]
    · rename_i a b' hd hp hq
      obtain ⟨_, _, _, ht⟩ := tyAt_d hd
      refine one (u := .nilFunc) (v := .nilFunc) (c := a == b') hd rfl hp hq (fun u v hu hv => ?_) h
      obtain rfl := vrv hu; obtain rfl := vrv hv
      simp [Op.equalIn, run_underlying ht.und]
    · cases h
def eqV (E : Env P) (hg : Nat → Option RB) (t : TypeId) (p q : PV) : Option Bool := match (E.tyAt t).map TyE.d with
  | some .bool => match p, q with
    | .t (.v (.bool a)), .t (.v (.bool b)) => some (a == b)
    | _, _ => none
  | some (.slice _) => match q with
    | .t (.sl true []) => match p with
      | .t (.sl n _) => some n
      | .ref .. => some false
      | _ => none
    | _ => none
  | some (.map _ _) => match q with
    | .t (.v (.map none)) => match p with
      | .t (.v (.map none)) => some true
      | .mp _ => some false
      | _ => none
    | _ => none
  | some (.func _ _ _) => match q with
    | .t (.v .nilFunc) => match p with
      | .t (.v .nilFunc) => some true
      | .fn _ _ _ => some false
      | .t (.v (.func _ _ _)) => some false
      | _ => none
    | _ => none
  | some (.pointer te) => match p, q with
    | .t (.v (.pointer none)), .t (.v (.pointer none)) => some true
    | .ptr _ _, .t (.v (.pointer none)) => some false
    | .t (.v (.pointer none)), .ptr _ _ => some false
    | .ptr b o, .ptr b' o' => match E.tyAt te with
      | some y => bif Nat.beq b b' then (bif Nat.beq o o' then some true else none)
          else match hg b, hg b' with
            | some (.c _ _ _ _), some (.c _ _ _ _) => bif Nat.beq y.sz 0 then none else some false
            | _, _ => none
      | none => none
    | _, _ => none
  | some (.struct _) => match E.plAt t with
    | some x => bif isAggP p && isAggP q && x.cmp then eqFs E x.fs.toList p.leaves q.leaves else none
    | none => none
  | _ => none
section
variable {E : Env P} {d ty : Nat} {pos : String} {af : Array Edge} {g : Option (Nat × Bool)} {s : St} {hg : Nat → Option RB}
theorem equal_at {t : TypeId} {ds : TypeDesc} (hd : P.underlying t = some ds) {u v : Value} {b : Bool} {w : World} (h : ∀ n, (Op.equalIn (n + 1) t u v).run P w = .ok b w) : (Op.equal t u v).run P w = .ok b w := h 9999
theorem eqV_ok {t : TypeId} {p q : PV} {b : Bool} {B0 : Fr} {w0 : World} {φ0 : Phi} {F0 : FMem} {F : FMem} {φ : Phi} {a : Act} {w : World} (hs : Sim B0 w0 φ0 F0 s F φ a w) (hk : HK hg s) {u v : Value} (hu : VR F φ p u) (hv : VR F φ q v) (h : eqV E hg t p q = some b) :
    EqG P t u v ∧ (Op.equal t u v).run P w = .ok b w := by
  unfold eqV at h
  split at h
  · rename_i hd
    obtain ⟨_, _, _, ht⟩ := tyAt_d hd
    split at h
    · cases h
      obtain rfl := vrv hu; obtain rfl := vrv hv
      exact ⟨.inl rfl, equal_at ht.und (fun n => by simp [Op.equalIn, run_underlying ht.und])⟩
    · cases h
  · rename_i hd
    obtain ⟨_, _, _, ht⟩ := tyAt_d hd
    split at h
    · obtain rfl := tr_nil (vrt hv)
      split at h
      · cases h
        obtain ⟨aa, l, c, rfl, rfl⟩ := tr_sl (vrt hu)
        exact ⟨.inl rfl, equal_at ht.und (fun n => by cases aa <;> simp [Op.equalIn, run_underlying ht.und])⟩
      · cases h
        cases hu with | ref _ _ _ _ => exact ⟨.inl rfl, equal_at ht.und (fun n => by simp [Op.equalIn, run_underlying ht.und])⟩
      · cases h
    · cases h
  · rename_i hd
    obtain ⟨_, _, _, ht⟩ := tyAt_d hd
    split at h
    · obtain rfl := vrv hv
      split at h
      · cases h
        obtain rfl := vrv hu; exact ⟨.inl rfl, equal_at ht.und (fun n => by simp [Op.equalIn, run_underlying ht.und])⟩
      · cases h
        cases hu with | mp _ => exact ⟨.inl rfl, equal_at ht.und (fun n => by simp [Op.equalIn, run_underlying ht.und])⟩
      · cases h
    · cases h
  · rename_i hd
    obtain ⟨_, _, _, ht⟩ := tyAt_d hd
    split at h
    · obtain rfl := vrv hv
      split at h
      · cases h
        obtain rfl := vrv hu; exact ⟨.inl rfl, equal_at ht.und (fun n => by simp [Op.equalIn, run_underlying ht.und])⟩
      · cases h
        cases hu with | fn _ _ _ _ => exact ⟨.inl rfl, equal_at ht.und (fun n => by simp [Op.equalIn, run_underlying ht.und])⟩
      · cases h
        obtain rfl := vrv hu; exact ⟨.inl rfl, equal_at ht.und (fun n => by simp [Op.equalIn, run_underlying ht.und])⟩
      · cases h
    · cases h
  · rename_i te hd
    obtain ⟨_, _, _, ht⟩ := tyAt_d hd
    split at h
    · cases h
      obtain rfl := vrv hu; obtain rfl := vrv hv
      exact ⟨.inl rfl, equal_at ht.und (fun n => by simp [Op.equalIn, run_underlying ht.und])⟩
    · cases h
      obtain rfl := vrv hv; cases hu with | ptr _ =>
        exact ⟨.inl rfl, equal_at ht.und (fun n => by simp [Op.equalIn, run_underlying ht.und])⟩
    · cases h
      obtain rfl := vrv hu; cases hv with | ptr _ =>
        exact ⟨.inl rfl, equal_at ht.und (fun n => by simp [Op.equalIn, run_underlying ht.und])⟩
    · rename_i b1 o1 b2 o2
      split at h
      · rename_i y hy
        have hy := E.tyAt_ok hy
        cases hu with | @ptr _ _ B1 s1 e1 =>
        cases hv with | @ptr _ _ B2 s2 e2 =>
        refine ⟨.inl rfl, equal_at ht.und fun n => ?_⟩
        cases hb : Nat.beq b1 b2 with
        | true =>
          rw [hb, cond_true] at h
          obtain ⟨ho, h⟩ := bif_some h
          cases h
          have hb := Nat.eq_of_beq_eq_true hb
          have ho := Nat.eq_of_beq_eq_true ho
          subst hb; subst ho
          rw [e1] at e2; cases e2
          by_cases h0 : y.sz = 0
          · simp [Op.equalIn, run_underlying ht.und, hy.sizeOf, h0]
          · simp [Op.equalIn, run_underlying ht.und, hy.sizeOf, h0, run_sameAddr_same]
        | false =>
          rw [hb, cond_false] at h
          split at h
          · rename_i g1 g2
            cases hz : Nat.beq y.sz 0 with
            | true => rw [hz] at h; cases h
            | false =>
              rw [hz] at h; cases h
              have hz := Nat.ne_of_beq_eq_false hz
              obtain ⟨C1, c1, l1⟩ := hs.heap _ _ (hk _ _ g1)
              obtain ⟨C2, c2, l2⟩ := hs.heap _ _ (hk _ _ g2)
              have := l1.at_; rw [e1] at this; cases this
              have := l2.at_; rw [e2] at this; cases this
              have hne : B1 ≠ B2 := fun e => by
                subst e
                exact Nat.ne_of_beq_eq_false hb (hs.inj _ _ _ _ _ _ _ (hk _ _ g1) (hk _ _ g2) e1 e2)
              obtain ⟨t1, k1⟩ := l1.cells rfl
              obtain ⟨t2, k2⟩ := l2.cells rfl
              have hsame := run_sameAddr_other (P := P) w (a := ⟨B1, o1, none⟩) (b := ⟨B2, o2, none⟩) (by simp [hne]) k1 k2
              simp [Op.equalIn, run_underlying ht.und, hy.sizeOf, hz, hsame]
          · cases h
      · cases h
    · cases h
  · rename_i fs0 hd
    split at h
    · rename_i x hx
      obtain ⟨hc, h⟩ := bif_some h
      simp only [Bool.and_eq_true] at hc
      have hund := (E.plAt_ok hx).2
      obtain ⟨hc, hcmp⟩ := hc
      obtain ⟨hst, hnu, hgd⟩ := E.plAt_eq hx hcmp
      have hpk : p.known = true := by cases p <;> first | rfl | exact absurd hc.1 (by simp [isAggP])
      have hqk : q.known = true := by cases q <;> first | rfl | exact absurd hc.2 (by simp [isAggP])
      obtain ⟨xs, rfl⟩ := isAggP_ok hc.1 hu
      obtain ⟨ys, rfl⟩ := isAggP_ok hc.2 hv
      refine ⟨.inr ⟨xs, ys, rfl, rfl, hgd⟩, ?_⟩
      have hrun := eqFs_run (P := P) (w := w) (d := 9998) (xs := xs) (ys := ys) (hu.cells hpk).2 (hv.cells hqk).2 x.fs.toList hnu h
      show (Op.equalIn (9998 + 1 + 1) t (.agg xs) (.agg ys)).run P w = .ok b w
      rw [Op.equalIn]
      simp only [Sem.run_bind, run_underlying hund, Result.andThen_ok]
      simp [program, Sem.run, hst]
      simp only [← Array.forIn_toList] 
      rw [hrun]
      cases b <;> rfl
    · cases h
  · cases h
theorem PO.eqG {op : BinOp} {t t' : TypeId} {x y : Operand} {p q : PV} {b : Bool} (hop : op = .eql ∨ op = .neq) (hx : EvH True s x p) (hy : EvH True s y q) (hk : HK hg s) (h : eqV E hg t p q = some b) :
    PO P True ⟨some d, .binOp op t x y t', ty, pos, af, g⟩ s (.t (.v (.bool (bif op matches .eql then b else !b)))) := by
  intro hH B0 w0 φ0 F0 F φ a w hs
  obtain ⟨h1, h2⟩ := eqV_ok hs hk (hx.vr hH hs) (hy.vr hH hs) h
  refine ⟨_, ?_, .t (.v rfl)⟩
  have := run_eqop (x := x) (y := y) hop h1 h2
  simp only [execOp]
  simp only [Sem.run_bind] at this ⊢
  rw [this]; rfl

/-! ### strings -/
def str (l : List UInt8) : PV := .t (.v (.string ⟨⟨l⟩⟩))
def beqL : List UInt8 → List UInt8 → Bool
  | [], [] => true
  | a :: l1, b :: l2 => bif Nat.beq a.toNat b.toNat then beqL l1 l2 else false
  | _, _ => false
def ltL : List UInt8 → List UInt8 → Bool
  | _, [] => false
  | [], _ :: _ => true
  | a :: l1, b :: l2 => bif Nat.blt a.toNat b.toNat then true else bif Nat.beq a.toNat b.toNat then ltL l1 l2 else false
theorem beqL_eq : ∀ l m : List UInt8, beqL l m = (l == m)
  | [], [] => rfl
  | [], _ :: _ => rfl
  | _ :: _, [] => rfl
  | a :: l, b :: m => by
    simp only [beqL, List.cons_beq_cons, beqL_eq l m]
    cases h : Nat.beq a.toNat b.toNat with
    | true =>
      have : a = b := UInt8.toNat_inj.1 (Nat.eq_of_beq_eq_true h)
      simp [this]
    | false =>
      have : a ≠ b := fun e => Nat.ne_of_beq_eq_false h (by rw [e])
      simp [this]
theorem ltL_eq : ∀ l m : List UInt8, ltL l m = Op.bytesLess l m
  | l, [] => by cases l <;> rfl
  | [], _ :: _ => rfl
  | a :: l, b :: m => by
    simp only [ltL, Op.bytesLess, ltL_eq l m]
    cases h : Nat.blt a.toNat b.toNat with
    | true =>
      have : a < b := UInt8.lt_iff_toNat_lt.2 (by simpa [Nat.blt_eq] using h)
      simp [this]
    | false =>
      have hn : ¬ a < b := fun e => by
        have := UInt8.lt_iff_toNat_lt.1 e
        rw [show Nat.blt a.toNat b.toNat = true by simpa [Nat.blt_eq] using this] at h; cases h
      cases h2 : Nat.beq a.toNat b.toNat with
      | true =>
        have : a = b := UInt8.toNat_inj.1 (Nat.eq_of_beq_eq_true h2)
        simp [this]
      | false =>
        have : a ≠ b := fun e => Nat.ne_of_beq_eq_false h2 (by rw [e])
        simp [hn, this]
def strOp (op : BinOp) (a b : List UInt8) : Option PV := match op with
  | .add => bif Nat.ble (a.length + b.length) 4611686018427387904 then some (str (a ++ b)) else none
  | .eql => some (.t (.v (.bool (beqL a b))))
  | .neq => some (.t (.v (.bool (!beqL a b))))
  | .lss => some (.t (.v (.bool (ltL a b))))
  | .leq => some (.t (.v (.bool (ltL a b || beqL a b))))
  | .gtr => some (.t (.v (.bool (!(ltL a b || beqL a b)))))
  | .geq => some (.t (.v (.bool (!ltL a b))))
  | _ => none
theorem strOp_ok {op : BinOp} {t t' : TypeId} {x y : Operand} {m n : ByteArray} {r : PV} (hx : EvH True s x (.t (.v (.string m)))) (hy : EvH True s y (.t (.v (.string n)))) (h : strOp op m.data.toList n.data.toList = some r) :
    PO P True ⟨some d, .binOp op t x y t', ty, pos, af, g⟩ s r := by
  have e1 : m.toList = m.data.toList := ByteArray.toList_eq m
  have e2 : n.toList = n.data.toList := ByteArray.toList_eq n
  unfold strOp at h
  split at h
  · obtain ⟨hc, h⟩ := bif_some h
    cases h
    have hl := Nat.le_of_ble_eq_true hc
    have e3 : m ++ n = ⟨⟨m.data.toList ++ n.data.toList⟩⟩ := by
      apply ByteArray.ext
      rw [ByteArray.data_append]
      simp
    have := PO.cat (P := P) (d := d) (ty := ty) (pos := pos) (af := af) (g := g) (t := t) (t' := t') hx hy (fun _ => by simpa using hl)
    rw [e3] at this
    exact this
  all_goals first
    | (cases h; done)
    | (cases h
       refine PO.binr hx hy rfl fun w => ?_
       simp only [eqGuard_at_string, pure_bind, binOp, Op.stringOp, beqL_eq, ltL_eq, ← e1, ← e2]
       rfl)
def binU (E : Env P) (hg : Nat → Option RB) (op : BinOp) (t : TypeId) (p q : PV) : Option PV := match p with
  | .t (.v (.int _ _)) => binE E op t p q
  | .t (.v (.string a)) => match q with
    | .t (.v (.string b)) => strOp op a.data.toList b.data.toList
    | _ => none
  | _ => match op with
    | .eql => (eqV E hg t p q).map fun b => .t (.v (.bool b))
    | .neq => (eqV E hg t p q).map fun b => .t (.v (.bool (!b)))
    | _ => none
theorem binU_ok {op : BinOp} {t t' : TypeId} {x y : Operand} {p q r : PV} (hx : EvH True s x p) (hy : EvH True s y q) (hk : HK hg s) (h : binU E hg op t p q = some r) : PO P True ⟨some d, .binOp op t x y t', ty, pos, af, g⟩ s r := by
  unfold binU at h
  split at h
  · exact binE_ok hx hy h
  · split at h
    · exact strOp_ok hx hy h
    · cases h
  · split at h
    · rw [Option.map_eq_some_iff] at h
      obtain ⟨b, hb, rfl⟩ := h
      exact PO.eqG (op := .eql) (.inl rfl) hx hy hk hb
    · rw [Option.map_eq_some_iff] at h
      obtain ⟨b, hb, rfl⟩ := h
      exact PO.eqG (op := .neq) (.inr rfl) hx hy hk hb
    · cases h
def unV (op : UnOp) (p : PV) : Option PV := match op, p with
  | .not, .t (.v (.bool b)) => some (.t (.v (.bool (!b))))
  | .neg, .t (.v (.int k m)) => some (.t (.v (.int k (k.wrap (0 - m)))))
  | _, _ => none
theorem unV_ok {op : UnOp} {t : TypeId} {x : Operand} {p r : PV} (hx : EvH True s x p) (h : unV op p = some r) : PO P True ⟨some d, .unOp op t x, ty, pos, af, g⟩ s r := by
  unfold unV at h
  split at h
  · cases h; exact PO.not hx
  · cases h; exact PO.neg hx
  · cases h
end
end
end Go.Proofs.YtldelbknkkeniaaGreatDoor.E

/- A pointer that is nil is nil; calls with four arguments. -/
namespace Go.Proofs.YtldelbknkkeniaaGreatDoor.E
open Go Go.RowKit
set_option linter.unusedVariables false
set_option linter.unusedSimpArgs false
section ops
variable {P : Program} {d ty : Nat} {pos : String} {af : Array Edge} {g : Option (Nat × Bool)} {s : St} {H : Prop}
theorem PO.eqPN {t te t' : TypeId} {x y : Operand} {sz bytes : Nat} {z : Value} [ht : TyIs P t (.pointer te) sz bytes z] (hx : EvH H s x (.t (.v (.pointer none)))) (hy : EvH H s y (.t (.v (.pointer none)))) : PO P H ⟨some d, .binOp .eql t x y t', ty, pos, af, g⟩ s (.t (.v (.bool true))) := by
  intro hH B0 w0 φ0 F0 F φ a w hs
  have h1 : a.eval x = .pointer none := vrv (hx.vr hH hs)
  have h2 : a.eval y = .pointer none := vrv (hy.vr hH hs)
  refine ⟨.bool true, ?_, .t (.v rfl)⟩
  have := run_eqop (op := .eql) (x := x) (y := y) (b := true) (u := .pointer none) (v := .pointer none) (w := w) (.inl rfl) (.inl rfl) (equal_at ht.und (fun n => by simp [Op.equalIn, run_underlying ht.und]))
  simp only [execOp, h1, h2]
  simp only [Sem.run_bind] at this ⊢
  rw [this]; rfl
theorem PO.nePN {t te t' : TypeId} {x y : Operand} {sz bytes : Nat} {z : Value} [ht : TyIs P t (.pointer te) sz bytes z] (hx : EvH H s x (.t (.v (.pointer none)))) (hy : EvH H s y (.t (.v (.pointer none)))) : PO P H ⟨some d, .binOp .neq t x y t', ty, pos, af, g⟩ s (.t (.v (.bool false))) := by
  intro hH B0 w0 φ0 F0 F φ a w hs
  have h1 : a.eval x = .pointer none := vrv (hx.vr hH hs)
  have h2 : a.eval y = .pointer none := vrv (hy.vr hH hs)
  refine ⟨.bool false, ?_, .t (.v rfl)⟩
  have := run_eqop (op := .neq) (x := x) (y := y) (b := true) (u := .pointer none) (v := .pointer none) (w := w) (.inr rfl) (.inl rfl) (equal_at ht.und (fun n => by simp [Op.equalIn, run_underlying ht.und]))
  simp only [execOp, h1, h2]
  simp only [Sem.run_bind] at this ⊢
  rw [this]; rfl
end ops
section heads
variable {P : Program} {d ty : Nat} {pos : String} {af : Array Edge} {K : St → Prop} {ops : Array Oper} {l_ : List Oper} {tm_ : List (Nat × PV)} {N_ lo_ n_ : Nat} {hp_ : List (Nat × Blk)}
theorem U.eqPN {t te t' : TypeId} {x y : Operand} {sz bytes : Nat} {z : Value} [ht : TyIs P t (.pointer te) sz bytes z] (hx : (evt tm_ x).un = .t (.v (.pointer none))) (hx_ : (evt tm_ x).okc True) (hy : (evt tm_ y).un = .t (.v (.pointer none))) (hy_ : (evt tm_ y).okc True) (hN : Nat.blt d N_ = true)
    (hK : TriL P ops l_ K ⟨(d, .t (.v (.bool true))) :: tm_, N_, hp_, lo_, n_⟩) : TriL P ops (⟨some d, .binOp .eql t x y t', ty, pos, af, none⟩ :: l_) K ⟨tm_, N_, hp_, lo_, n_⟩ :=
  .vo rfl rfl hN (PO.eqPN (s := ⟨tm_, N_, hp_, lo_, n_⟩) ⟨hx, hx_⟩ ⟨hy, hy_⟩).vo hK
theorem U.nePN {t te t' : TypeId} {x y : Operand} {sz bytes : Nat} {z : Value} [ht : TyIs P t (.pointer te) sz bytes z] (hx : (evt tm_ x).un = .t (.v (.pointer none))) (hx_ : (evt tm_ x).okc True) (hy : (evt tm_ y).un = .t (.v (.pointer none))) (hy_ : (evt tm_ y).okc True) (hN : Nat.blt d N_ = true)
    (hK : TriL P ops l_ K ⟨(d, .t (.v (.bool false))) :: tm_, N_, hp_, lo_, n_⟩) : TriL P ops (⟨some d, .binOp .neq t x y t', ty, pos, af, none⟩ :: l_) K ⟨tm_, N_, hp_, lo_, n_⟩ :=
  .vo rfl rfl hN (PO.nePN (s := ⟨tm_, N_, hp_, lo_, n_⟩) ⟨hx, hx_⟩ ⟨hy, hy_⟩).vo hK
theorem U.call4 {x y z q o : Operand} {f : FuncId} {ts : Array TypeId} {u v a c r : T} [hf : FnIs P f] (hx : evt tm_ x = .t (.v (.func (.func f) #[] #[]))) (hy : (evt tm_ y).toT = some u) (hz : (evt tm_ z).toT = some v) (hq : (evt tm_ q).toT = some a) (ho : (evt tm_ o).toT = some c) (hr : E.Pure P f [u, v, a, c] (.one (.t r))) (hN : Nat.blt d N_ = true)
    (hK : TriL P ops l_ K ⟨(d, .t r) :: tm_, N_, hp_, lo_, n_⟩) : TriL P ops (⟨some d, .call ⟨.value x, #[y, z, q, o], ts⟩, ty, pos, af, none⟩ :: l_) K ⟨tm_, N_, hp_, lo_, n_⟩ :=
  .cons rfl (.call (xs := [y, z, q, o]) (s1 := ⟨tm_, N_, hp_, lo_, n_⟩) hx rfl (.tree hy (.tree hz (.tree hq (.tree ho .nil)))) hr hN hK)
theorem U.callP4 {x y z q o : Operand} {f : FuncId} {ts : Array TypeId} {u v a c r1 r2 : T} [hf : FnIs P f] (hx : evt tm_ x = .t (.v (.func (.func f) #[] #[]))) (hy : (evt tm_ y).toT = some u) (hz : (evt tm_ z).toT = some v) (hq : (evt tm_ q).toT = some a) (ho : (evt tm_ o).toT = some c) (hr : E.Pure P f [u, v, a, c] (.tup [.t r1, .t r2])) (hN : Nat.blt d N_ = true)
    (hK : TriL P ops l_ K ⟨(d, .tup [.t r1, .t r2]) :: tm_, N_, hp_, lo_, n_⟩) : TriL P ops (⟨some d, .call ⟨.value x, #[y, z, q, o], ts⟩, ty, pos, af, none⟩ :: l_) K ⟨tm_, N_, hp_, lo_, n_⟩ :=
  .cons rfl (.call (xs := [y, z, q, o]) (s1 := ⟨tm_, N_, hp_, lo_, n_⟩) hx rfl (.tree hy (.tree hz (.tree hq (.tree ho .nil)))) hr hN hK)
theorem G.build {j_ g_ : Nat} {e_ want_ : Bool} {t : TypeId} {fs : Array Field} {pl : List (Nat × Nat)} {parts : List (Nat × Operand)} {sz bytes : Nat} {z : Value} {zs qs : List PV} {q : PV} [ht : TyIs P t (.struct fs) sz bytes z] [hpl : PlIs P t fs pl]
    (hz : (ofConst z).leaves = zs) (hzk : (ofConst z).known = true) (hq : fillP pl zs (parts.map fun x => (x.1, evt tm_ x.2)) = some qs) (hr : mkAgg qs = q) (hj_ : (ops[j_]?).bind (·.dst) = some g_) (hb_ : gval (evt tm_ (.tmp g_)) want_ = some e_) (hN : Nat.blt d N_ = true)
    (hK : TriL P ops l_ K ⟨(d, .cond e_ true q) :: tm_, N_, hp_, lo_, n_⟩) : TriL P ops (⟨some d, .build t parts.toArray, ty, pos, af, some (j_, want_)⟩ :: l_) K ⟨tm_, N_, hp_, lo_, n_⟩ :=
  .gvo rfl hj_ hb_ rfl hN (PO.vo (H := e_ = true) fun _ => PO.build (s := ⟨tm_, N_, hp_, lo_, n_⟩) hz hzk hq hr trivial) hK
end heads
end Go.Proofs.YtldelbknkkeniaaGreatDoor.E
