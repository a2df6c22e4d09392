/- The engine runs closed code: one operation that is no call of a function, whatever it does. -/
import Derived.Test.YtldelbknkkeniaaGreatDoorK28
import Derived.RangeFuncRecord
import Derived.LoopNIn
import Derived.OrdersIn
import Derived.TacticsIn
import Derived.RangeFuncLeaves
import Derived.Lib.Bytealg
import Derived.Lib.MakeNoZero
namespace Go.Proofs.YtldelbknkkeniaaGreatDoor.E
open Go Go.RowKit
set_option linter.unusedVariables false
set_option linter.unusedSimpArgs false
variable {P : Program}
noncomputable section
section
variable {E : Env P} {s : St} {hg : Nat → Option RB}
def on2R (tm : Tr PV) (x y : Operand) (f : PV → PV → Option OR) : Option OR := match evK tm x, evK tm y with
  | some p, some q => f p q
  | _, _ => none
theorem on2R_ok {tm : Tr PV} {n : Nat} {o : Oper} {x y : Operand} {f : PV → PV → Option OR} {r : OR} (K : Kn tm hg n o s) (hx : x ∈ o.op.operands.toList) (hy : y ∈ o.op.operands.toList) (h : on2R tm x y f = some r) :
    ∃ p q, f p q = some r ∧ EvH True s x p ∧ EvH True s y q ∧ s.ev x = p ∧ s.ev y = q ∧ q.known = true := by
  unfold on2R at h
  split at h
  · rename_i p q hp hq
    obtain ⟨a1, a2, a3⟩ := K.get hx hp
    obtain ⟨b1, b2, b3⟩ := K.get hy hq
    exact ⟨p, q, h, a3 _, b3 _, a1, b1, b2⟩
  · cases h
def kept (o : Oper) : Bool := match o.dst with
  | some _ => true
  | none => false
/-- A new row of bytes of which nothing is known. -/
def mkzR (y : MkE P) (tm : Tr PV) (n : Nat) (x : Operand) : Option OR := match evK tm x with
  | some (.t (.v (.int .i64 m))) => bif decide (0 ≤ m) && Nat.ble m.toNat 281474976710656 then some ⟨.ref n 1 0 m.toNat m.toNat, [(n, some (.c m.toNat .lf .undef (some y.e)))], n + 1⟩ else none
  | _ => none
theorem mkzR_ok {d ty : Nat} {pos : String} {af : Array Edge} {g : Option (Nat × Bool)} {y : MkE P} {tm : Tr PV} {n : Nat} {f : FuncId} {x : Operand} {ts : Array TypeId} {r : OR} (K : Kn tm hg n ⟨some d, .call ⟨.value (.func f), ⟨[x]⟩, ts⟩, ty, pos, af, g⟩ s) (hy : E.mkAt f = some y) (hN : Nat.blt d s.N = true) (h : mkzR y tm n x = some r) :
    TriO P ⟨some d, .call ⟨.value (.func f), ⟨[x]⟩, ts⟩, ty, pos, af, g⟩ (Is (s.aft (some d) r)) s := by
  unfold mkzR at h
  split at h
  · rename_i m hx
    obtain ⟨hc, h⟩ := bif_some h
    cases h
    simp only [Bool.and_eq_true, decide_eq_true_eq, Nat.ble_eq] at hc
    obtain ⟨a1, a2, a3⟩ := K.get (by simp [Op.operands, Call.operands]) hx
    refine TriO.newB (o := ⟨some d, .call ⟨.value (.func f), ⟨[x]⟩, ts⟩, ty, pos, af, g⟩) rfl hN K.n fun B0 w0 φ0 F0 F φ a w hs => ?_
    have hq := (evv trivial hs (a3 True)).1
    obtain ⟨cs, h1, h2⟩ := E.mkAt_ok hy hc.2 w
    have hm : ((m.toNat : Nat) : Int) = m := by omega
    rw [hm] at h1
    refine ⟨.slice (some ⟨w.heap.size, 0, none⟩) m.toNat cs.size, cs, y.e, w.drew.drew, .inr (.inr rfl), ?_, ⟨h2, fun t' e => (by cases e; rfl), fun i hi => ⟨cs[i]'(by omega), Array.getElem?_eq_getElem (by omega), .undef _⟩⟩, fun ψ hψ => .ref (B := w.heap.size) (sz := cs.size) (c := cs.size) hψ (Nat.le_refl _) h2 (by omega)⟩
    have hfv : a.eval (.func f) = .func (.func f) #[] #[] := rfl
    simp only [execOp, resolve, hfv, Deferred.ofValue, Sem.run_bind, Sem.run_pure, Result.andThen_ok, invoke, Array.append_empty, Array.empty_append, List.map_toArray, List.map_cons, List.map_nil, hq]
    exact h1
  · cases h
def opF (E : Env P) (tm : Tr PV) (hg : Nat → Option RB) (n : Nat) (k : Bool) : Op → Option OR
  | .alloc t => bif k then allocR E n t else none
  | .box t x => bif k then (match evK tm x with | some p => boxR n t p | none => none) else none
  | .store t x y => bif k then none else on2R tm x y (storeR E hg n t)
  | .buildSlice t len parts => bif k then (match partsV tm parts.toList with | some ps => litR E n t len ps | none => none) else none
  | .makeSlice t x y => bif k then on2R tm x y (makeR E n t) else none
  | .makeMap t r => bif k then mmapR n r else none
  | .mapUpdate t x y z | .insert t x y z => bif k then none else (match evK tm z with | some v => on2R tm x y (fun p q => updR E hg n t p q v) | none => none)
  | .call ⟨.builtin .append, ⟨[x, y]⟩, ⟨[t, tx]⟩⟩ => bif k then on2R tm x y (app2 E hg n t tx) else none
  | .call ⟨.builtin .copy, ⟨[x, y]⟩, ⟨[t, _]⟩⟩ => on2R tm x y (copyR E hg n t)
  | .call ⟨.builtin .delete, ⟨[x, y]⟩, ⟨[t, _]⟩⟩ => on2R tm x y (delR E hg n t)
  | .convert src dst x => bif k then (match evK tm x with | some p => (match conv2 E hg src dst p with | some q => some ⟨q, [], n⟩ | none => (s2bV E src dst p).map fun q => ⟨q, [], n⟩) | none => none) else none
  | .call ⟨.builtin .unsafeString, ⟨[x, y]⟩, ⟨[pt, it]⟩⟩ => bif k then on2R tm x y (usR E hg n pt) else none
  | .call ⟨.value (.func f), ⟨[x]⟩, ts⟩ => bif k then (match E.mkAt f with | some y => mkzR y tm n x | none => (valOp E tm hg (.call ⟨.value (.func f), ⟨[x]⟩, ts⟩)).map fun p => ⟨p, [], n⟩) else none
  | op => bif k then (valOp E tm hg op).map fun p => ⟨p, [], n⟩ else none
def opR (E : Env P) (tm : Tr PV) (hg : Nat → Option RB) (n : Nat) (o : Oper) : Option OR := opF E tm hg n (kept o) o.op
theorem opR_ok {tm : Tr PV} {n : Nat} {o : Oper} {r : OR} (K : Kn tm hg n o s) (hN : ∀ t, o.dst = some t → t < s.N) (h : opR E tm hg n o = some r) : TriO P o (Is (s.aft o.dst r)) s := by
  have hk : HK hg s := K.hp
  have hn := K.n
  obtain ⟨dst, op, ty, pos, af, g⟩ := o
  have hN' : ∀ d, dst = some d → Nat.blt d s.N = true := fun d hd => by simpa [Nat.blt_eq] using hN d hd
  have kd : ∀ {α : Type} {x : Option α} {q : α}, (bif kept ⟨dst, op, ty, pos, af, g⟩ then x else none) = some q → ∃ d, dst = some d ∧ x = some q := by
    intro α x q hq
    obtain ⟨h1, h2⟩ := bif_some hq
    cases dst with
    | none => cases h1
    | some d => exact ⟨d, rfl, h2⟩
  have kn : ∀ {α : Type} {x : Option α} {q : α}, (bif kept ⟨dst, op, ty, pos, af, g⟩ then none else x) = some q → dst = none ∧ x = some q := by
    intro α x q hq
    cases dst with
    | none => exact ⟨rfl, hq⟩
    | some d => cases hq
  change opF E tm hg n (kept ⟨dst, op, ty, pos, af, g⟩) op = some r at h
  unfold opF at h
  split at h
  · obtain ⟨d, rfl, h⟩ := kd h; exact allocR_ok hn (hN' d rfl) h
  · obtain ⟨d, rfl, h⟩ := kd h
    split at h
    · rename_i p hp
      obtain ⟨a1, a2, a3⟩ := K.get (by simp [Op.operands]) hp
      exact boxR_ok a1 a2 hn (hN' d rfl) h
    · cases h
  · obtain ⟨rfl, h⟩ := kn h
    obtain ⟨p, q, h1, h2, h3, h4, h5, h6⟩ := on2R_ok K (by simp [Op.operands]) (by simp [Op.operands]) h
    exact storeR_ok h4 h5 h6 hk hn h1
  · obtain ⟨d, rfl, h⟩ := kd h
    split at h
    · rename_i ps hps
      exact litR_ok K hps (hN' d rfl) h
    · cases h
  · obtain ⟨d, rfl, h⟩ := kd h
    obtain ⟨p, q, h1, h2, h3, h4, h5, h6⟩ := on2R_ok K (by simp [Op.operands]) (by simp [Op.operands]) h
    exact makeR_ok h2 h3 hn (hN' d rfl) h1
  · obtain ⟨d, rfl, h⟩ := kd h; exact mmapR_ok hn (hN' d rfl) h
  · obtain ⟨rfl, h⟩ := kn h
    split at h
    · rename_i v hv
      obtain ⟨a1, a2, a3⟩ := K.get (by simp [Op.operands]) hv
      obtain ⟨p, q, h1, h2, h3, h4, h5, h6⟩ := on2R_ok K (by simp [Op.operands]) (by simp [Op.operands]) h
      exact (updR_ok h2 h3 a1 hk hn h1).1
    · cases h
  · obtain ⟨rfl, h⟩ := kn h
    split at h
    · rename_i v hv
      obtain ⟨a1, a2, a3⟩ := K.get (by simp [Op.operands]) hv
      obtain ⟨p, q, h1, h2, h3, h4, h5, h6⟩ := on2R_ok K (by simp [Op.operands]) (by simp [Op.operands]) h
      exact (updR_ok h2 h3 a1 hk hn h1).2
    · cases h
  · obtain ⟨d, rfl, h⟩ := kd h
    obtain ⟨p, q, h1, h2, h3, h4, h5, h6⟩ := on2R_ok K (by simp [Op.operands, Call.operands]) (by simp [Op.operands, Call.operands]) h
    exact app2_ok h2 h3 h4 h5 hk hn (hN' d rfl) h1
  · obtain ⟨p, q, h1, h2, h3, h4, h5, h6⟩ := on2R_ok K (by simp [Op.operands, Call.operands]) (by simp [Op.operands, Call.operands]) h
    exact copyR_ok rfl h4 h5 hk hn hN h1
  · obtain ⟨p, q, h1, h2, h3, h4, h5, h6⟩ := on2R_ok K (by simp [Op.operands, Call.operands]) (by simp [Op.operands, Call.operands]) h
    exact delR_ok rfl h2 h3 hk hn hN h1
  · obtain ⟨d, rfl, h9⟩ := kd h
    clear h
    split at h9
    · rename_i p hp
      obtain ⟨a1, a2, a3⟩ := K.get (by simp [Op.operands]) hp
      split at h9
      · rename_i q hq
        cases h9
        exact TriO.val (o := ⟨some d, .convert _ _ _, ty, pos, af, g⟩) rfl (hN' d rfl) (conv2_ok (a3 _) hk hq) hn
      · rw [Option.map_eq_some_iff] at h9
        obtain ⟨q, hq, rfl⟩ := h9
        exact s2bV_ok (a3 _) hn (hN' d rfl) hq
    · cases h9
  · obtain ⟨d, rfl, h⟩ := kd h
    obtain ⟨p, q, h1, h2, h3, h4, h5, h6⟩ := on2R_ok K (by simp [Op.operands, Call.operands]) (by simp [Op.operands, Call.operands]) h
    exact usR_ok h2 h3 hk hn hN h1
  · obtain ⟨d, rfl, h9⟩ := kd h
    split at h9
    · rename_i y hy
      exact mkzR_ok K hy (hN' d rfl) h9
    · rw [Option.map_eq_some_iff] at h9
      obtain ⟨p, hp, rfl⟩ := h9
      exact TriO.val (o := ⟨some d, _, ty, pos, af, g⟩) rfl (hN' d rfl) (valOp_ok K hp) hn
  · obtain ⟨d, rfl, h9⟩ := kd h
    rw [Option.map_eq_some_iff] at h9
    obtain ⟨p, hp, rfl⟩ := h9
    exact TriO.val (o := ⟨some d, op, ty, pos, af, g⟩) rfl (hN' d rfl) (valOp_ok K hp) hn
end
end
end Go.Proofs.YtldelbknkkeniaaGreatDoor.E

/- The engine runs closed code: its state; guards. -/
namespace Go.Proofs.YtldelbknkkeniaaGreatDoor.E
open Go Go.RowKit
set_option linter.unusedVariables false
set_option linter.unusedSimpArgs false
variable {P : Program}
noncomputable section
/-- A number is reckoned before it is handed on. -/
def forceN {α : Type} (n : Nat) (f : Nat → α) : α := Nat.rec (motive := fun _ => α) (f 0) (fun k _ => f (Nat.succ k)) n
theorem forceN_eq {α : Type} (n : Nat) (f : Nat → α) : forceN n f = f n := by cases n <;> rfl
structure RS where
  tm : Tr PV
  heap : Tr RB
  n : Nat
  log : List Nat
def putT (d : Option Nat) (p : PV) (tm : Tr PV) : Tr PV := match d with
  | some d => tm.set d p
  | none => tm
def RS.aft (r : RS) (d : Option Nat) (x : OR) : RS := ⟨putT d x.p r.tm, putH r.heap x.u, x.n, x.u.map (·.1) ++ r.log⟩
structure Knows (r : RS) (s : St) : Prop where
  tm : ∀ i p, r.tm.get i = some p → look i s.tm = some p
  heap : ∀ b k, r.heap.get b = some k → look b s.heap = some k.blk
  n : s.n = r.n
theorem Knows.aft {r : RS} {s : St} (h : Knows r s) (d : Option Nat) (x : OR) : Knows (r.aft d x) (s.aft d x) := by
  refine ⟨fun i p hp => ?_, look_aftH x.u r.heap s.heap h.heap, rfl⟩
  cases d with
  | none => exact h.tm i p hp
  | some d =>
    simp only [RS.aft, putT, Tr.get_set] at hp
    simp only [St.aft, pushT, look]
    split at hp
    · cases hp; rename_i e; rw [if_pos e]
    · rename_i e; rw [if_neg e]; exact h.tm i p hp
theorem Knows.ev {r : RS} {s : St} (h : Knows r s) {x : Operand} {p : PV} (hp : evK r.tm x = some p) : s.ev x = p := by
  obtain ⟨h1, h2⟩ := evK_ok hp
  cases x with
  | tmp t =>
    simp only [evR] at h1
    cases hg : r.tm.get t with
    | none => rw [hg] at h1; simp at h1; subst h1; cases h2
    | some q =>
      rw [hg] at h1
      simp only [St.ev, evt, h.tm t q hg]
      exact h1
  | const v => exact h1
  | global g => exact h1
  | func f => exact h1
theorem Knows.kn {r : RS} {s : St} (h : Knows r s) (o : Oper) : Kn r.tm r.heap.get r.n o s := ⟨fun x _ p hp => h.ev hp, h.heap, h.n⟩
/-- Is a guarded operation carried out? -/
def guardR (ops : Array Oper) (tm : Tr PV) (o : Oper) : Option Bool := match o.guard with
  | none => some true
  | some (j, want) => match (ops[j]?).bind (·.dst) with
    | some g => match tm.get g with
      | some p => gval p want
      | none => none
    | none => none
def skipped (n : Nat) : OR := ⟨.cond false true (.t (.v (.bool false))), [], n⟩
def dstOK (o : Oper) (N : Nat) : Bool := match o.dst with
  | some d => Nat.blt d N
  | none => true
theorem dstOK_ok {o : Oper} {N : Nat} (h : dstOK o N = true) : ∀ t, o.dst = some t → t < N := by
  intro t ht
  unfold dstOK at h
  rw [ht] at h
  simpa [Nat.blt_eq] using h
/-- One operation behind another. -/
def Steps (P : Program) (ops : Array Oper) (o : Oper) (s s2 : St) : Prop := ∀ l K, TriL P ops l K s2 → TriL P ops (o :: l) K s
section
variable {ops : Array Oper} {o : Oper} {s : St} {tm : Tr PV}
/-- What the guard's temporary holds. -/
def GKn (ops : Array Oper) (tm : Tr PV) (o : Oper) (s : St) : Prop := ∀ j want g p, o.guard = some (j, want) → (ops[j]?).bind (·.dst) = some g → tm.get g = some p → s.ev (.tmp g) = p
theorem Steps.run {s2 : St} (hG : GKn ops tm o s) (hg : guardR ops tm o = some true) (h : TriO P o (Is s2) s) : Steps P ops o s s2 := by
  intro l K hK B0 w0 φ0 F0 F φ a w hs Q hQ
  have hdo : wpList P ops Q (o :: l) a w := by
    have key : Region.wanted o (yielded ops a.tmps) = true := by
      unfold guardR at hg
      split at hg
      · rename_i hn; simp [Region.wanted, hn]
      · rename_i j want hn
        split at hg
        · rename_i g hj
          split at hg
          · rename_i p hp
            have hv := hs.ev (.tmp g)
            rw [hG j want g p hn hj hp] at hv
            exact wanted_gval hn hj hv hg
          · cases hg
        · cases hg
    refine wpList_step (fun K' hK' => ?_)
    rw [if_pos key]
    refine h B0 w0 φ0 F0 F φ a w hs K' Q (fun s' F' φ' a' w' hk h1 h2 hs' => ?_)
    obtain rfl : s' = s2 := hk
    exact hK' _ _ (hK B0 w0 φ0 F0 F' φ' a' w' hs' Q (fun s3 F2 φ2 a2 w2 hk2 h12 h22 hs2 => hQ s3 F2 φ2 a2 w2 hk2 (h12.trans h1) (h22.trans h2) hs2))
  exact hdo
theorem Steps.skip {n : Nat} (hG : GKn ops tm o s) (hn : s.n = n) (hN : ∀ t, o.dst = some t → t < s.N) (hg : guardR ops tm o = some false) : Steps P ops o s (s.aft o.dst (skipped n)) := by
  subst hn
  intro l K hK B0 w0 φ0 F0 F φ a w hs Q hQ
  have key : Region.wanted o (yielded ops a.tmps) = false := by
    unfold guardR at hg
    split at hg
    · cases hg
    · rename_i j want hn
      split at hg
      · rename_i g hj
        split at hg
        · rename_i p hp
          have hv := hs.ev (.tmp g)
          rw [hG j want g p hn hj hp] at hv
          exact wanted_gval hn hj hv hg
        · cases hg
      · cases hg
  refine wpList_step (fun K' hK' => ?_)
  rw [if_neg (by simp [key])]
  apply hK'
  have hs2 : Sim B0 w0 φ0 F0 (s.aft o.dst (skipped s.n)) F φ (a.put o.dst undef) w := by
    unfold St.aft
    cases hd : o.dst with
    | none => exact hs
    | some d => exact hs.put (hN d hd) (.cond (fun h => by cases h) (fun _ => rfl))
  exact hK B0 w0 φ0 F0 F φ _ w hs2 Q hQ
end
section
variable {E : Env P}
/-- One operation that is no call, guarded or not. -/
def stepR (E : Env P) (ops : Array Oper) (tm : Tr PV) (hg : Nat → Option RB) (n : Nat) (o : Oper) : Option OR := match guardR ops tm o with
  | some true => opR E tm hg n o
  | some false => some (skipped n)
  | none => none
theorem stepR_ok {ops : Array Oper} {tm : Tr PV} {hg : Nat → Option RB} {n : Nat} {o : Oper} {s : St} {r : OR} (K : Kn tm hg n o s) (hG : GKn ops tm o s) (hN : ∀ t, o.dst = some t → t < s.N) (h : stepR E ops tm hg n o = some r) : Steps P ops o s (s.aft o.dst r) := by
  unfold stepR at h
  split at h
  · rename_i hg'
    exact .run hG hg' (opR_ok K hN h)
  · rename_i hg'
    cases h
    exact .skip hG K.n hN hg'
  · cases h
end
end
end Go.Proofs.YtldelbknkkeniaaGreatDoor.E

/- The engine runs closed code: what a function gives, how it is called. -/
namespace Go.Proofs.YtldelbknkkeniaaGreatDoor.E
open Go Go.RowKit
set_option linter.unusedVariables false
set_option linter.unusedSimpArgs false
variable {P : Program}
noncomputable section
section
variable {E : Env P} {s : St} {hg : Nat → Option RB}
/-- One result. -/
def resV (E : Env P) (tm : Tr PV) (hg : Nat → Option RB) : ResultVar → Option PV
  | .tmp t => evK tm (.tmp t)
  | .cell t ty => match evK tm (.tmp t) with
    | some (.ptr b o) => loadV E hg ty (.ptr b o)
    | _ => none
def ressV (E : Env P) (tm : Tr PV) (hg : Nat → Option RB) : List ResultVar → Option (List PV)
  | [] => some []
  | r :: l => match resV E tm hg r, ressV E tm hg l with
    | some p, some ps => some (p :: ps)
    | _, _ => none
def packP : List PV → PV
  | [p] => p
  | ps => .tup ps
theorem exec_load {t : TypeId} {x : Operand} {a : Act} {w : World} {v : Value} (h : (execOp a.eval ⟨some 0, .load t x, 0, "", #[], none⟩).run P w = .ok (.value v) w) : (Instr.loadAt t (a.eval x)).run P w = .ok v w := by
  simp only [execOp, Sem.run_bind] at h
  cases hr : (Instr.loadAt t (a.eval x)).run P w with
  | ok u w' =>
    rw [hr] at h
    simp only [Result.andThen_ok, Sem.run_pure, Result.ok.injEq, Next.value.injEq] at h
    obtain ⟨rfl, rfl⟩ := h
    rfl
  | halt => rw [hr] at h; simp [Result.andThen] at h
def resS (tmps : Array Value) : ResultVar → Sem Value
  | .tmp t => pure (tmps.getD t undef)
  | .cell a t => do loadVar t (← asAddr (tmps.getD a undef))
theorem resV_ok {r : RS} {v : ResultVar} {q : PV} (K : Knows r s) {B0 : Fr} {w0 : World} {φ0 : Phi} {F0 : FMem} {F : FMem} {φ : Phi} {a : Act} {w : World} (hs : Sim B0 w0 φ0 F0 s F φ a w) (h : resV E r.tm r.heap.get v = some q) : ∃ u, (resS a.tmps v).run P w = .ok u w ∧ VR F φ q u := by
  cases v with
  | tmp t => exact ⟨_, rfl, by have := hs.ev (.tmp t); rw [K.ev h] at this; exact this⟩
  | cell t ty =>
    simp only [resV] at h
    split at h
    · rename_i b o hp
      have hx := K.ev hp
      obtain ⟨v, h1, h2⟩ := loadV_ok (P := P) (d := 0) (ty := 0) (pos := "") (af := #[]) (g := none) (t := ty) (.of hx (evK_ok hp).2) K.heap h trivial B0 w0 φ0 F0 F φ a w hs
      refine ⟨v, ?_, h2⟩
      have hl := exec_load h1
      have hv := hs.ev (.tmp t)
      rw [hx] at hv
      generalize hq : a.eval (.tmp t) = pv at hv hl
      cases hv with
      | ptr hφ =>
        simp only [Act.eval] at hq
        simp only [resS, hq, asAddr, Sem.run_bind, Sem.run_pure, Result.andThen_ok]
        simpa [Instr.loadAt, Instr.sureAddr] using hl
    · cases h
theorem ressV_ok {r : RS} (K : Knows r s) {B0 : Fr} {w0 : World} {φ0 : Phi} {F0 : FMem} {F : FMem} {φ : Phi} {a : Act} {w : World} (hs : Sim B0 w0 φ0 F0 s F φ a w) : ∀ {l : List ResultVar} {ps : List PV}, ressV E r.tm r.heap.get l = some ps →
    ∃ us : List Value, (l.mapM (resS a.tmps)).run P w = .ok us w ∧ ps.length = us.length ∧ ∀ (i : Nat) (p : PV) (u : Value), ps[i]? = some p → us[i]? = some u → VR F φ p u
  | [], ps, h => by cases h; exact ⟨[], rfl, rfl, fun i p u h => by simp at h⟩
  | v :: l, ps, h => by
    simp only [ressV] at h
    split at h
    · rename_i p qs h1 h2
      cases h
      obtain ⟨u, a1, a2⟩ := resV_ok (P := P) K hs h1
      obtain ⟨us, b1, b2, b3⟩ := ressV_ok K hs h2
      refine ⟨u :: us, ?_, by simp [b2], fun i p u h1 h2 => ?_⟩
      · rw [List.mapM_cons]
        simp only [Sem.run_bind, a1, Result.andThen_ok, b1, Sem.run_pure]
      · cases i with
        | zero => simp at h1 h2; subst h1; subst h2; exact a2
        | succ i => exact b3 i p u (by simpa using h1) (by simpa using h2)
    · cases h
theorem results_ok {r : RS} (K : Knows r s) {B0 : Fr} {w0 : World} {φ0 : Phi} {F0 : FMem} {F : FMem} {φ : Phi} {a : Act} {w : World} (hs : Sim B0 w0 φ0 F0 s F φ a w) {fn : Func} {ps : List PV} (h : ressV E r.tm r.heap.get fn.results.toList = some ps) :
    ∃ v, (results fn a.tmps).run P w = .ok v w ∧ VR F φ (packP ps) v := by
  obtain ⟨us, h1, h2, h3⟩ := ressV_ok (P := P) K hs h
  refine ⟨if h : us.toArray.size = 1 then us.toArray[0] else .tuple us.toArray, ?_, ?_⟩
  · have e : results fn a.tmps = (do let vs ← fn.results.mapM (resS a.tmps); pure (if h : vs.size = 1 then vs[0] else .tuple vs)) := by
      unfold results
      congr 1
    rw [e, Array.mapM_eq_mapM_toList]
    simp only [Sem.run_bind, map_eq_pure_bind, h1, Result.andThen_ok, Sem.run_pure]
  · match ps, us, h2, h3 with
    | [], [], _, h3 => exact .tup rfl (fun i p u h => by simp at h)
    | [p], [u], _, h3 => exact h3 0 p u rfl rfl
    | p :: q :: ps, u :: v :: us, h2, h3 =>
      rw [dif_neg (by simp)]
      exact .tup (by simpa using h2) (fun i p u h4 h5 => h3 i p u h4 (by simpa using h5))
end
end
end Go.Proofs.YtldelbknkkeniaaGreatDoor.E

/- The engine runs closed code: calls. -/
namespace Go.Proofs.YtldelbknkkeniaaGreatDoor.E
open Go Go.RowKit
set_option linter.unusedVariables false
set_option linter.unusedSimpArgs false
variable {P : Program}
noncomputable section
/-- What the blocks are known to hold. -/
abbrev KH (h : Tr RB) (s : St) : Prop := ∀ b k, h.get b = some k → look b s.heap = some k.blk
/-- What is known of a frame. -/
abbrev Ctx := (Nat → Prop) → World → Phi → FMem → Nat → Prop
/-- What a call comes to, where something is known of its frame. -/
def CallSC (C : Ctx) (P : Program) (f : FuncId) (ps : List PV) (heap : Tr RB) (n : Nat) (p : PV) (heap' : Tr RB) (n' : Nat) : Prop :=
  ∀ s : St, KH heap s → s.n = n → ∀ B0 w0 φ0 F0 F φ a w, Sim B0 w0 φ0 F0 s F φ a w → C B0.b w φ F s.n → ∀ vs : Array Value, ps.length = vs.size → (∀ (i : Nat) (p : PV) (v : Value), ps[i]? = some p → vs[i]? = some v → VR F φ p v) →
    Calls P f vs w fun e w' => ∃ rv s' F' φ', e = .returned rv ∧ s'.tm = s.tm ∧ s'.N = s.N ∧ s'.lo = s.lo ∧ s'.n = n' ∧ KH heap' s' ∧ Sim B0 w0 φ0 F0 s' F' φ' a w' ∧ VR F' φ' p rv
/-- What a call comes to. -/
def CallS (P : Program) (f : FuncId) (ps : List PV) (heap : Tr RB) (n : Nat) (p : PV) (heap' : Tr RB) (n' : Nat) : Prop := CallSC (fun _ _ _ _ _ => True) P f ps heap n p heap' n'
def initP : Nat → List PV → List (Nat × PV)
  | _, [] => []
  | k, p :: ps => (k, p) :: initP (k + 1) ps
theorem look_initP : ∀ (ps : List PV) (k i : Nat), look i (initP k ps) = if k ≤ i then ps[i - k]? else none
  | [], k, i => by simp [initP, look]
  | p :: ps, k, i => by
    simp only [initP, look, look_initP ps (k + 1) i]
    by_cases h : i = k
    · subst h; simp
    · rw [if_neg h]
      by_cases h2 : k + 1 ≤ i
      · rw [if_pos h2, if_pos (by omega), show i - k = (i - (k + 1)) + 1 by omega, List.getElem?_cons_succ]
      · rw [if_neg h2, if_neg (by omega)]
def initR (ps : List PV) (heap : Tr RB) (n : Nat) : RS := ⟨Tr.lf.puts 0 ps, heap, n, []⟩
theorem initR_knows {ps : List PV} {heap : Tr RB} {n N lo : Nat} {s : St} (h : KH heap s) (hn : s.n = n) : Knows (initR ps heap n) ⟨initP 0 ps, N, s.heap, lo, s.n⟩ := by
  refine ⟨fun i p hp => ?_, h, hn⟩
  simp only [initR, Tr.puts_get] at hp
  rw [look_initP, if_pos (Nat.zero_le _)]
  split at hp
  · exact hp
  · cases hp
/-- One operation behind another: what is then. -/
def StepQ (P : Program) (ops : Array Oper) (o : Oper) (s : St) (Q : St → Prop) : Prop := ∀ l K, (∀ s2, Q s2 → TriL P ops l K s2) → TriL P ops (o :: l) K s
theorem Steps.q {ops : Array Oper} {o : Oper} {s s2 : St} {Q : St → Prop} (h : Steps P ops o s s2) (hQ : Q s2) : StepQ P ops o s Q := fun l K hK => h l K (hK s2 hQ)
/-- What is behind a call. -/
def Called (s : St) (d : Option Nat) (p : PV) (heap' : Tr RB) (n' : Nat) (s2 : St) : Prop := s2.tm = pushT d p s.tm ∧ s2.N = s.N ∧ s2.lo = s.lo ∧ s2.n = n' ∧ KH heap' s2
theorem StepQ.call {ops : Array Oper} {o : Oper} {s : St} {tm : Tr PV} {x : Operand} {xs : Array Operand} {ts : Array TypeId} {f : FuncId} {fs caps args : List PV} {heap heap' : Tr RB} {n n' : Nat} {p : PV} (hG : GKn ops tm o s) (hg : guardR ops tm o = some true) (ho : o.op = .call ⟨.value x, xs, ts⟩) (hf : FnIs P f)
    (hx : s.ev x = .fn f fs caps ∨ (s.ev x = .t (.v (.func (.func f) #[] #[])) ∧ fs = [] ∧ caps = [])) (hxs : xs.toList.map s.ev = args) (hk : KH heap s) (hn : s.n = n) (hN : ∀ t, o.dst = some t → t < s.N) (hc : CallS P f (fs ++ args ++ caps) heap n p heap' n') :
    StepQ P ops o s (Called s o.dst p heap' n') := by
  intro l K hK B0 w0 φ0 F0 F φ a w hs Q hQ
  have key : Region.wanted o (yielded ops a.tmps) = true := by
    unfold guardR at hg
    split at hg
    · rename_i hn; simp [Region.wanted, hn]
    · rename_i j want hn
      split at hg
      · rename_i g hj
        split at hg
        · rename_i p hp
          have hv := hs.ev (.tmp g)
          rw [hG j want g p hn hj hp] at hv
          exact wanted_gval hn hj hv hg
        · cases hg
      · cases hg
  refine wpList_step (fun K' hK' => ?_)
  rw [if_pos key]
  obtain ⟨ws, vs, hfv, g1, g2, g3, g4⟩ : ∃ ws vs : Array Value, a.eval x = .func (.func f) ws vs ∧ fs.length = ws.size ∧ caps.length = vs.size ∧ (∀ (i : Nat) (p : PV) (u : Value), fs[i]? = some p → ws[i]? = some u → VR F φ p u) ∧ (∀ (i : Nat) (p : PV) (u : Value), caps[i]? = some p → vs[i]? = some u → VR F φ p u) := by
    have hv := hs.ev x
    rcases hx with hx | ⟨hx, rfl, rfl⟩
    · rw [hx] at hv
      generalize a.eval x = u at hv
      cases hv with
      | @fn _ _ _ ws vs hm hf hn h => exact ⟨ws, vs, rfl, hm, hn, hf, h⟩
    · rw [hx] at hv
      exact ⟨#[], #[], vrv hv, rfl, rfl, fun i p u h => by simp at h, fun i p u h => by simp at h⟩
  obtain ⟨a1, a2⟩ := vrs_of hs xs
  rw [hxs] at a1 a2
  have hrun : (execOp a.eval o).run P w = .ok (.enter f (ws ++ xs.map a.eval ++ vs)) w := by
    simp [execOp, ho, resolve, hfv, Deferred.ofValue, invoke, callFunc_run hf]
  show o.wp P a w K' Q
  simp only [Oper.wp, hrun, Oper.upon]
  have hall : ∀ (i : Nat) (p : PV) (v : Value), (fs ++ args ++ caps)[i]? = some p → (ws ++ xs.map a.eval ++ vs)[i]? = some v → VR F φ p v := by
    intro i p v h1 h2
    rw [List.getElem?_append] at h1
    rw [Array.getElem?_append] at h2
    split at h1
    · rename_i hi
      rw [List.length_append] at hi
      rw [if_pos (by rw [Array.size_append]; omega)] at h2
      rw [List.getElem?_append] at h1
      rw [Array.getElem?_append] at h2
      split at h1
      · rename_i hj; rw [if_pos (by omega)] at h2; exact g3 i p v h1 h2
      · rename_i hj; rw [if_neg (by omega)] at h2; rw [← g1] at h2; exact a2 _ p v h1 h2
    · rename_i hi
      rw [List.length_append] at hi h1
      rw [if_neg (by rw [Array.size_append]; omega), Array.size_append, ← g1, ← a1] at h2
      exact g4 _ p v h1 h2
  refine (hc s hk hn B0 w0 φ0 F0 F φ a w hs trivial (ws ++ xs.map a.eval ++ vs) (by simp only [List.length_append, Array.size_append]; omega) hall).mono ?_
  rintro e w' ⟨rv, s', F', φ', rfl, q1, q2, q3, q4, q5, hs', hv⟩
  refine hK' _ _ (hK ⟨pushT o.dst p s'.tm, s'.N, s'.heap, s'.lo, s'.n⟩ ⟨by rw [q1], q2, q3, q4, q5⟩ B0 w0 φ0 F0 F' φ' _ w' ?_ Q (fun s3 F2 φ2 a2 w2 hk2 h12 h22 hs2 => hQ s3 F2 φ2 a2 w2 hk2 (h12.trans q3) (h22.trans q2) hs2))
  cases hd : o.dst with
  | none => exact hs'
  | some d => exact hs'.put (by rw [q2]; exact hN d hd) hv
end
end Go.Proofs.YtldelbknkkeniaaGreatDoor.E

/- The engine runs closed code: regions in order. -/
namespace Go.Proofs.YtldelbknkkeniaaGreatDoor.E
open Go Go.RowKit
set_option linter.unusedVariables false
set_option linter.unusedSimpArgs false
variable {P : Program}
noncomputable section
/-- What a call gives: a value, the blocks, how many, which are written. -/
structure CR where
  p : PV
  heap : Tr RB
  n : Nat
  log : List Nat
abbrev CallF := FuncId → List PV → Tr RB → Nat → Option CR
/-- What is not in the log is as it was. -/
def LogOK (n : Nat) (h h' : Tr RB) (log : List Nat) : Prop := ∀ b, b < n → b ∉ log → h'.get b = h.get b
def CallG (P : Program) (call : CallF) : Prop := ∀ f ps heap n x, call f ps heap n = some x → CallS P f ps heap n x.p x.heap x.n ∧ FnIs P f ∧ LogOK n heap x.heap x.log ∧ n ≤ x.n
theorem putH_get : ∀ (us : List (Nat × Option RB)) (h : Tr RB) (b : Nat), b ∉ us.map (·.1) → (putH h us).get b = h.get b
  | [], h, b, _ => rfl
  | (c, k) :: us, h, b, hb => by
    simp only [List.map_cons, List.mem_cons, not_or] at hb
    rw [putH, putH_get us _ b hb.2, Tr.get_put, if_neg hb.1]
/-- Which function is called with what. -/
def calleeR (tm : Tr PV) (x : Operand) (xs : Array Operand) : Option (FuncId × List PV) := match allK tm xs.toList with
  | some args => match evR tm x with
    | .t (.v (.func (.func f) ⟨[]⟩ ⟨[]⟩)) => some (f, args)
    | .fn f fs caps => some (f, fs ++ args ++ caps)
    | _ => none
  | none => none
theorem calleeR_ok {tm : Tr PV} {s : St} {x : Operand} {xs : Array Operand} (K : ∀ y, (y = x ∨ y ∈ xs.toList) → ∀ p, evK tm y = some p → s.ev y = p) {f : FuncId} {ps : List PV} (h : calleeR tm x xs = some (f, ps)) :
    ∃ fs args caps, ps = fs ++ args ++ caps ∧ xs.toList.map s.ev = args ∧ (s.ev x = .fn f fs caps ∨ (s.ev x = .t (.v (.func (.func f) #[] #[])) ∧ fs = [] ∧ caps = [])) := by
  unfold calleeR at h
  split at h
  · rename_i args ha
    have ha := allK_ok (s := s) (fun y hy p hp => K y (.inr hy) p hp) ha
    have hev : ∀ p, evR tm x = p → p.known = true → s.ev x = p := by
      intro p hp hk
      refine K x (.inl rfl) p ?_
      unfold evK
      rw [hp]
      cases p <;> first | rfl | cases hk
    split at h
    · rename_i g hg
      cases h
      exact ⟨[], _, [], by simp, ha, .inr ⟨hev _ hg rfl, rfl, rfl⟩⟩
    · rename_i g fs caps hg
      cases h
      exact ⟨fs, args, caps, rfl, ha, .inl (hev _ hg rfl)⟩
    · cases h
  · cases h
/-- One operation, a call or not. -/
inductive NX where
  | op (x : OR)
  | call (x : CR)
/-- A call that is an operation. -/
def isXop (E : Env P) : Op → Bool
  | .call ⟨.value (.func f), _, _⟩ => E.isX f
  | _ => false
def nextR (E : Env P) (call : CallF) (ops : Array Oper) (tm : Tr PV) (heap : Tr RB) (n : Nat) (o : Oper) : Option NX := bif isXop E o.op then (stepR E ops tm heap.get n o).map .op else match o.op with
  | .call ⟨.value x, xs, _⟩ => match guardR ops tm o with
    | some true => match calleeR tm x xs with
      | some (f, ps) => (call f ps heap n).map .call
      | none => none
    | some false => some (.op (skipped n))
    | none => none
  | _ => (stepR E ops tm heap.get n o).map .op
def RS.next (r : RS) (d : Option Nat) : NX → RS
  | .op x => r.aft d x
  | .call x => ⟨putT d x.p r.tm, x.heap, x.n, x.log ++ r.log⟩
/-- What is then. -/
def NextS (s : St) (d : Option Nat) : NX → St → Prop
  | .op x => Is (s.aft d x)
  | .call x => Called s d x.p x.heap x.n
theorem Knows.next {r : RS} {s s2 : St} (K : Knows r s) {d : Option Nat} {x : NX} (h : NextS s d x s2) : Knows (r.next d x) s2 ∧ s2.N = s.N := by
  cases x with
  | op x =>
    have h : s2 = s.aft d x := h
    subst h
    exact ⟨K.aft d x, rfl⟩
  | call x =>
    obtain ⟨h1, h2, h3, h4, h5⟩ := h
    refine ⟨⟨fun i p hp => ?_, h5, h4⟩, h2⟩
    rw [h1]
    cases d with
    | none => exact K.tm i p hp
    | some d =>
      simp only [RS.next, putT, Tr.get_set] at hp
      simp only [pushT, look]
      split at hp
      · cases hp; rename_i e; rw [if_pos e]
      · rename_i e; rw [if_neg e]; exact K.tm i p hp
theorem Knows.gkn {r : RS} {s : St} (K : Knows r s) (ops : Array Oper) (o : Oper) : GKn ops r.tm o s := by
  intro j want g p _ _ hp
  simp only [St.ev, evt, K.tm g p hp]
  rfl
section
variable {E : Env P} {call : CallF} {ops : Array Oper}
theorem nextR_ok (hc : CallG P call) {r : RS} {s : St} {o : Oper} (K : Kn r.tm r.heap.get r.n o s) (hG : GKn ops r.tm o s) {x : NX} (hN : ∀ t, o.dst = some t → t < s.N) (h : nextR E call ops r.tm r.heap r.n o = some x) : StepQ P ops o s (NextS s o.dst x) := by
  unfold nextR at h
  cases hxo : isXop E o.op with
  | true =>
    rw [hxo, cond_true, Option.map_eq_some_iff] at h
    obtain ⟨c, hcc, rfl⟩ := h
    exact (stepR_ok K hG hN hcc).q rfl
  | false =>
  rw [hxo, cond_false] at h
  split at h
  · rename_i y xs ts hop
    split at h
    · rename_i hg
      split at h
      · rename_i f ps hcal
        rw [Option.map_eq_some_iff] at h
        obtain ⟨c, hcc, rfl⟩ := h
        obtain ⟨c1, c2, c3⟩ := hc _ _ _ _ _ hcc
        obtain ⟨fs, args, caps, rfl, a1, a2⟩ := calleeR_ok (s := s) (fun z hz p hp => K.ev z (by rw [hop]; rcases hz with rfl | hz <;> simp_all [Op.operands, Call.operands]) p hp) hcal
        exact StepQ.call hG hg hop c2 a2 a1 K.hp K.n hN c1
      · cases h
    · rename_i hg
      cases h
      exact (Steps.skip hG K.n hN hg).q rfl
    · cases h
  · rw [Option.map_eq_some_iff] at h
    obtain ⟨c, hcc, rfl⟩ := h
    exact (stepR_ok K hG hN hcc).q rfl
def Logs (r r' : RS) : Prop := r.n ≤ r'.n ∧ ∃ l, r'.log = l ++ r.log ∧ LogOK r.n r.heap r'.heap l
theorem Logs.refl (r : RS) : Logs r r := ⟨Nat.le_refl _, [], rfl, fun _ _ _ => rfl⟩
theorem Logs.trans {r r' r'' : RS} (h : Logs r r') (k : Logs r' r'') : Logs r r'' := by
  obtain ⟨h0, l, h1, h2⟩ := h
  obtain ⟨k0, m, k1, k2⟩ := k
  refine ⟨Nat.le_trans h0 k0, m ++ l, by rw [k1, h1, List.append_assoc], fun b hn hb => ?_⟩
  simp only [List.mem_append, not_or] at hb
  rw [k2 b (Nat.lt_of_lt_of_le hn h0) hb.1, h2 b hn hb.2]
def NX.n : NX → Nat
  | .op x => x.n
  | .call x => x.n
theorem nextR_log (hc : CallG P call) {r : RS} {o : Oper} {x : NX} (h : nextR E call ops r.tm r.heap r.n o = some x) (hn : Nat.ble r.n x.n = true) : Logs r (r.next o.dst x) := by
  have hn := Nat.le_of_ble_eq_true hn
  cases x with
  | op x => exact ⟨hn, x.u.map (·.1), rfl, fun b _ hb => putH_get x.u r.heap b hb⟩
  | call x =>
    refine ⟨hn, x.log, rfl, ?_⟩
    unfold nextR at h
    cases hxo : isXop E o.op with
    | true =>
      rw [hxo, cond_true, Option.map_eq_some_iff] at h
      obtain ⟨c, hcc, e⟩ := h
      cases e
    | false =>
    rw [hxo, cond_false] at h
    split at h
    · split at h
      · split at h
        · rw [Option.map_eq_some_iff] at h
          obtain ⟨c, hcc, e⟩ := h
          cases e
          exact (hc _ _ _ _ _ hcc).2.2.1
        · cases h
      · cases h
      · cases h
    · rw [Option.map_eq_some_iff] at h
      obtain ⟨c, hcc, e⟩ := h
      cases e
end
end
end Go.Proofs.YtldelbknkkeniaaGreatDoor.E

/- The engine runs closed code: regions whose order is free. -/
namespace Go.Proofs.YtldelbknkkeniaaGreatDoor.E
open Go Go.RowKit
set_option linter.unusedVariables false
set_option linter.unusedSimpArgs false
variable {P : Program}
noncomputable section
/-! ### what is pointed to -/
mutual
def PV.ids : PV → List Nat
  | .ref b _ _ _ _ => [b]
  | .ptr b _ => [b]
  | .rptr b _ _ _ => [b]
  | .mp b => [b]
  | .yl b => [b]
  | .agg ps => PV.idss ps
  | .tup ps => PV.idss ps
  | .fn _ fs ps => PV.idss fs ++ PV.idss ps
  | .ifc _ p => PV.ids p
  | .cond _ _ p => PV.ids p
  | _ => []
def PV.idss : List PV → List Nat
  | [] => []
  | p :: ps => PV.ids p ++ PV.idss ps
end
/-! ### blocks know no numbers that are not there -/
def Tr.ltv (n : Nat) : Tr PV → Bool
  | .lf => true
  | .nd x l r => (match x with | some p => PV.lt n p | none => true) && l.ltv n && r.ltv n
theorem Tr.ltv_get {n : Nat} : ∀ {t : Tr PV} {k : Nat} {p : PV}, t.ltv n = true → t.get k = some p → PV.lt n p = true
  | .lf, k, p, _, h => by cases h
  | .nd x l r, 0, p, h, hk => by
    simp only [Tr.ltv, Bool.and_eq_true] at h
    rw [Tr.get_nd0] at hk
    subst hk; exact h.1.1
  | .nd x l r, k + 1, p, h, hk => by
    simp only [Tr.ltv, Bool.and_eq_true] at h
    rw [Tr.get_nd1] at hk
    split at hk
    · exact Tr.ltv_get h.1.2 hk
    · exact Tr.ltv_get h.2 hk
def RB.lt (n : Nat) : RB → Bool
  | .c _ cs dv _ => cs.ltv n && PV.lt n dv
  | .m es => es.all fun x => PV.lt n x.2
theorem RB.lt_ok {n : Nat} {k : RB} (h : k.lt n = true) : Blk.lt n k.blk = true := by
  cases k with
  | c sz cs dv ty =>
    simp only [RB.lt, Bool.and_eq_true] at h
    refine lts_of fun i p hp => ?_
    rw [Tr.gets_get] at hp
    split at hp
    · cases hp
      cases hg : cs.get (0 + i) with
      | none => exact h.2
      | some q => exact Tr.ltv_get h.1 hg
    · cases hp
  | m es =>
    simp only [RB.lt, List.all_eq_true] at h
    refine lts_of fun i p hp => ?_
    rw [List.getElem?_map, Option.map_eq_some_iff] at hp
    obtain ⟨x, hx, rfl⟩ := hp
    exact h x (List.mem_of_getElem? hx)
/-! ### updates -/
def lastU : List (Nat × Option RB) → Nat → Option (Option RB)
  | [], _ => none
  | (c, k) :: us, b => match lastU us b with
    | some x => some x
    | none => if b = c then some k else none
theorem putH_last : ∀ (us : List (Nat × Option RB)) (h : Tr RB) (b : Nat), (putH h us).get b = match lastU us b with | some k => k | none => h.get b
  | [], _, _ => rfl
  | (c, k) :: us, h, b => by
    simp only [putH, lastU, putH_last us, Tr.get_put]
    cases lastU us b with
    | some x => rfl
    | none =>
      by_cases e : b = c
      · simp only [if_pos e]
      · simp only [if_neg e]
theorem aftH_last : ∀ (us : List (Nat × Option RB)) (h : List (Nat × Blk)) (b : Nat), look b (aftH us h) = match lastU us b with | some (some k) => some k.blk | some none => none | none => look b h
  | [], _, _ => rfl
  | (c, some k) :: us, h, b => by
    simp only [aftH, lastU, aftH_last us, look]
    cases lastU us b with
    | some x => cases x <;> rfl
    | none =>
      by_cases e : b = c
      · simp only [if_pos e]
      · simp only [if_neg e]
  | (c, none) :: us, h, b => by
    simp only [aftH, lastU, aftH_last us, look_wipe]
    cases lastU us b with
    | some x => cases x <;> rfl
    | none =>
      by_cases e : b = c
      · simp only [if_pos e]
      · simp only [if_neg e]
theorem lastU_some : ∀ {us : List (Nat × Option RB)} {b : Nat} {k : Option RB}, lastU us b = some k → (b, k) ∈ us
  | (c, k') :: us, b, k, h => by
    simp only [lastU] at h
    split at h
    · rename_i x hx; cases h; exact List.mem_cons_of_mem _ (lastU_some hx)
    · split at h
      · rename_i e; cases h; subst e; exact List.mem_cons_self
      · cases h
theorem lastU_mem {us : List (Nat × Option RB)} {b : Nat} {k : Option RB} (h : lastU us b = some k) : b ∈ us.map (·.1) := List.mem_map.2 ⟨(b, k), lastU_some h, rfl⟩
theorem lastU_none : ∀ {us : List (Nat × Option RB)} {b : Nat}, lastU us b = none → b ∉ us.map (·.1)
  | [], b, _ => by simp
  | (c, k') :: us, b, h => by
    simp only [lastU] at h
    split at h
    · cases h
    · rename_i hx
      split at h
      · cases h
      · rename_i e
        simp only [List.map_cons, List.mem_cons, not_or]
        exact ⟨e, lastU_none hx⟩
/-- What one operation does where the order is free. -/
structure FX where
  p : PV
  u : List (Nat × Option RB)
  n : Nat
  neg : Bool
  rd : List Nat
def FX.w (x : FX) (n : Nat) : List Nat := (x.u.map (·.1)).filter fun b => Nat.blt b n
def FX.xe (x : FX) (n : Nat) : XE := ⟨x.p, x.neg, x.rd, x.w n, aftH x.u [], x.n⟩
def FX.ok (x : FX) (n : Nat) : Bool := Nat.ble n x.n && PV.lt x.n x.p && x.u.all fun y => Nat.blt y.1 x.n && (match y.2 with | some k => k.lt x.n | none => true)
theorem FX.mem_w {x : FX} {n b : Nat} : b ∈ x.w n ↔ b ∈ x.u.map (·.1) ∧ b < n := by
  simp only [FX.w, List.mem_filter, Nat.blt_eq]
theorem FX.has {x : FX} {n b : Nat} (h : x.ok n = true) (hb : b ∈ x.u.map (·.1)) : (x.xe n).Has n b ∧ b < x.n := by
  simp only [FX.ok, Bool.and_eq_true, List.all_eq_true, Nat.blt_eq] at h
  obtain ⟨y, hy, rfl⟩ := List.mem_map.1 hb
  have := (h.2 y hy).1
  refine ⟨?_, this⟩
  rcases Nat.lt_or_ge y.1 n with q | q
  · exact .inl (FX.mem_w.2 ⟨hb, q⟩)
  · exact .inr ⟨q, this⟩
theorem FX.xok {x : FX} {n : Nat} (h : x.ok n = true) : XOK (x.xe n) n := by
  have h0 := h
  simp only [FX.ok, Bool.and_eq_true, List.all_eq_true, Nat.blt_eq, Nat.ble_eq] at h0
  obtain ⟨⟨h1, h2⟩, h3⟩ := h0
  refine ⟨h1, fun b hb => (FX.mem_w.1 hb).2, fun b k hk => ?_, h2⟩
  have hk : look b (aftH x.u []) = some k := hk
  rw [aftH_last] at hk
  cases hl : lastU x.u b with
  | none => rw [hl] at hk; cases hk
  | some y =>
    rw [hl] at hk
    cases y with
    | none => cases hk
    | some kb =>
      cases hk
      have hm := lastU_some hl
      refine ⟨(FX.has h (List.mem_map_of_mem (f := (·.1)) hm)).1, RB.lt_ok (h3 _ hm).2⟩
/-- The blocks are these, and no others. -/
structure EX (h : Tr RB) (hp : List (Nat × Blk)) (n : Nat) : Prop where
  to : ∀ b k, h.get b = some k → look b hp = some k.blk
  of : ∀ b k, look b hp = some k → b < n ∧ ∃ kb, h.get b = some kb ∧ kb.blk = k
theorem EX.step {h : Tr RB} {hp : List (Nat × Blk)} {n : Nat} (H : EX h hp n) {x : FX} (hx : x.ok n = true) : EX (putH h x.u) ((x.xe n).hp hp) x.n := by
  have hle : n ≤ x.n := by simp only [FX.ok, Bool.and_eq_true, Nat.ble_eq] at hx; exact hx.1.1
  have key : ∀ b, look b ((x.xe n).hp hp) = match lastU x.u b with | some (some k) => some k.blk | some none => none | none => look b hp := fun b => by
    simp only [XE.hp, FX.xe, look_append, look_rest]
    rw [aftH_last]
    cases hl : lastU x.u b with
    | none =>
      have : (x.w n).contains b = false := by
        cases e : (x.w n).contains b with
        | false => rfl
        | true => exact absurd (FX.mem_w.1 (by simpa using e)).1 (lastU_none hl)
      simp only [look, Option.none_or, this]
      simp
    | some y =>
      have hm := lastU_mem hl
      cases y with
      | some kb => rfl
      | none =>
        simp only [Option.none_or]
        rcases Nat.lt_or_ge b n with q | q
        · have : (x.w n).contains b = true := by simpa using FX.mem_w.2 ⟨hm, q⟩
          rw [if_pos this]
        · split
          · rfl
          · cases hb : look b hp with
            | none => rfl
            | some k => exact absurd (H.of b k hb).1 (by omega)
  refine ⟨fun b k hk => ?_, fun b k hk => ?_⟩
  · rw [key]
    rw [putH_last] at hk
    cases hl : lastU x.u b with
    | none => rw [hl] at hk; exact H.to b k hk
    | some y => rw [hl] at hk; simp only at hk; subst hk; rfl
  · rw [key] at hk
    rw [putH_last]
    cases hl : lastU x.u b with
    | none =>
      rw [hl] at hk
      obtain ⟨q1, q2⟩ := H.of b k hk
      exact ⟨by omega, q2⟩
    | some y =>
      rw [hl] at hk
      cases y with
      | none => cases hk
      | some kb => cases hk; exact ⟨(FX.has hx (lastU_mem hl)).2, kb, rfl, rfl⟩
/-- Apart from those before it whose order is free. -/
def apartC (A : List (List Nat)) (past : List (Nat × XE × Nat)) (i : Nat) (e : XE) : Bool := past.all fun x => bif meets x.2.1 x.2.2 e then cmpB A x.1 i else true
theorem apartC_ok {A : List (List Nat)} {past : List (Nat × XE × Nat)} {i : Nat} {e : XE} (h : apartC A past i e = true) : apartB A past i e = true := by
  simp only [apartC, apartB, List.all_eq_true] at h ⊢
  intro x hx
  have := h x hx
  cases hm : meets x.2.1 x.2.2 e with
  | true => rw [hm] at this; simp only [cond_true] at this; simp [this]
  | false => simp
/-- What others whose order is free have written. -/
def exOf (A : List (List Nat)) (i : Nat) : List (Nat × XE × Nat) → List Nat
  | [] => []
  | x :: l => bif cmpB A x.1 i then exOf A i l else x.2.1.w ++ List.range' x.2.2 (x.2.1.n' - x.2.2) ++ exOf A i l
def delsH (h : Tr RB) : List Nat → Tr RB
  | [] => h
  | b :: l => delsH (h.del b) l
theorem delsH_get : ∀ (l : List Nat) (h : Tr RB) (b : Nat), (delsH h l).get b = if b ∈ l then none else h.get b
  | [], _, _ => by simp [delsH]
  | c :: l, h, b => by
    rw [delsH, delsH_get l, Tr.get_del]
    by_cases e : b ∈ l
    · rw [if_pos e, if_pos (List.mem_cons_of_mem _ e)]
    · rw [if_neg e]
      by_cases e2 : b = c
      · rw [if_pos e2, if_pos (by rw [e2]; exact List.mem_cons_self)]
      · rw [if_neg e2, if_neg (by simp [e, e2])]
def newU (h : Tr RB) : Nat → Nat → List (Nat × Option RB)
  | _, 0 => []
  | b, m + 1 => match h.get b with
    | some k => (b, some k) :: newU h (b + 1) m
    | none => newU h (b + 1) m
theorem newU_mem : ∀ {m : Nat} {h : Tr RB} {b c : Nat} {k : Option RB}, (c, k) ∈ newU h b m → b ≤ c ∧ h.get c = k
  | m + 1, h, b, c, k, hm => by
    simp only [newU] at hm
    split at hm
    · rename_i k' hk'
      rcases List.mem_cons.1 hm with e | hm
      · cases e; exact ⟨Nat.le_refl _, hk'⟩
      · obtain ⟨h1, h2⟩ := newU_mem hm; exact ⟨by omega, h2⟩
    · obtain ⟨h1, h2⟩ := newU_mem hm; exact ⟨by omega, h2⟩
/-- Each number once, and below. -/
def uniqB (n : Nat) : List Nat → List Nat → List Nat
  | acc, [] => acc
  | acc, b :: l => bif Nat.blt b n then (bif acc.contains b then uniqB n acc l else uniqB n (b :: acc) l) else uniqB n acc l
theorem uniqB_mem {n : Nat} : ∀ {l acc : List Nat} {b : Nat}, b < n → (b ∈ l ∨ b ∈ acc) → b ∈ uniqB n acc l
  | [], acc, b, hb, h => by
    rcases h with h | h
    · cases h
    · exact h
  | c :: l, acc, b, hb, h => by
    simp only [uniqB]
    cases h1 : Nat.blt c n with
    | false =>
      simp only [cond_false]
      refine uniqB_mem hb ?_
      rcases h with h | h
      · rcases List.mem_cons.1 h with e | h
        · subst e; rw [← Nat.blt_eq, h1] at hb; cases hb
        · exact .inl h
      · exact .inr h
    | true =>
      simp only [cond_true]
      cases h2 : acc.contains c with
      | true =>
        simp only [cond_true]
        refine uniqB_mem hb ?_
        rcases h with h | h
        · rcases List.mem_cons.1 h with e | h
          · subst e; exact .inr (by simpa using h2)
          · exact .inl h
        · exact .inr h
      | false =>
        simp only [cond_false]
        refine uniqB_mem hb ?_
        rcases h with h | h
        · rcases List.mem_cons.1 h with e | h
          · subst e; exact .inr List.mem_cons_self
          · exact .inl h
        · exact .inr (List.mem_cons_of_mem _ h)
def callU (n : Nat) (c : CR) : List (Nat × Option RB) := (uniqB n [] c.log).map (fun b => (b, c.heap.get b)) ++ newU c.heap n (c.n - n)
theorem callU_mem {n : Nat} {c : CR} {b : Nat} {k : Option RB} (h : (b, k) ∈ callU n c) : c.heap.get b = k := by
  rcases List.mem_append.1 h with h | h
  · obtain ⟨x, _, e⟩ := List.mem_map.1 h
    cases e; rfl
  · exact (newU_mem h).2
theorem callU_not {n : Nat} {c : CR} {b : Nat} (hb : b < n) (h : b ∉ (callU n c).map (·.1)) : b ∉ c.log := by
  intro hl
  refine h (List.mem_map.2 ⟨(b, c.heap.get b), ?_, rfl⟩)
  exact List.mem_append.2 (.inl (List.mem_map.2 ⟨b, uniqB_mem hb (.inl hl), rfl⟩))
theorem look_selM {tm : List (Nat × PV)} : ∀ {l : List Nat} {t : Nat}, t ∈ l → look t (l.map fun t => (t, (look t tm).getD .undef)) = some ((look t tm).getD .undef)
  | u :: l, t, h => by
    simp only [List.map_cons, look]
    by_cases e : t = u
    · subst e; rw [if_pos rfl]
    · rw [if_neg e]
      rcases List.mem_cons.1 h with h | h
      · exact absurd h e
      · exact look_selM h
section
variable {E : Env P} {call : CallF} {ops : Array Oper}
def opIds (tm : Tr PV) (o : Oper) : List Nat := match o.op with
  | .move _ | .assign _ | .pick _ _ _ | .alloc _ | .box _ _ | .build _ _ | .buildSlice _ _ _ | .makeSlice _ _ _ | .makeMap _ _ | .nilCheck _ | .unOp _ _ _ | .fieldAddr _ _ _ | .field _ _ _ | .indexAddr _ _ _ | .index _ _ _ | .extract _ _ | .makeFunc _ _ _ => []
  | .slice _ x _ _ _ => match evR tm x with
    | .ptr b _ => [b]
    | _ => []
  | .store _ x _ => (evR tm x).ids
  | .mapUpdate _ x _ _ | .insert _ x _ _ => (evR tm x).ids
  | op => op.operands.toList.flatMap fun y => (evR tm y).ids
def freeX (E : Env P) (call : CallF) (ops : Array Oper) (A : List (List Nat)) (past : List (Nat × XE × Nat)) (i : Nat) (r : RS) (o : Oper) : Option FX := match (bif isXop E o.op then .move (.const (.int .i64 0)) else o.op) with
  | .call ⟨.value x, xs, _⟩ => match guardR ops r.tm o with
    | some true => match calleeR r.tm x xs with
      | some (f, ps) => match call f ps (delsH r.heap (exOf A i past)) r.n with
        | some c => some ⟨c.p, callU r.n c, c.n, true, exOf A i past⟩
        | none => none
      | none => none
    | some false => some ⟨(skipped r.n).p, [], r.n, false, []⟩
    | none => none
  | _ => match stepR E ops r.tm (fun b => bif (opIds r.tm o).contains b then r.heap.get b else none) r.n o with
    | some x => some ⟨x.p, x.u, x.n, false, opIds r.tm o⟩
    | none => none
/-- What is looked at is known. -/
theorem sel_ev {tm : Tr PV} {tml : List (Nat × PV)} {o : Oper} (ht : ∀ i p, tm.get i = some p → look i tml = some p) {x : Operand} (hx : x ∈ o.op.operands.toList) {p : PV} (hp : evK tm x = some p) : evt (sel ops o tml) x = p := by
  obtain ⟨h1, h2⟩ := evK_ok hp
  cases x with
  | tmp t =>
    simp only [evR] at h1
    cases hg : tm.get t with
    | none => rw [hg] at h1; simp at h1; subst h1; cases h2
    | some q =>
      rw [hg] at h1
      have hm : t ∈ looksOf ops o := List.mem_append.2 (.inl (List.mem_filterMap.2 ⟨_, hx, rfl⟩))
      simp only [evt, sel, look_selM hm, ht t q hg]
      exact h1
  | const v => exact h1
  | global g => exact h1
  | func f => exact h1
theorem sel_gkn {tm : Tr PV} {tml : List (Nat × PV)} {o : Oper} (ht : ∀ i p, tm.get i = some p → look i tml = some p) {N lo n : Nat} {hp : List (Nat × Blk)} : GKn ops tm o ⟨sel ops o tml, N, hp, lo, n⟩ := by
  intro j want g p hg hj hp
  have hm : g ∈ looksOf ops o := by
    refine List.mem_append.2 (.inr ?_)
    have : dstOf ops j = some g := by
      unfold dstOf
      cases ho : ops[j]? with
      | none => rw [ho] at hj; cases hj
      | some o' => rw [ho] at hj; exact hj
    rw [hg]
    simp only [this, List.mem_singleton]
  simp only [St.ev, evt, sel, look_selM hm, ht g p hp]
  rfl
theorem freeX_ok (hc : CallG P call) {A : List (List Nat)} {past : List (Nat × XE × Nat)} {i : Nat} {r : RS} {o : Oper} {x : FX} {tm : List (Nat × PV)} {hp : List (Nat × Blk)} {N n : Nat} (ht : ∀ i p, r.tm.get i = some p → look i tm = some p) (H : EX r.heap hp n) (hn : r.n = n) (hN : ∀ t, o.dst = some t → t < N)
    (h : freeX E call ops A past i r o = some x) (hok : x.ok n = true) : OneX P ops o (x.xe n) tm N hp n := by
  subst hn
  have hG : ∀ hp, GKn ops r.tm o ⟨sel ops o tm, N, hp, r.n, r.n⟩ := fun hp => sel_gkn ht
  have plain : ∀ y : OR, stepR E ops r.tm (fun b => bif (opIds r.tm o).contains b then r.heap.get b else none) r.n o = some y → x = ⟨y.p, y.u, y.n, false, opIds r.tm o⟩ → OneX P ops o (x.xe r.n) tm N hp r.n := by
    rintro y hy rfl
    have hs := stepR_ok (s := ⟨sel ops o tm, N, ((⟨y.p, y.u, y.n, false, opIds r.tm o⟩ : FX).xe r.n).part hp, r.n, r.n⟩) ⟨fun z hz p hp => sel_ev ht hz hp, fun b k hk => ?_, rfl⟩ (hG _) hN hy
    refine hs [] _ (TriL.nil ⟨fun d hd => ?_, fun b k hk => ?_, fun b k ha hw hk => ?_, Nat.le_refl _⟩)
    · simp only [St.aft, hd, pushT, look, if_true, FX.xe]
    · have hk : look b (aftH y.u []) = some k := hk
      simp only [St.aft]
      rw [aftH_last] at hk ⊢
      cases hl : lastU y.u b with
      | none => rw [hl] at hk; cases hk
      | some z => rw [hl] at hk; cases z <;> exact hk
    · simp only [St.aft]
      rw [aftH_last]
      cases hl : lastU y.u b with
      | none => rw [XE.look_part, if_pos ha]; exact hk
      | some z =>
        have hm := lastU_mem hl
        have : b ∈ FX.w ⟨y.p, y.u, y.n, false, opIds r.tm o⟩ r.n := FX.mem_w.2 ⟨hm, (H.of b k hk).1⟩
        rw [show (FX.xe ⟨y.p, y.u, y.n, false, opIds r.tm o⟩ r.n).w = FX.w ⟨y.p, y.u, y.n, false, opIds r.tm o⟩ r.n from rfl] at hw
        simp [this] at hw
    · obtain ⟨h1, h2⟩ := (show (opIds r.tm o).contains b = true ∧ r.heap.get b = some k by
        cases e : (opIds r.tm o).contains b with
        | true => rw [e] at hk; exact ⟨rfl, hk⟩
        | false => rw [e] at hk; cases hk)
      rw [XE.look_part, if_pos (by simp only [XE.acc, FX.xe, cond_false, h1, Bool.true_or])]
      exact H.to b k h2
  unfold freeX at h
  split at h
  · rename_i y xs ts hop
    have hop : o.op = .call ⟨.value y, xs, ts⟩ := by
      cases hxo : isXop E o.op with
      | true => rw [hxo] at hop; cases hop
      | false => rw [hxo] at hop; exact hop
    split at h
    · rename_i hg
      split at h
      · rename_i f ps hcal
        split at h
        · rename_i c hcc
          cases h
          obtain ⟨c1, c2, c3, c4⟩ := hc _ _ _ _ _ hcc
          obtain ⟨fs, args, caps, rfl, a1, a2⟩ := calleeR_ok (s := ⟨sel ops o tm, N, ((⟨c.p, callU r.n c, c.n, true, exOf A i past⟩ : FX).xe r.n).part hp, r.n, r.n⟩) (fun z hz p hp => sel_ev ht (by rw [hop]; rcases hz with rfl | hz <;> simp_all [Op.operands, Call.operands]) hp) hcal
          have hkh : KH (delsH r.heap (exOf A i past)) ⟨sel ops o tm, N, ((⟨c.p, callU r.n c, c.n, true, exOf A i past⟩ : FX).xe r.n).part hp, r.n, r.n⟩ := by
            intro b k hk
            rw [delsH_get] at hk
            split at hk
            · cases hk
            · rename_i hb
              rw [XE.look_part, if_pos (by simp [XE.acc, FX.xe, hb])]
              exact H.to b k hk
          refine StepQ.call (hG _) hg hop c2 a2 a1 hkh rfl hN c1 [] _ fun s2 ⟨q1, q2, q3, q4, q5⟩ => TriL.nil ⟨fun d hd => ?_, fun b k hk => ?_, fun b k ha hw hk => ?_, Nat.le_of_eq q4⟩
          · rw [q1]; simp only [hd, pushT, look, if_true, FX.xe]
          · have hk : look b (aftH (callU r.n c) []) = some k := hk
            rw [aftH_last] at hk
            cases hl : lastU (callU r.n c) b with
            | none => rw [hl] at hk; cases hk
            | some z =>
              rw [hl] at hk
              cases z with
              | none => cases hk
              | some kb =>
                cases hk
                exact q5 b kb (callU_mem (lastU_some hl))
          · obtain ⟨g1, kb, g2, g3⟩ := H.of b k hk
            subst g3
            have hnw : b ∉ FX.w ⟨c.p, callU r.n c, c.n, true, exOf A i past⟩ r.n := fun hm => by
              have : (FX.xe ⟨c.p, callU r.n c, c.n, true, exOf A i past⟩ r.n).w.contains b = true := by simpa [FX.xe] using hm
              rw [this] at hw; cases hw
            have hne : b ∉ exOf A i past := fun hm => by
              have h1 : (FX.xe ⟨c.p, callU r.n c, c.n, true, exOf A i past⟩ r.n).acc b = false := by
                rw [XE.acc, hw]
                simp [FX.xe, hm]
              rw [h1] at ha; cases ha
            refine q5 b kb ?_
            rw [c3 b g1 (callU_not g1 fun hm => hnw (FX.mem_w.2 ⟨hm, g1⟩)), delsH_get, if_neg hne]
            exact g2
        · cases h
      · cases h
    · rename_i hg
      cases h
      have hs := Steps.skip (P := P) (n := r.n) (s := ⟨sel ops o tm, N, ((⟨(skipped r.n).p, [], r.n, false, []⟩ : FX).xe r.n).part hp, r.n, r.n⟩) (hG _) rfl hN hg
      refine hs [] _ (TriL.nil ⟨fun d hd => ?_, fun b k hk => (by cases hk), fun b k ha hw hk => ?_, Nat.le_refl _⟩)
      · simp only [St.aft, hd, pushT, look, if_true, FX.xe]
      · simp [XE.acc, FX.xe, FX.w] at ha
    · cases h
  · split at h
    · rename_i y hy
      cases h
      exact plain y hy rfl
    · cases h
/-- Apart: one that writes nothing is held against those alone that do. -/
def apartD (A : List (List Nat)) (past wr : List (Nat × XE × Nat)) (i : Nat) (e : XE) : Bool := match e.w with
  | [] => apartC A wr i e
  | _ => apartC A past i e
theorem apartD_ok {A : List (List Nat)} {past wr : List (Nat × XE × Nat)} {i : Nat} {e : XE} (hw : ∀ x ∈ past, x ∈ wr ∨ (x.2.1.w = [] ∧ x.2.1.n' = x.2.2)) (h : apartD A past wr i e = true) : apartB A past i e = true := by
  unfold apartD at h
  split at h
  · rename_i he
    have h1 := apartC_ok h
    simp only [apartB, List.all_eq_true] at h1 ⊢
    intro x hx
    rcases hw x hx with hx | ⟨h2, h3⟩
    · exact h1 x hx
    · have : meets x.2.1 x.2.2 e = false := by simp [meets, h2, h3, he]
      rw [this]; simp
  · exact apartC_ok h
def freeR (E : Env P) (call : CallF) (ops : Array Oper) (A : List (List Nat)) (N : Nat) : List Oper → Nat → List (Nat × XE × Nat) → List (Nat × XE × Nat) → RS → Option RS
  | [], _, _, _, r => some r
  | o :: l, i, past, wr, r => bif dstOK o N then (match freeX E call ops A wr i r o with
      | some x => forceN x.n fun m => bif x.ok r.n && apartD A past wr i (x.xe r.n) then freeR E call ops A N l (i + 1) ((i, x.xe r.n, r.n) :: past) (bif x.u.isEmpty && Nat.beq x.n r.n then wr else (i, x.xe r.n, r.n) :: wr) ⟨putT o.dst x.p r.tm, putH r.heap x.u, m, x.u.map (·.1) ++ r.log⟩ else none
      | none => none) else none
theorem freeR_ok (hc : CallG P call) {A : List (List Nat)} {N lo : Nat} {KK : St → Prop} : ∀ (l : List Oper) {i : Nat} {past wr : List (Nat × XE × Nat)} {r r' : RS} {tm : List (Nat × PV)} {hp : List (Nat × Blk)} {n : Nat}, (∀ x ∈ past, x ∈ wr ∨ (x.2.1.w = [] ∧ x.2.1.n' = x.2.2)) → (∀ i p, r.tm.get i = some p → look i tm = some p) → EX r.heap hp n → r.n = n →
    freeR E call ops A N l i past wr r = some r' → (∀ s', Knows r' s' → KK s') → XOb P ops A N lo KK past i l tm hp n
  | [], i, past, wr, r, r', tm, hp, n, hw, ht, H, hn, h, hK => by
    cases h
    exact hK _ ⟨ht, fun b k hk => H.to b k hk, hn.symm⟩
  | o :: l, i, past, wr, r, r', tm, hp, n, hw, ht, H, hn, h, hK => by
    simp only [freeR, forceN_eq] at h
    obtain ⟨hd, h⟩ := bif_some h
    split at h
    · rename_i x hx
      obtain ⟨h1, h⟩ := bif_some h
      simp only [Bool.and_eq_true] at h1
      subst hn
      refine ⟨x.xe r.n, fun _ _ => FX.xok h1.1, apartD_ok hw h1.2, freeX_ok hc ht H rfl (dstOK_ok hd) hx h1.1, ?_⟩
      refine freeR_ok hc l (r := ⟨putT o.dst x.p r.tm, putH r.heap x.u, x.n, x.u.map (·.1) ++ r.log⟩) (fun y hy => ?_) (fun j p hj => ?_) (H.step h1.1) rfl h hK
      · cases hb : (x.u.isEmpty && Nat.beq x.n r.n) with
        | true =>
          simp only [Bool.and_eq_true] at hb
          rcases List.mem_cons.1 hy with rfl | hy
          · right
            have hu : x.u = [] := by simpa using hb.1
            exact ⟨by simp [FX.xe, FX.w, hu], Nat.eq_of_beq_eq_true hb.2⟩
          · rcases hw y hy with h2 | h2
            · exact .inl h2
            · exact .inr h2
        | false =>
          rcases List.mem_cons.1 hy with rfl | hy
          · exact .inl List.mem_cons_self
          · rcases hw y hy with h2 | h2
            · exact .inl (List.mem_cons_of_mem _ h2)
            · exact .inr h2
      cases ho : o.dst with
      | none => rw [ho] at hj; exact ht j p hj
      | some d =>
        rw [ho] at hj
        simp only [putT, Tr.get_set] at hj
        simp only [pushT, look]
        split at hj
        · cases hj; rename_i e; rw [if_pos e]; rfl
        · rename_i e; rw [if_neg e]; exact ht j p hj
    · cases h
theorem freeR_log {A : List (List Nat)} {N : Nat} : ∀ (l : List Oper) {i : Nat} {past wr : List (Nat × XE × Nat)} {r r' : RS}, freeR E call ops A N l i past wr r = some r' → Logs r r'
  | [], i, past, wr, r, r', h => by cases h; exact .refl r
  | o :: l, i, past, wr, r, r', h => by
    simp only [freeR, forceN_eq] at h
    obtain ⟨hd, h⟩ := bif_some h
    split at h
    · rename_i x hx
      obtain ⟨h1, h⟩ := bif_some h
      simp only [Bool.and_eq_true, FX.ok, Nat.ble_eq] at h1
      exact Logs.trans ⟨h1.1.1.1, x.u.map (·.1), rfl, fun b _ hb => putH_get x.u r.heap b hb⟩ (freeR_log l h)
    · cases h
end
end
end Go.Proofs.YtldelbknkkeniaaGreatDoor.E

/- The engine runs closed code: code in plain frames and in rounds of ranges over functions. -/
namespace Go.Proofs.YtldelbknkkeniaaGreatDoor.E
open Go Go.RowKit
set_option linter.unusedVariables false
set_option linter.unusedSimpArgs false
variable {P : Program}
noncomputable section
/-- A plain frame, a round's frame. -/
def RF : Option Nat → Fence
  | none => Fence.wide
  | some l => Fence.wide.inRound l
theorem RF_fn (ro : Option Nat) (f : FuncId) : (RF ro).fn f := by cases ro <;> trivial
theorem RF_depth (ro : Option Nat) : (RF ro).depth = none := by cases ro <;> rfl
theorem RF_in (ro : Option Nat) (l : Nat) : (RF ro).inRound l = RF (some l) := by cases ro <;> rfl
theorem callsIn_RF {ro : Option Nat} {n : Nat} {f : FuncId} {args : Array Value} {w : World} {R : Ending → World → Prop} (h : Calls P f args w R) : CallsIn (RF ro) n P f args w R := by
  cases ro with
  | none => exact callsIn_wide.2 h
  | some l => exact (show CallsIn Fence.wide n P f args w R from callsIn_wide.2 h)
theorem rowsIn_RF {ro : Option Nat} {n : Nat} {f : String} {args : Array Value} {w : World} {R : Value → World → Prop} (h : Rows P f args w R) : RowsIn (RF ro) n P f args w R := by
  intro c cs _
  obtain ⟨v, w', h1, h2⟩ := h c cs
  refine ⟨v, w', h1, ?_⟩
  cases ro with
  | none => exact stepsIn_wide.2 h2
  | some l => exact (show StepsIn (Machine.fenced P Fence.wide) P _ _ from stepsIn_wide.2 h2)
theorem wpIn_of_wp {o : Oper} {ro : Option Nat} {n : Nat} {a : Act} {w : World} {K K2 : Act → World → Prop} {Q Q2 : Exit → Act → World → Prop} (hd : ∀ c, o.op ≠ .defer c) (h : o.wp P a w K Q) (hK : ∀ a w, K a w → K2 a w) (hQ : ∀ e a w, Q e a w → e = .normal) : o.wpIn (RF ro) n P a w K2 Q2 := by
  refine ⟨fun f _ => RF_fn ro f, ?_⟩
  rw [Oper.semAt_eq _ _ _ hd]
  unfold Oper.wp at h
  generalize (execOp a.eval o).run P w = r at h
  cases r with
  | ok x w' =>
    cases x with
    | value v => exact hK _ _ h
    | skip => exact hK _ _ h
    | defer d => exact hK _ _ h
    | enter f args =>
      refine ⟨fun e => (by rw [RF_depth] at e; cases e), callsIn_RF (Calls.mono h fun e w' hr => ?_)⟩
      cases e with
      | returned v => exact hK _ _ hr
      | panicked ch => have := hQ _ _ _ hr; cases this
      | outgrown => obtain ⟨a, w, hq⟩ := hr; have := hQ _ _ _ hq; cases this
    | row f args =>
      refine ⟨fun e => (by rw [RF_depth] at e; cases e), (rowsIn_RF h).mono fun v w' hr => hK _ _ hr⟩
    | _ => exact h.elim
  | halt x w' =>
    cases x with
    | panic v => have := hQ _ _ _ h; cases this
    | _ => exact h.elim
def noDefer (ops : Array Oper) : Bool := ops.toList.all fun o => match o.op with
  | .defer _ => false
  | _ => true
theorem noDefer_ok {ops : Array Oper} (h : noDefer ops = true) {o : Oper} (ho : o ∈ ops.toList) : ∀ c, o.op ≠ .defer c := by
  intro c e
  have := List.all_eq_true.1 h o ho
  rw [e] at this
  cases this
theorem wpAnyIn_of {ops : Array Oper} {ro : Option Nat} {n : Nat} {Q Q2 : Exit → Act → World → Prop} (hd : noDefer ops = true) (hQ : ∀ e a w, Q e a w → e = .normal) (hQQ : ∀ a w, Q .normal a w → Q2 .normal a w) :
    ∀ (fuel : Nat) (L : Array Bool) (a : Act) (w : World), wpAny P .any ops Q fuel L a w → wpAnyIn (RF ro) n P .any ops Q2 fuel L a w
  | 0, L, a, w, h => ⟨h.1, hQQ _ _ h.2⟩
  | fuel + 1, L, a, w, h => by
    refine ⟨fun hr => hQQ _ _ (h.1 hr), fun i hi => ?_⟩
    have h1 := h.2 i hi
    unfold wpOp at h1
    unfold wpOpIn
    split at h1
    · rename_i ho; rw [ho]; exact wpAnyIn_of hd hQ hQQ fuel _ _ _ h1
    · rename_i o ho
      rw [ho]
      simp only
      split at h1
      · rename_i hw
        rw [if_pos hw]
        rcases h1 with h1 | ⟨_, a', w', hq⟩
        · exact wpIn_of_wp (noDefer_ok hd (by simpa using Array.mem_of_getElem? ho)) h1 (fun a w h => wpAnyIn_of hd hQ hQQ fuel _ _ _ h) hQ
        · have := hQ _ _ _ hq; cases this
      · rename_i hw
        rw [if_neg hw]
        exact ⟨fun f _ => RF_fn ro f, wpAnyIn_of hd hQ hQQ fuel _ _ _ h1⟩
/-! ### the state, with marks -/
def mark (D : Nat) : Deferred := { target := .collected D, args := #[] }
structure SM (B0 : Nat → Prop) (w0 : World) (φ0 : Phi) (F0 : FMem) (ms : List Nat) (s : St) (F : FMem) (φ : Phi) (a : Act) (w : World) : Prop where
  sim : Sim ⟨fun k => B0 k ∨ k ∈ ms, ms.map mark⟩ w φ0 F0 s F φ a w
  below : Bel B0 w0 w
  base : ∀ k, B0 k → k < w0.heap.size
  marks : ∀ D ∈ ms, w.heap[D]? = some (.deferred (some []))
  apart : ∀ D ∈ ms, ¬ B0 D
  nodup : ms.Nodup
section
variable {B0 : Nat → Prop} {w0 : World} {φ0 : Phi} {F0 : FMem} {ms : List Nat} {s s' : St} {F F' : FMem} {φ φ' : Phi} {a a' : Act} {w w' : World}
theorem Sim.anchor {Y : Fr} (h : Sim Y w0 φ0 F0 s F φ a w) : Sim Y w φ0 F0 s F φ a w := { h with below := Bel.refl _ _, base := fun k hk => h.base_le k hk }
theorem SM.on (h : SM B0 w0 φ0 F0 ms s F φ a w) (k : Sim ⟨fun k => B0 k ∨ k ∈ ms, ms.map mark⟩ w φ0 F0 s' F' φ' a' w') : SM B0 w0 φ0 F0 ms s' F' φ' a' w' :=
  ⟨k.anchor, h.below.trans ⟨k.below.os, k.below.tape, k.below.output, k.below.size, fun b hb => k.below.block b (.inl hb)⟩, h.base, fun D hD => (k.below.block D (.inr hD)).trans (h.marks D hD), h.apart, h.nodup⟩
end
def TriM (C : Ctx) (P : Program) (ro : Option Nat) (c : Code) (Q : Ex → St → Prop) (s : St) : Prop :=
  ∀ n B0 w0 φ0 F0 F φ a w ms, C B0 w0 φ0 F0 s.lo → SM B0 w0 φ0 F0 ms s F φ a w →
    c.wpIn (RF ro) n P (fun e a' w' => ∃ x s' F' φ' ms', e = Ex.real x ∧ Q x s' ∧ s'.lo = s.lo ∧ s'.N = s.N ∧ SM B0 w0 φ0 F0 ms' s' F' φ' a' w') a w
def TriLM (C : Ctx) (P : Program) (ro : Option Nat) (ops : Array Oper) (l : List Oper) (K : St → Prop) (s : St) : Prop :=
  ∀ n B0 w0 φ0 F0 F φ a w ms, C B0 w0 φ0 F0 s.lo → SM B0 w0 φ0 F0 ms s F φ a w →
    ∀ Q : Exit → Act → World → Prop, (∀ s' F' φ' a' w' ms', K s' → s'.lo = s.lo → s'.N = s.N → SM B0 w0 φ0 F0 ms' s' F' φ' a' w' → Q .normal a' w') → wpListIn (RF ro) n P ops Q l a w
section
variable {C : Ctx} {ro : Option Nat}
theorem TriM.mono {c : Code} {Q Q' : Ex → St → Prop} {s : St} (h : TriM C P ro c Q s) (hQ : ∀ x s', s'.lo = s.lo → s'.N = s.N → Q x s' → Q' x s') : TriM C P ro c Q' s := by
  intro n B0 w0 φ0 F0 F φ a w ms hC hs
  refine wpIn_mono (h n B0 w0 φ0 F0 F φ a w ms hC hs) ?_
  rintro e a' w' ⟨x, s', F', φ', ms', he, hq, h1, h2, hs'⟩
  exact ⟨x, s', F', φ', ms', he, hQ _ _ h1 h2 hq, h1, h2, hs'⟩
theorem TriLM.nil {ops : Array Oper} {K : St → Prop} {s : St} (h : K s) : TriLM C P ro ops [] K s := fun n B0 w0 φ0 F0 F φ a w ms hC hs Q hQ => hQ s F φ a w ms h rfl rfl hs
theorem TriLM.step {ops : Array Oper} {o : Oper} {l : List Oper} {K K1 : St → Prop} {s : St} (hd : ∀ c, o.op ≠ .defer c) (h : TriL P ops [o] K1 s) (hK : ∀ s1, K1 s1 → s1.lo = s.lo → s1.N = s.N → TriLM C P ro ops l K s1) : TriLM C P ro ops (o :: l) K s := by
  intro n B0 w0 φ0 F0 F φ a w ms hC hs Q hQ
  have h1 := h _ _ _ _ _ _ _ _ hs.sim (fun e a' w' => e = .normal ∧ ∃ s' F' φ', K1 s' ∧ s'.lo = s.lo ∧ s'.N = s.N ∧ Sim ⟨fun k => B0 k ∨ k ∈ ms, ms.map mark⟩ w φ0 F0 s' F' φ' a' w') (fun s' F' φ' a' w' hk h1 h2 hs' => ⟨rfl, s', F', φ', hk, h1, h2, hs'⟩)
  have next : ∀ a' w', (∃ s' F' φ', K1 s' ∧ s'.lo = s.lo ∧ s'.N = s.N ∧ Sim ⟨fun k => B0 k ∨ k ∈ ms, ms.map mark⟩ w φ0 F0 s' F' φ' a' w') → wpListIn (RF ro) n P ops Q l a' w' := by
    rintro a' w' ⟨s', F', φ', hk, e1, e2, hs'⟩
    exact hK s' hk e1 e2 n B0 w0 φ0 F0 F' φ' a' w' ms (by rw [e1]; exact hC) (hs.on hs') Q (fun s2 F2 φ2 a2 w2 ms2 hk2 g1 g2 hs2 => hQ s2 F2 φ2 a2 w2 ms2 hk2 (g1.trans e1) (g2.trans e2) hs2)
  unfold wpList at h1
  unfold wpListIn
  split at h1
  · rename_i hw
    rw [if_pos hw]
    rcases h1 with h1 | ⟨_, a', w', hq⟩
    · exact wpIn_of_wp hd h1 (fun a w h => next a w h.2) (fun e a w h => h.1)
    · cases hq.1
  · rename_i hw
    rw [if_neg hw]
    exact ⟨fun f _ => RF_fn ro f, next _ _ h1.2⟩
theorem TriM.region {id : Nat} {ops : Array Oper} {Q : Ex → St → Prop} {s : St} (h : TriLM C P ro ops ops.toList (Q .normal) s) : TriM C P ro (.region id ops false) Q s := by
  intro n B0 w0 φ0 F0 F φ a w ms hC hs
  exact wpIn_region_list (h n B0 w0 φ0 F0 F φ a w ms hC hs _ (fun s' F' φ' a' w' ms' hk h1 h2 hs' => ⟨.normal, s', F', φ', ms', rfl, hk, h1, h2, hs'⟩))
theorem TriM.skip {Q : Ex → St → Prop} {s : St} (h : Q .normal s) : TriM C P ro .skip Q s := fun n B0 w0 φ0 F0 F φ a w ms hC hs => wpIn_skip ⟨.normal, s, F, φ, ms, rfl, h, rfl, rfl, hs⟩
theorem TriM.ret {Q : Ex → St → Prop} {s : St} (h : Q .ret s) : TriM C P ro .ret Q s := fun n B0 w0 φ0 F0 F φ a w ms hC hs => wpIn_ret ⟨.ret, s, F, φ, ms, rfl, h, rfl, rfl, hs⟩
theorem TriM.exit {id : Nat} {Q : Ex → St → Prop} {s : St} (h : Q (.exit id) s) : TriM C P ro (.exit id) Q s := fun n B0 w0 φ0 F0 F φ a w ms hC hs => wpIn_exit ⟨.exit id, s, F, φ, ms, rfl, h, rfl, rfl, hs⟩
theorem TriM.seq {x y : Code} {Q : Ex → St → Prop} {s : St} (h : TriM C P ro x (after Q (TriM C P ro y Q)) s) : TriM C P ro (.seq x y) Q s := by
  intro n B0 w0 φ0 F0 F φ a w ms hC hs
  refine wpIn_seq (wpIn_mono (h n B0 w0 φ0 F0 F φ a w ms hC hs) ?_)
  rintro e a' w' ⟨x, s', F', φ', ms', rfl, hq, h1, h2, hs'⟩
  cases x with
  | normal =>
    refine wpIn_mono (hq n B0 w0 φ0 F0 F' φ' a' w' ms' (by rw [h1]; exact hC) hs') ?_
    rintro e a2 w2 ⟨x, s2, F2, φ2, ms2, he, hq2, h12, h22, hs2⟩
    exact ⟨x, s2, F2, φ2, ms2, he, hq2, h12.trans h1, h22.trans h2, hs2⟩
  | ret => exact ⟨.ret, s', F', φ', ms', rfl, hq, h1, h2, hs'⟩
  | exit id => exact ⟨.exit id, s', F', φ', ms', rfl, hq, h1, h2, hs'⟩
theorem TriM.block {id : Nat} {c : Code} {Q : Ex → St → Prop} {s : St} (h : TriM C P ro c (inBlk id Q) s) : TriM C P ro (.block id c) Q s := by
  intro n B0 w0 φ0 F0 F φ a w ms hC hs
  refine wpIn_block (wpIn_mono (h n B0 w0 φ0 F0 F φ a w ms hC hs) ?_)
  rintro e a' w' ⟨x, s', F', φ', ms', rfl, hq, h1, h2, hs'⟩
  cases x with
  | normal => exact ⟨.normal, s', F', φ', ms', rfl, hq, h1, h2, hs'⟩
  | ret => exact ⟨.ret, s', F', φ', ms', rfl, hq, h1, h2, hs'⟩
  | exit j =>
    simp only [Ex.real, Exit.inBlock]
    by_cases hj : j = id
    · rw [if_pos hj]
      simp only [inBlk, if_pos hj] at hq
      exact ⟨.normal, s', F', φ', ms', rfl, hq, h1, h2, hs'⟩
    · rw [if_neg hj]
      simp only [inBlk, if_neg hj] at hq
      exact ⟨.exit j, s', F', φ', ms', rfl, hq, h1, h2, hs'⟩
theorem TriM.cond {c : Operand} {x y : Code} {Q : Ex → St → Prop} {s : St} {b : Bool} (hb : s.ev c = .t (.v (.bool b))) (ht : b = true → TriM C P ro x Q s) (hf : b = false → TriM C P ro y Q s) : TriM C P ro (.cond c x y) Q s := by
  intro n B0 w0 φ0 F0 F φ a w ms hC hs
  have hv : a.eval c = .bool b := by
    have := hs.sim.ev c
    rw [hb] at this
    exact vrv this
  exact wpIn_cond_split hv (fun e => ht e n B0 w0 φ0 F0 F φ a w ms hC hs) (fun e => hf e n B0 w0 φ0 F0 F φ a w ms hC hs)
theorem TriM.scope {c : Code} {Q : Ex → St → Prop} {s : St} (h : TriM C P none c Q s) : TriM C P none (.scope c) Q s := by
  intro n B0 w0 φ0 F0 F φ a w ms hC hs
  refine wpIn_wide.2 (wp_scope_straight (wp_mono (wpIn_wide.1 (h n B0 w0 φ0 F0 F φ a w ms hC hs)) ?_))
  rintro e a' w' ⟨y, s', F', φ', ms', rfl, hq, h1, h2, hs'⟩
  cases y <;> exact ⟨_, s', F', φ', ms', rfl, hq, h1, h2, hs'⟩
/-- A loop's rounds. -/
def TriR (C : Ctx) (P : Program) (ro : Option Nat) (c : Code) (m : Nat) (Q : Ex → St → Prop) (s : St) : Prop :=
  ∀ n B0 w0 φ0 F0 F φ a w ms, C B0 w0 φ0 F0 s.lo → SM B0 w0 φ0 F0 ms s F φ a w →
    Code.roundsIn (RF ro) n P c (fun e a' w' => ∃ x s' F' φ' ms', e = Ex.real x ∧ Q x s' ∧ s'.lo = s.lo ∧ s'.N = s.N ∧ SM B0 w0 φ0 F0 ms' s' F' φ' a' w') m a w
theorem TriR.loop {c : Code} {m : Nat} {Q : Ex → St → Prop} {s : St} (h : TriR C P ro c m Q s) : TriM C P ro (.loop c) Q s := fun n B0 w0 φ0 F0 F φ a w ms hC hs => wpIn_loop_rounds m (h n B0 w0 φ0 F0 F φ a w ms hC hs)
def Ends (x : Ex) (r : RS) : Ex → St → Prop := fun y s => y = x ∧ Knows r s
theorem TriR.out {c : Code} {m : Nat} {x : Ex} {r : RS} {s : St} (hx : x ≠ .normal) (h : TriM C P ro c (Ends x r) s) : TriR C P ro c (m + 1) (Ends x r) s := by
  intro n B0 w0 φ0 F0 F φ a w ms hC hs
  rw [roundsIn_succ]
  refine wpIn_mono (h n B0 w0 φ0 F0 F φ a w ms hC hs) ?_
  rintro e a' w' ⟨y, s', F', φ', ms', rfl, ⟨rfl, hq⟩, h1, h2, hs'⟩
  cases y with
  | normal => exact absurd rfl hx
  | ret => exact ⟨.ret, s', F', φ', ms', rfl, ⟨rfl, hq⟩, h1, h2, hs'⟩
  | exit id => exact ⟨.exit id, s', F', φ', ms', rfl, ⟨rfl, hq⟩, h1, h2, hs'⟩
theorem TriR.more {c : Code} {m : Nat} {Q : Ex → St → Prop} {r : RS} {s : St} (h : TriM C P ro c (Ends .normal r) s) (hn : ∀ s', Knows r s' → s'.N = s.N → TriR C P ro c m Q s') : TriR C P ro c (m + 1) Q s := by
  intro n B0 w0 φ0 F0 F φ a w ms hC hs
  rw [roundsIn_succ]
  refine wpIn_mono (h n B0 w0 φ0 F0 F φ a w ms hC hs) ?_
  rintro e a' w' ⟨y, s', F', φ', ms', rfl, ⟨rfl, hq⟩, h1, h2, hs'⟩
  have := hn s' hq h2 n B0 w0 φ0 F0 F' φ' a' w' ms' (by rw [h1]; exact hC) hs'
  rw [h1, h2] at this
  exact this
end
end
end Go.Proofs.YtldelbknkkeniaaGreatDoor.E

/- The engine runs closed code: ranges over functions: yield, rounds, the statement, a function's end. -/
namespace Go.Proofs.YtldelbknkkeniaaGreatDoor.E
open Go Go.RowKit
set_option linter.unusedVariables false
set_option linter.unusedSimpArgs false
variable {P : Program}
noncomputable section
/-! ### tries as lists -/
theorem Tr.bound {α : Type} : ∀ t : Tr α, ∃ M, ∀ k, M ≤ k → t.get k = none
  | .lf => ⟨0, fun _ _ => rfl⟩
  | .nd x l r => by
    obtain ⟨M1, h1⟩ := Tr.bound l
    obtain ⟨M2, h2⟩ := Tr.bound r
    refine ⟨2 * (M1 + M2) + 3, fun k hk => ?_⟩
    cases k with
    | zero => omega
    | succ k =>
      rw [Tr.get_nd1]
      split
      · exact h1 _ (by omega)
      · exact h2 _ (by omega)
def mkF {α : Type} (f : Nat → Option α) : Nat → List (Nat × α)
  | 0 => []
  | n + 1 => match f n with
    | some k => (n, k) :: mkF f n
    | none => mkF f n
theorem look_mkF {α : Type} (f : Nat → Option α) : ∀ (n b : Nat), look b (mkF f n) = if b < n then f b else none
  | 0, b => by simp [mkF, look]
  | n + 1, b => by
    simp only [mkF]
    cases hf : f n with
    | none =>
      simp only [look_mkF f n b]
      by_cases h : b < n
      · rw [if_pos h, if_pos (by omega)]
      · rw [if_neg h]
        by_cases h2 : b = n
        · subst h2; rw [if_pos (by omega), hf]
        · rw [if_neg (by omega)]
    | some k =>
      simp only [look, look_mkF f n b]
      by_cases h2 : b = n
      · subst h2; rw [if_pos rfl, if_pos (by omega), hf]
      · rw [if_neg h2]
        by_cases h : b < n
        · rw [if_pos h, if_pos (by omega)]
        · rw [if_neg h, if_neg (by omega)]
theorem Tr.list {α : Type} (t : Tr α) : ∃ l : List (Nat × α), ∀ i, look i l = t.get i := by
  obtain ⟨M, h⟩ := t.bound
  refine ⟨mkF t.get M, fun i => ?_⟩
  rw [look_mkF]
  by_cases hi : i < M
  · rw [if_pos hi]
  · rw [if_neg hi, h i (by omega)]
/-! ### a round's temporaries -/
def setAll : List Nat → List PV → Tr PV → Tr PV
  | q :: qs, p :: ps, tm => setAll qs ps (tm.set q p)
  | _, _, tm => tm
theorem setAll_ok {F : FMem} {φ : Phi} {N : Nat} : ∀ (qs : List Nat) (ps : List PV) (vs : List Value) (tm : Tr PV) (t : Array Value), qs.length = ps.length → ps.length = vs.length → (qs.all fun q => Nat.blt q N) = true → t.size = N →
    (∀ i p, tm.get i = some p → VR F φ p (t.getD i undef)) → (∀ (i : Nat) (p : PV) (v : Value), ps[i]? = some p → vs[i]? = some v → VR F φ p v) →
    ((qs.zip vs).foldl (fun t (x : Nat × Value) => t.setIfInBounds x.1 x.2) t).size = N ∧ ∀ i p, (setAll qs ps tm).get i = some p → VR F φ p (((qs.zip vs).foldl (fun t (x : Nat × Value) => t.setIfInBounds x.1 x.2) t).getD i undef)
  | [], [], [], tm, t, _, _, _, hs, h, _ => ⟨hs, h⟩
  | q :: qs, p :: ps, v :: vs, tm, t, h1, h2, hq, hs, h, hv => by
    simp only [List.all_cons, Bool.and_eq_true, Nat.blt_eq] at hq
    refine setAll_ok qs ps vs (tm.set q p) (t.setIfInBounds q v) (by simpa using h1) (by simpa using h2) hq.2 (by simpa using hs) (fun i p' hp' => ?_) (fun i p' v' a b => hv (i + 1) p' v' (by simpa using a) (by simpa using b))
    rw [Tr.get_set] at hp'
    rw [Array.getD_eq_getD_getElem?, Array.getElem?_setIfInBounds]
    split at hp'
    · cases hp'
      rename_i e
      subst e
      rw [if_pos rfl, if_pos (by omega)]
      exact hv 0 _ _ rfl rfl
    · rename_i e
      rw [if_neg (fun e2 => e e2.symm)]
      have := h i p' hp'
      rwa [Array.getD_eq_getD_getElem?] at this
/-! ### the loop's record turns -/
theorem noCell_loop {w : World} {l : Nat} {L : Loop} (h : w.heap[l]? = some (.loop L)) : ∀ a : Addr, a.block = l → w.cell? a = none := by
  intro a e
  unfold World.cell?
  rw [e, h]
theorem noCell_deferred {w : World} {l : Nat} {L : Option (List Deferred)} (h : w.heap[l]? = some (.deferred L)) : ∀ a : Addr, a.block = l → w.cell? a = none := by
  intro a e
  unfold World.cell?
  rw [e, h]
theorem putObj_cell {w : World} {l : Nat} (h : ∀ a : Addr, a.block = l → w.cell? a = none) (o : Obj) {a : Addr} {u : Value} (hc : w.cell? a = some u) : (w.putObj l o).cell? a = some u := by
  have hne : a.block ≠ l := by
    intro e
    rw [h a e] at hc
    cases hc
  unfold World.cell? at hc ⊢
  rw [World.putObj_heap_other hne]
  exact hc
theorem Sim.turn {Y Z : Fr} {w0 : World} {φ0 : Phi} {F0 : FMem} {s : St} {F : FMem} {φ : Phi} {a : Act} {w : World} (hs : Sim Y w0 φ0 F0 s F φ a w) {l : Nat} (hl : Y l) (hobj : ∀ a : Addr, a.block = l → w.cell? a = none) (o : Obj) (hZ : ∀ k, Z k → Y k) (hds : Z.ds = Y.ds) :
    Sim Z (w.putObj l o) φ0 F0 s F φ a (w.putObj l o) := by
  refine { below := Bel.refl _ _, base := fun k hk => ?_, fok := hs.fok.grow (FMem.le_refl _) (fun x u e => ?_) (fun g j u m _ e h2 => szW_block (World.putObj_heap_other (fun e2 => by rw [hobj ⟨g, j, none⟩ e2] at e; cases e)) h2), fle := hs.fle, fnew := fun x hx hz => hs.fnew x hx (hZ _ hz), phi0 := hs.phi0, lo := hs.lo, fresh := hs.fresh, size := hs.size, defers := hs.defers.trans hds.symm, tm := hs.tm, heap := fun b k hk => ?_, inj := hs.inj }
  · rw [World.putObj_size]; exact hs.base_le k (hZ k hk)
  · obtain ⟨g1, g2⟩ := hs.fok x u e
    exact ⟨putObj_cell hobj o g1, g2⟩
  · obtain ⟨B, cs, hl2⟩ := hs.heap b k hk
    have hne : B ≠ l := fun e => hl2.old (e ▸ hl)
    exact ⟨B, cs, hl2.to (World.putObj_heap_other hne) hl2.at_ (fun h => hl2.old (hZ _ h)) (FMem.le_refl _) (Phi.le_refl _) hl2.reads⟩
/-! ### yield -/
/-- A loop over a function that is under way. -/
structure YH where
  b : Nat
  ps : Array Tmp
  asg : Code
  body : Code
  tm : Tr PV
  N : Nat
def HCtx (y : YH) : Ctx := fun B0 w0 φ0 F0 lo => ∃ (l sz : Nat) (fn : FuncId) (at_ : Array Value) (D : Nat), B0 l ∧ w0.heap[l]? = some (.loop { state := .ready, pending := none, fn := fn, tmps := at_, params := y.ps, assign := y.asg, body := y.body, defers := D }) ∧
  φ0 y.b = some (l, sz) ∧ y.b < lo ∧ (∀ c, lo ≤ c → φ0 c = none) ∧ at_.size = y.N ∧ ∀ i p, y.tm.get i = some p → VR F0 φ0 p (at_.getD i undef)
abbrev noCtx : Ctx := fun _ _ _ _ _ => True
theorem evs_of {s : St} {B0 : Fr} {w0 : World} {φ0 : Phi} {F0 : FMem} {F : FMem} {φ : Phi} {a : Act} {w : World} (hs : Sim B0 w0 φ0 F0 s F φ a w) (xs : Array Operand) : ∀ (i : Nat) (p : PV) (v : Value), (xs.toList.map s.ev)[i]? = some p → (xs.map a.eval).toList[i]? = some v → VR F φ p v := by
  intro i p v h1 h2
  exact (vrs_of hs xs).2 i p v h1 (by simpa using h2)
theorem yield_step {y : YH} {ro : Option Nat} {ops : Array Oper} {o : Oper} {l : List Oper} {K : St → Prop} {s : St} {tm : Tr PV} {x : Operand} {xs : Array Operand} {ts : Array TypeId} {args : List PV} {heap : Tr RB} {n : Nat} {r1 r2 : RS}
    (hG : GKn ops tm o s) (hg : guardR ops tm o = some true) (ho : o.op = .call ⟨.value x, xs, ts⟩) (hx : s.ev x = .yl y.b) (hxs : xs.toList.map s.ev = args) (hk : KH heap s) (hn : s.n = n) (hN : ∀ t, o.dst = some t → t < s.N)
    (hlen : args.length = y.ps.size) (hps : (y.ps.toList.all fun q => Nat.blt q y.N) = true)
    (hA : ∀ l s, Knows ⟨setAll y.ps.toList args y.tm, heap, n, []⟩ s → s.N = y.N → TriM noCtx P (some l) y.asg (Ends .normal r1) s)
    (hB : ∀ l s, Knows r1 s → s.N = y.N → TriM noCtx P (some l) y.body (Ends .normal r2) s)
    (hK : ∀ s2, Called s o.dst (.t (.v (.bool true))) r2.heap r2.n s2 → TriLM (HCtx y) P ro ops l K s2) : TriLM (HCtx y) P ro ops (o :: l) K s := by
  intro m B0 w0 φ0 F0 F φ a w ms hC hs Q hQ
  subst hn
  obtain ⟨lp, sz, fn, at_, D, c1, c2, c3, c4, c5, c6, c7⟩ := hC
  have hsim := hs.sim
  have hlo : s.lo ≤ s.n := hsim.lo
  have hφle : φ0.le φ := fun b q hb => by
    rcases Nat.lt_or_ge b s.lo with h | h
    · rw [hsim.phi0 b h]; exact hb
    · rw [c5 b h] at hb; cases hb
  have hwl : w.heap[lp]? = some (.loop { state := .ready, pending := none, fn := fn, tmps := at_, params := y.ps, assign := y.asg, body := y.body, defers := D }) := (hs.below.block lp c1).trans c2
  have key : Region.wanted o (yielded ops a.tmps) = true := by
    unfold guardR at hg
    split at hg
    · rename_i hn; simp [Region.wanted, hn]
    · rename_i j want hn
      split at hg
      · rename_i g hj
        split at hg
        · rename_i p hp
          have hv := hsim.ev (.tmp g)
          rw [hG j want g p hn hj hp] at hv
          exact wanted_gval hn hj hv hg
        · cases hg
      · cases hg
  have hxv : a.eval x = .func (.yield lp) #[] #[] := by
    have hv := hsim.ev x
    rw [hx] at hv
    generalize a.eval x = u at hv
    cases hv with
    | @yl _ B sz' hb =>
      rw [hφle _ _ c3] at hb
      cases hb
      rfl
  have hargs := evs_of hsim xs
  rw [hxs] at hargs
  have hsz : (xs.map a.eval).size = y.ps.size := by
    rw [Array.size_map, ← hlen, ← hxs, List.length_map, Array.length_toList]
  let at2 := (y.ps.zip (xs.map a.eval)).foldl (fun t (x : Nat × Value) => t.setIfInBounds x.1 x.2) at_
  have hat2 : at2 = (y.ps.toList.zip (xs.map a.eval).toList).foldl (fun t (x : Nat × Value) => t.setIfInBounds x.1 x.2) at_ := by
    simp only [at2]
    rw [← Array.foldl_toList, Array.toList_zip]
  obtain ⟨q1, q2⟩ := setAll_ok (F := F) (φ := φ) (N := y.N) y.ps.toList args (xs.map a.eval).toList y.tm at_ (by simp [hlen]) (by rw [hlen]; simpa using hsz.symm) hps c6 (fun i p hp => (c7 i p hp).mono hsim.fle hφle) hargs
  rw [← hat2] at q1 q2
  -- the round
  let Y : Nat → Prop := fun k => B0 k ∨ k ∈ ms
  obtain ⟨tl, htl⟩ := Tr.list (setAll y.ps.toList args y.tm)
  let sr : St := ⟨tl, y.N, s.heap, s.n, s.n⟩
  have ksr : Knows ⟨setAll y.ps.toList args y.tm, heap, s.n, []⟩ sr := ⟨fun i p hp => by rw [htl]; exact hp, hk, rfl⟩
  have hsr : SM Y w φ F [] sr F φ { tmps := at2, defers := [] } w := by
    refine ⟨⟨Bel.refl _ _, fun k hk => hsim.base k (by simpa using hk), hsim.fok, FMem.le_refl F, fun x hx => absurd rfl hx, fun _ _ => rfl, Nat.le_refl _, hsim.fresh, q1, rfl, fun i p hp => ?_, fun b k hk => ?_, hsim.inj⟩, Bel.refl _ _, hsim.base, fun D hD => (by cases hD), fun D hD => (by cases hD), List.nodup_nil⟩
    · rw [htl] at hp; exact q2 i p hp
    · obtain ⟨B, cs, hl⟩ := hsim.heap b k hk
      exact ⟨B, cs, hl.to rfl hl.at_ (fun h => hl.old (by simpa using h)) (FMem.le_refl _) (Phi.le_refl _) hl.reads⟩
  have hround : RoundIn (RF ro) (m - 1) P lp fn at2 y.asg y.body w (fun
      | .returned v, w'' => wpListIn (RF ro) m P ops Q l (a.put o.dst v) w''
      | .panicked chain, w'' => Q (.panic chain) a w''
      | .outgrown, _ => LetsOut Q) := by
    refine roundIn_of_wpIn (RF_fn ro fn) ?_
    rw [RF_in]
    refine wpIn_mono (hA lp sr ksr rfl (m - 1) Y w φ F F φ _ w [] trivial hsr) ?_
    rintro e a1 w1 ⟨_, s1, F1, φ1, ms1, rfl, ⟨rfl, k1⟩, e1, e2, hs1⟩
    have hYl : Y lp := .inl c1
    have hw1 := (hs1.below.block lp hYl).trans hwl
    refine ⟨_, run_beginRound hw1 rfl, ?_⟩
    have hms1 : ∀ D' ∈ ms1, D' ≠ lp := fun D' hD e => hs1.apart D' hD (e ▸ hYl)
    have hs2 : SM Y (w1.putObj lp (.loop { state := .busy, pending := none, fn := fn, tmps := at_, params := y.ps, assign := y.asg, body := y.body, defers := D })) φ F ms1 s1 F1 φ1 a1 (w1.putObj lp (.loop { state := .busy, pending := none, fn := fn, tmps := at_, params := y.ps, assign := y.asg, body := y.body, defers := D })) := by
      refine ⟨hs1.sim.turn (.inl hYl) (noCell_loop hw1) _ (fun k h => h) rfl, Bel.refl _ _, fun k hk => ?_, fun D' hD => ?_, hs1.apart, hs1.nodup⟩
      · rw [World.putObj_size]; exact Nat.lt_of_lt_of_le (hs1.base k hk) hs1.below.size
      · rw [World.putObj_heap_other (hms1 D' hD)]; exact hs1.marks D' hD
    refine wpIn_mono (hB lp s1 k1 e2 (m - 1) Y _ φ F F1 φ1 a1 _ ms1 trivial hs2) ?_
    rintro e a3 w3 ⟨_, s3, F3, φ3, ms3, rfl, ⟨rfl, k3⟩, e3, e4, hs3⟩
    have hlt : lp < w1.heap.size := Nat.lt_of_lt_of_le (hs1.base lp hYl) hs1.below.size
    have hw3 := (hs3.below.block lp hYl).trans (World.putObj_heap_same (w := w1) hlt)
    refine ⟨_, _, run_endRound none hw3, ?_⟩
    -- back in the iterator
    have hlt3 : lp < w3.heap.size := (Array.getElem?_eq_some_iff.1 hw3).1
    have hsame : ∀ k, k ≠ lp → Y k → (w3.putObj lp (.loop { state := .ready, pending := none, fn := fn, tmps := at_, params := y.ps, assign := y.asg, body := y.body, defers := D })).heap[k]? = w.heap[k]? := fun k hk hy => by
      rw [World.putObj_heap_other hk, hs3.below.block k hy, World.putObj_heap_other hk, hs1.below.block k hy]
    have hbel : Bel Y w (w3.putObj lp (.loop { state := .ready, pending := none, fn := fn, tmps := at_, params := y.ps, assign := y.asg, body := y.body, defers := D })) := by
      refine ⟨hs3.below.os.trans hs1.below.os, hs3.below.tape.trans hs1.below.tape, hs3.below.output.trans hs1.below.output, ?_, fun k hk => ?_⟩
      · rw [World.putObj_size]
        have := hs3.below.size
        rw [World.putObj_size] at this
        exact Nat.le_trans hs1.below.size this
      · by_cases e : k = lp
        · subst e; rw [World.putObj_heap_same hlt3, hwl]
        · exact hsame k e hk
    have hturn := hs3.sim.turn (Z := ⟨Y, ms3.map mark⟩) (.inl hYl) (noCell_loop hw3) (.loop { state := .ready, pending := none, fn := fn, tmps := at_, params := y.ps, assign := y.asg, body := y.body, defers := D }) (fun k h => .inl h) rfl
    have hle3 : φ.le φ3 := fun b q hb => by
      rcases Nat.lt_or_ge b s.n with h | h
      · have h1 := hs1.sim.phi0 b (by rw [e1]; exact h)
        have h3 := hs3.sim.phi0 b (by rw [e3, e1]; exact h)
        rw [h3]; exact hb
      · rw [hsim.fresh b h] at hb; cases hb
    have hlo3 : s.n ≤ s3.n := by have := hs3.sim.lo; rw [e3, e1] at this; exact this
    have hout : Sim ⟨fun k => B0 k ∨ k ∈ ms, ms.map mark⟩ w φ0 F0 ⟨s.tm, s.N, s3.heap, s.lo, s3.n⟩ F3 φ3 a (w3.putObj lp (.loop { state := .ready, pending := none, fn := fn, tmps := at_, params := y.ps, assign := y.asg, body := y.body, defers := D })) := by
      refine ⟨hbel, hsim.base, hturn.fok, FMem.le_trans hsim.fle hs3.sim.fle, fun x hx => ?_, fun b hb => ?_, Nat.le_trans hlo hlo3, hturn.fresh, hsim.size, hsim.defers, fun i p hp => (hsim.tm i p hp).mono hs3.sim.fle hle3, fun b k hb => ?_, hturn.inj⟩
      · by_cases e : F3 x = F x
        · exact hsim.fnew x (fun e2 => hx (e.trans e2))
        · exact fun h => hs3.sim.fnew x e (.inl h)
      · have hb' : b < s.n := Nat.lt_of_lt_of_le hb hlo
        rw [hs3.sim.phi0 b (by rw [e3, e1]; exact hb')]
        exact hsim.phi0 b hb
      · obtain ⟨B, cs, hl⟩ := hturn.heap b k hb
        exact ⟨B, cs, hl.to rfl hl.at_ (fun h => hl.old h) (FMem.le_refl _) (Phi.le_refl _) hl.reads⟩
    have hv : VR F3 φ3 (.t (.v (.bool true))) (.bool true) := .t (.v rfl)
    refine hK ⟨pushT o.dst (.t (.v (.bool true))) s.tm, s.N, s3.heap, s.lo, s3.n⟩ ⟨rfl, rfl, rfl, k3.n, k3.heap⟩ m B0 w0 φ0 F0 F3 φ3 _ _ ms ⟨lp, sz, fn, at_, D, c1, c2, c3, c4, c5, c6, c7⟩ (hs.on ?_) Q (fun s' F' φ' a' w' ms' hk1 g1 g2 hs' => hQ s' F' φ' a' w' ms' hk1 g1 g2 hs')
    cases hd : o.dst with
    | none => exact hout
    | some d => exact hout.put (hN d hd) hv
  unfold wpListIn
  rw [if_pos key]
  refine ⟨fun f _ => RF_fn ro f, ?_⟩
  rw [Oper.semAt_eq _ _ _ (fun c e => by rw [ho] at e; cases e)]
  have hrun : (execOp a.eval o).run P w = .ok (.round lp fn at2 y.asg y.body) w := by
    have := run_yield (P := P) (args := xs.map a.eval) hwl hsz
    simp only [execOp, ho, resolve, hxv, Deferred.ofValue, Sem.run_bind, Sem.run_pure, Result.andThen_ok, invoke, Array.append_empty, Array.empty_append]
    exact this
  rw [hrun]
  exact ⟨fun e => (by rw [RF_depth] at e; cases e), hround⟩
end
end Go.Proofs.YtldelbknkkeniaaGreatDoor.E

/- The engine runs closed code: the statement that ranges over a function; a function's end. -/
namespace Go.Proofs.YtldelbknkkeniaaGreatDoor.E
open Go Go.RowKit
set_option linter.unusedVariables false
set_option linter.unusedSimpArgs false
variable {P : Program}
noncomputable section
theorem Sim.some_of {Y : Fr} {w0 : World} {φ0 : Phi} {F0 : FMem} {s : St} {F : FMem} {φ : Phi} {a : Act} {w : World} (hs : Sim Y w0 φ0 F0 s F φ a w) {x : Addr} (hx : F x ≠ F0 x) : ∃ u, F x = some u := by
  cases h : F x with
  | some u => exact ⟨u, rfl⟩
  | none =>
    cases h0 : F0 x with
    | none => exact absurd (h.trans h0.symm) hx
    | some u => have := hs.fle x u h0; rw [h] at this; cases this
theorem TriM.rangeFunc {C : Ctx} {f : Operand} {ps : Array Tmp} {asg body : Code} {s : St} {r : RS} {g : FuncId} {fs caps : List PV} {p : PV} {heap' : Tr RB} {n' : Nat} {log : List Nat} (K : Knows r s) (hgF : FnIs P g) (hf : s.ev f = .fn g fs caps)
    (hI : CallSC (HCtx ⟨r.n, ps, asg, body, r.tm, s.N⟩) P g (fs ++ [.yl r.n] ++ caps) r.heap (r.n + 1) p heap' n') : TriM C P none (.rangeFunc f ps asg body) (Ends .normal ⟨r.tm, heap', n', log⟩) s := by
  intro m B0 w0 φ0 F0 F φ a w ms hC hs
  have hsim := hs.sim
  have hn := K.n
  refine wpIn_rangeFunc (F := RF none) (fun fn _ => ?_)
  obtain ⟨ws, vs, hfv, g1, g2, g3, g4⟩ : ∃ ws vs : Array Value, a.eval f = .func (.func g) ws vs ∧ fs.length = ws.size ∧ caps.length = vs.size ∧ (∀ (i : Nat) (p : PV) (u : Value), fs[i]? = some p → ws[i]? = some u → VR F φ p u) ∧ (∀ (i : Nat) (p : PV) (u : Value), caps[i]? = some p → vs[i]? = some u → VR F φ p u) := by
    have hv := hsim.ev f
    rw [hf] at hv
    generalize a.eval f = u at hv
    cases hv with
    | @fn _ _ _ ws vs hm hf hn h => exact ⟨ws, vs, rfl, hm, hn, hf, h⟩
  let D := w.heap.size
  let lp := w.heap.size + 1
  let rc : Loop := { state := .ready, pending := none, fn := fn, tmps := a.tmps, params := ps, assign := asg, body := body, defers := w.heap.size }
  let W1 := (w.alloc (.deferred (some []))).alloc (.loop rc)
  let a' : Act := { a with defers := [{ target := .collected w.heap.size, args := #[] }] ++ a.defers }
  have hW1 : W1.heap.size = w.heap.size + 2 := by simp [W1]
  have hlast : W1.heap[lp]? = some (.loop rc) := by
    have := World.alloc_heap_new (w.alloc (.deferred (some []))) (.loop rc)
    rwa [World.size_alloc] at this
  have hD : W1.heap[D]? = some (.deferred (some [])) := (Below.heap_alloc _ _ _ (by simp [D])).trans (World.alloc_heap_new w _)
  have hold : ∀ k, k < w.heap.size → W1.heap[k]? = w.heap[k]? := fun k hk => (Below.heap_alloc _ _ _ (by simp; omega)).trans (Below.heap_alloc _ _ _ hk)
  let Y1 : Fr := ⟨fun k => (B0 k ∨ k ∈ ms) ∨ k = D ∨ k = lp, (D :: ms).map mark⟩
  have hb0 : ∀ k, (B0 k ∨ k ∈ ms) → k < w.heap.size := fun k hk => hsim.base_le k hk
  have hφn : φ s.n = none := hsim.fresh _ (Nat.le_refl _)
  have hle : φ.le (φ.new s.n (lp, 0)) := Phi.le_new hφn
  have hcell : ∀ {x : Addr} {u : Value}, w.cell? x = some u → W1.cell? x = some u := by
    intro x u hx
    have hlt : x.block < w.heap.size := by
      unfold World.cell? at hx
      cases hb : w.heap[x.block]? with
      | none => rw [hb] at hx; cases hx
      | some o => exact (Array.getElem?_eq_some_iff.1 hb).1
    unfold World.cell? at hx ⊢
    rw [hold _ hlt]; exact hx
  have hnew : ∀ b, b ≠ s.n → (φ.new s.n (lp, 0)) b = φ b := fun b hb => if_neg hb
  have hlive : ∀ b k, look b s.heap = some k → b ≠ s.n := fun b k hk e => by have := (hsim.ltH b k hk).1; omega
  have hsi : Sim Y1 W1 φ0 F0 ⟨s.tm, s.N, s.heap, s.lo, s.n + 1⟩ F (φ.new s.n (lp, 0)) a' W1 := by
    refine ⟨Bel.refl _ _, fun k hk => ?_, hsim.fok.grow (FMem.le_refl _) (fun x u e => ?_) (fun g j u m _ e h2 => szW_block (hold _ (cell_lt e)) h2), hsim.fle, fun x hx hy => ?_, fun b hb => ?_, Nat.le_succ_of_le hsim.lo, fun b hb => ?_, hsim.size, ?_, fun i p hp => (hsim.tm i p hp).mono (FMem.le_refl F) hle, fun b k hk => ?_, fun b b' k k' B sz sz' h1 h2 h3 h4 => ?_⟩
    · rw [hW1]
      rcases hk with hk | rfl | rfl
      · have := hb0 k hk; omega
      · simp [D]
      · simp [lp]
    · obtain ⟨q1, q2⟩ := hsim.fok x u e
      exact ⟨hcell q1, q2⟩
    · obtain ⟨u, hu⟩ := hsim.some_of hx
      have hlt : x.block < w.heap.size := cell_lt (hsim.fok x u hu).1
      rcases hy with hy | hy | hy
      · exact hsim.fnew x hx hy
      · simp only [D] at hy; omega
      · simp only [lp] at hy; omega
    · have := hsim.lo
      rw [hnew b (by have : b < s.lo := hb; omega)]; exact hsim.phi0 b hb
    · have hb : s.n + 1 ≤ b := hb
      rw [hnew b (by omega)]; exact hsim.fresh b (by omega)
    · show [_] ++ a.defers = _
      rw [hsim.defers]; rfl
    · obtain ⟨B, cs, hl⟩ := hsim.heap b k hk
      refine ⟨B, cs, hl.to (hold B hl.lt) (hle _ _ hl.at_) (fun h => ?_) (FMem.le_refl _) hle (hl.reads.mono2 (FMem.le_refl _) hle (fun x hx => absurd rfl hx))⟩
      have := hl.lt
      rcases h with h | h | h
      · exact hl.old h
      · simp only [D] at h; omega
      · simp only [lp] at h; omega
    · rw [hnew b (hlive b k h1)] at h3
      rw [hnew b' (hlive b' k' h2)] at h4
      exact hsim.inj b b' k k' B sz sz' h1 h2 h3 h4
  have hctx : HCtx ⟨r.n, ps, asg, body, r.tm, s.N⟩ Y1.b W1 (φ.new s.n (lp, 0)) F (s.n + 1) := by
    refine ⟨lp, 0, fn, a.tmps, w.heap.size, .inr (.inr rfl), hlast, ?_, by show r.n < s.n + 1; omega, fun c hc => ?_, hsim.size, fun i p hp => ?_⟩
    · show (φ.new s.n (lp, 0)) r.n = some (lp, 0)
      rw [← hn]; exact if_pos rfl
    · rw [hnew c (by omega)]; exact hsim.fresh c (by omega)
    · exact (hsim.tm i p (K.tm i p hp)).mono (FMem.le_refl F) hle
  refine ⟨lp, [{ target := .collected w.heap.size, args := #[] }], W1, { target := .fn (.func g) vs, args := ws ++ #[.func (.yield lp) #[] #[]] }, W1, g, ws ++ #[.func (.yield lp) #[] #[]] ++ vs, W1, run_enterLoop_outer _ _ _ _ _, ?_, fun _ _ => trivial, ?_, fun e => (by cases e), ?_⟩
  · simp only [resolve, hfv, Deferred.ofValue, Sem.run_pure, List.map_toArray, List.map_cons, List.map_nil]
    rfl
  · simp only [invoke, callFunc_run hgF]
  refine callsIn_RF (ro := none) ?_
  have hall : ∀ (i : Nat) (p : PV) (v : Value), (fs ++ [PV.yl r.n] ++ caps)[i]? = some p → (ws ++ #[.func (.yield lp) #[] #[]] ++ vs)[i]? = some v → VR F (φ.new s.n (lp, 0)) p v := by
    intro i p v h1 h2
    rw [List.getElem?_append] at h1
    rw [Array.getElem?_append] at h2
    split at h1
    · rename_i hi
      rw [List.length_append] at hi
      simp only [List.length_cons, List.length_nil] at hi
      rw [if_pos (by rw [Array.size_append]; simp only [List.size_toArray, List.length_cons, List.length_nil]; omega)] at h2
      rw [List.getElem?_append] at h1
      rw [Array.getElem?_append] at h2
      split at h1
      · rename_i hj
        rw [if_pos (by omega)] at h2
        exact (g3 i p v h1 h2).mono (FMem.le_refl F) hle
      · rename_i hj
        rw [if_neg (by omega)] at h2
        have e : i - fs.length = 0 := by omega
        rw [e] at h1
        rw [← g1, e] at h2
        simp at h1 h2
        subst h1; subst h2
        exact .yl (sz := 0) (by rw [← hn]; exact if_pos rfl)
    · rename_i hi
      rw [List.length_append] at hi h1
      simp only [List.length_cons, List.length_nil] at hi h1
      rw [if_neg (by rw [Array.size_append]; simp only [List.size_toArray, List.length_cons, List.length_nil]; omega), Array.size_append] at h2
      simp only [List.size_toArray, List.length_cons, List.length_nil] at h2
      rw [← g1] at h2
      exact (g4 _ p v h1 h2).mono (FMem.le_refl F) hle
  refine (hI ⟨s.tm, s.N, s.heap, s.lo, s.n + 1⟩ K.heap (by show s.n + 1 = r.n + 1; omega) Y1 W1 φ0 F0 F _ a' W1 hsi hctx _ (by simp; omega) hall).mono ?_
  rintro e w' ⟨rv, s', F', φ', rfl, q1, q2, q3, q4, q5, hs', hv⟩
  have hl' : w'.heap[lp]? = some (.loop rc) := (hs'.below.block lp (.inr (.inr rfl))).trans hlast
  have hne : ∀ k, (B0 k ∨ k ∈ ms) → k ≠ lp := fun k hk e => by have := hb0 k hk; simp only [lp] at e; omega
  refine ⟨none, _, run_endLoop hl' (by simp [rc]), ?_⟩
  refine ⟨.normal, s', F', φ', D :: ms, rfl, ⟨rfl, ⟨fun i p hp => by rw [q1]; exact K.tm i p hp, q5, q4⟩⟩, q3, q2, ?_⟩
  refine ⟨hs'.turn (.inr (.inr rfl)) (noCell_loop hl') _ (fun k hk => ?_) rfl, ?_, hs.base, fun D' hD' => ?_, fun D' hD' hb => ?_, ?_⟩
  · rcases hk with hk | hk
    · exact .inl (.inl hk)
    · rcases List.mem_cons.1 hk with rfl | hk
      · exact .inr (.inl rfl)
      · exact .inl (.inr hk)
  · refine hs.below.trans ⟨hs'.below.os, hs'.below.tape, hs'.below.output, ?_, fun k hk => ?_⟩
    · rw [World.putObj_size]; have := hs'.below.size; rw [hW1] at this; omega
    · rw [World.putObj_heap_other (hne k (.inl hk)), hs'.below.block k (.inl (.inl hk)), hold k (hb0 k (.inl hk))]
  · rcases List.mem_cons.1 hD' with rfl | hD'
    · rw [World.putObj_heap_other (by simp [D, lp]), hs'.below.block D (.inr (.inl rfl))]; exact hD
    · rw [World.putObj_heap_other (hne D' (.inr hD')), hs'.below.block D' (.inl (.inr hD')), hold D' (hb0 D' (.inr hD'))]; exact hs.marks D' hD'
  · rcases List.mem_cons.1 hD' with rfl | hD'
    · have := hb0 D (.inl hb); simp [D] at this
    · exact hs.apart D' hD' hb
  · refine List.nodup_cons.2 ⟨fun h => ?_, hs.nodup⟩
    have := hb0 D (.inr h); simp [D] at this
/-- The marks are taken, one by one. -/
theorem leaves_marks {B0 : Nat → Prop} {w0 : World} {φ0 : Phi} {F0 : FMem} {s : St} {F : FMem} {φ : Phi} {a : Act} {ds : List Deferred} {fn : Func} {n : Nat} {R : Ending → World → Prop} (hbase : ∀ k, B0 k → k < w0.heap.size)
    (hR : ∀ w, Bel B0 w0 w → Sim ⟨B0, ds⟩ w φ0 F0 s F φ a w → ∃ v, (results fn a.tmps).run P w = .ok v w ∧ R (.returned v) w) :
    ∀ (ms : List Nat) (w : World), Sim ⟨fun k => B0 k ∨ k ∈ ms, ds⟩ w φ0 F0 s F φ a w → Bel B0 w0 w → (∀ D ∈ ms, w.heap[D]? = some (.deferred (some []))) → (∀ D ∈ ms, ¬ B0 D) → ms.Nodup →
      LeavesInM Fence.wide n P fn a.tmps R (ms.map mark) .returning w
  | [], w, hs, hb, _, _, _ => hR w hb ⟨Bel.refl _ _, fun k hk => hs.base k (.inl hk), hs.fok, hs.fle, fun x hx h => hs.fnew x hx (.inl h), hs.phi0, hs.lo, hs.fresh, hs.size, hs.defers, hs.tm, fun b k hk => let ⟨B, cs, hl⟩ := hs.heap b k hk; ⟨B, cs, hl.to rfl hl.at_ (fun h => hl.old (.inl h)) (FMem.le_refl _) (Phi.le_refl _) hl.reads⟩, hs.inj⟩
  | D :: ms, w, hs, hb, hm, ha, hn => by
    have hD := hm D List.mem_cons_self
    obtain ⟨n1, n2⟩ := List.nodup_cons.1 hn
    refine ⟨by simp, .inl ⟨D, _, rfl, run_takeDeferred hD, ?_⟩⟩
    have hne : ∀ k, B0 k → k ≠ D := fun k hk e => ha D List.mem_cons_self (e ▸ hk)
    refine leaves_marks hbase hR ms _ (hs.turn (.inr List.mem_cons_self) (noCell_deferred hD) _ (fun k hk => ?_) rfl) ⟨hb.os, hb.tape, hb.output, by rw [World.putObj_size]; exact hb.size, fun k hk => by rw [World.putObj_heap_other (hne k hk)]; exact hb.block k hk⟩ (fun D' hD' => ?_) (fun D' hD' => ha D' (List.mem_cons_of_mem _ hD')) n2
    · rcases hk with hk | hk
      · exact .inl hk
      · exact .inr (List.mem_cons_of_mem _ hk)
    · rw [World.putObj_heap_other (fun (e : D' = D) => n1 (by rw [← e]; exact hD'))]
      exact hm D' (List.mem_cons_of_mem _ hD')
theorem CallSC.of {C : Ctx} {E : Env P} {f : FuncId} {fn : Func} {c : Code} {ps qs : List PV} {heap : Tr RB} {n : Nat} {r' : RS} (hf : P.funcs[f]? = some fn) (hb : fn.body = some c) (hN : Nat.ble ps.length fn.ntmps = true)
    (h : ∀ s, Knows (initR ps heap n) s → s.N = fn.ntmps → TriM C P none c (fun x s' => (x = .normal ∨ x = .ret) ∧ Knows r' s') s) (hr : ressV E r'.tm r'.heap.get fn.results.toList = some qs) : CallSC C P f ps heap n (packP qs) r'.heap r'.n := by
  intro s hk hn B0 w0 φ0 F0 F φ a w hs hC vs hlen hvs
  have hN := Nat.le_of_ble_eq_true hN
  refine (callsIn_wide (n := 0)).1 (callsIn_of_wp_marks hf hb trivial ?_)
  have hs1 : Sim ⟨fun k => B0.b k ∨ k ∈ ([] : List Nat), []⟩ w φ F ⟨initP 0 ps, fn.ntmps, s.heap, s.n, s.n⟩ F φ { tmps := vs ++ Array.replicate (fn.ntmps - vs.size) undef, defers := [] } w := by
    refine ⟨Bel.refl _ _, fun k hk => hs.base_le k (by simpa using hk), hs.fok, FMem.le_refl F, fun x hx => absurd rfl hx, fun _ _ => rfl, Nat.le_refl _, hs.fresh, by simp; omega, rfl, fun i p hp => ?_, fun b k hk => ?_, hs.inj⟩
    · rw [look_initP, if_pos (Nat.zero_le _), Nat.sub_zero] at hp
      have hi := (List.getElem?_eq_some_iff.1 hp).1
      have hi2 : i < vs.size := by omega
      rw [Array.getD_eq_getD_getElem?, Array.getElem?_append_left hi2, Array.getElem?_eq_getElem hi2]
      exact hvs i p _ hp (Array.getElem?_eq_getElem hi2)
    · obtain ⟨B, cs, hl⟩ := hs.heap b k hk
      exact ⟨B, cs, hl.to rfl hl.at_ (fun h => hl.old (by simpa using h)) (FMem.le_refl _) (Phi.le_refl _) hl.reads⟩
  have hsm : SM B0.b w φ F [] ⟨initP 0 ps, fn.ntmps, s.heap, s.n, s.n⟩ F φ { tmps := vs ++ Array.replicate (fn.ntmps - vs.size) undef, defers := [] } w := ⟨hs1, Bel.refl _ _, fun k hk => hs.base_le k hk, fun D hD => (by cases hD), fun D hD => (by cases hD), List.nodup_nil⟩
  refine wpIn_mono (h _ (initR_knows hk hn) rfl 0 B0.b w φ F F φ _ w [] hC hsm) ?_
  rintro e a' w1 ⟨x, s', F', φ', ms, rfl, ⟨hx, hq⟩, h1, h2, hs'⟩
  have hle : φ.le φ' := fun b y hb' => by
    rcases Nat.lt_or_ge b s.n with q | q
    · rw [hs'.sim.phi0 b (by rw [h1]; exact q)]; exact hb'
    · rw [hs.fresh b q] at hb'; cases hb'
  have hlo : s.n ≤ s'.n := by have := hs'.sim.lo; rw [h1] at this; exact this
  have hpost : LeavesInM Fence.wide 0 P fn a'.tmps (fun e w' => ∃ rv s' F' φ', e = .returned rv ∧ s'.tm = s.tm ∧ s'.N = s.N ∧ s'.lo = s.lo ∧ s'.n = r'.n ∧ KH r'.heap s' ∧ Sim B0 w0 φ0 F0 s' F' φ' a w' ∧ VR F' φ' (packP qs) rv) a'.defers .returning w1 := by
    rw [hs'.sim.defers]
    refine leaves_marks (ds := ms.map mark) hs'.base (fun w' hbel hsw => ?_) ms w1 hs'.sim hs'.below hs'.marks hs'.apart hs'.nodup
    obtain ⟨v, hv1, hv2⟩ := results_ok (P := P) hq hsw hr
    refine ⟨v, hv1, v, ⟨s.tm, s.N, s'.heap, s.lo, s'.n⟩, F', φ', rfl, rfl, rfl, rfl, hq.n, hq.heap, ?_, hv2⟩
    refine ⟨hs.below.trans hbel, hs.base, hsw.fok, FMem.le_trans hs.fle hsw.fle, fun x hx => ?_, fun b hb' => ?_, Nat.le_trans hs.lo hlo, hsw.fresh, hs.size, hs.defers, fun i p hp => (hs.tm i p hp).mono hsw.fle hle, fun b k hb => ?_, hsw.inj⟩
    · by_cases e1 : F' x = F x
      · exact hs.fnew x (fun e2 => hx (e1.trans e2))
      · exact hsw.fnew x e1
    · have hb2 : b < s.lo := hb'
      have := hs.lo
      rw [hsw.phi0 b (by rw [h1]; exact (show b < s.n by omega))]; exact hs.phi0 b hb2
    · obtain ⟨B, cs, hl⟩ := hsw.heap b k hb
      exact ⟨B, cs, hl.to rfl hl.at_ (fun h => hl.old h) (FMem.le_refl _) (Phi.le_refl _) hl.reads⟩
  rcases hx with rfl | rfl
  · exact hpost
  · exact hpost
end
end Go.Proofs.YtldelbknkkeniaaGreatDoor.E

/- The engine runs closed code: code, functions, ranges over functions, by fuel. -/
namespace Go.Proofs.YtldelbknkkeniaaGreatDoor.E
open Go Go.RowKit
set_option linter.unusedVariables false
set_option linter.unusedSimpArgs false
variable {P : Program}
noncomputable section
abbrev CodeF := Nat → Code → RS → Option (Ex × RS)
def seqR (self : RS → Option (Ex × RS)) : Option (Ex × RS) → Option (Ex × RS)
  | some (.normal, r) => self r
  | x => x
def blkR (id : Nat) : Option (Ex × RS) → Option (Ex × RS)
  | some (.exit j, r) => bif Nat.beq j id then some (.normal, r) else some (.exit j, r)
  | x => x
def normR : Option RS → Option (Ex × RS)
  | some r => some (.normal, r)
  | none => none
def ctxOf : Option YH → Ctx
  | none => noCtx
  | some y => HCtx y
/-- What a run says. -/
def CodeG (C : Ctx) (P : Program) (ro : Option Nat) (run : CodeF) : Prop := ∀ N c r x r', run N c r = some (x, r') → (∀ s, Knows r s → s.N = N → TriM C P ro c (Ends x r') s) ∧ Logs r r'
theorem Logs.uniq {r r' : RS} (h : Logs r r') (hr : r.log = []) : LogOK r.n r.heap r'.heap (uniqB r.n [] r'.log) ∧ r.n ≤ r'.n := by
  obtain ⟨h0, l, g1, g2⟩ := h
  refine ⟨fun b hb hnb => g2 b hb fun hl => hnb (uniqB_mem hb (.inl ?_)), h0⟩
  rw [g1]
  exact List.mem_append.2 (.inl hl)
/-! ### yield -/
abbrev YldF := Nat → List PV → Tr RB → Nat → Option CR
def yieldR (self : CodeF) (h : Option YH) : YldF := fun b args heap n => match h with
  | some y => bif Nat.beq y.b b && Nat.beq args.length y.ps.size && (y.ps.toList.all fun q => Nat.blt q y.N) then
      (match self y.N y.asg ⟨setAll y.ps.toList args y.tm, heap, n, []⟩ with
      | some (.normal, r1) => match self y.N y.body r1 with
        | some (.normal, r2) => some ⟨.t (.v (.bool true)), r2.heap, r2.n, uniqB n [] r2.log⟩
        | _ => none
      | _ => none) else none
  | none => none
def YldG (P : Program) (h : Option YH) (yld : YldF) : Prop := ∀ b args heap n x, yld b args heap n = some x → ∃ y r1 r2, h = some y ∧ y.b = b ∧ args.length = y.ps.size ∧ (y.ps.toList.all fun q => Nat.blt q y.N) = true ∧ x.p = .t (.v (.bool true)) ∧ x.heap = r2.heap ∧ x.n = r2.n ∧
  (∀ l s, Knows ⟨setAll y.ps.toList args y.tm, heap, n, []⟩ s → s.N = y.N → TriM noCtx P (some l) y.asg (Ends .normal r1) s) ∧ (∀ l s, Knows r1 s → s.N = y.N → TriM noCtx P (some l) y.body (Ends .normal r2) s) ∧ LogOK n heap x.heap x.log ∧ n ≤ x.n
theorem yieldR_ok {self : CodeF} (hs : ∀ l, CodeG noCtx P (some l) self) (h : Option YH) : YldG P h (yieldR self h) := by
  intro b args heap n x hx
  unfold yieldR at hx
  split at hx
  · rename_i y
    obtain ⟨hc, hx⟩ := bif_some hx
    simp only [Bool.and_eq_true] at hc
    split at hx
    · rename_i r1 h1
      split at hx
      · rename_i r2 h2
        cases hx
        have hl := Logs.uniq ((hs 0 _ _ _ _ _ h1).2.trans (hs 0 _ _ _ _ _ h2).2) rfl
        exact ⟨y, r1, r2, rfl, Nat.eq_of_beq_eq_true hc.1.1, Nat.eq_of_beq_eq_true hc.1.2, hc.2, rfl, rfl, rfl, fun l => (hs l _ _ _ _ _ h1).1, fun l => (hs l _ _ _ _ _ h2).1, hl.1, hl.2⟩
      · cases hx
    · cases hx
  · cases hx
section
variable {E : Env P} {call : CallF} {ops : Array Oper}
def nextY (E : Env P) (call : CallF) (yld : YldF) (ops : Array Oper) (r : RS) (o : Oper) : Option NX := match nextR E call ops r.tm r.heap r.n o with
  | some x => some x
  | none => match o.op with
    | .call ⟨.value x, xs, _⟩ => match guardR ops r.tm o with
      | some true => match evR r.tm x, allK r.tm xs.toList with
        | .yl b, some args => (yld b args r.heap r.n).map .call
        | _, _ => none
      | _ => none
    | _ => none
def isDefer : Op → Bool
  | .defer _ => true
  | _ => false
def regY (E : Env P) (call : CallF) (yld : YldF) (ops : Array Oper) (N : Nat) : List Oper → RS → Option RS
  | [], r => some r
  | o :: l, r => bif dstOK o N && !isDefer o.op then (match nextY E call yld ops r o with
      | some x => forceN x.n fun m => bif Nat.ble r.n m then regY E call yld ops N l { r.next o.dst x with n := m } else none
      | none => none) else none
theorem RS.next_n (r : RS) (d : Option Nat) (x : NX) : { r.next d x with n := x.n } = r.next d x := by cases x <;> rfl
theorem nextY_cases {yld : YldF} {r : RS} {o : Oper} {x : NX} (h : nextY E call yld ops r o = some x) : nextR E call ops r.tm r.heap r.n o = some x ∨
    ∃ y xs ts b args c, o.op = .call ⟨.value y, xs, ts⟩ ∧ guardR ops r.tm o = some true ∧ evR r.tm y = .yl b ∧ allK r.tm xs.toList = some args ∧ yld b args r.heap r.n = some c ∧ x = .call c := by
  unfold nextY at h
  split at h
  · rename_i y hy; cases h; exact .inl hy
  · split at h
    · rename_i y xs ts hop
      split at h
      · rename_i hg
        split at h
        · rename_i b args hb ha
          rw [Option.map_eq_some_iff] at h
          obtain ⟨c, hc, rfl⟩ := h
          exact .inr ⟨y, xs, ts, b, args, c, hop, hg, hb, ha, hc, rfl⟩
        · cases h
      · cases h
    · cases h
theorem regY_ok (hc : CallG P call) {yld : YldF} {h : Option YH} (hy : YldG P h yld) {ro : Option Nat} {N : Nat} : ∀ (l : List Oper) {r r' : RS} {s : St}, Knows r s → s.N = N → regY E call yld ops N l r = some r' → TriLM (ctxOf h) P ro ops l (fun s' => Knows r' s') s
  | [], r, r', s, K, hN, hr => by cases hr; exact TriLM.nil K
  | o :: l, r, r', s, K, hN, hr => by
    simp only [regY, forceN_eq, RS.next_n] at hr
    obtain ⟨hd, hr⟩ := bif_some hr
    simp only [Bool.and_eq_true, Bool.not_eq_true'] at hd
    have hnd : ∀ c, o.op ≠ .defer c := fun c e => by rw [e] at hd; cases hd.2
    split at hr
    · rename_i x hx
      obtain ⟨_, hr⟩ := bif_some hr
      have hdst := dstOK_ok hd.1
      rcases nextY_cases hx with hx | ⟨y, xs, ts, b, args, c, hop, hg, hb, ha, hcc, rfl⟩
      · have hstep := nextR_ok hc (K.kn o) (K.gkn ops o) (by rw [hN]; exact hdst) hx [] (NextS s o.dst x) fun s2 h2 => TriL.nil h2
        refine TriLM.step hnd hstep fun s2 h2 _ _ => ?_
        obtain ⟨K2, hN2⟩ := K.next h2
        exact regY_ok hc hy l K2 (hN2.trans hN) hr
      · obtain ⟨yh, r1, r2, rfl, rfl, y1, y2, y3, y4, y5, y6, y7, y8, y9⟩ := hy _ _ _ _ _ hcc
        have ha := allK_ok (s := s) (fun z hz p hp => K.ev hp) ha
        have hev : s.ev y = .yl yh.b := K.ev (by unfold evK; rw [hb])
        refine yield_step (K.gkn ops o) hg hop hev ha K.heap K.n (by rw [hN]; exact hdst) y1 y2 y6 y7 fun s2 h2 => ?_
        have h2' : NextS s o.dst (.call c) s2 := by
          show Called s o.dst c.p c.heap c.n s2
          rw [y3, y4, y5]; exact h2
        obtain ⟨K2, hN2⟩ := K.next h2'
        exact regY_ok hc hy l K2 (hN2.trans hN) hr
    · cases hr
theorem regY_log (hc : CallG P call) {yld : YldF} {h : Option YH} (hy : YldG P h yld) {N : Nat} : ∀ (l : List Oper) {r r' : RS}, regY E call yld ops N l r = some r' → Logs r r'
  | [], r, r', hr => by cases hr; exact .refl r
  | o :: l, r, r', hr => by
    simp only [regY, forceN_eq, RS.next_n] at hr
    obtain ⟨hd, hr⟩ := bif_some hr
    split at hr
    · rename_i x hx
      obtain ⟨hn, hr⟩ := bif_some hr
      rcases nextY_cases hx with hx | ⟨y, xs, ts, b, args, c, hop, hg, hb, ha, hcc, rfl⟩
      · exact Logs.trans (nextR_log hc hx hn) (regY_log hc hy l hr)
      · obtain ⟨yh, r1, r2, _, _, y1, y2, y3, y4, y5, y6, y7, y8, y9⟩ := hy _ _ _ _ _ hcc
        exact Logs.trans ⟨Nat.le_of_ble_eq_true hn, c.log, rfl, y8⟩ (regY_log hc hy l hr)
    · cases hr
def regG (E : Env P) (call : CallF) (yld : YldF) (ops : Array Oper) (draw : Bool) (N : Nat) (r : RS) : Option RS := match draw with
  | false => regY E call yld ops N ops.toList r
  | true => bif dOK ops (mkAnc ops) [] && noDefer ops then freeR E call ops (mkAnc ops) N ops.toList 0 [] [] r else none
theorem regG_ok (hc : CallG P call) {yld : YldF} {h : Option YH} (hy : YldG P h yld) {ro : Option Nat} {draw : Bool} {N id : Nat} {r r' : RS} {s : St} (K : Knows r s) (hN : s.N = N) (hr : regG E call yld ops draw N r = some r') : TriM (ctxOf h) P ro (.region id ops draw) (Ends .normal r') s := by
  cases draw with
  | false =>
    refine TriM.region ?_
    intro n B0 w0 φ0 F0 F φ a w ms hC hs Q hQ
    exact regY_ok hc hy _ K hN hr n B0 w0 φ0 F0 F φ a w ms hC hs Q fun s' F' φ' a' w' ms' hk => hQ s' F' φ' a' w' ms' ⟨rfl, hk⟩
  | true =>
    obtain ⟨hA, hr⟩ := bif_some hr
    simp only [Bool.and_eq_true] at hA
    subst hN
    intro n B0 w0 φ0 F0 F φ a w ms hC hs
    have hlt := hs.sim.ltH
    have hs2 := hs.sim.forget (l := mkH (fun b => (r.heap.get b).map RB.blk) s.n) fun b k hk => by
      rw [look_mkH] at hk
      split at hk
      · rw [Option.map_eq_some_iff] at hk
        obtain ⟨kb, h1, rfl⟩ := hk
        exact K.heap b kb h1
      · cases hk
    have hX : EX r.heap (mkH (fun b => (r.heap.get b).map RB.blk) s.n) s.n := by
      refine ⟨fun b k hk => ?_, fun b k hk => ?_⟩
      · rw [look_mkH, if_pos (hlt b _ (K.heap b k hk)).1, hk]; rfl
      · rw [look_mkH] at hk
        split at hk
        · rename_i hb
          rw [Option.map_eq_some_iff] at hk
          obtain ⟨kb, h1, rfl⟩ := hk
          exact ⟨hb, kb, h1, rfl⟩
        · cases hk
    have hob := freeR_ok (lo := s.lo) (KK := fun s' => Knows r' s') hc ops.toList (fun x hx => by cases hx) K.tm hX K.n.symm hr fun s' h => h
    have hany := regXs_any (P := P) hA.1 hob hs2 (Q := fun e a' w' => e = .normal ∧ ∃ s' F' φ', Knows r' s' ∧ s'.lo = s.lo ∧ s'.N = s.N ∧ Sim ⟨fun k => B0 k ∨ k ∈ ms, ms.map mark⟩ w φ0 F0 s' F' φ' a' w') fun s' F' φ' a' w' hk e1 e2 hs' => ⟨rfl, s', F', φ', hk, e1, e2, hs'⟩
    exact wpIn_region_any E.mixed (wpAnyIn_of hA.2 (fun e a w h => h.1) (fun a' w' ⟨_, s', F', φ', hk, e1, e2, hs'⟩ => ⟨.normal, s', F', φ', ms, rfl, ⟨rfl, hk⟩, e1, e2, hs.on hs'⟩) _ _ _ _ hany)
theorem regG_log (hc : CallG P call) {yld : YldF} {h : Option YH} (hy : YldG P h yld) {draw : Bool} {N : Nat} {r r' : RS} (hr : regG E call yld ops draw N r = some r') : Logs r r' := by
  cases draw with
  | false => exact regY_log hc hy _ hr
  | true =>
    obtain ⟨hA, hr⟩ := bif_some hr
    exact freeR_log _ hr
end
/-! ### code -/
abbrev ItF := YH → CallF
def ItG (P : Program) (it : ItF) : Prop := ∀ y f ps heap n x, it y f ps heap n = some x → CallSC (HCtx y) P f ps heap n x.p x.heap x.n ∧ FnIs P f ∧ LogOK n heap x.heap x.log ∧ n ≤ x.n
def stepC (E : Env P) (call : CallF) (yld : YldF) (it : ItF) (rd : Bool) (self : CodeF) (N : Nat) (c : Code) (r : RS) : Option (Ex × RS) := match c with
  | .skip => some (.normal, r)
  | .ret => some (.ret, r)
  | .exit id => some (.exit id, r)
  | .seq a b => seqR (self N b) (self N a r)
  | .cond c a b => match evR r.tm c with
    | .t (.v (.bool true)) => self N a r
    | .t (.v (.bool false)) => self N b r
    | _ => none
  | .block id b => blkR id (self N b r)
  | .loop b => seqR (self N (.loop b)) (self N b r)
  | .region _ ops d => normR (regG E call yld ops d N r)
  | .scope b => bif rd then none else self N b r
  | .rangeFunc f ps asg body => bif rd then none else match evR r.tm f with
    | .fn g fs caps => match it ⟨r.n, ps, asg, body, r.tm, N⟩ g (fs ++ [.yl r.n] ++ caps) r.heap (r.n + 1) with
      | some x => some (.normal, ⟨r.tm, x.heap, x.n, x.log ++ r.log⟩)
      | none => none
    | _ => none
  | _ => none
def ended : Ex → Bool
  | .exit _ => false
  | _ => true
def callF (E : Env P) (run : CodeF) : CallF := fun f ps heap n => match E.fnAt f with
  | some x => bif Nat.ble ps.length x.fn.ntmps then (match run x.fn.ntmps x.c (initR ps heap n) with
    | some (e, r) => bif ended e then (match ressV E r.tm r.heap.get x.fn.results.toList with
      | some qs => some ⟨packP qs, r.heap, r.n, uniqB n [] r.log⟩
      | none => none) else none
    | none => none) else none
  | none => none
def runC (E : Env P) : Nat → Option YH → Bool → CodeF
  | 0 => fun _ _ _ _ _ => none
  | f + 1 => fun h rd => stepC E (callF E (runC E f none false)) (yieldR (runC E f none true) h) (fun y => callF E (runC E f (some y) false)) rd (runC E f h rd)
section
variable {E : Env P}
theorem callF_ok {C : Ctx} {run : CodeF} (h : CodeG C P none run) : ∀ f ps heap n x, callF E run f ps heap n = some x → CallSC C P f ps heap n x.p x.heap x.n ∧ FnIs P f ∧ LogOK n heap x.heap x.log ∧ n ≤ x.n := by
  intro f ps heap n x hx
  unfold callF at hx
  split at hx
  · rename_i fe hf
    obtain ⟨f1, f2, f3⟩ := E.fnAt_ok hf
    obtain ⟨hN, hx⟩ := bif_some hx
    split at hx
    · rename_i e r hr
      obtain ⟨he, hx⟩ := bif_some hx
      split at hx
      · rename_i qs hq
        cases hx
        obtain ⟨h1, h2⟩ := h _ _ _ _ _ hr
        have hl := Logs.uniq h2 rfl
        refine ⟨CallSC.of f1 f2 hN (fun s hk hs => (h1 s hk hs).mono fun y s' _ _ hy => ⟨?_, hy.2⟩) hq, f3, hl.1, hl.2⟩
        obtain ⟨rfl, _⟩ := hy
        cases y with
        | normal => exact .inl rfl
        | ret => exact .inr rfl
        | exit id => cases he
      · cases hx
    · cases hx
  · cases hx
theorem stepC_ok {call : CallF} {yld : YldF} {it : ItF} {rd : Bool} {self : CodeF} {h : Option YH} {ro : Option Nat} (hro : rd = false → ro = none) (hc : CallG P call) (hy : YldG P h yld) (hi : ItG P it) (hs : CodeG (ctxOf h) P ro self) {N : Nat} {c : Code} {r r' : RS} {x : Ex} (hx : stepC E call yld it rd self N c r = some (x, r')) :
    ((∀ b, c ≠ .loop b) → ∀ s, Knows r s → s.N = N → TriM (ctxOf h) P ro c (Ends x r') s) ∧ Logs r r' := by
  have sq : ∀ {a : Code} {k : RS → Option (Ex × RS)} {K : Code}, seqR k (self N a r) = some (x, r') → (∀ r1, k r1 = some (x, r') → (∀ s, Knows r1 s → s.N = N → TriM (ctxOf h) P ro K (Ends x r') s) ∧ Logs r1 r') → (∀ s, Knows r s → s.N = N → TriM (ctxOf h) P ro (.seq a K) (Ends x r') s) ∧ Logs r r' := by
    intro a k K hq hk
    unfold seqR at hq
    split at hq
    · rename_i r1 h1
      obtain ⟨a1, a2⟩ := hs _ _ _ _ _ h1
      obtain ⟨b1, b2⟩ := hk _ hq
      refine ⟨fun s K hN => TriM.seq ((a1 s K hN).mono fun y s' _ e ⟨hy, hk'⟩ => ?_), a2.trans b2⟩
      subst hy
      exact b1 s' hk' (e.trans hN)
    · rename_i hne
      obtain ⟨a1, a2⟩ := hs _ _ _ _ _ hq
      refine ⟨fun s K hN => TriM.seq ((a1 s K hN).mono fun y s' _ e ⟨hy, hk'⟩ => ?_), a2⟩
      subst hy
      cases y with
      | normal => exact absurd hq (hne r')
      | ret => exact ⟨rfl, hk'⟩
      | exit id => exact ⟨rfl, hk'⟩
  unfold stepC at hx
  split at hx
  · cases hx; exact ⟨fun _ s K _ => TriM.skip ⟨rfl, K⟩, .refl _⟩
  · cases hx; exact ⟨fun _ s K _ => TriM.ret ⟨rfl, K⟩, .refl _⟩
  · cases hx; exact ⟨fun _ s K _ => TriM.exit ⟨rfl, K⟩, .refl _⟩
  · rename_i a b
    obtain ⟨h1, h2⟩ := sq (K := b) hx fun r1 hr1 => hs _ _ _ _ _ hr1
    exact ⟨fun _ => h1, h2⟩
  · rename_i cc a b
    split at hx
    · rename_i hcc
      obtain ⟨h1, h2⟩ := hs _ _ _ _ _ hx
      refine ⟨fun _ s K hN => TriM.cond (b := true) (K.ev ?_) (fun _ => h1 s K hN) (fun h => by cases h), h2⟩
      unfold evK; rw [hcc]
    · rename_i hcc
      obtain ⟨h1, h2⟩ := hs _ _ _ _ _ hx
      refine ⟨fun _ s K hN => TriM.cond (b := false) (K.ev ?_) (fun h => by cases h) (fun _ => h1 s K hN), h2⟩
      unfold evK; rw [hcc]
    · cases hx
  · rename_i id b
    unfold blkR at hx
    split at hx
    · rename_i j r1 h1
      obtain ⟨a1, a2⟩ := hs _ _ _ _ _ h1
      cases hj : Nat.beq j id with
      | true =>
        rw [hj] at hx; cases hx
        refine ⟨fun _ s K hN => TriM.block ((a1 s K hN).mono fun y s' _ _ ⟨hy, hk⟩ => ?_), a2⟩
        subst hy
        simp only [inBlk, Nat.eq_of_beq_eq_true hj, if_true]
        exact ⟨rfl, hk⟩
      | false =>
        rw [hj] at hx; cases hx
        refine ⟨fun _ s K hN => TriM.block ((a1 s K hN).mono fun y s' _ _ ⟨hy, hk⟩ => ?_), a2⟩
        subst hy
        simp only [inBlk, if_neg (Nat.ne_of_beq_eq_false hj)]
        exact ⟨rfl, hk⟩
    · rename_i hne
      obtain ⟨a1, a2⟩ := hs _ _ _ _ _ hx
      refine ⟨fun _ s K hN => TriM.block ((a1 s K hN).mono fun y s' _ _ ⟨hy, hk⟩ => ?_), a2⟩
      subst hy
      cases y with
      | normal => exact ⟨rfl, hk⟩
      | ret => exact ⟨rfl, hk⟩
      | exit j => exact absurd hx (hne j r')
  · rename_i b
    refine ⟨fun hb => absurd rfl (hb b), ?_⟩
    unfold seqR at hx
    split at hx
    · rename_i r1 h1
      exact (hs _ _ _ _ _ h1).2.trans (hs _ _ _ _ _ hx).2
    · exact (hs _ _ _ _ _ hx).2
  · rename_i id ops d
    unfold normR at hx
    split at hx
    · rename_i r1 h1
      cases hx
      exact ⟨fun _ s K hN => regG_ok hc hy K hN h1, regG_log hc hy h1⟩
    · cases hx
  · cases hrd : rd with
    | true => rw [hrd] at hx; cases hx
    | false =>
      rw [hrd, cond_false] at hx
      obtain rfl := hro hrd
      obtain ⟨h1, h2⟩ := hs _ _ _ _ _ hx
      exact ⟨fun _ s K hN => TriM.scope (h1 s K hN), h2⟩
  · rename_i f ps asg body
    cases hrd : rd with
    | true => rw [hrd] at hx; cases hx
    | false =>
      rw [hrd, cond_false] at hx
      obtain rfl := hro hrd
      split at hx
      · rename_i g fs caps hg
        split at hx
        · rename_i y hy'
          cases hx
          obtain ⟨i1, i2, i3, i4⟩ := hi _ _ _ _ _ _ hy'
          refine ⟨fun _ s K hN => ?_, Nat.le_of_succ_le i4, y.log, rfl, fun b hb hnb => i3 b (Nat.lt_succ_of_lt hb) hnb⟩
          subst hN
          exact TriM.rangeFunc K i2 (K.ev (by unfold evK; rw [hg])) i1
        · cases hx
      · cases hx
  · cases hx
theorem runC_all : ∀ (f : Nat) (h : Option YH) (rd : Bool) (ro : Option Nat), (rd = false → ro = none) → CodeG (ctxOf h) P ro (runC E f h rd) ∧ ∀ N b r x r', runC E f h rd N (.loop b) r = some (x, r') → ∀ s, Knows r s → s.N = N → TriR (ctxOf h) P ro b f (Ends x r') s
  | 0, h, rd, ro, _ => ⟨fun N c r x r' h => (by cases h), fun N b r x r' h => (by cases h)⟩
  | f + 1, h, rd, ro, hro => by
    obtain ⟨ih1, ih2⟩ := runC_all f h rd ro hro
    have hc : CallG P (callF E (runC E f none false)) := callF_ok (C := noCtx) (runC_all f none false none fun _ => rfl).1
    have hy : YldG P h (yieldR (runC E f none true) h) := yieldR_ok (fun l => (runC_all f none true (some l) fun e => by cases e).1) h
    have hi : ItG P (fun y => callF E (runC E f (some y) false)) := fun y => callF_ok (C := HCtx y) (runC_all f (some y) false none fun _ => rfl).1
    have key : ∀ N b r x r', runC E (f + 1) h rd N (.loop b) r = some (x, r') → ∀ s, Knows r s → s.N = N → TriR (ctxOf h) P ro b (f + 1) (Ends x r') s := by
      intro N b r x r' hr s K hN
      have hr : seqR (runC E f h rd N (.loop b)) (runC E f h rd N b r) = some (x, r') := hr
      unfold seqR at hr
      split at hr
      · rename_i r1 h1
        exact TriR.more ((ih1 _ _ _ _ _ h1).1 s K hN) fun s' K' hN' => ih2 _ _ _ _ _ hr s' K' (hN'.trans hN)
      · rename_i hne
        refine TriR.out (fun e => ?_) ((ih1 _ _ _ _ _ hr).1 s K hN)
        subst e
        exact hne r' hr
    refine ⟨fun N c r x r' hr => ?_, key⟩
    obtain ⟨h1, h2⟩ := stepC_ok hro hc hy hi ih1 hr
    refine ⟨fun s K hN => ?_, h2⟩
    by_cases hl : ∃ b, c = .loop b
    · obtain ⟨b, rfl⟩ := hl
      exact (key N b r x r' hr s K hN).loop
    · exact h1 (fun b e => hl ⟨b, e⟩) s K hN
/-- A function, run. -/
def runF (E : Env P) (fuel : Nat) : CallF := callF E (runC E fuel none false)
theorem runF_ok (fuel : Nat) : CallG P (runF E fuel) := callF_ok (C := noCtx) (runC_all fuel none false none fun _ => rfl).1
end
end
end Go.Proofs.YtldelbknkkeniaaGreatDoor.E

/- The engine runs closed code: what a run says of a function; tables. -/
namespace Go.Proofs.YtldelbknkkeniaaGreatDoor.E
open Go Go.RowKit
set_option linter.unusedVariables false
set_option linter.unusedSimpArgs false
variable {P : Program}
noncomputable section
def TyE.of {t : TypeId} {d : TypeDesc} {sz bytes : Nat} {z : Value} (h : TyIs P t d sz bytes z) : TyE P := ⟨t, d, sz, bytes, z, h⟩
def PlE.of {t : TypeId} {fs : Array Field} {pl : List (Nat × Nat)} (h : PlIs P t fs pl) {sz bytes : Nat} {z : Value} (u : TyIs P t (.struct fs) sz bytes z) : PlE P := ⟨t, fs, pl, h, u.und, false, fun h => by cases h⟩
def PlE.ofC {t : TypeId} {fs : Array Field} {pl : List (Nat × Nat)} (h : PlIs P t fs pl) {sz bytes : Nat} {z : Value} (u : TyIs P t (.struct fs) sz bytes z) (st : P.stoodInHeld t = false) (eg : P.eqGuardType P.depth t = false) (nu : (fs.toList.all fun f => decide (f.name ≠ "_")) = true) : PlE P :=
  ⟨t, fs, pl, h, u.und, true, fun _ => ⟨st, fun f hf => of_decide_eq_true (List.all_eq_true.1 nu f hf), eg⟩⟩
def bodyOf (f : Func) : Code := f.body.getD .skip
def FnE.of {f : FuncId} {fn : Func} (hf : P.funcs[f]? = some fn) (hb : fn.body = some (bodyOf fn)) (is : FnIs P f) : FnE P := ⟨f, fn, bodyOf fn, hf, hb, is⟩
def XtE.of {f : FuncId} {fn : Func} (hf : P.funcs[f]? = some fn) (hname : (fn.name == "runtime.NumGoroutine") = false) (hb : fn.body.isNone = true) (hn : Extern.findNext fn = none) (he : Extern.find fn = some Extern.AbiNoEscape.same) : XtE P :=
  ⟨f, fun ps => match ps with | [p] => some p | _ => none, fun ps q h F φ vs hl hv w => by
    split at h
    · rename_i p
      cases h
      obtain ⟨v, rfl⟩ : ∃ v, vs = #[v] := Array.size_eq_one_iff.1 hl.symm
      exact ⟨v, by rw [run_callFunc_extern hf hname hb hn he]; rfl, hv 0 q v rfl rfl⟩
    · cases h⟩
/-- Where a byte lies. -/
def XtE.ib {f : FuncId} {fn : Func} (hf : P.funcs[f]? = some fn) (hname : (fn.name == "runtime.NumGoroutine") = false) (hb : fn.body.isNone = true) (hn : Extern.findNext fn = none) (he : Extern.find fn = some Extern.BytealgIndexByte.indexByte) : XtE P :=
  ⟨f, fun ps => match ps with | [.t (.v (.string s)), .t (.v (.int .u8 c))] => some (.t (.v (.int .i64 (Lib.indexByte s.data.toList c.toNat.toUInt8)))) | _ => none, fun ps q h F φ vs hl hv w => by
    split at h
    · rename_i s c
      cases h
      obtain ⟨u, v, rfl⟩ : ∃ u v, vs = #[u, v] := by
        have h2 : vs.size = 2 := hl.symm
        match vs, h2 with
        | ⟨[u, v]⟩, _ => exact ⟨u, v, rfl⟩
      have hu := vrv (hv 0 _ u rfl rfl)
      have hw := vrv (hv 1 _ v rfl rfl)
      subst hu; subst hw
      exact ⟨_, by rw [run_callFunc_extern hf hname hb hn he, Lib.run_indexByteString]; rfl, .t (.v rfl)⟩
    · cases h⟩
/-- A new row of bytes. -/
def MkE.of {f : FuncId} {fn : Func} (hf : P.funcs[f]? = some fn) (hname : (fn.name == "runtime.NumGoroutine") = false) (hb : fn.body.isNone = true) (hn : Extern.findNext fn = none) {ps : Array TypeId} {t e : TypeId} (he : Extern.find fn = some (Extern.BytealgMakeNoZero.makeNoZero ps #[t])) (ht : P.underlying t = some (.slice e)) : MkE P :=
  ⟨f, e, fun m hm w => by
    obtain ⟨cs, h1, h2, _⟩ := Lib.run_makeNoZero (P := P) w ps t e ht m hm
    exact ⟨cs, by rw [run_callFunc_extern hf hname hb hn he, h1]; rfl, h2⟩⟩
theorem args_init {F : FMem} {φ : Phi} {vs : Array Value} {ts : List T} (h : ∀ (i : Nat) (x : T) (v : Value), ts[i]? = some x → vs[i]? = some v → TR F x v) : ∀ (i : Nat) (p : PV) (v : Value), (ts.map PV.t)[i]? = some p → vs[i]? = some v → VR F φ p v := by
  intro i p v hp hv
  rw [List.getElem?_map, Option.map_eq_some_iff] at hp
  obtain ⟨x, hx, rfl⟩ := hp
  exact .t (h i x v hx hv)
theorem Pure.ofRun {E : Env P} {fuel : Nat} {f : FuncId} {ts : List T} {t : T} {x : CR} (h : runF E fuel f (ts.map .t) .lf 0 = some x) (ht : x.p = .t t) : Pure P f ts (.one (.t t)) := by
  intro F vs w hF hn hv
  have hs : Sim ⟨(· < w.heap.size), []⟩ w (fun _ => none) F ⟨[], 0, [], 0, 0⟩ F (fun _ => none) { tmps := #[], defers := [] } w :=
    ⟨Bel.refl _ _, fun _ h => h, hF, FMem.le_refl F, fun x hx => absurd rfl hx, fun _ _ => rfl, Nat.le_refl _, fun _ _ => rfl, rfl, rfl, (fun i p hp => by cases hp), (fun b k hk => by cases hk), (fun b b' k k' B sz sz' hk => by cases hk)⟩
  obtain ⟨h1, _⟩ := runF_ok fuel _ _ _ _ _ h
  refine (h1 ⟨[], 0, [], 0, 0⟩ (fun b k hk => by cases hk) rfl _ _ _ _ _ _ _ _ hs trivial vs (by simpa using hn) (args_init hv)).mono ?_
  rintro e w' ⟨rv, s', F', φ', rfl, _, _, _, _, _, hs', hr⟩
  refine ⟨rv, F', rfl, hs'.fle, hs'.fok, fun a ha => Nat.le_of_not_lt (hs'.fnew a ha), hs'.below.below, .one (.t ?_)⟩
  rw [ht] at hr
  cases hr with
  | t h => exact h
/-- A closed function's answer. -/
def runB (E : Env P) (fuel : Nat) (f : FuncId) : Option Bool := match runF E fuel f [] .lf 0 with
  | some ⟨.t (.v (.bool b)), _, _, _⟩ => some b
  | _ => none
theorem Pure.ofB {E : Env P} {fuel : Nat} {f : FuncId} {b : Bool} (h : runB E fuel f = some b) : Pure P f [] (.one (.t (.v (.bool b)))) := by
  unfold runB at h
  split at h
  · rename_i b' h' n l hx
    cases h
    exact Pure.ofRun (ts := []) hx rfl
  · cases h
end
end Go.Proofs.YtldelbknkkeniaaGreatDoor.E
