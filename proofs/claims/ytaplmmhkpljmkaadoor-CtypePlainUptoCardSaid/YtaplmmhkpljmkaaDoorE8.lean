/- The engine: small words for proofs over it. -/
import Derived.Test.YtaplmmhkpljmkaaDoorE7
namespace Go.Proofs.YtaplmmhkpljmkaaDoor.E
open Go Go.RowKit
set_option linter.unusedVariables false
set_option linter.unusedSimpArgs false
variable {P : Program}

/-- A region as it is written. -/
theorem Tri.reg {id : Nat} {l : List Oper} {Q : Ex → St → Prop} {s : St} (h : TriL P l.toArray l (Q .normal) s) : Tri P (.region id l.toArray false) Q s :=
  .region (by simpa using h)
/-- A test that is decided by a proposition. -/
theorem Tri.ifd {c : Operand} {x y : Code} {Q : Ex → St → Prop} {s : St} {p : Prop} {b : Bool} (hb : s.ev c = .t (.v (.bool b))) (hp : (b = true) = p) (ht : p → Tri P x Q s) (hf : ¬ p → Tri P y Q s) : Tri P (.cond c x y) Q s :=
  .cond hb (fun h => ht (hp ▸ h)) (fun h => hf (fun h2 => by rw [← hp] at h2; rw [h] at h2; cases h2))
/-- A call whose answer is a tree. -/
theorem VO.call {d ty : Nat} {pos : String} {af : Array Edge} {g : Option (Nat × Bool)} {s : St} {H : Prop} {x : Operand} {f : FuncId} {xs : List Operand} {ts : Array TypeId} {targs : List T} {r : T} [hf : FnIs P f] (hx : s.ev x = .t (.v (.func (.func f) #[] #[])))
    (hl : targs.length = xs.length) (hp : ∀ (i : Nat) (y : Operand) (u : T), xs[i]? = some y → targs[i]? = some u → ∃ p, EvH H s y p ∧ p.toT = some u) (hr : H → Pure P f targs (.one (.t r))) : VO P H ⟨some d, .call ⟨.value x, xs.toArray, ts⟩, ty, pos, af, g⟩ s (.t r) := by
  intro hH B0 w0 φ0 F0 F φ a w hs next Q hQ
  have hfn := (evv0 hs hx).1
  have hrun : (execOp a.eval ⟨some d, .call ⟨.value x, xs.toArray, ts⟩, ty, pos, af, g⟩).run P w = .ok (.enter f (xs.map a.eval).toArray) w := by
    simp [execOp, resolve, hfn, Deferred.ofValue, invoke, callFunc_run hf]
  simp only [Oper.wp, hrun, Oper.upon]
  refine (hr hH F (xs.map a.eval).toArray w hs.fok (by simpa using hl) (fun i x v h1 h2 => ?_)).mono ?_
  · simp only [List.getElem?_toArray, List.getElem?_map, Option.map_eq_some_iff] at h2
    obtain ⟨y, hy, rfl⟩ := h2
    obtain ⟨p, q1, q2⟩ := hp i y x hy h1
    exact PV.toT_tr (q1.vr hH hs) q2
  · rintro e w' ⟨rv, F2, rfl, h1, h2, h3, h4, h5⟩
    have hsim : Sim B0 w0 φ0 F0 s F2 φ a w' := by
      have hb1 : Sim B0 w0 φ0 F0 s F φ a w' := hs.world (h4.mono hs.base_le) (fun b k B sz q1 q2 => h4.block B (hs.block_lt q1 q2)) (fun x u e1 => by
        obtain ⟨q1, q2⟩ := hs.fok x u e1
        exact ⟨by rw [h4.cell (cell_lt q1)]; exact q1, q2⟩)
      exact hb1.more h1 h2 (fun x hx => Nat.le_trans hs.base_le (h3 x hx)) (fun b k B sz q1 q2 x hx => by have := h3 x hx; have := hs.block_lt q1 q2; omega)
    cases h5 with
    | one hr1 => cases hr1 with | t ht => exact hQ rv F2 w' hsim (.t ht)
theorem args1 {H : Prop} {s : St} {x : Operand} {p : PV} {u : T} (h : EvH H s x p) (k : p.toT = some u) : ∀ (i : Nat) (y : Operand) (v : T), [x][i]? = some y → [u][i]? = some v → ∃ q, EvH H s y q ∧ q.toT = some v := by
  intro i y v h1 h2
  cases i with
  | zero => cases h1; cases h2; exact ⟨p, h, k⟩
  | succ i => simp at h1
theorem args2 {H : Prop} {s : St} {x y : Operand} {p q : PV} {u v : T} (h : EvH H s x p) (k : p.toT = some u) (h' : EvH H s y q) (k' : q.toT = some v) : ∀ (i : Nat) (z : Operand) (r : T), [x, y][i]? = some z → [u, v][i]? = some r → ∃ q, EvH H s z q ∧ q.toT = some r := by
  intro i z r h1 h2
  cases i with
  | zero => cases h1; cases h2; exact ⟨p, h, k⟩
  | succ i => exact args1 h' k' i z r (by simpa using h1) (by simpa using h2)
theorem Comes1.ret {t : Tmp} {r : R1} {s : St} {y : T} (h : (evt s.tm (.tmp t)).toT = some y) (e : R1.t y = r) : Comes1 t r .ret s := ⟨.inr rfl, e ▸ .tree h .nil⟩
/-- What is known here is known there. -/
def subT {α : Type} : List (Nat × α) → List (Nat × α) → Prop
  | [], _ => True
  | (i, p) :: l, m => look i m = some p ∧ subT l m
theorem subT_look {α : Type} : ∀ {l m : List (Nat × α)}, subT l m → ∀ i p, look i l = some p → look i m = some p
  | [], _, _, i, p, h => by cases h
  | (j, q) :: l, m, hs, i, p, h => by
    simp only [look] at h
    split at h
    · rename_i e; subst e; cases h; exact hs.1
    · exact subT_look hs.2 i p h
theorem Sub.of {tm tm2 : List (Nat × PV)} {N : Nat} {hp hp2 : List (Nat × Blk)} {lo n n2 : Nat} (hn : n2 = n) (hlo : Nat.ble lo n = true) (ht : subT tm2 tm) (hh : subT hp2 hp) : Sub ⟨tm2, N, hp2, lo, n2⟩ ⟨tm, N, hp, lo, n⟩ := by
  subst hn
  exact ⟨rfl, rfl, Nat.le_refl _, by simpa [Nat.ble_eq] using hlo, fun i p h => ⟨subT_look ht i p h, .inl rfl⟩, fun i p h => ⟨subT_look hh i p h, .inl rfl⟩⟩
def ltT (m : Nat) : List (Nat × PV) → Bool
  | [] => true
  | (_, p) :: l => PV.lt m p && ltT m l
def ltB (m : Nat) : List (Nat × Blk) → Bool
  | [] => true
  | (b, k) :: l => Nat.blt b m && Blk.lt m k && ltB m l
theorem ltT_look : ∀ {m : Nat} {l : List (Nat × PV)}, ltT m l = true → ∀ i p, look i l = some p → PV.lt m p = true
  | m, [], _, i, p, h => by cases h
  | m, (j, q) :: l, hs, i, p, h => by
    simp only [ltT, Bool.and_eq_true] at hs
    simp only [look] at h
    split at h
    · cases h; exact hs.1
    · exact ltT_look hs.2 i p h
theorem ltB_look : ∀ {m : Nat} {l : List (Nat × Blk)}, ltB m l = true → ∀ i p, look i l = some p → i < m ∧ Blk.lt m p = true
  | m, [], _, i, p, h => by cases h
  | m, (j, q) :: l, hs, i, p, h => by
    simp only [ltB, Bool.and_eq_true, Nat.blt_eq] at hs
    simp only [look] at h
    split at h
    · rename_i e; subst e; cases h; exact hs.1
    · exact ltB_look hs.2 i p h
/-- The count of blocks begins anew. -/
theorem Sub.ofn {tm tm2 : List (Nat × PV)} {N : Nat} {hp hp2 : List (Nat × Blk)} {lo n n2 : Nat} (hn : n2 ≤ n) (hlo : Nat.ble lo n2 = true) (ht : subT tm2 tm) (hh : subT hp2 hp) (h1 : ltT n2 tm2 = true) (h2 : ltB n2 hp2 = true) : Sub ⟨tm2, N, hp2, lo, n2⟩ ⟨tm, N, hp, lo, n⟩ :=
  ⟨rfl, rfl, hn, by simpa [Nat.ble_eq] using hlo, fun i p h => ⟨subT_look ht i p h, .inr (ltT_look h1 i p h)⟩, fun i p h => ⟨subT_look hh i p h, .inr (ltB_look h2 i p h)⟩⟩
/-- A loop whose state is told by a parameter. -/
theorem Tri.loopS {α : Type} {c : Code} {Q : Ex → St → Prop} {s : St} (S : α → St) (inv : α → Prop) (μ : α → Nat) (a0 : α) (h0 : inv a0) (hsub : Sub (S a0) s)
    (round : ∀ a, inv a → Tri P c (after Q (fun s2 => ∃ a', inv a' ∧ μ a' < μ a ∧ Sub (S a') s2)) (S a)) : Tri P (.loop c) Q s := by
  refine Tri.sub hsub ?_
  refine Tri.loop (fun s' => ∃ a, inv a ∧ s' = S a) (fun s' => leastOf fun n => ∃ a, inv a ∧ s' = S a ∧ μ a = n) ⟨a0, h0, rfl⟩ ?_
  rintro s' ⟨a1, ha1, rfl⟩ h1 h2
  have hl : ∃ n, ∃ a, inv a ∧ S a1 = S a ∧ μ a = n := ⟨_, a1, ha1, rfl, rfl⟩
  obtain ⟨a, ha, he, hμ⟩ := leastOf_spec hl
  rw [he]
  refine (round a ha).mono ?_
  intro x s2 _ _ hq
  cases x with
  | normal =>
    obtain ⟨a', ha', hlt, hs⟩ := hq
    refine ⟨S a', hs, ⟨a', ha', rfl⟩, ?_⟩
    have h3 : leastOf (fun n => ∃ b, inv b ∧ S a' = S b ∧ μ b = n) ≤ μ a' := leastOf_le ⟨a', ha', rfl, rfl⟩
    have h4 : leastOf (fun n => ∃ b, inv b ∧ S a = S b ∧ μ b = n) = μ a := by rw [← he]; exact hμ.symm
    show leastOf (fun n => ∃ b, inv b ∧ S a' = S b ∧ μ b = n) < leastOf (fun n => ∃ b, inv b ∧ S a = S b ∧ μ b = n)
    omega
  | ret => exact hq
  | exit id => exact hq
theorem wrap_i64 {n : Int} (h0 : -9223372036854775808 ≤ n) (h1 : n ≤ 9223372036854775807) : IntKind.i64.wrap n = n := IntWalk.i64_in n ⟨h0, h1⟩
end Go.Proofs.YtaplmmhkpljmkaaDoor.E
