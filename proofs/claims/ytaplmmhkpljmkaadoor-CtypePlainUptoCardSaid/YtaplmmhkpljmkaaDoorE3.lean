/- The engine's rules for operations that touch memory: new blocks, loads, stores, addresses. -/
import Derived.Test.YtaplmmhkpljmkaaDoorE2
import Derived.Deep.AppendSrc
import Derived.Deep.MidRow
import Derived.Laws.CopyRow
namespace Go.Proofs.YtaplmmhkpljmkaaDoor.E
set_option linter.unusedVariables false
set_option linter.unusedSimpArgs false
open Go Go.RowKit

variable {P : Program}

section
variable {B0 : Nat} {w0 : World} {φ0 : Phi} {F0 : FMem} {s : St} {F : FMem} {φ : Phi} {a : Act} {w : World}

theorem Sim.world (h : Sim B0 w0 φ0 F0 s F φ a w) {w' : World} (hb : Below B0 w w') (hh : ∀ b k B sz, look b s.heap = some k → φ b = some (B, sz) → w'.heap[B]? = w.heap[B]?) (hc : FOK F w') : Sim B0 w0 φ0 F0 s F φ a w' :=
  ⟨h.below.trans hb, h.base, hc, h.fle, h.fnew, h.phi0, h.lo, h.fresh, h.size, h.defers, h.tm, (fun b k hk => by
      obtain ⟨B, cs, hl⟩ := h.heap b k hk
      exact ⟨B, cs, hl.at_, hl.old, by rw [hh b k B _ hk hl.at_]; exact hl.cells, hl.reads⟩), h.inj⟩
theorem Sim.drew (h : Sim B0 w0 φ0 F0 s F φ a w) : Sim B0 w0 φ0 F0 s F φ a w.drew :=
  h.world ((Below.refl _ _).drew) (fun _ _ _ _ _ _ => rfl) h.fok
theorem cell_lt {w : World} {a : Addr} {u : Value} (h : w.cell? a = some u) : a.block < w.heap.size := by
  unfold World.cell? at h
  split at h
  · rename_i hb; exact (Array.getElem?_eq_some_iff.1 hb).1
  · cases h
theorem FOK.lt (h : FOK F w) {a : Addr} {u : Value} (e : F a = some u) : a.block < w.heap.size := cell_lt (h a u e).1
theorem Sim.base_le (h : Sim B0 w0 φ0 F0 s F φ a w) : B0 ≤ w.heap.size := Nat.le_trans h.base h.below.size
theorem Sim.block_lt (h : Sim B0 w0 φ0 F0 s F φ a w) {b : Nat} {k : Blk} (hk : look b s.heap = some k) {B sz : Nat} (hb : φ b = some (B, sz)) : B < w.heap.size := by
  obtain ⟨B', cs, hl⟩ := h.heap b k hk
  have := hl.at_; rw [hb] at this; cases this
  obtain ⟨t, ht⟩ := hl.cells
  exact (Array.getElem?_eq_some_iff.1 ht).1
theorem FOK.alloc (h : FOK F w) (o : Obj) : FOK F (w.alloc o) := fun a u e => by
  rw [World.cell?_alloc_lt (o := o) (h := h.lt e)]; exact h a u e

def Phi.new (φ : Phi) (n : Nat) (x : Nat × Nat) : Phi := fun b => if b = n then some x else φ b
theorem Phi.le_new {φ : Phi} {n : Nat} {x : Nat × Nat} (h : φ n = none) : φ.le (φ.new n x) := by
  intro b y hb
  unfold Phi.new
  split
  · rename_i e; subst e; rw [h] at hb; cases hb
  · exact hb
theorem HB.mono {F : FMem} {φ ψ : Phi} (hφ : φ.le ψ) {B : Nat} {cs : Array Value} {k : Blk} (h : HB F φ B cs k) : HB F ψ B cs k := by
  cases h with
  | obj hn h hF => exact .obj hn (fun i p hp => let ⟨u, h1, h2⟩ := h i p hp; ⟨u, h1, h2.mono (FMem.le_refl F) hφ⟩) hF
  | row hn he h hF => exact .row hn he h hF
def St.alloc (s : St) (k : Blk) : St := { s with heap := (s.n, k) :: s.heap, n := s.n + 1 }
/-- A new block. -/
theorem Sim.alloc (h : Sim B0 w0 φ0 F0 s F φ a w) {cs : Array Value} {t : TypeId} {k : Blk} (hk : HB F φ w.heap.size cs k) :
    φ.le (φ.new s.n (w.heap.size, cs.size)) ∧ Sim B0 w0 φ0 F0 (s.alloc k) F (φ.new s.n (w.heap.size, cs.size)) a (w.alloc (.cells cs t)) := by
  have hle : φ.le (φ.new s.n (w.heap.size, cs.size)) := Phi.le_new (h.fresh _ (Nat.le_refl _))
  have hsz : (w.alloc (.cells cs t)).heap.size = w.heap.size + 1 := by simp
  refine ⟨hle, ⟨h.below.trans ((Below.refl _ _).alloc h.base_le _), h.base, h.fok.alloc _, h.fle, h.fnew, ?_, Nat.le_succ_of_le h.lo, ?_, h.size, h.defers, ?_, ?_, ?_⟩⟩
  · intro b hb
    show (φ.new s.n _) b = _
    have := h.lo
    unfold Phi.new
    rw [if_neg (by simp [St.alloc] at hb; omega)]
    exact h.phi0 b hb
  · intro b hb
    simp only [St.alloc] at hb
    unfold Phi.new
    rw [if_neg (by omega)]
    exact h.fresh b (by omega)
  · intro i p hp
    exact (h.tm i p hp).mono (FMem.le_refl F) hle
  · intro b k' hk'
    simp only [St.alloc, look] at hk'
    split at hk'
    · rename_i e; subst e; cases hk'
      refine ⟨w.heap.size, cs, by simp [Phi.new], h.base_le, ⟨t, ?_⟩, hk.mono hle⟩
      show (w.heap.push _)[w.heap.size]? = _
      simp
    · obtain ⟨B, cs', hl⟩ := h.heap b k' hk'
      obtain ⟨t', ht'⟩ := hl.cells
      refine ⟨B, cs', hle _ _ hl.at_, hl.old, ⟨t', ?_⟩, hl.reads.mono hle⟩
      rw [Below.heap_alloc _ _ _ (Array.getElem?_eq_some_iff.1 ht').1]; exact ht'
  · intro b b' k1 k2 B sz sz' h1 h2 h3 h4
    simp only [St.alloc, look] at h1 h2
    unfold Phi.new at h3 h4
    by_cases e1 : b = s.n <;> by_cases e2 : b' = s.n
    · rw [e1, e2]
    · rw [if_pos e1] at h3; rw [if_neg e2] at h4 h2
      cases h3
      exact absurd (h.block_lt h2 h4) (by omega)
    · rw [if_pos e2] at h4; rw [if_neg e1] at h3 h1
      cases h4
      exact absurd (h.block_lt h1 h3) (by omega)
    · rw [if_neg e1] at h3 h1; rw [if_neg e2] at h4 h2
      exact h.inj b b' k1 k2 B sz sz' h1 h2 h3 h4

def St.upd (s : St) (b : Nat) (k : Blk) : St := { s with heap := (b, k) :: s.heap }
/-- A block of our own is written. -/
theorem Sim.upd (h : Sim B0 w0 φ0 F0 s F φ a w) {b : Nat} {k k' : Blk} {B : Nat} {cs cs' : Array Value} (hk : look b s.heap = some k) (hl : Live F φ B0 w b k B cs) (hsz : cs'.size = cs.size)
    (hk' : HB F φ B cs' k') (hF : ∀ a u, F a = some u → a.block = B → cs'[a.off]? = cs[a.off]?) : Sim B0 w0 φ0 F0 (s.upd b k') F φ a (w.setRow B cs') := by
  obtain ⟨t, ht⟩ := hl.cells
  refine ⟨?_, h.base, ?_, h.fle, h.fnew, h.phi0, h.lo, h.fresh, h.size, h.defers, h.tm, ?_, ?_⟩
  · exact h.below.trans ⟨rfl, rfl, rfl, by simp, fun j hj => setRow_other _ _ _ _ (by have := hl.old; omega)⟩
  · intro x u e
    by_cases eb : x.block = B
    · obtain ⟨h1, h3⟩ := h.fok x u e
      refine ⟨?_, h3⟩
      have h2 := hF x u e eb
      unfold World.cell? at h1 ⊢
      rw [eb] at h1 ⊢
      rw [setRow_heap w B cs cs' t (0, 0) ht]
      rw [ht] at h1
      simp only at h1 ⊢
      split at h1
      · cases h1
      · rename_i hs; rw [if_neg hs, h2]; exact h1
    · rw [World.cell?_of_block (w := w) (setRow_other _ _ _ _ eb)]; exact h.fok x u e
  · intro b2 k2 hk2
    simp only [St.upd, look] at hk2
    split at hk2
    · rename_i e; subst e; cases hk2
      exact ⟨B, cs', by rw [hsz]; exact hl.at_, hl.old, ⟨t, setRow_heap w B cs cs' t (0, 0) ht⟩, hk'⟩
    · rename_i e
      obtain ⟨B2, cs2, hl2⟩ := h.heap b2 k2 hk2
      refine ⟨B2, cs2, hl2.at_, hl2.old, ?_, hl2.reads⟩
      have : B2 ≠ B := fun e2 => e (h.inj b2 b k2 k B _ _ hk2 hk (e2 ▸ hl2.at_) hl.at_)
      rw [setRow_other _ _ _ _ this]; exact hl2.cells
  · intro b1 b2 k1 k2 B' sz sz' h1 h2 h3 h4
    simp only [St.upd, look] at h1 h2
    by_cases e1 : b1 = b <;> by_cases e2 : b2 = b
    · rw [e1, e2]
    · rw [if_neg e2] at h2; subst e1; exact h.inj _ _ k k2 B' sz sz' hk h2 h3 h4
    · rw [if_neg e1] at h1; subst e2; exact h.inj _ _ k1 k B' sz sz' h1 hk h3 h4
    · rw [if_neg e1] at h1; rw [if_neg e2] at h2; exact h.inj _ _ k1 k2 B' sz sz' h1 h2 h3 h4
end

/-! ### a value's cells -/
def PV.known : PV → Bool
  | .undef | .cond _ _ _ => false
  | _ => true
theorem TR.cells {F : FMem} {x : T} {v : Value} (h : TR F x v) : x.leaves.length = v.cells.size ∧ ∀ (i : Nat) (y : T), x.leaves[i]? = some y → ∃ u, v.cells[i]? = some u ∧ TR F y u := by
  cases h with
  | v h =>
    have : v.cells = #[v] := by cases v <;> simp_all [sc, Value.cells]
    rw [this]
    refine ⟨rfl, fun i y hy => ?_⟩
    simp only [T.leaves] at hy
    cases i with
    | zero => simp at hy; subst hy; exact ⟨v, rfl, .v h⟩
    | succ i => simp at hy
  | nil =>
    refine ⟨rfl, fun i y hy => ?_⟩
    simp only [T.leaves] at hy
    cases i with
    | zero => simp at hy; subst hy; exact ⟨_, rfl, .nil⟩
    | succ i => simp at hy
  | sl0 =>
    refine ⟨rfl, fun i y hy => ?_⟩
    simp only [T.leaves] at hy
    cases i with
    | zero => simp at hy; subst hy; exact ⟨_, rfl, .sl0⟩
    | succ i => simp at hy
  | sl us hc he hF hu =>
    refine ⟨rfl, fun i y hy => ?_⟩
    simp only [T.leaves] at hy
    cases i with
    | zero => simp at hy; subst hy; exact ⟨_, rfl, .sl us hc he hF hu⟩
    | succ i => simp at hy
  | @agg xs vs hn h =>
    refine ⟨hn, fun i y hy => ?_⟩
    simp only [T.leaves] at hy
    have hi : i < vs.size := by
      rw [← hn]; exact (List.getElem?_eq_some_iff.1 hy).1
    exact ⟨vs[i], Array.getElem?_eq_getElem hi, h i y _ hy (Array.getElem?_eq_getElem hi)⟩
theorem VR.cells {F : FMem} {φ : Phi} {p : PV} {v : Value} (h : VR F φ p v) (hp : p.known = true) :
    p.leaves.length = v.cells.size ∧ ∀ (i : Nat) (y : PV), p.leaves[i]? = some y → ∃ u, v.cells[i]? = some u ∧ VR F φ y u := by
  have one : ∀ {q : PV} {u : Value}, VR F φ q u → q.leaves = [q] → u.cells = #[u] → q.leaves.length = u.cells.size ∧ ∀ (i : Nat) (y : PV), q.leaves[i]? = some y → ∃ x, u.cells[i]? = some x ∧ VR F φ y x := by
    intro q u hq h1 h2
    rw [h1, h2]
    refine ⟨rfl, fun i y hy => ?_⟩
    cases i with
    | zero => simp at hy; subst hy; exact ⟨u, rfl, hq⟩
    | succ i => simp at hy
  cases h with
  | undef => cases hp
  | @t x v h =>
    obtain ⟨h1, h2⟩ := h.cells
    cases x with
    | agg xs =>
      simp only [T.leaves] at h1 h2
      refine ⟨by simpa [PV.leaves] using h1, fun i y hy => ?_⟩
      simp only [PV.leaves, List.getElem?_map, Option.map_eq_some_iff] at hy
      obtain ⟨z, hz, rfl⟩ := hy
      obtain ⟨u, hu, hr⟩ := h2 i z hz
      exact ⟨u, hu, .t hr⟩
    | v z => 
      refine one (.t h) rfl ?_
      cases h with | v hs => cases v <;> simp_all [sc, Value.cells]
    | sl n xs =>
      refine one (.t h) rfl ?_
      cases h <;> rfl
  | ref hb h1 h2 h3 => exact one (.ref hb h1 h2 h3) rfl rfl
  | ptr hb => exact one (.ptr hb) rfl rfl
  | rptr hb => exact one (.rptr hb) rfl rfl
  | eptr us h => exact one (.eptr us h) rfl rfl
  | clip us h => exact one (.clip us h) rfl rfl
  | @agg ps vs hn h =>
    refine ⟨hn, fun i y hy => ?_⟩
    simp only [PV.leaves] at hy
    have hi : i < vs.size := by rw [← hn]; exact (List.getElem?_eq_some_iff.1 hy).1
    exact ⟨vs[i], Array.getElem?_eq_getElem hi, h i y _ hy (Array.getElem?_eq_getElem hi)⟩
  | tup hn h => exact one (.tup hn h) rfl rfl
  | fn hn h => exact one (.fn hn h) rfl rfl
  | cond => cases hp
/-- A block's cells that are a value's. -/
theorem HB.ofCells {F : FMem} {φ : Phi} {w : World} (hF : FOK F w) {cells : List PV} {cs : Array Value} (h1 : cells.length = cs.size) (h2 : ∀ (i : Nat) (y : PV), cells[i]? = some y → ∃ u, cs[i]? = some u ∧ VR F φ y u) :
    HB F φ w.heap.size cs (.obj cells) :=
  .obj (Nat.le_of_eq h1) h2 (fun _ _ e => Nat.ne_of_lt (hF.lt e))

/-- A struct's value out of its leaves: a tree, if they are. -/
def toTs : List PV → Option (List T)
  | [] => some []
  | .t x :: l => (toTs l).map (x :: ·)
  | _ :: _ => none
def mkAgg (ps : List PV) : PV :=
  match toTs ps with
  | some xs => .t (.agg xs)
  | none => .agg ps
theorem toTs_some {ps : List PV} {xs : List T} (h : toTs ps = some xs) : ps = xs.map .t := by
  induction ps generalizing xs with
  | nil => cases h; rfl
  | cons p ps ih =>
    cases p with
    | t x =>
      simp only [toTs, Option.map_eq_some_iff] at h
      obtain ⟨ys, hy, rfl⟩ := h
      rw [ih hy]; rfl
    | _ => cases h
theorem mkAgg_vr {F : FMem} {φ : Phi} {ps : List PV} {vs : Array Value} (hn : ps.length = vs.size) (h : ∀ (i : Nat) (p : PV) (u : Value), ps[i]? = some p → vs[i]? = some u → VR F φ p u) : VR F φ (mkAgg ps) (.agg vs) := by
  unfold mkAgg
  split
  · rename_i xs hxs
    have := toTs_some hxs
    subst this
    refine .t (.agg (by simpa using hn) (fun i x u hx hu => ?_))
    have := h i (.t x) u (by simp [hx]) hu
    cases this with | t ht => exact ht
  · exact .agg hn h

section ops
variable {d ty : Nat} {pos : String} {af : Array Edge} {g : Option (Nat × Bool)} {K : St → Prop} {s : St} {H : Prop}

theorem TriO.gen {o : Oper} {d : Nat} (hd : o.dst = some d) (hN : Nat.blt d s.N = true)
    (h : ∀ B0 w0 φ0 F0 F φ a w, Sim B0 w0 φ0 F0 s F φ a w → ∃ v w' s' F' φ' p, (execOp a.eval o).run P w = .ok (.value v) w' ∧ s'.lo = s.lo ∧ s'.N = s.N ∧ Sim B0 w0 φ0 F0 s' F' φ' a w' ∧ VR F' φ' p v ∧ K (s'.put d p)) : TriO P o K s := by
  intro B0 w0 φ0 F0 F φ a w hs next Q hQ
  obtain ⟨v, w', s', F', φ', p, hr, h1, h2, hs', hv, hK⟩ := h B0 w0 φ0 F0 F φ a w hs
  simp only [Oper.wp, hr, Oper.upon]
  rw [hd]
  exact hQ (s'.put d p) F' φ' _ _ hK h1 h2 (hs'.put (by rw [h2]; simpa [Nat.blt_eq] using hN) hv)
/-- An operation without an answer. -/
theorem TriO.act {o : Oper} (hd : o.dst = none)
    (h : ∀ B0 w0 φ0 F0 F φ a w, Sim B0 w0 φ0 F0 s F φ a w → ∃ w' s' F' φ', (execOp a.eval o).run P w = .ok .skip w' ∧ s'.lo = s.lo ∧ s'.N = s.N ∧ Sim B0 w0 φ0 F0 s' F' φ' a w' ∧ K s') : TriO P o K s := by
  intro B0 w0 φ0 F0 F φ a w hs next Q hQ
  obtain ⟨w', s', F', φ', hr, h1, h2, hs', hK⟩ := h B0 w0 φ0 F0 F φ a w hs
  simp only [Oper.wp, hr, Oper.upon]
  rw [hd]
  exact hQ s' F' φ' _ _ hK h1 h2 hs'

/-! ### new variables -/
theorem TriO.box {t : TypeId} {x : Operand} {p : PV} {ls : List PV} (hx : s.ev x = p) (hp : p.known = true) (hl : p.leaves = ls) (hN : Nat.blt d s.N = true)
    (hK : K ((s.alloc (.obj ls)).put d (.ptr s.n 0))) : TriO P ⟨some d, .box t x, ty, pos, af, g⟩ K s := by
  refine .gen rfl hN (fun B0 w0 φ0 F0 F φ a w hs => ?_)
  have hv : VR F φ p (a.eval x) := hx ▸ hs.ev x
  obtain ⟨h1, h2⟩ := hv.cells hp
  subst hl
  obtain ⟨hle, hs'⟩ := hs.alloc (t := t) (HB.ofCells hs.fok h1 h2)
  refine ⟨_, _, s.alloc (.obj p.leaves), F, _, .ptr s.n 0, ?_, rfl, rfl, hs', .ptr (B := w.heap.size) (if_pos rfl), hK⟩
  simp only [execOp, Instr.box, newVar, newRow, newObj, Sem.run_bind, Sem.run, Result.andThen_ok, Sem.run_pure]
  rfl
theorem TriO.alloc {t : TypeId} {ds : TypeDesc} {sz bytes : Nat} {z : Value} {p : PV} {ls : List PV} [ht : TyIs P t ds sz bytes z] (hz : ofConst z = p) (hp : p.known = true) (hl : p.leaves = ls) (hN : Nat.blt d s.N = true)
    (hK : K ((s.alloc (.obj ls)).put d (.ptr s.n 0))) : TriO P ⟨some d, .alloc t, ty, pos, af, g⟩ K s := by
  refine .gen rfl hN (fun B0 w0 φ0 F0 F φ a w hs => ?_)
  have hv : VR F φ p z := hz ▸ ofConst_vr z
  obtain ⟨h1, h2⟩ := hv.cells hp
  subst hl
  obtain ⟨hle, hs'⟩ := hs.alloc (t := t) (HB.ofCells hs.fok h1 h2)
  refine ⟨_, _, s.alloc (.obj p.leaves), F, _, .ptr s.n 0, ?_, rfl, rfl, hs', .ptr (B := w.heap.size) (if_pos rfl), hK⟩
  simp only [execOp, Instr.alloc, newVar, newRow, newObj, Sem.run_bind, ht.zero, Sem.run, Result.andThen_ok, Sem.run_pure]
  rfl

/-! ### loads -/
def aggD : TypeDesc → Bool
  | .struct _ | .array _ _ => true
  | _ => false
theorem isAgg_run {t : TypeId} {ds : TypeDesc} {sz bytes : Nat} {z : Value} (ht : TyIs P t ds sz bytes z) (w : World) : (isAgg t).run P w = .ok (aggD ds) w := by
  unfold isAgg
  rw [Sem.run_bind, ht.under]
  cases ds <;> rfl
theorem loadAt_one {t : TypeId} {ds : TypeDesc} {sz bytes : Nat} {z : Value} (ht : TyIs P t ds sz bytes z) (hd : aggD ds = false) {w : World} {B o : Nat} {u : Value} (h : w.cell? ⟨B, o, none⟩ = some u) :
    (Instr.loadAt t (.pointer (some ⟨B, o, none⟩))).run P w = .ok u w := by
  simp [Instr.loadAt, Instr.sureAddr, loadVar, isAgg_run ht, hd, h]
theorem loadAt_many {t : TypeId} {ds : TypeDesc} {sz bytes : Nat} {z : Value} (ht : TyIs P t ds sz bytes z) (hd : aggD ds = true) {w : World} {B o : Nat} {cs : List Value} (hn : cs.length = sz)
    (h : ∀ (j : Nat) (u : Value), cs[j]? = some u → w.cell? ⟨B, o + j, none⟩ = some u) :
    (Instr.loadAt t (.pointer (some ⟨B, o, none⟩))).run P w = .ok (.agg cs.toArray) w := by
  obtain ⟨i, h1, h2, h3, h4⟩ := ht.inf
  refine run_loadAt_mid w B o t cs ds h ht.und ?_ (by simp [h1, h3, hn])
  cases ds <;> simp_all [aggD, TypeDesc.isRow]
theorem cell_at {w : World} {B : Nat} {cs : Array Value} {t : TypeId} {fr : Nat × Nat} (h : w.heap[B]? = some (.cells cs t fr)) (o : Nat) : w.cell? ⟨B, o, none⟩ = cs[o]? := by
  simp [World.cell?, h]
/-- A cell of a variable of our own. -/
theorem PO.load {t : TypeId} {x : Operand} {ds : TypeDesc} {sz bytes : Nat} {z : Value} {b o : Nat} {ls : List PV} {p : PV} [ht : TyIs P t ds sz bytes z] (hd : aggD ds = false) (hx : EvH H s x (.ptr b o)) (hb : look b s.heap = some (.obj ls))
    (hp : ls[o]? = some p) : PO P H ⟨some d, .load t x, ty, pos, af, g⟩ s p := by
  intro hH B0 w0 φ0 F0 F φ a w hs
  have hv := hx.vr hH hs
  generalize hq : a.eval x = q at hv
  cases hv with
  | ptr hφ =>
    obtain ⟨B, cs, hl⟩ := hs.heap b _ hb
    have := hl.at_; rw [hφ] at this; cases this
    cases hl.reads with
    | obj hn hr hF =>
      obtain ⟨u, hu, hvr⟩ := hr o p hp
      obtain ⟨t', ht'⟩ := hl.cells
      refine ⟨u, ?_, hvr⟩
      simp only [execOp, hq, Sem.run_bind, loadAt_one ht hd (by rw [cell_at ht']; exact hu), Result.andThen_ok, Sem.run_pure]
/-- A struct, an array in a variable of our own. -/
theorem PO.loadS {t : TypeId} {x : Operand} {ds : TypeDesc} {sz bytes : Nat} {z : Value} {b o : Nat} {ls qs : List PV} {p : PV} [ht : TyIs P t ds sz bytes z] (hd : aggD ds = true) (hx : EvH H s x (.ptr b o)) (hb : look b s.heap = some (.obj ls))
    (hq : (ls.drop o).take sz = qs) (hn : qs.length = sz) (hp : mkAgg qs = p) : PO P H ⟨some d, .load t x, ty, pos, af, g⟩ s p := by
  intro hH B0 w0 φ0 F0 F φ a w hs
  have hv := hx.vr hH hs
  generalize he : a.eval x = q at hv
  cases hv with
  | ptr hφ =>
    obtain ⟨B, cs, hl⟩ := hs.heap b _ hb
    have := hl.at_; rw [hφ] at this; cases this
    cases hl.reads with
    | obj hn' hr hF =>
      obtain ⟨t', ht'⟩ := hl.cells
      have hlen : o + sz ≤ ls.length ∨ sz = 0 := by
        subst hq; simp at hn; omega
      have hcs : ((cs.toList.drop o).take sz).length = sz := by simp; omega
      refine ⟨.agg ((cs.toList.drop o).take sz).toArray, ?_, ?_⟩
      · simp only [execOp, he, Sem.run_bind]
        rw [loadAt_many ht hd hcs (fun j u hu => ?_)]
        · rfl
        · rw [cell_at ht']
          rw [List.getElem?_take] at hu
          split at hu
          · rw [List.getElem?_drop] at hu; simpa using hu
          · cases hu
      · rw [← hp]
        refine mkAgg_vr (by simp [hn]; omega) (fun i y u hy hu => ?_)
        subst hq
        have hi : i < sz := by have := (List.getElem?_eq_some_iff.1 hy).1; omega
        rw [List.getElem?_take_of_lt hi, List.getElem?_drop] at hy
        obtain ⟨u', hu', hvr⟩ := hr (o + i) y hy
        have : u = u' := by
          simp only [List.getElem?_toArray, List.getElem?_take_of_lt hi, List.getElem?_drop] at hu
          rw [Array.getElem?_toList] at hu; rw [hu'] at hu; cases hu; rfl
        rw [this]; exact hvr
/-- A leaf of an element that came in. -/
theorem PO.loadE {t : TypeId} {x : Operand} {ds : TypeDesc} {sz bytes : Nat} {z : Value} {y p : T} {o : Nat} [ht : TyIs P t ds sz bytes z] (hd : aggD ds = false) (hx : EvH H s x (.eptr y o)) (hp : y.leaves[o]? = some p) : PO P H ⟨some d, .load t x, ty, pos, af, g⟩ s (.t p) := by
  intro hH B0 w0 φ0 F0 F φ a w hs
  have hv := hx.vr hH hs
  generalize hq : a.eval x = q at hv
  cases hv with
  | eptr us h =>
    refine ⟨us o, ?_, .t (h.hu o p hp)⟩
    simp only [execOp, hq, Sem.run_bind, loadAt_one ht hd (hs.fok _ _ (h.hF o p hp)).1, Result.andThen_ok, Sem.run_pure]
/-- A whole struct that came in. -/
theorem PO.loadES {t : TypeId} {x : Operand} {ds : TypeDesc} {sz bytes : Nat} {z : Value} {y : T} {ls : List T} [ht : TyIs P t ds sz bytes z] (hd : aggD ds = true) (hx : EvH H s x (.eptr y 0)) (hy : y = .agg ls) (hn : ls.length = sz) : PO P H ⟨some d, .load t x, ty, pos, af, g⟩ s (.t y) := by
  intro hH B0 w0 φ0 F0 F φ a w hs
  have hv := hx.vr hH hs
  generalize hq : a.eval x = q at hv
  cases hv with
  | @eptr _ _ B o us h =>
    subst hy
    have hg : ∀ (j : Nat) (u : Value), ((List.range sz).map us)[j]? = some u → j < sz ∧ u = us j := by
      intro j u hu
      have hj := (List.getElem?_eq_some_iff.1 hu).1
      simp at hj
      rw [List.getElem?_map, List.getElem?_range hj] at hu
      cases hu; exact ⟨hj, rfl⟩
    refine ⟨.agg ((List.range sz).map us).toArray, ?_, .t (.agg (by simp [hn]) (fun i p u hp hu => ?_))⟩
    · simp only [execOp, hq, Sem.run_bind]
      rw [loadAt_many ht hd (cs := (List.range sz).map us) (by simp) (fun j u hu => ?_)]
      · rfl
      · obtain ⟨hj, rfl⟩ := hg j u hu
        rw [Nat.add_zero]
        exact (hs.fok _ _ (h.hF j ls[j] (by simp [T.leaves, List.getElem?_eq_getElem (by omega : j < ls.length)]))).1
    · obtain ⟨hj, rfl⟩ := hg i u (by simpa using hu)
      exact h.hu i p hp
/-- A leaf of an element of a row of our own. -/
theorem PO.loadR {t : TypeId} {x : Operand} {ds : TypeDesc} {sz bytes : Nat} {z : Value} {b e i o : Nat} {xs : List T} {fz : Bool} {y p : T} [ht : TyIs P t ds sz bytes z] (hd : aggD ds = false) (hx : EvH H s x (.rptr b e i o)) (hb : look b s.heap = some (.row e xs fz))
    (hy : xs[i]? = some y) (hp : y.leaves[o]? = some p) : PO P H ⟨some d, .load t x, ty, pos, af, g⟩ s (.t p) := by
  intro hH B0 w0 φ0 F0 F φ a w hs
  have hv := hx.vr hH hs
  generalize hq : a.eval x = q at hv
  cases hv with
  | rptr hφ =>
    obtain ⟨B, cs, hl⟩ := hs.heap b _ hb
    have := hl.at_; rw [hφ] at this; cases this
    cases hl.reads with
    | row hn he hr hF =>
      obtain ⟨u, hu, hvr, _⟩ := hr i y o p hy hp
      obtain ⟨t', ht'⟩ := hl.cells
      refine ⟨u, ?_, .t hvr⟩
      simp only [execOp, hq, Sem.run_bind, loadAt_one ht hd (by rw [cell_at ht']; exact hu), Result.andThen_ok, Sem.run_pure]

/-! ### addresses -/
theorem fieldAt_run {t ft : TypeId} {fs : Array Field} {sz bytes fsz fbytes : Nat} {z fz : Value} {fd : TypeDesc} (ht : TyIs P t (.struct fs) sz bytes z) {f : Nat} {fl : Field} (hf : fs[f]? = some fl) (hft : fl.type = ft) (hft' : TyIs P ft fd fsz fbytes fz) (h0 : fsz ≠ 0)
    {B o : Nat} (w : World) : (Instr.fieldAt t (.pointer (some ⟨B, o, none⟩)) f).run P w = .ok (.pointer (some ⟨B, o + fl.offset, none⟩)) w := by
  subst hft
  simp only [Instr.fieldAt, Sem.run_bind, ht.under, Result.andThen_ok, hf, Instr.sureAddr, Sem.run_pure, fieldPlace, hft'.sizeOf, if_neg h0, Addr.add_mid]
/-- A field's type, and where it lies. -/
def fldAt : List Field → Nat → Option (Nat × Nat)
  | ⟨_, t, o, _, _, _, _⟩ :: _, 0 => some (t, o)
  | _ :: l, k + 1 => fldAt l k
  | [], _ => none
theorem fldAt_get : ∀ {l : List Field} {f t o : Nat}, fldAt l f = some (t, o) → ∃ fl, l[f]? = some fl ∧ fl.type = t ∧ fl.offset = o
  | [], _, _, _, h => by cases h
  | x :: l, 0, t, o, h => by cases x; cases h; exact ⟨_, rfl, rfl, rfl⟩
  | x :: l, f + 1, t, o, h => by
    have : fldAt l f = some (t, o) := by cases x; exact h
    simpa using fldAt_get this
theorem fldAt_spec {fs : Array Field} {f t o : Nat} (h : fldAt fs.toList f = some (t, o)) : ∃ fl, fs[f]? = some fl ∧ fl.type = t ∧ fl.offset = o := by
  obtain ⟨fl, h1, h2⟩ := fldAt_get h
  exact ⟨fl, by simpa using h1, h2⟩
theorem PO.fld {t ft : TypeId} {x : Operand} {f : Nat} {fs : Array Field} {off : Nat} {sz bytes fsz fbytes : Nat} {z fz : Value} {fd : TypeDesc} {b o : Nat} [ht : TyIs P t (.struct fs) sz bytes z] (hx : EvH H s x (.ptr b o)) (hf : fldAt fs.toList f = some (ft, off)) (hft' : TyIs P ft fd fsz fbytes fz) (h0 : fsz ≠ 0) : PO P H ⟨some d, .fieldAddr t x f, ty, pos, af, g⟩ s (.ptr b (o + off)) := by
  obtain ⟨fl, hf2, hft, rfl⟩ := fldAt_spec hf
  intro hH B0 w0 φ0 F0 F φ a w hs
  have hv := hx.vr hH hs
  generalize hq : a.eval x = q at hv
  cases hv with
  | ptr hφ =>
    refine ⟨_, ?_, .ptr hφ⟩
    simp only [execOp, hq, Sem.run_bind]
    rw [fieldAt_run ht hf2 hft hft' h0]; rfl
theorem PO.fldE {t ft : TypeId} {x : Operand} {f : Nat} {fs : Array Field} {off : Nat} {sz bytes fsz fbytes : Nat} {z fz : Value} {fd : TypeDesc} {y : T} {o : Nat} [ht : TyIs P t (.struct fs) sz bytes z] (hx : EvH H s x (.eptr y o)) (hf : fldAt fs.toList f = some (ft, off)) (hft' : TyIs P ft fd fsz fbytes fz) (h0 : fsz ≠ 0) : PO P H ⟨some d, .fieldAddr t x f, ty, pos, af, g⟩ s (.eptr y (o + off)) := by
  obtain ⟨fl, hf2, hft, rfl⟩ := fldAt_spec hf
  intro hH B0 w0 φ0 F0 F φ a w hs
  have hv := hx.vr hH hs
  generalize hq : a.eval x = q at hv
  cases hv with
  | eptr us h =>
    refine ⟨_, ?_, .eptr us h⟩
    simp only [execOp, hq, Sem.run_bind]
    rw [fieldAt_run ht hf2 hft hft' h0, Nat.add_assoc]; rfl
theorem PO.fldR {t ft : TypeId} {x : Operand} {f : Nat} {fs : Array Field} {off : Nat} {sz bytes fsz fbytes : Nat} {z fz : Value} {fd : TypeDesc} {b e i o : Nat} [ht : TyIs P t (.struct fs) sz bytes z] (hx : EvH H s x (.rptr b e i o)) (hf : fldAt fs.toList f = some (ft, off)) (hft' : TyIs P ft fd fsz fbytes fz) (h0 : fsz ≠ 0) : PO P H ⟨some d, .fieldAddr t x f, ty, pos, af, g⟩ s (.rptr b e i (o + off)) := by
  obtain ⟨fl, hf2, hft, rfl⟩ := fldAt_spec hf
  intro hH B0 w0 φ0 F0 F φ a w hs
  have hv := hx.vr hH hs
  generalize hq : a.eval x = q at hv
  cases hv with
  | rptr hφ =>
    refine ⟨_, ?_, .rptr hφ⟩
    simp only [execOp, hq, Sem.run_bind]
    rw [fieldAt_run ht hf2 hft hft' h0, Nat.add_assoc]; rfl
theorem indexAt_run {t et : TypeId} {sz bytes esz ebytes : Nat} {z ez : Value} {ed : TypeDesc} (ht : TyIs P t (.slice et) sz bytes z) (he : TyIs P et ed esz ebytes ez) {B o len cap : Nat} {k : IntKind} {i : Int} (h0 : 0 ≤ i) (h1 : i < len) (w : World) :
    (Instr.indexAt t (.slice (some ⟨B, o, none⟩) len cap) (.int k i)).run P w = .ok (.pointer (some ⟨B, o + i.toNat * esz, none⟩)) w := by
  simp [Instr.indexAt, asIntOf, ht.under, he.sizeOf, h0, h1, Addr.add_mid]
/-- An element of a list that came in. -/
theorem PO.idx {t et : TypeId} {x y : Operand} {k : IntKind} {i : Int} {n : Bool} {xs : List T} {e : T} {sz bytes esz ebytes : Nat} {z ez : Value} {ed : TypeDesc} [ht : TyIs P t (.slice et) sz bytes z] [he : TyIs P et ed esz ebytes ez]
    (hx : EvH H s x (.t (.sl n xs))) (hy : EvH H s y (.t (.v (.int k i)))) (h0 : H → 0 ≤ i) (h1 : H → xs[i.toNat]? = some e) (hl : H → e.leaves.length = esz) : PO P H ⟨some d, .indexAddr t x y, ty, pos, af, g⟩ s (.eptr e 0) := by
  intro hH B0 w0 φ0 F0 F φ a w hs
  have hv := hx.vr hH hs
  have hi := (evv hH hs hy).1
  generalize hq : a.eval x = q at hv
  have h0 := h0 hH
  have h1 := h1 hH
  have hl := hl hH
  have hlt := (List.getElem?_eq_some_iff.1 h1).1
  cases hv with
  | t h =>
    cases h with
    | nil => simp at h1
    | sl0 => simp at h1
    | @sl _ B o e' c us hc he' hF hu =>
      obtain rfl : e' = esz := by rw [← hl]; exact (he' _ _ h1).symm
      have hr : RowAt F xs B o e' us := ⟨he', hF, hu⟩
      refine ⟨_, ?_, .eptr (off := 0) (us i.toNat) (hr.el h1)⟩
      simp only [execOp, hq, hi, Sem.run_bind]
      rw [indexAt_run ht he h0 (by omega)]; rfl
theorem PO.idxR {t et : TypeId} {x y : Operand} {k : IntKind} {i : Int} {b off len cap : Nat} {sz bytes esz ebytes : Nat} {z ez : Value} {ed : TypeDesc} [ht : TyIs P t (.slice et) sz bytes z] [he : TyIs P et ed esz ebytes ez]
    (hx : EvH H s x (.ref b esz off len cap)) (hy : EvH H s y (.t (.v (.int k i)))) (h0 : H → 0 ≤ i) (h1 : H → i < len) : PO P H ⟨some d, .indexAddr t x y, ty, pos, af, g⟩ s (.rptr b esz (off + i.toNat) 0) := by
  intro hH B0 w0 φ0 F0 F φ a w hs
  have hv := hx.vr hH hs
  have hi := (evv hH hs hy).1
  generalize hq : a.eval x = q at hv
  cases hv with
  | ref hb h2 h3 h4 =>
    refine ⟨_, ?_, .rptr hb⟩
    simp only [execOp, hq, hi, Sem.run_bind]
    rw [indexAt_run ht he (h0 hH) (h1 hH), Nat.add_mul]; rfl

/-! ### lengths -/
theorem run_len_slice' {t : TypeId} {ty e : TypeId} (h : P.underlying t = some (.slice e)) (base : Option Addr) (n c : Nat) (w : World) : (Builtin.len_ #[t] ty #[.slice base n c]).run P w = .ok (goInt n) w := by
  simp [Builtin.len_, run_underlying h]
theorem PO.len {t et : TypeId} {x : Operand} {n : Bool} {xs : List T} {sz bytes : Nat} {z : Value} [ht : TyIs P t (.slice et) sz bytes z] (hx : EvH H s x (.t (.sl n xs))) : PO P H ⟨some d, .call ⟨.builtin .len, #[x], #[t]⟩, ty, pos, af, g⟩ s (.t (.v (.int .i64 xs.length))) := by
  refine .blt (fun hH _ _ _ _ _ _ a w hs => ⟨.int .i64 xs.length, ?_, .t (.v rfl)⟩)
  have hv := hx.vr hH hs
  generalize hq : a.eval x = q at hv
  simp only [builtin, List.map_toArray, List.map_cons, List.map_nil, hq, Sem.run_bind]
  cases hv with
  | t h => cases h <;> (rw [run_len_slice' ht.und]; rfl)
theorem PO.lenR {t et : TypeId} {x : Operand} {b e off len cap : Nat} {sz bytes : Nat} {z : Value} [ht : TyIs P t (.slice et) sz bytes z] (hx : EvH H s x (.ref b e off len cap)) : PO P H ⟨some d, .call ⟨.builtin .len, #[x], #[t]⟩, ty, pos, af, g⟩ s (.t (.v (.int .i64 len))) := by
  refine .blt (fun hH _ _ _ _ _ _ a w hs => ⟨.int .i64 len, ?_, .t (.v rfl)⟩)
  have hv := hx.vr hH hs
  generalize hq : a.eval x = q at hv
  simp only [builtin, List.map_toArray, List.map_cons, List.map_nil, hq, Sem.run_bind]
  cases hv with
  | ref => rw [run_len_slice' ht.und]; rfl
end ops
end Go.Proofs.YtaplmmhkpljmkaaDoor.E
