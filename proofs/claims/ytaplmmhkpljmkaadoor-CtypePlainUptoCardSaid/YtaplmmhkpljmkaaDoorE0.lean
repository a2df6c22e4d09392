/- The engine's values, its state, and how they stand for the machine's: definitions and what holds of them as memory grows. -/
import Derived.Below
import Derived.Tactics
import Derived.WalkKit
import Derived.KernelRfl
namespace Go.Proofs.YtaplmmhkpljmkaaDoor.E
set_option linter.unusedVariables false
set_option linter.unusedSimpArgs false
open Go Go.RowKit

/-! ### values -/
/-- A value that nobody writes to any more: a tree. -/
inductive T where
  | v (x : Value)
  | sl (nil : Bool) (xs : List T)
  | agg (xs : List T)
  deriving Inhabited

/-- A value in a temporary, or in a cell of a block of our own. -/
inductive PV where
  | undef
  | t (x : T)
  | ref (b e off len cap : Nat)
  | ptr (b off : Nat)
  | rptr (b e i off : Nat)
  | eptr (x : T) (off : Nat)
  | clip (xs : List T)
  | agg (ps : List PV)
  | tup (ps : List PV)
  | fn (f : FuncId) (caps : List PV)
  | cond (b want : Bool) (p : PV)
  deriving Inhabited

def T.leaves : T → List T
  | .agg xs => xs
  | x => [x]
def PV.leaves : PV → List PV
  | .agg ps => ps
  | .t (.agg xs) => xs.map .t
  | p => [p]

/-- A value without an address. -/
def sc : Value → Bool
  | .bool _ | .int _ _ | .float _ _ | .complex _ _ _ | .string _ | .pointer none | .map none | .chan none | .nilFunc | .nilIface => true
  | .func (.func _) first caps => first.size == 0 && caps.size == 0
  | .iface _ v => sc v
  | _ => false

/-- What is known of memory for good. -/
abbrev FMem := Addr → Option Value
def FMem.le (F F' : FMem) : Prop := ∀ a u, F a = some u → F' a = some u
theorem FMem.le_refl (F : FMem) : F.le F := fun _ _ h => h
theorem FMem.le_trans {F G H : FMem} (h : F.le G) (k : G.le H) : F.le H := fun a u e => k a u (h a u e)
def FOK (F : FMem) (w : World) : Prop := ∀ a u, F a = some u → w.cell? a = some u ∧ u.oneCell' = true

/-- 'v' reads as the tree 'x', by what is known for good. -/
inductive TR (F : FMem) : T → Value → Prop
  | v {x : Value} (h : sc x = true) : TR F (.v x) x
  | nil : TR F (.sl true []) (.slice none 0 0)
  | sl0 {a : Addr} {c : Nat} : TR F (.sl false []) (.slice (some a) 0 c)
  | sl {xs : List T} {B o e c : Nat} (us : Nat → Nat → Value) (hc : xs.length ≤ c) (he : ∀ (i : Nat) (x : T), xs[i]? = some x → x.leaves.length = e)
      (hF : ∀ (i : Nat) (x : T) (j : Nat) (p : T), xs[i]? = some x → x.leaves[j]? = some p → F ⟨B, o + i * e + j, none⟩ = some (us i j))
      (hu : ∀ (i : Nat) (x : T) (j : Nat) (p : T), xs[i]? = some x → x.leaves[j]? = some p → TR F p (us i j)) : TR F (.sl false xs) (.slice (some ⟨B, o, none⟩) xs.length c)
  | agg {xs : List T} {vs : Array Value} (hn : xs.length = vs.size) (h : ∀ (i : Nat) (x : T) (u : Value), xs[i]? = some x → vs[i]? = some u → TR F x u) : TR F (.agg xs) (.agg vs)

/-- Where a row of trees lies. -/
structure RowAt (F : FMem) (xs : List T) (B o e : Nat) (us : Nat → Nat → Value) : Prop where
  he : ∀ (i : Nat) (x : T), xs[i]? = some x → x.leaves.length = e
  hF : ∀ (i : Nat) (x : T) (j : Nat) (p : T), xs[i]? = some x → x.leaves[j]? = some p → F ⟨B, o + i * e + j, none⟩ = some (us i j)
  hu : ∀ (i : Nat) (x : T) (j : Nat) (p : T), xs[i]? = some x → x.leaves[j]? = some p → TR F p (us i j)

/-- Where one tree lies. -/
structure ElAt (F : FMem) (x : T) (B o : Nat) (us : Nat → Value) : Prop where
  hF : ∀ (j : Nat) (p : T), x.leaves[j]? = some p → F ⟨B, o + j, none⟩ = some (us j)
  hu : ∀ (j : Nat) (p : T), x.leaves[j]? = some p → TR F p (us j)
theorem RowAt.el {F : FMem} {xs : List T} {B o e : Nat} {us : Nat → Nat → Value} (h : RowAt F xs B o e us) {i : Nat} {x : T} (hx : xs[i]? = some x) : ElAt F x B (o + i * e) (us i) :=
  ⟨fun j p hp => h.hF i x j p hx hp, fun j p hp => h.hu i x j p hx hp⟩
abbrev Phi := Nat → Option (Nat × Nat)

inductive VR (F : FMem) (φ : Phi) : PV → Value → Prop
  | undef (v : Value) : VR F φ .undef v
  | t {x : T} {v : Value} (h : TR F x v) : VR F φ (.t x) v
  | ref {b e off len cap B sz c : Nat} (hb : φ b = some (B, sz)) (h1 : len ≤ cap) (h2 : cap ≤ c) (h3 : off * e + c * e ≤ sz) : VR F φ (.ref b e off len cap) (.slice (some ⟨B, off * e, none⟩) len c)
  | ptr {b off B sz : Nat} (hb : φ b = some (B, sz)) : VR F φ (.ptr b off) (.pointer (some ⟨B, off, none⟩))
  | rptr {b e i off B sz : Nat} (hb : φ b = some (B, sz)) : VR F φ (.rptr b e i off) (.pointer (some ⟨B, i * e + off, none⟩))
  | eptr {x : T} {off B o : Nat} (us : Nat → Value) (h : ElAt F x B o us) : VR F φ (.eptr x off) (.pointer (some ⟨B, o + off, none⟩))
  | clip {xs : List T} {B o e : Nat} (us : Nat → Nat → Value) (h : RowAt F xs B o e us) : VR F φ (.clip xs) (.slice (some ⟨B, o, none⟩) xs.length xs.length)
  | agg {ps : List PV} {vs : Array Value} (hn : ps.length = vs.size) (h : ∀ (i : Nat) (p : PV) (u : Value), ps[i]? = some p → vs[i]? = some u → VR F φ p u) : VR F φ (.agg ps) (.agg vs)
  | tup {ps : List PV} {vs : Array Value} (hn : ps.length = vs.size) (h : ∀ (i : Nat) (p : PV) (u : Value), ps[i]? = some p → vs[i]? = some u → VR F φ p u) : VR F φ (.tup ps) (.tuple vs)
  | fn {f : FuncId} {ps : List PV} {vs : Array Value} (hn : ps.length = vs.size) (h : ∀ (i : Nat) (p : PV) (u : Value), ps[i]? = some p → vs[i]? = some u → VR F φ p u) : VR F φ (.fn f ps) (.func (.func f) #[] vs)
  | cond {b want : Bool} {p : PV} {v : Value} (h : b = want → VR F φ p v) (hn : b ≠ want → v = undef) : VR F φ (.cond b want p) v

def Phi.le (φ ψ : Phi) : Prop := ∀ b x, φ b = some x → ψ b = some x
theorem Phi.le_refl (φ : Phi) : φ.le φ := fun _ _ h => h
theorem Phi.le_trans {φ ψ χ : Phi} (h : φ.le ψ) (k : ψ.le χ) : φ.le χ := fun a u e => k a u (h a u e)

theorem TR.mono {F G : FMem} (hFG : F.le G) {x : T} {v : Value} (h : TR F x v) : TR G x v := by
  induction h with
  | v h => exact .v h
  | nil => exact .nil
  | sl0 => exact .sl0
  | sl us hc he hF hu ih => exact .sl us hc he (fun i x j p h1 h2 => hFG _ _ (hF i x j p h1 h2)) ih
  | agg hn h ih => exact .agg hn ih
theorem RowAt.mono {F G : FMem} (hFG : F.le G) {xs : List T} {B o e : Nat} {us : Nat → Nat → Value} (h : RowAt F xs B o e us) : RowAt G xs B o e us :=
  ⟨h.he, fun i x j p h1 h2 => hFG _ _ (h.hF i x j p h1 h2), fun i x j p h1 h2 => (h.hu i x j p h1 h2).mono hFG⟩
theorem ElAt.mono {F G : FMem} (hFG : F.le G) {x : T} {B o : Nat} {us : Nat → Value} (h : ElAt F x B o us) : ElAt G x B o us :=
  ⟨fun j p h1 => hFG _ _ (h.hF j p h1), fun j p h1 => (h.hu j p h1).mono hFG⟩
theorem VR.mono {F G : FMem} {φ ψ : Phi} (hFG : F.le G) (hφ : φ.le ψ) {x : PV} {v : Value} (h : VR F φ x v) : VR G ψ x v := by
  induction h with
  | undef v => exact .undef v
  | t h => exact .t (h.mono hFG)
  | ref hb h1 h2 h3 => exact .ref (hφ _ _ hb) h1 h2 h3
  | ptr hb => exact .ptr (hφ _ _ hb)
  | rptr hb => exact .rptr (hφ _ _ hb)
  | eptr us h => exact .eptr us (h.mono hFG)
  | clip us h => exact .clip us (h.mono hFG)
  | agg hn h ih => exact .agg hn ih
  | tup hn h ih => exact .tup hn ih
  | fn hn h ih => exact .fn hn ih
  | cond h hn ih => exact .cond ih hn

theorem RowAt.tr {F : FMem} {xs : List T} {B o e : Nat} {us : Nat → Nat → Value} (h : RowAt F xs B o e us) {c : Nat} (hc : xs.length ≤ c) : TR F (.sl false xs) (.slice (some ⟨B, o, none⟩) xs.length c) :=
  .sl us hc h.he h.hF h.hu
/-- A part of a row. -/
theorem RowAt.part {F : FMem} {xs : List T} {B o e : Nat} {us : Nat → Nat → Value} (h : RowAt F xs B o e us) (k n : Nat) : RowAt F ((xs.drop k).take n) B (o + k * e) e (fun i j => us (k + i) j) := by
  have key : ∀ i x, ((xs.drop k).take n)[i]? = some x → xs[k + i]? = some x := by
    intro i x hx
    rw [List.getElem?_take] at hx
    split at hx
    · rwa [List.getElem?_drop] at hx
    · cases hx
  refine ⟨fun i x hx => h.he _ _ (key i x hx), fun i x j p hx hp => ?_, fun i x j p hx hp => h.hu _ _ _ _ (key i x hx) hp⟩
  have := h.hF _ _ _ _ (key i x hx) hp
  rw [Nat.add_mul] at this
  rw [show o + k * e + i * e + j = o + (k * e + i * e) + j from by omega]
  exact this

/-! ### our own blocks -/
inductive Blk where
  | obj (cells : List PV)
  | row (e : Nat) (xs : List T) (fz : Bool)
  deriving Inhabited

/-- The first one with a key. -/
def look {α : Type} (k : Nat) : List (Nat × α) → Option α
  | [] => none
  | (j, x) :: l => if k = j then some x else look k l
/-- Away with a key. -/
def wipe {α : Type} (k : Nat) : List (Nat × α) → List (Nat × α)
  | [] => []
  | (j, x) :: l => if k = j then wipe k l else (j, x) :: wipe k l
theorem look_wipe {α : Type} (k j : Nat) (l : List (Nat × α)) : look j (wipe k l) = if j = k then none else look j l := by
  induction l with
  | nil => simp [wipe, look]
  | cons h t ih =>
    obtain ⟨i, x⟩ := h
    by_cases hk : k = i
    · subst hk
      simp only [wipe, if_true, ih]
      by_cases hj : j = k
      · simp [hj]
      · simp [hj, look]
    · simp only [wipe, if_neg hk, look]
      by_cases hj : j = i
      · subst hj; simp [Ne.symm hk]
      · simp only [if_neg hj, ih]

structure St where
  tm : List (Nat × PV)
  N : Nat
  heap : List (Nat × Blk)
  lo : Nat
  n : Nat

/-- A block, as it lies. -/
inductive HB (F : FMem) (φ : Phi) (B : Nat) (cs : Array Value) : Blk → Prop
  | obj {cells : List PV} (hn : cells.length ≤ cs.size) (h : ∀ (i : Nat) (p : PV), cells[i]? = some p → ∃ u, cs[i]? = some u ∧ VR F φ p u) (hF : ∀ a u, F a = some u → a.block ≠ B) : HB F φ B cs (.obj cells)
  | row {e : Nat} {xs : List T} {fz : Bool} (hn : xs.length * e ≤ cs.size) (he : ∀ (i : Nat) (x : T), xs[i]? = some x → x.leaves.length = e)
      (h : ∀ (i : Nat) (x : T) (j : Nat) (p : T), xs[i]? = some x → x.leaves[j]? = some p → ∃ u, cs[i * e + j]? = some u ∧ TR F p u ∧ u.oneCell' = true)
      (hF : ∀ a u, F a = some u → a.block = B → fz = true ∧ a.off < xs.length * e) : HB F φ B cs (.row e xs fz)

structure Live (F : FMem) (φ : Phi) (B0 : Nat) (w : World) (b : Nat) (k : Blk) (B : Nat) (cs : Array Value) : Prop where
  at_ : φ b = some (B, cs.size)
  old : B0 ≤ B
  cells : ∃ t, w.heap[B]? = some (.cells cs t (0, 0))
  reads : HB F φ B cs k

/-- How the state stands to the machine's temporaries and memory. B0, w0: since when, and what lay there then; φ0: the blocks of who called. -/
structure Sim (B0 : Nat) (w0 : World) (φ0 : Phi) (F0 : FMem) (s : St) (F : FMem) (φ : Phi) (a : Act) (w : World) : Prop where
  below : Below B0 w0 w
  base : B0 ≤ w0.heap.size
  fok : FOK F w
  fle : F0.le F
  fnew : ∀ a, F a ≠ F0 a → B0 ≤ a.block
  phi0 : ∀ b, b < s.lo → φ b = φ0 b
  lo : s.lo ≤ s.n
  fresh : ∀ b, s.n ≤ b → φ b = none
  size : a.tmps.size = s.N
  defers : a.defers = []
  tm : ∀ i p, look i s.tm = some p → VR F φ p (a.tmps.getD i undef)
  heap : ∀ b k, look b s.heap = some k → ∃ B cs, Live F φ B0 w b k B cs
  inj : ∀ b b' k k' B sz sz', look b s.heap = some k → look b' s.heap = some k' → φ b = some (B, sz) → φ b' = some (B, sz') → b = b'

inductive Ex where
  | normal
  | ret
  | exit (id : Nat)
def Ex.real : Ex → Exit
  | .normal => .normal
  | .ret => .ret
  | .exit id => .exit id

/-- What is said of a piece of code. -/
def Tri (P : Program) (c : Code) (Q : Ex → St → Prop) (s : St) : Prop :=
  ∀ B0 w0 φ0 F0 F φ a w, Sim B0 w0 φ0 F0 s F φ a w →
    c.wp P (fun e a' w' => ∃ x s' F' φ', e = Ex.real x ∧ Q x s' ∧ s'.lo = s.lo ∧ s'.N = s.N ∧ Sim B0 w0 φ0 F0 s' F' φ' a' w') a w
/-- Of a list of operations. -/
def TriL (P : Program) (ops : Array Oper) (l : List Oper) (K : St → Prop) (s : St) : Prop :=
  ∀ B0 w0 φ0 F0 F φ a w, Sim B0 w0 φ0 F0 s F φ a w →
    ∀ Q : Exit → Act → World → Prop, (∀ s' F' φ' a' w', K s' → s'.lo = s.lo → s'.N = s.N → Sim B0 w0 φ0 F0 s' F' φ' a' w' → Q .normal a' w') → wpList P ops Q l a w
/-- Of one operation that is carried out. -/
def TriO (P : Program) (o : Oper) (K : St → Prop) (s : St) : Prop :=
  ∀ B0 w0 φ0 F0 F φ a w, Sim B0 w0 φ0 F0 s F φ a w →
    ∀ (next : Act → World → Prop) (Q : Exit → Act → World → Prop), (∀ s' F' φ' a' w', K s' → s'.lo = s.lo → s'.N = s.N → Sim B0 w0 φ0 F0 s' F' φ' a' w' → next a' w') → o.wp P a w next Q
end Go.Proofs.YtaplmmhkpljmkaaDoor.E
