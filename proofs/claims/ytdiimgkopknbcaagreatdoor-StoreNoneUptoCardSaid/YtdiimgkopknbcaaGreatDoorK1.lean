/- The engine's values, its state, and how they stand for the machine's: definitions and what holds of them as memory grows. -/
import Derived.Below
import Derived.Tactics
import Derived.WalkKit
import Derived.KernelRfl
import Derived.Test.YtdiimgkopknbcaaGreatDoorK0
import Derived.Laws.Cover3
import Derived.Laws.Concat
import Derived.Laws.Strings2
import Derived.Laws.Small
import Derived.Deep.AppendSrc
import Derived.Deep.MidRow
import Derived.Laws.CopyRow
import Derived.Laws.AppendOwn
import Derived.Laws.FloatArith
import Derived.Laws.Shifts
namespace Go.Proofs.YtdiimgkopknbcaaGreatDoor.E
set_option linter.unusedVariables false
set_option linter.unusedSimpArgs false
open Go Go.RowKit

/-! ### values -/
/-- A value that nobody writes to any more: a tree. -/
inductive T where
  | v (x : Value)
  | sl (nil : Bool) (xs : List T)
  | agg (xs : List T)
  deriving Inhabited

/-- A value in a temporary, or in a cell of a block of our own. -/
inductive PV where
  | undef
  | t (x : T)
  | ref (b e off len cap : Nat)
  | ptr (b off : Nat)
  | rptr (b e i off : Nat)
  | eptr (x : T) (off : Nat)
  | clip (xs : List T)
  | agg (ps : List PV)
  | tup (ps : List PV)
  | fn (f : FuncId) (fs caps : List PV)
  | mp (b : Nat)
  | yl (b : Nat)
  | ifc (t : TypeId) (p : PV)
  | cond (b want : Bool) (p : PV)
  deriving Inhabited

def T.leaves : T → List T
  | .agg xs => xs
  | x => [x]
def PV.leaves : PV → List PV
  | .agg ps => ps
  | .t (.agg xs) => xs.map .t
  | p => [p]

/-- A value without an address. -/
def sc : Value → Bool
  | .bool _ | .int _ _ | .float _ _ | .complex _ _ _ | .string _ | .pointer none | .map none | .chan none | .nilFunc | .nilIface => true
  | .func (.func _) first caps => first.size == 0 && caps.size == 0
  | .iface _ v => sc v
  | _ => false

/-- What is known of memory for good. -/
abbrev FMem := Addr → Option Value
def FMem.le (F F' : FMem) : Prop := ∀ a u, F a = some u → F' a = some u
theorem FMem.le_refl (F : FMem) : F.le F := fun _ _ h => h
theorem FMem.le_trans {F G H : FMem} (h : F.le G) (k : G.le H) : F.le H := fun a u e => k a u (h a u e)
/-- The package's tables are known. -/
def Tabs (F : FMem) : Prop := ∀ g cs, tab g = some cs → ∀ (j : Nat) (v : Value), cs[j]? = some v → F ⟨g, j, none⟩ = some v ∧ sc v = true
/-- How many cells a block has. -/
def szW (w : World) (g : Nat) : Option Nat := match w.heap[g]? with
  | some (.cells cs _ _) => some cs.size
  | _ => none
structure FOK (F : FMem) (w : World) : Prop where
  cell : ∀ a u, F a = some u → w.cell? a = some u ∧ u.oneCell' = true
  tabs : Tabs F
  size : ∀ g cs, tab g = some cs → cs ≠ [] → szW w g = some cs.length
instance {F : FMem} {w : World} : CoeFun (FOK F w) (fun _ => ∀ a u, F a = some u → w.cell? a = some u ∧ u.oneCell' = true) := ⟨FOK.cell⟩
theorem FOK.grow {F F' : FMem} {w w' : World} (h : FOK F w) (hle : F.le F') (hc : ∀ a u, F' a = some u → w'.cell? a = some u ∧ u.oneCell' = true)
    (hz : ∀ g j u n, F ⟨g, j, none⟩ = some u → w.cell? ⟨g, j, none⟩ = some u → szW w g = some n → szW w' g = some n) : FOK F' w' :=
  ⟨hc, fun g cs hg j v hj => ⟨hle _ _ (h.tabs g cs hg j v hj).1, (h.tabs g cs hg j v hj).2⟩, fun g cs hg hn => by
    cases cs with
    | nil => exact absurd rfl hn
    | cons c cs =>
      have h1 := (h.tabs g _ hg 0 c rfl).1
      exact hz g 0 c _ h1 (h.cell _ _ h1).1 (h.size g _ hg hn)⟩
theorem szW_block {w w' : World} {g n : Nat} (e : w'.heap[g]? = w.heap[g]?) (h : szW w g = some n) : szW w' g = some n := by unfold szW at h ⊢; rw [e]; exact h

/-- 'v' reads as the tree 'x', by what is known for good. -/
inductive TR (F : FMem) : T → Value → Prop
  | v {x : Value} (h : sc x = true) : TR F (.v x) x
  | nil : TR F (.sl true []) (.slice none 0 0)
  | sl0 {a : Addr} {c : Nat} : TR F (.sl false []) (.slice (some a) 0 c)
  | sl {xs : List T} {B o e c : Nat} (us : Nat → Nat → Value) (hc : xs.length ≤ c) (he : ∀ (i : Nat) (x : T), xs[i]? = some x → x.leaves.length = e)
      (hF : ∀ (i : Nat) (x : T) (j : Nat) (p : T), xs[i]? = some x → x.leaves[j]? = some p → F ⟨B, o + i * e + j, none⟩ = some (us i j))
      (hu : ∀ (i : Nat) (x : T) (j : Nat) (p : T), xs[i]? = some x → x.leaves[j]? = some p → TR F p (us i j)) : TR F (.sl false xs) (.slice (some ⟨B, o, none⟩) xs.length c)
  | agg {xs : List T} {vs : Array Value} (hn : xs.length = vs.size) (h : ∀ (i : Nat) (x : T) (u : Value), xs[i]? = some x → vs[i]? = some u → TR F x u) : TR F (.agg xs) (.agg vs)

/-- Where a row of trees lies. -/
structure RowAt (F : FMem) (xs : List T) (B o e : Nat) (us : Nat → Nat → Value) : Prop where
  he : ∀ (i : Nat) (x : T), xs[i]? = some x → x.leaves.length = e
  hF : ∀ (i : Nat) (x : T) (j : Nat) (p : T), xs[i]? = some x → x.leaves[j]? = some p → F ⟨B, o + i * e + j, none⟩ = some (us i j)
  hu : ∀ (i : Nat) (x : T) (j : Nat) (p : T), xs[i]? = some x → x.leaves[j]? = some p → TR F p (us i j)

/-- Where one tree lies. -/
structure ElAt (F : FMem) (x : T) (B o : Nat) (us : Nat → Value) : Prop where
  hF : ∀ (j : Nat) (p : T), x.leaves[j]? = some p → F ⟨B, o + j, none⟩ = some (us j)
  hu : ∀ (j : Nat) (p : T), x.leaves[j]? = some p → TR F p (us j)
theorem RowAt.el {F : FMem} {xs : List T} {B o e : Nat} {us : Nat → Nat → Value} (h : RowAt F xs B o e us) {i : Nat} {x : T} (hx : xs[i]? = some x) : ElAt F x B (o + i * e) (us i) :=
  ⟨fun j p hp => h.hF i x j p hx hp, fun j p hp => h.hu i x j p hx hp⟩
abbrev Phi := Nat → Option (Nat × Nat)

inductive VR (F : FMem) (φ : Phi) : PV → Value → Prop
  | undef (v : Value) : VR F φ .undef v
  | t {x : T} {v : Value} (h : TR F x v) : VR F φ (.t x) v
  | ref {b e off len cap B sz c : Nat} (hb : φ b = some (B, sz)) (h1 : len ≤ cap) (h2 : cap ≤ c) (h3 : off * e + c * e ≤ sz) : VR F φ (.ref b e off len cap) (.slice (some ⟨B, off * e, none⟩) len c)
  | ptr {b off B sz : Nat} (hb : φ b = some (B, sz)) : VR F φ (.ptr b off) (.pointer (some ⟨B, off, none⟩))
  | rptr {b e i off B sz : Nat} (hb : φ b = some (B, sz)) : VR F φ (.rptr b e i off) (.pointer (some ⟨B, i * e + off, none⟩))
  | eptr {x : T} {off B o : Nat} (us : Nat → Value) (h : ElAt F x B o us) : VR F φ (.eptr x off) (.pointer (some ⟨B, o + off, none⟩))
  | clip {xs : List T} {B o e : Nat} (us : Nat → Nat → Value) (h : RowAt F xs B o e us) : VR F φ (.clip xs) (.slice (some ⟨B, o, none⟩) xs.length xs.length)
  | agg {ps : List PV} {vs : Array Value} (hn : ps.length = vs.size) (h : ∀ (i : Nat) (p : PV) (u : Value), ps[i]? = some p → vs[i]? = some u → VR F φ p u) : VR F φ (.agg ps) (.agg vs)
  | tup {ps : List PV} {vs : Array Value} (hn : ps.length = vs.size) (h : ∀ (i : Nat) (p : PV) (u : Value), ps[i]? = some p → vs[i]? = some u → VR F φ p u) : VR F φ (.tup ps) (.tuple vs)
  | fn {f : FuncId} {fs ps : List PV} {ws vs : Array Value} (hm : fs.length = ws.size) (hf : ∀ (i : Nat) (p : PV) (u : Value), fs[i]? = some p → ws[i]? = some u → VR F φ p u) (hn : ps.length = vs.size) (h : ∀ (i : Nat) (p : PV) (u : Value), ps[i]? = some p → vs[i]? = some u → VR F φ p u) : VR F φ (.fn f fs ps) (.func (.func f) ws vs)
  | mp {b B sz : Nat} (hb : φ b = some (B, sz)) : VR F φ (.mp b) (.map (some B))
  | yl {b B sz : Nat} (hb : φ b = some (B, sz)) : VR F φ (.yl b) (.func (.yield B) #[] #[])
  | ifc {t : TypeId} {p : PV} {v : Value} (h : VR F φ p v) : VR F φ (.ifc t p) (.iface t v)
  | cond {b want : Bool} {p : PV} {v : Value} (h : b = want → VR F φ p v) (hn : b ≠ want → v = undef) : VR F φ (.cond b want p) v

def Phi.le (φ ψ : Phi) : Prop := ∀ b x, φ b = some x → ψ b = some x
theorem Phi.le_refl (φ : Phi) : φ.le φ := fun _ _ h => h
theorem Phi.le_trans {φ ψ χ : Phi} (h : φ.le ψ) (k : ψ.le χ) : φ.le χ := fun a u e => k a u (h a u e)

theorem TR.mono {F G : FMem} (hFG : F.le G) {x : T} {v : Value} (h : TR F x v) : TR G x v := by
  induction h with
  | v h => exact .v h
  | nil => exact .nil
  | sl0 => exact .sl0
  | sl us hc he hF hu ih => exact .sl us hc he (fun i x j p h1 h2 => hFG _ _ (hF i x j p h1 h2)) ih
  | agg hn h ih => exact .agg hn ih
theorem RowAt.mono {F G : FMem} (hFG : F.le G) {xs : List T} {B o e : Nat} {us : Nat → Nat → Value} (h : RowAt F xs B o e us) : RowAt G xs B o e us :=
  ⟨h.he, fun i x j p h1 h2 => hFG _ _ (h.hF i x j p h1 h2), fun i x j p h1 h2 => (h.hu i x j p h1 h2).mono hFG⟩
theorem ElAt.mono {F G : FMem} (hFG : F.le G) {x : T} {B o : Nat} {us : Nat → Value} (h : ElAt F x B o us) : ElAt G x B o us :=
  ⟨fun j p h1 => hFG _ _ (h.hF j p h1), fun j p h1 => (h.hu j p h1).mono hFG⟩
theorem VR.mono {F G : FMem} {φ ψ : Phi} (hFG : F.le G) (hφ : φ.le ψ) {x : PV} {v : Value} (h : VR F φ x v) : VR G ψ x v := by
  induction h with
  | undef v => exact .undef v
  | t h => exact .t (h.mono hFG)
  | ref hb h1 h2 h3 => exact .ref (hφ _ _ hb) h1 h2 h3
  | ptr hb => exact .ptr (hφ _ _ hb)
  | rptr hb => exact .rptr (hφ _ _ hb)
  | eptr us h => exact .eptr us (h.mono hFG)
  | clip us h => exact .clip us (h.mono hFG)
  | agg hn h ih => exact .agg hn ih
  | tup hn h ih => exact .tup hn ih
  | fn hm hf hn h ihf ih => exact .fn hm ihf hn ih
  | mp hb => exact .mp (hφ _ _ hb)
  | yl hb => exact .yl (hφ _ _ hb)
  | ifc h ih => exact .ifc ih
  | cond h hn ih => exact .cond ih hn

theorem RowAt.tr {F : FMem} {xs : List T} {B o e : Nat} {us : Nat → Nat → Value} (h : RowAt F xs B o e us) {c : Nat} (hc : xs.length ≤ c) : TR F (.sl false xs) (.slice (some ⟨B, o, none⟩) xs.length c) :=
  .sl us hc h.he h.hF h.hu
/-- A part of a row. -/
theorem RowAt.part {F : FMem} {xs : List T} {B o e : Nat} {us : Nat → Nat → Value} (h : RowAt F xs B o e us) (k n : Nat) : RowAt F ((xs.drop k).take n) B (o + k * e) e (fun i j => us (k + i) j) := by
  have key : ∀ i x, ((xs.drop k).take n)[i]? = some x → xs[k + i]? = some x := by
    intro i x hx
    rw [List.getElem?_take] at hx
    split at hx
    · rwa [List.getElem?_drop] at hx
    · cases hx
  refine ⟨fun i x hx => h.he _ _ (key i x hx), fun i x j p hx hp => ?_, fun i x j p hx hp => h.hu _ _ _ _ (key i x hx) hp⟩
  have := h.hF _ _ _ _ (key i x hx) hp
  rw [Nat.add_mul] at this
  rw [show o + k * e + i * e + j = o + (k * e + i * e) + j from by omega]
  exact this

/-! ### our own blocks -/
inductive Blk where
  | obj (cells : List PV) (t : Option TypeId := none)
  | row (e : Nat) (xs : List T) (fz : Bool)
  | map (es : List (Value × PV))
  deriving Inhabited

/-- The first one with a key. -/
def look {α : Type} (k : Nat) : List (Nat × α) → Option α
  | [] => none
  | (j, x) :: l => if k = j then some x else look k l
/-- Away with a key. -/
def wipe {α : Type} (k : Nat) : List (Nat × α) → List (Nat × α)
  | [] => []
  | (j, x) :: l => if k = j then wipe k l else (j, x) :: wipe k l
theorem look_wipe {α : Type} (k j : Nat) (l : List (Nat × α)) : look j (wipe k l) = if j = k then none else look j l := by
  induction l with
  | nil => simp [wipe, look]
  | cons h t ih =>
    obtain ⟨i, x⟩ := h
    by_cases hk : k = i
    · subst hk
      simp only [wipe, if_true, ih]
      by_cases hj : j = k
      · simp [hj]
      · simp [hj, look]
    · simp only [wipe, if_neg hk, look]
      by_cases hj : j = i
      · subst hj; simp [Ne.symm hk]
      · simp only [if_neg hj, ih]

structure St where
  tm : List (Nat × PV)
  N : Nat
  heap : List (Nat × Blk)
  lo : Nat
  n : Nat

/-- A block, as it lies. -/
inductive HB (F : FMem) (φ : Phi) (B : Nat) (cs : Array Value) : Blk → Prop
  | obj {cells : List PV} {t : Option TypeId} (hn : cells.length ≤ cs.size) (h : ∀ (i : Nat) (p : PV), cells[i]? = some p → ∃ u, cs[i]? = some u ∧ VR F φ p u) (hF : ∀ a u, F a = some u → a.block ≠ B) : HB F φ B cs (.obj cells t)
  | row {e : Nat} {xs : List T} {fz : Bool} (hn : xs.length * e ≤ cs.size) (he : ∀ (i : Nat) (x : T), xs[i]? = some x → x.leaves.length = e)
      (h : ∀ (i : Nat) (x : T) (j : Nat) (p : T), xs[i]? = some x → x.leaves[j]? = some p → ∃ u, cs[i * e + j]? = some u ∧ TR F p u ∧ u.oneCell' = true)
      (hF : ∀ a u, F a = some u → a.block = B → fz = true ∧ a.off < xs.length * e) : HB F φ B cs (.row e xs fz)
  | map {es : List (Value × PV)} (hF : ∀ a u, F a = some u → a.block ≠ B) : HB F φ B cs (.map es)

/-- Nothing has changed in some blocks since. -/
structure Bel (Y : Nat → Prop) (w w' : World) : Prop where
  os : w'.os = w.os
  tape : w'.tape = w.tape
  output : w'.output = w.output
  size : w.heap.size ≤ w'.heap.size
  block : ∀ k, Y k → w'.heap[k]? = w.heap[k]?
theorem Bel.refl (Y : Nat → Prop) (w : World) : Bel Y w w := ⟨rfl, rfl, rfl, Nat.le_refl _, fun _ _ => rfl⟩
theorem Bel.trans {Y : Nat → Prop} {a b c : World} (h : Bel Y a b) (k : Bel Y b c) : Bel Y a c :=
  ⟨k.os.trans h.os, k.tape.trans h.tape, k.output.trans h.output, Nat.le_trans h.size k.size, fun i hi => (k.block i hi).trans (h.block i hi)⟩
theorem Bel.drew {Y : Nat → Prop} {a w : World} (h : Bel Y a w) : Bel Y a w.drew := ⟨h.os, h.tape, h.output, h.size, h.block⟩
theorem Bel.of {B : Nat} {Y : Nat → Prop} {w w' : World} (h : Below B w w') (hY : ∀ k, Y k → k < B) : Bel Y w w' := ⟨h.os, h.tape, h.output, h.size, fun k hk => h.block k (hY k hk)⟩
theorem Bel.below {B : Nat} {w w' : World} (h : Bel (· < B) w w') : Below B w w' := ⟨h.os, h.tape, h.output, h.size, h.block⟩
theorem Bel.alloc {Y : Nat → Prop} {a w : World} (h : Bel Y a w) (hB : ∀ k, Y k → k < w.heap.size) (o : Obj) : Bel Y a (w.alloc o) :=
  h.trans (.of ((Below.refl w.heap.size w).alloc (Nat.le_refl _) o) hB)

/-- What does not change: blocks; the deferred calls of the frame. -/
structure Fr where
  b : Nat → Prop
  ds : List Deferred
instance : CoeFun Fr (fun _ => Nat → Prop) := ⟨Fr.b⟩
/-- The type of a block's elements, where it is known. -/
def Blk.ty : Blk → Option TypeId
  | .obj _ t => t
  | .row .. => none
  | .map _ => none
def Blk.isMap : Blk → Bool
  | .map _ => true
  | _ => false
/-- A map, as it lies. -/
def MapAt (F : FMem) (φ : Phi) (o : Option Obj) (es : List (Value × PV)) : Prop :=
  ∃ ents clock, o = some (.map ents clock) ∧ ents.size = es.length ∧ ∀ (i : Nat) (e : MapEntry) (x : Value × PV), ents[i]? = some e → es[i]? = some x → e.key = x.1 ∧ VR F φ x.2 e.val
theorem MapAt.mono {F G : FMem} {φ ψ : Phi} {o : Option Obj} {es : List (Value × PV)} (h : MapAt F φ o es) (hF : F.le G) (hφ : φ.le ψ) : MapAt G ψ o es := by
  obtain ⟨ents, clock, h1, h2, h3⟩ := h
  exact ⟨ents, clock, h1, h2, fun i e x g1 g2 => ⟨(h3 i e x g1 g2).1, (h3 i e x g1 g2).2.mono hF hφ⟩⟩
structure Live (F : FMem) (φ : Phi) (B0 : Fr) (w : World) (b : Nat) (k : Blk) (B : Nat) (cs : Array Value) : Prop where
  at_ : φ b = some (B, cs.size)
  old : ¬ B0 B
  cells : k.isMap = false → ∃ t, w.heap[B]? = some (.cells cs t (0, 0))
  ty : ∀ t, k.ty = some t → w.heap[B]? = some (.cells cs t (0, 0))
  mp : ∀ es, k = .map es → MapAt F φ w.heap[B]? es
  reads : HB F φ B cs k

theorem Live.lt {F : FMem} {φ : Phi} {B0 : Fr} {w : World} {b : Nat} {k : Blk} {B : Nat} {cs : Array Value} (hl : Live F φ B0 w b k B cs) : B < w.heap.size := by
  cases hk : k.isMap with
  | false => obtain ⟨t, ht⟩ := hl.cells hk; exact (Array.getElem?_eq_some_iff.1 ht).1
  | true =>
    cases k with
    | map es => obtain ⟨_, _, h1, _⟩ := hl.mp es rfl; exact (Array.getElem?_eq_some_iff.1 h1).1
    | obj => cases hk
    | row => cases hk
theorem Live.to {F G : FMem} {φ ψ : Phi} {B0 B1 : Fr} {w w' : World} {b c : Nat} {k : Blk} {B : Nat} {cs : Array Value} (hl : Live F φ B0 w b k B cs) (h1 : w'.heap[B]? = w.heap[B]?) (hat : ψ c = some (B, cs.size)) (ho : ¬ B1 B) (hF : F.le G) (hφ : φ.le ψ) (hr : HB G ψ B cs k) : Live G ψ B1 w' c k B cs :=
  ⟨hat, ho, fun e => by rw [h1]; exact hl.cells e, fun t e => by rw [h1]; exact hl.ty t e, fun es e => by rw [h1]; exact (hl.mp es e).mono hF hφ, hr⟩

/-- How the state stands to the machine's temporaries and memory. B0, w0: since when, and what lay there then; φ0: the blocks of who called. -/
structure Sim (B0 : Fr) (w0 : World) (φ0 : Phi) (F0 : FMem) (s : St) (F : FMem) (φ : Phi) (a : Act) (w : World) : Prop where
  below : Bel B0.b w0 w
  base : ∀ k, B0 k → k < w0.heap.size
  fok : FOK F w
  fle : F0.le F
  fnew : ∀ a, F a ≠ F0 a → ¬ B0 a.block
  phi0 : ∀ b, b < s.lo → φ b = φ0 b
  lo : s.lo ≤ s.n
  fresh : ∀ b, s.n ≤ b → φ b = none
  size : a.tmps.size = s.N
  defers : a.defers = B0.ds
  tm : ∀ i p, look i s.tm = some p → VR F φ p (a.tmps.getD i undef)
  heap : ∀ b k, look b s.heap = some k → ∃ B cs, Live F φ B0 w b k B cs
  inj : ∀ b b' k k' B sz sz', look b s.heap = some k → look b' s.heap = some k' → φ b = some (B, sz) → φ b' = some (B, sz') → b = b'

inductive Ex where
  | normal
  | ret
  | exit (id : Nat)
def Ex.real : Ex → Exit
  | .normal => .normal
  | .ret => .ret
  | .exit id => .exit id

/-- What is said of a piece of code. -/
def Tri (P : Program) (c : Code) (Q : Ex → St → Prop) (s : St) : Prop :=
  ∀ B0 w0 φ0 F0 F φ a w, Sim B0 w0 φ0 F0 s F φ a w →
    c.wp P (fun e a' w' => ∃ x s' F' φ', e = Ex.real x ∧ Q x s' ∧ s'.lo = s.lo ∧ s'.N = s.N ∧ Sim B0 w0 φ0 F0 s' F' φ' a' w') a w
/-- Of a list of operations. -/
def TriL (P : Program) (ops : Array Oper) (l : List Oper) (K : St → Prop) (s : St) : Prop :=
  ∀ B0 w0 φ0 F0 F φ a w, Sim B0 w0 φ0 F0 s F φ a w →
    ∀ Q : Exit → Act → World → Prop, (∀ s' F' φ' a' w', K s' → s'.lo = s.lo → s'.N = s.N → Sim B0 w0 φ0 F0 s' F' φ' a' w' → Q .normal a' w') → wpList P ops Q l a w
/-- Of one operation that is carried out. -/
def TriO (P : Program) (o : Oper) (K : St → Prop) (s : St) : Prop :=
  ∀ B0 w0 φ0 F0 F φ a w, Sim B0 w0 φ0 F0 s F φ a w →
    ∀ (next : Act → World → Prop) (Q : Exit → Act → World → Prop), (∀ s' F' φ' a' w', K s' → s'.lo = s.lo → s'.N = s.N → Sim B0 w0 φ0 F0 s' F' φ' a' w' → next a' w') → o.wp P a w next Q
end Go.Proofs.YtdiimgkopknbcaaGreatDoor.E

/- The engine's rules for code and for lists of operations. -/
namespace Go.Proofs.YtdiimgkopknbcaaGreatDoor.E
set_option linter.unusedVariables false
set_option linter.unusedSimpArgs false
open Go Go.RowKit

variable {P : Program}

theorem Tri.mono {c : Code} {Q Q' : Ex → St → Prop} {s : St} (h : Tri P c Q s) (hQ : ∀ x s', s'.lo = s.lo → s'.N = s.N → Q x s' → Q' x s') : Tri P c Q' s := by
  intro B0 w0 φ0 F0 F φ a w hs
  refine wp_mono (h B0 w0 φ0 F0 F φ a w hs) ?_
  rintro e a' w' ⟨x, s', F', φ', he, hq, h1, h2, hs'⟩
  exact ⟨x, s', F', φ', he, hQ _ _ h1 h2 hq, h1, h2, hs'⟩
theorem TriL.mono {ops : Array Oper} {l : List Oper} {K K' : St → Prop} {s : St} (h : TriL P ops l K s) (hK : ∀ s', s'.lo = s.lo → s'.N = s.N → K s' → K' s') : TriL P ops l K' s := by
  intro B0 w0 φ0 F0 F φ a w hs Q hQ
  exact h B0 w0 φ0 F0 F φ a w hs Q (fun s' F' φ' a' w' hk h1 h2 hs' => hQ s' F' φ' a' w' (hK s' h1 h2 hk) h1 h2 hs')

/-- Behind a piece of code. -/
def after (Q : Ex → St → Prop) (K : St → Prop) : Ex → St → Prop
  | .normal, s => K s
  | x, s => Q x s
def inBlk (id : Nat) (Q : Ex → St → Prop) : Ex → St → Prop
  | .exit j, s => if j = id then Q .normal s else Q (.exit j) s
  | x, s => Q x s

theorem Tri.skip {Q : Ex → St → Prop} {s : St} (h : Q .normal s) : Tri P .skip Q s := by
  intro B0 w0 φ0 F0 F φ a w hs
  exact wp_skip ⟨.normal, s, F, φ, rfl, h, rfl, rfl, hs⟩
theorem Tri.ret {Q : Ex → St → Prop} {s : St} (h : Q .ret s) : Tri P .ret Q s := by
  intro B0 w0 φ0 F0 F φ a w hs
  exact wp_ret ⟨.ret, s, F, φ, rfl, h, rfl, rfl, hs⟩
theorem Tri.exit {id : Nat} {Q : Ex → St → Prop} {s : St} (h : Q (.exit id) s) : Tri P (.exit id) Q s := by
  intro B0 w0 φ0 F0 F φ a w hs
  exact wp_exit ⟨.exit id, s, F, φ, rfl, h, rfl, rfl, hs⟩
theorem Tri.seq {x y : Code} {Q : Ex → St → Prop} {s : St} (h : Tri P x (after Q (Tri P y Q)) s) : Tri P (.seq x y) Q s := by
  intro B0 w0 φ0 F0 F φ a w hs
  refine wp_seq (wp_mono (h B0 w0 φ0 F0 F φ a w hs) ?_)
  rintro e a' w' ⟨x, s', F', φ', rfl, hq, h1, h2, hs'⟩
  cases x with
  | normal =>
    refine wp_mono (hq B0 w0 φ0 F0 F' φ' a' w' hs') ?_
    rintro e a2 w2 ⟨x, s2, F2, φ2, he, hq2, h12, h22, hs2⟩
    exact ⟨x, s2, F2, φ2, he, hq2, h12.trans h1, h22.trans h2, hs2⟩
  | ret => exact ⟨.ret, s', F', φ', rfl, hq, h1, h2, hs'⟩
  | exit id => exact ⟨.exit id, s', F', φ', rfl, hq, h1, h2, hs'⟩
theorem Tri.block {id : Nat} {c : Code} {Q : Ex → St → Prop} {s : St} (h : Tri P c (inBlk id Q) s) : Tri P (.block id c) Q s := by
  intro B0 w0 φ0 F0 F φ a w hs
  refine wp_block (wp_mono (h B0 w0 φ0 F0 F φ a w hs) ?_)
  rintro e a' w' ⟨x, s', F', φ', rfl, hq, h1, h2, hs'⟩
  cases x with
  | normal => exact ⟨.normal, s', F', φ', rfl, hq, h1, h2, hs'⟩
  | ret => exact ⟨.ret, s', F', φ', rfl, hq, h1, h2, hs'⟩
  | exit j =>
    simp only [Ex.real, Exit.inBlock]
    by_cases hj : j = id
    · rw [if_pos hj]
      simp only [inBlk, if_pos hj] at hq
      exact ⟨.normal, s', F', φ', rfl, hq, h1, h2, hs'⟩
    · rw [if_neg hj]
      simp only [inBlk, if_neg hj] at hq
      exact ⟨.exit j, s', F', φ', rfl, hq, h1, h2, hs'⟩

/-! ### less is known -/
mutual
/-- All numbers of blocks in a value are below m. -/
def PV.lt (m : Nat) : PV → Bool
  | .ref b _ _ _ _ => Nat.blt b m
  | .ptr b _ => Nat.blt b m
  | .rptr b _ _ _ => Nat.blt b m
  | .agg ps => PV.lts m ps
  | .tup ps => PV.lts m ps
  | .fn _ fs ps => PV.lts m fs && PV.lts m ps
  | .mp b => Nat.blt b m
  | .yl b => Nat.blt b m
  | .ifc _ p => PV.lt m p
  | .cond b w p => PV.lt m p || (b != w)
  | _ => true
def PV.lts (m : Nat) : List PV → Bool
  | [] => true
  | p :: ps => PV.lt m p && PV.lts m ps
end
theorem PV.lts_get {m : Nat} {ps : List PV} (h : PV.lts m ps = true) : ∀ (i : Nat) (p : PV), ps[i]? = some p → PV.lt m p = true := by
  induction ps with
  | nil => intro i p hp; simp at hp
  | cons q qs ih =>
    intro i p hp
    simp only [PV.lts, Bool.and_eq_true] at h
    cases i with
    | zero => simp at hp; subst hp; exact h.1
    | succ i => exact ih h.2 i p (by simpa using hp)
def Phi.cut (φ : Phi) (m : Nat) : Phi := fun b => if b < m then φ b else none
theorem VR.cut {F : FMem} {φ : Phi} {p : PV} {v : Value} (h : VR F φ p v) {m : Nat} : PV.lt m p = true → VR F (φ.cut m) p v := by
  induction h with
  | undef v => intro _; exact .undef v
  | t h => intro _; exact .t h
  | ref hb h1 h2 h3 =>
    intro hl
    simp only [PV.lt, Nat.blt_eq] at hl
    exact .ref (by rw [Phi.cut, if_pos hl]; exact hb) h1 h2 h3
  | ptr hb =>
    intro hl
    simp only [PV.lt, Nat.blt_eq] at hl
    exact .ptr (by rw [Phi.cut, if_pos hl]; exact hb)
  | rptr hb =>
    intro hl
    simp only [PV.lt, Nat.blt_eq] at hl
    exact .rptr (by rw [Phi.cut, if_pos hl]; exact hb)
  | eptr us h => intro _; exact .eptr us h
  | clip us h => intro _; exact .clip us h
  | agg hn h ih => intro hl; exact .agg hn (fun i p u h1 h2 => ih i p u h1 h2 (PV.lts_get (by simpa [PV.lt] using hl) i p h1))
  | tup hn h ih => intro hl; exact .tup hn (fun i p u h1 h2 => ih i p u h1 h2 (PV.lts_get (by simpa [PV.lt] using hl) i p h1))
  | fn hm hf hn h ihf ih =>
    intro hl
    simp only [PV.lt, Bool.and_eq_true] at hl
    exact .fn hm (fun i p u h1 h2 => ihf i p u h1 h2 (PV.lts_get hl.1 i p h1)) hn (fun i p u h1 h2 => ih i p u h1 h2 (PV.lts_get hl.2 i p h1))
  | mp hb =>
    intro hl
    simp only [PV.lt, Nat.blt_eq] at hl
    exact .mp (by rw [Phi.cut, if_pos hl]; exact hb)
  | yl hb =>
    intro hl
    simp only [PV.lt, Nat.blt_eq] at hl
    exact .yl (by rw [Phi.cut, if_pos hl]; exact hb)
  | ifc h ih => intro hl; exact .ifc (ih (by simpa [PV.lt] using hl))
  | cond h hn ih => intro hl; exact .cond (fun e => ih e (by subst e; simpa [PV.lt] using hl)) hn

theorem MapAt.cut {F : FMem} {φ : Phi} {o : Option Obj} {es : List (Value × PV)} (h : MapAt F φ o es) {m : Nat} (hm : PV.lts m (es.map (·.2)) = true) : MapAt F (φ.cut m) o es := by
  obtain ⟨ents, clock, h1, h2, h3⟩ := h
  refine ⟨ents, clock, h1, h2, fun i e x g1 g2 => ⟨(h3 i e x g1 g2).1, (h3 i e x g1 g2).2.cut (PV.lts_get hm i x.2 ?_)⟩⟩
  rw [List.getElem?_map, g2]; rfl
def Blk.lt (m : Nat) : Blk → Bool
  | .obj cells _ => PV.lts m cells
  | .row .. => true
  | .map es => PV.lts m (es.map (·.2))

/-- s2 knows no more than s. -/
structure Sub (s2 s : St) : Prop where
  N : s2.N = s.N
  lo : s2.lo = s.lo
  n : s2.n ≤ s.n
  lon : s2.lo ≤ s2.n
  tm : ∀ i p, look i s2.tm = some p → look i s.tm = some p ∧ (s2.n = s.n ∨ PV.lt s2.n p = true)
  heap : ∀ b k, look b s2.heap = some k → look b s.heap = some k ∧ (s2.n = s.n ∨ (b < s2.n ∧ Blk.lt s2.n k = true))

theorem Sim.sub {B0 : Fr} {w0 : World} {φ0 : Phi} {F0 : FMem} {s s2 : St} {F : FMem} {φ : Phi} {a : Act} {w : World} (h : Sim B0 w0 φ0 F0 s F φ a w) (hs : Sub s2 s) :
    ∃ φ', Sim B0 w0 φ0 F0 s2 F φ' a w := by
  by_cases hn : s2.n = s.n
  · exact ⟨φ, { below := h.below, base := h.base, fok := h.fok, fle := h.fle, fnew := h.fnew, phi0 := fun b hb => h.phi0 b (by rw [← hs.lo]; exact hb), lo := hs.lon, fresh := fun b hb => h.fresh b (by omega),
                size := h.size.trans hs.N.symm, defers := h.defers, tm := fun i p hp => h.tm i p (hs.tm i p hp).1, heap := fun b k hk => h.heap b k (hs.heap b k hk).1,
                inj := fun b b' k k' B sz sz' h1 h2 h3 h4 => h.inj b b' k k' B sz sz' (hs.heap _ _ h1).1 (hs.heap _ _ h2).1 h3 h4 }⟩
  · have hb : ∀ b k, look b s2.heap = some k → b < s2.n := fun b k hk => ((hs.heap b k hk).2.resolve_left hn).1
    refine ⟨φ.cut s2.n, ⟨h.below, h.base, h.fok, h.fle, h.fnew, fun b hb => ?_, hs.lon, fun b hb => ?_, h.size.trans hs.N.symm, h.defers, fun i p hp => ?_, fun b k hk => ?_, fun b b' k k' B sz sz' h1 h2 h3 h4 => ?_⟩⟩
    · rw [Phi.cut, if_pos (Nat.lt_of_lt_of_le hb hs.lon)]
      exact h.phi0 b (by rw [← hs.lo]; exact hb)
    · rw [Phi.cut, if_neg (by omega)]
    · obtain ⟨h1, h2⟩ := hs.tm i p hp
      exact (h.tm i p h1).cut (h2.resolve_left hn)
    · obtain ⟨h1, h2⟩ := hs.heap b k hk
      obtain ⟨h2, h3⟩ := h2.resolve_left hn
      obtain ⟨B, cs, hl⟩ := h.heap b k h1
      refine ⟨B, cs, ⟨by rw [Phi.cut, if_pos h2]; exact hl.at_, hl.old, hl.cells, hl.ty, fun es e => by subst e; exact (hl.mp es rfl).cut h3, ?_⟩⟩
      cases hl.reads with
      | obj hn' hr hF => exact .obj hn' (fun i p hp => let ⟨u, h1, h2⟩ := hr i p hp; ⟨u, h1, h2.cut (PV.lts_get h3 i p hp)⟩) hF
      | row hn' he hr hF => exact .row hn' he hr hF
      | map hF => exact .map hF
    · rw [Phi.cut, if_pos (hb _ _ h1)] at h3
      rw [Phi.cut, if_pos (hb _ _ h2)] at h4
      exact h.inj b b' k k' B sz sz' (hs.heap _ _ h1).1 (hs.heap _ _ h2).1 h3 h4

/-- Blocks are forgotten. -/
theorem Sim.forget {B0 : Fr} {w0 : World} {φ0 : Phi} {F0 : FMem} {s : St} {F : FMem} {φ : Phi} {a : Act} {w : World} (h : Sim B0 w0 φ0 F0 s F φ a w) {l : List (Nat × Blk)} (hl : ∀ b k, look b l = some k → look b s.heap = some k) :
    Sim B0 w0 φ0 F0 { s with heap := l } F φ a w :=
  { h with heap := fun b k hk => h.heap b k (hl b k hk), inj := fun b b' k k' B sz sz' h1 h2 h3 h4 => h.inj b b' k k' B sz sz' (hl _ _ h1) (hl _ _ h2) h3 h4 }
theorem Tri.sub {c : Code} {Q : Ex → St → Prop} {s s2 : St} (hs : Sub s2 s) (h : Tri P c Q s2) : Tri P c Q s := by
  intro B0 w0 φ0 F0 F φ a w hsim
  obtain ⟨φ', h'⟩ := hsim.sub hs
  refine wp_mono (h B0 w0 φ0 F0 F φ' a w h') ?_
  rintro e a' w' ⟨x, s', F', φ', he, hq, h1, h2, hs'⟩
  exact ⟨x, s', F', φ', he, hq, h1.trans hs.lo, h2.trans hs.N, hs'⟩
theorem TriL.sub {ops : Array Oper} {l : List Oper} {K : St → Prop} {s s2 : St} (hs : Sub s2 s) (h : TriL P ops l K s2) : TriL P ops l K s := by
  intro B0 w0 φ0 F0 F φ a w hsim Q hQ
  obtain ⟨φ', h'⟩ := hsim.sub hs
  exact h B0 w0 φ0 F0 F φ' a w h' Q (fun s' F' φ' a' w' hk h1 h2 hs' => hQ s' F' φ' a' w' hk (h1.trans hs.lo) (h2.trans hs.N) hs')
theorem Sub.refl (s : St) (h : s.lo ≤ s.n) : Sub s s := ⟨rfl, rfl, Nat.le_refl _, h, fun _ _ h => ⟨h, .inl rfl⟩, fun _ _ h => ⟨h, .inl rfl⟩⟩
/-- What a code says at the end may be weaker, too. -/
theorem Tri.post {c : Code} {Q : Ex → St → Prop} {s : St} (h : Tri P c (fun x s' => ∃ s2, Sub s2 s' ∧ Q x s2) s) : Tri P c Q s := by
  intro B0 w0 φ0 F0 F φ a w hsim
  refine wp_mono (h B0 w0 φ0 F0 F φ a w hsim) ?_
  rintro e a' w' ⟨x, s', F', φ', he, ⟨s2, hs2, hq⟩, h1, h2, hs'⟩
  obtain ⟨φ2, h'⟩ := hs'.sub hs2
  exact ⟨x, s2, F', φ2, he, hq, hs2.lo.trans h1, hs2.N.trans h2, h'⟩

/-! ### a loop -/
theorem least {p : Nat → Prop} (h : ∃ n, p n) : ∃ n, p n ∧ ∀ m, p m → n ≤ m := by
  obtain ⟨n, hn⟩ := h
  induction n using Nat.strongRecOn with
  | _ n ih =>
    by_cases hm : ∃ m, m < n ∧ p m
    · obtain ⟨m, h1, h2⟩ := hm; exact ih m h1 h2
    · exact ⟨n, hn, fun m h => Nat.le_of_not_lt fun hl => hm ⟨m, hl, h⟩⟩
open Classical in
noncomputable def leastOf (p : Nat → Prop) : Nat := if h : ∃ n, p n then Classical.choose (least h) else 0
theorem leastOf_spec {p : Nat → Prop} (h : ∃ n, p n) : p (leastOf p) := by
  unfold leastOf; rw [dif_pos h]; exact (Classical.choose_spec (least h)).1
theorem leastOf_le {p : Nat → Prop} {n : Nat} (h : p n) : leastOf p ≤ n := by
  unfold leastOf; rw [dif_pos ⟨n, h⟩]; exact (Classical.choose_spec (least ⟨n, h⟩)).2 n h
theorem Tri.loop {c : Code} {Q : Ex → St → Prop} {s : St} (I : St → Prop) (μ : St → Nat) (h0 : I s)
    (round : ∀ s', I s' → s'.lo = s.lo → s'.N = s.N → Tri P c (after Q (fun s2 => ∃ s3, Sub s3 s2 ∧ I s3 ∧ μ s3 < μ s')) s') : Tri P (.loop c) Q s := by
  intro B0 w0 φ0 F0 F φ a w hs
  let J : Act → World → Nat → Prop := fun a w n => ∃ s' F φ, I s' ∧ s'.lo = s.lo ∧ s'.N = s.N ∧ Sim B0 w0 φ0 F0 s' F φ a w ∧ μ s' = n
  refine wp_loop (fun a w => ∃ n, J a w n) (fun a w => leastOf (J a w)) ⟨_, s, F, φ, h0, rfl, rfl, hs, rfl⟩ ?_
  intro a w hJ
  have hm : J a w (leastOf (J a w)) := leastOf_spec hJ
  obtain ⟨s', F, φ, hI, h1, h2, hsim, hμ⟩ := hm
  refine wp_mono (round s' hI h1 h2 B0 w0 φ0 F0 F φ a w hsim) ?_
  rintro e a' w' ⟨x, s2, F2, φ2, rfl, hq, h12, h22, hs2⟩
  cases x with
  | normal =>
    obtain ⟨s3, hsub, hI3, hlt⟩ := hq
    obtain ⟨φ3, hs3⟩ := hs2.sub hsub
    have hJ3 : J a' w' (μ s3) := ⟨s3, F2, φ3, hI3, hsub.lo.trans (h12.trans h1), hsub.N.trans (h22.trans h2), hs3, rfl⟩
    refine ⟨⟨_, hJ3⟩, ?_⟩
    have : leastOf (J a' w') ≤ μ s3 := leastOf_le hJ3
    omega
  | ret => exact ⟨.ret, s2, F2, φ2, rfl, hq, h12.trans h1, h22.trans h2, hs2⟩
  | exit id => exact ⟨.exit id, s2, F2, φ2, rfl, hq, h12.trans h1, h22.trans h2, hs2⟩

/-! ### what stands in a temporary -/
def tOf : Nat → Value → Option T
  | 0, _ => none
  | n + 1, .agg cs => (cs.toList.mapM (tOf n)).map .agg
  | _ + 1, .slice none 0 0 => some (.sl true [])
  | _ + 1, v => if sc v then some (.v v) else none
def ofConst (v : Value) : PV :=
  match tOf 6 v with
  | some x => .t x
  | none => .undef
/-- A package's table. -/
def evG (g : Nat) : PV := match tab g with
  | some cs => .eptr (.agg (cs.map .v)) 0
  | none => .undef
def evt (tm : List (Nat × PV)) : Operand → PV
  | .tmp t => (look t tm).getD .undef
  | .const v => ofConst v
  | .func f => .t (.v (.func (.func f) #[] #[]))
  | .global g => evG g
def St.ev (s : St) (x : Operand) : PV := evt s.tm x
theorem mapM_some {α β : Type} {f : α → Option β} : ∀ {l : List α} {r : List β}, l.mapM f = some r → r.length = l.length ∧ ∀ (i : Nat) (x : α) (y : β), l[i]? = some x → r[i]? = some y → f x = some y
  | [], r, h => by simp at h; subst h; simp
  | a :: l, r, h => by
    rw [List.mapM_cons] at h
    simp only [Option.bind_eq_bind, Option.bind_eq_some_iff, Option.pure_def, Option.some.injEq] at h
    obtain ⟨b, hb, r', hr', rfl⟩ := h
    obtain ⟨h1, h2⟩ := mapM_some hr'
    refine ⟨by simp [h1], fun i x y hx hy => ?_⟩
    cases i with
    | zero => simp at hx hy; subst hx; subst hy; exact hb
    | succ i => exact h2 i x y (by simpa using hx) (by simpa using hy)
theorem tOf_tr {F : FMem} : ∀ (n : Nat) (v : Value) (x : T), tOf n v = some x → TR F x v
  | 0, v, x, h => by exact absurd h (by unfold tOf; simp)
  | n + 1, v, x, h => by
    unfold tOf at h
    split at h
    · exact absurd h (by simp)
    · rename_i m cs hm
      obtain rfl : n = m := by omega
      simp only [Option.map_eq_some_iff] at h
      obtain ⟨xs, hxs, rfl⟩ := h
      obtain ⟨h1, h2⟩ := mapM_some hxs
      refine .agg (by simpa using h1) (fun i y u hy hu => tOf_tr _ u y (h2 i u y (by simpa using hu) hy))
    · cases h; exact .nil
    · split at h
      · cases h; exact .v ‹_›
      · cases h
theorem ofConst_vr {F : FMem} {φ : Phi} (v : Value) : VR F φ (ofConst v) v := by
  unfold ofConst
  split
  · exact .t (tOf_tr _ _ _ ‹_›)
  · exact .undef _
theorem Sim.ev {B0 : Fr} {w0 : World} {φ0 : Phi} {F0 : FMem} {s : St} {F : FMem} {φ : Phi} {a : Act} {w : World} (h : Sim B0 w0 φ0 F0 s F φ a w) (x : Operand) : VR F φ (s.ev x) (a.eval x) := by
  cases x with
  | tmp t =>
    simp only [St.ev, evt, Act.eval]
    cases hl : look t s.tm with
    | none => exact .undef _
    | some p => exact h.tm t p hl
  | const v => exact ofConst_vr v
  | global g =>
    simp only [St.ev, evt, evG, Act.eval]
    cases ht : tab g with
    | none => exact .undef _
    | some cs =>
      refine .eptr (B := g) (o := 0) (fun j => cs.getD j undef) ⟨fun j p hp => ?_, fun j p hp => ?_⟩
      all_goals
        simp only [T.leaves, List.getElem?_map, Option.map_eq_some_iff] at hp
        obtain ⟨v, hv, rfl⟩ := hp
        have hj := h.fok.tabs g cs ht j v hv
        have hd : cs.getD j undef = v := by rw [List.getD_eq_getElem?_getD, hv]; rfl
        rw [hd]
      · rw [Nat.zero_add]; exact hj.1
      · exact .v hj.2
  | func f => exact .t (.v rfl)

def St.put (s : St) (d : Nat) (p : PV) : St := { s with tm := (d, p) :: s.tm }
theorem Sim.put {B0 : Fr} {w0 : World} {φ0 : Phi} {F0 : FMem} {s : St} {F : FMem} {φ : Phi} {a : Act} {w : World} (h : Sim B0 w0 φ0 F0 s F φ a w) {d : Nat} (hd : d < s.N) {p : PV} {v : Value} (hv : VR F φ p v) :
    Sim B0 w0 φ0 F0 (s.put d p) F φ (a.put (some d) v) w := by
  refine { h with size := by simpa [Act.put, St.put] using h.size, tm := ?_ }
  intro i q hq
  have hsz := h.size
  simp only [St.put, look] at hq
  simp only [Act.put]
  split at hq
  · rename_i e; subst e; cases hq
    rw [Array.getD_eq_getD_getElem?, Array.getElem?_setIfInBounds_self_of_lt (by omega)]
    exact hv
  · rename_i e
    rw [Array.getD_eq_getD_getElem?, Array.getElem?_setIfInBounds_ne (by omega), ← Array.getD_eq_getD_getElem?]
    exact h.tm i q hq
/-- A temporary of which nothing is known any more. -/
def St.drop (s : St) (d : Nat) : St := { s with tm := (d, .undef) :: s.tm }
theorem Sim.dst {B0 : Fr} {w0 : World} {φ0 : Phi} {F0 : FMem} {s : St} {F : FMem} {φ : Phi} {a : Act} {w : World} (h : Sim B0 w0 φ0 F0 s F φ a w) {d : Option Nat} (hd : ∀ t, d = some t → t < s.N) {p : PV} {v : Value} (hv : VR F φ p v) :
    Sim B0 w0 φ0 F0 (match d with | some d => s.put d p | none => s) F φ (a.put d v) w := by
  cases d with
  | none => exact h
  | some d => exact h.put (hd d rfl) hv

/-! ### lists of operations -/
theorem TriL.nil {ops : Array Oper} {K : St → Prop} {s : St} (h : K s) : TriL P ops [] K s := by
  intro B0 w0 φ0 F0 F φ a w hs Q hQ
  exact wpList_nil (hQ s F φ a w h rfl rfl hs)
theorem TriL.cons {ops : Array Oper} {o : Oper} {l : List Oper} {K : St → Prop} {s : St} (hg : o.guard = none) (h : TriO P o (TriL P ops l K) s) : TriL P ops (o :: l) K s := by
  intro B0 w0 φ0 F0 F φ a w hs Q hQ
  refine wpList_plain hg (fun K' hK' => ?_)
  refine h B0 w0 φ0 F0 F φ a w hs K' Q (fun s' F' φ' a' w' hk h1 h2 hs' => ?_)
  exact hK' _ _ (hk B0 w0 φ0 F0 F' φ' a' w' hs' Q (fun s2 F2 φ2 a2 w2 hk2 h12 h22 hs2 => hQ s2 F2 φ2 a2 w2 hk2 (h12.trans h1) (h22.trans h2) hs2))
theorem TriL.guard {ops : Array Oper} {o : Oper} {l : List Oper} {K : St → Prop} {s : St} {j : Nat} {want b : Bool} {d g : Nat} (hg : o.guard = some (j, want)) (hj : (ops[j]?).bind (·.dst) = some g)
    (hb : s.ev (.tmp g) = .t (.v (.bool b))) (hd : o.dst = some d) (hN : d < s.N)
    (hy : b = want → TriO P o (TriL P ops l K) s) (hn : b ≠ want → TriL P ops l K (s.put d .undef)) : TriL P ops (o :: l) K s := by
  intro B0 w0 φ0 F0 F φ a w hs Q hQ
  have hev := hs.ev (.tmp g)
  rw [hb] at hev
  cases hev with
  | t ht =>
    generalize hq : a.eval (.tmp g) = q at ht
    cases ht
    have hyl : yielded ops a.tmps j = some b := by
      simp only [Act.eval] at hq
      have hq' : a.tmps[g]? = some (.bool b) := by
        rw [Array.getD_eq_getD_getElem?] at hq
        cases hg' : a.tmps[g]? with
        | none => rw [hg'] at hq; simp [undef] at hq
        | some u => rw [hg'] at hq; simp at hq; rw [hq]
      simp [yielded, hj, hq']
    refine wpList_step (fun K' hK' => ?_)
    by_cases e : b = want
    · rw [if_pos (by simp [Region.wanted, hg, hyl, e])]
      refine hy e B0 w0 φ0 F0 F φ a w hs K' Q (fun s' F' φ' a' w' hk h1 h2 hs' => ?_)
      exact hK' _ _ (hk B0 w0 φ0 F0 F' φ' a' w' hs' Q (fun s2 F2 φ2 a2 w2 hk2 h12 h22 hs2 => hQ s2 F2 φ2 a2 w2 hk2 (h12.trans h1) (h22.trans h2) hs2))
    · rw [if_neg (by simp [Region.wanted, hg, hyl, e])]
      apply hK'
      have h2 := hs.put hN (p := .undef) (v := undef) (.undef _)
      rw [← hd] at h2
      exact hn e B0 w0 φ0 F0 F φ _ w h2 Q hQ
theorem Tri.region {id : Nat} {ops : Array Oper} {Q : Ex → St → Prop} {s : St} (h : TriL P ops ops.toList (Q .normal) s) : Tri P (.region id ops false) Q s := by
  intro B0 w0 φ0 F0 F φ a w hs
  exact wp_region_list (h B0 w0 φ0 F0 F φ a w hs _ (fun s' F' φ' a' w' hk h1 h2 hs' => ⟨.normal, s', F', φ', rfl, hk, h1, h2, hs'⟩))
theorem Tri.cond {c : Operand} {x y : Code} {Q : Ex → St → Prop} {s : St} {b : Bool} (hb : s.ev c = .t (.v (.bool b))) (ht : b = true → Tri P x Q s) (hf : b = false → Tri P y Q s) : Tri P (.cond c x y) Q s := by
  intro B0 w0 φ0 F0 F φ a w hs
  have hev := hs.ev c
  rw [hb] at hev
  cases hev with
  | t h =>
    generalize hq : a.eval c = q at h
    cases h
    exact wp_cond_split hq (fun e => ht e B0 w0 φ0 F0 F φ a w hs) (fun e => hf e B0 w0 φ0 F0 F φ a w hs)
end Go.Proofs.YtdiimgkopknbcaaGreatDoor.E

/- The engine's rules for operations that touch no memory. -/
namespace Go.Proofs.YtdiimgkopknbcaaGreatDoor.E
set_option linter.unusedVariables false
set_option linter.unusedSimpArgs false
open Go Go.RowKit

/-- What a type is. -/
class TyIs (P : Program) (t : TypeId) (d : outParam TypeDesc) (sz bytes : outParam Nat) (z : outParam Value) : Prop where
  inf : ∃ i, P.info? t = some i ∧ i.zero = some z ∧ i.size = sz ∧ i.bytes = bytes
  und : P.underlying t = some d
  zsz : z.cells.size = sz

variable {P : Program}

theorem TyIs.of {t : TypeId} {d : TypeDesc} {sz bytes : Nat} {z : Value} (h : (P.info? t).map (fun i => (i.zero, i.size, i.bytes)) = some (some z, sz, bytes)) (hu : P.underlying t = some d) (hz : z.cells.size = sz) : TyIs P t d sz bytes z := by
  refine ⟨?_, hu, hz⟩
  simp only [Option.map_eq_some_iff, Prod.mk.injEq] at h
  obtain ⟨i, h1, h2, h3, h4⟩ := h
  exact ⟨i, h1, h2, h3, h4⟩
theorem TyIs.sizeOf {t : TypeId} {d : TypeDesc} {sz bytes : Nat} {z : Value} (h : TyIs P t d sz bytes z) (w : World) : (Go.sizeOf t).run P w = .ok sz w := by
  obtain ⟨i, h1, h2, h3, h4⟩ := h.inf
  simp [Go.sizeOf, typeInfo, program, Sem.run, h1, h3]
theorem TyIs.zero {t : TypeId} {d : TypeDesc} {sz bytes : Nat} {z : Value} (h : TyIs P t d sz bytes z) (w : World) : (zeroValue t).run P w = .ok z w := by
  obtain ⟨i, h1, h2, h3, h4⟩ := h.inf
  simp [zeroValue, typeInfo, program, Sem.run, h1, h2]
theorem TyIs.under {t : TypeId} {d : TypeDesc} {sz bytes : Nat} {z : Value} (h : TyIs P t d sz bytes z) (w : World) : (underlying t).run P w = .ok d w := run_underlying h.und w

/-- What a temporary holds, where H is known. -/
def PV.un : PV → PV
  | .cond _ _ p => p
  | p => p
def PV.okc (H : Prop) : PV → Prop
  | .cond b w _ => H → b = w
  | _ => True
structure EvH (H : Prop) (s : St) (x : Operand) (p : PV) : Prop where
  val : (s.ev x).un = p
  ok : (s.ev x).okc H
theorem EvH.r {H : Prop} {s : St} {x : Operand} {p : PV} (h : (s.ev x).un = p) (ok : (s.ev x).okc H := by first | exact trivial | exact id | exact And.right | exact And.left) : EvH H s x p := ⟨h, ok⟩
theorem EvH.vr {H : Prop} {s : St} {x : Operand} {p : PV} (h : EvH H s x p) (hH : H) {B0 : Fr} {w0 : World} {φ0 : Phi} {F0 : FMem} {F : FMem} {φ : Phi} {a : Act} {w : World} (hs : Sim B0 w0 φ0 F0 s F φ a w) : VR F φ p (a.eval x) := by
  obtain ⟨h1, h2⟩ := h
  subst h1
  have := hs.ev x
  revert this h2
  cases s.ev x with
  | cond b w q =>
    intro h2 h3
    cases h3 with | cond k _ => exact k (h2 hH)
  | _ => intro _ h; exact h
/-- An operation that gives a value and touches no memory. -/
def PO (P : Program) (H : Prop) (o : Oper) (s : St) (p : PV) : Prop :=
  H → ∀ B0 w0 φ0 F0 F φ a w, Sim B0 w0 φ0 F0 s F φ a w → ∃ v, (execOp a.eval o).run P w = .ok (.value v) w ∧ VR F φ p v
/-- An operation that gives a value; our own blocks stay as they are. -/
def VO (P : Program) (H : Prop) (o : Oper) (s : St) (p : PV) : Prop :=
  H → ∀ B0 w0 φ0 F0 F φ a w, Sim B0 w0 φ0 F0 s F φ a w → ∀ (next : Act → World → Prop) (Q : Exit → Act → World → Prop),
    (∀ v F' w', Sim B0 w0 φ0 F0 s F' φ a w' → VR F' φ p v → next (a.put o.dst v) w') → o.wp P a w next Q
theorem PO.vo {H : Prop} {o : Oper} {s : St} {p : PV} (h : PO P H o s p) : VO P H o s p := by
  intro hH B0 w0 φ0 F0 F φ a w hs next Q hQ
  obtain ⟨v, hr, hv⟩ := h hH B0 w0 φ0 F0 F φ a w hs
  simp only [Oper.wp, hr, Oper.upon]
  exact hQ v F w hs hv
theorem TriO.vo {o : Oper} {d : Nat} {p : PV} {K : St → Prop} {s : St} (hd : o.dst = some d) (hN : Nat.blt d s.N = true) (h : VO P True o s p) (hK : K (s.put d p)) : TriO P o K s := by
  intro B0 w0 φ0 F0 F φ a w hs next Q hQ
  refine h trivial B0 w0 φ0 F0 F φ a w hs next Q (fun v F' w' hs' hv => ?_)
  rw [hd]
  exact hQ (s.put d p) F' φ _ _ hK rfl rfl (hs'.put (by simpa [Nat.blt_eq] using hN) hv)
theorem TriL.vo {ops : Array Oper} {o : Oper} {l : List Oper} {d : Nat} {p : PV} {K : St → Prop} {s : St} (hg : o.guard = none) (hd : o.dst = some d) (hN : Nat.blt d s.N = true) (h : VO P True o s p) (hK : TriL P ops l K (s.put d p)) : TriL P ops (o :: l) K s :=
  .cons hg (.vo hd hN h hK)
/-- What a guard comes to: is the operation carried out? -/
def gval : PV → Bool → Option Bool
  | .t (.v (.bool b)), true => some b
  | .t (.v (.bool b)), false => some (!b)
  | .cond e true (.t (.v (.bool b))), true => some (e && b)
  | .cond e true (.t (.v (.bool b))), false => some (e && !b)
  | _, _ => none
theorem gvA {x y : Bool} (h : (x && y) = true) : x = true := by cases x <;> simp_all
theorem gvB {x y z : Bool} (h : ((x && y) && z) = true) : x = true := by cases x <;> simp_all
theorem gvN {H : Prop} {b : Bool} (h : H ∧ b = false) : (!b) = true := by simp [h.2]
theorem gvP2 {e b : Bool} (h : e = true ∧ b = true) : (e && b) = true := by simp [h.1, h.2]
theorem gvN2 {e b : Bool} (h : e = true ∧ b = false) : (e && !b) = true := by simp [h.1, h.2]
theorem gvLA {x y : Bool} {H : Prop} (h : (x && y) = true ∧ H) : x = true := gvA h.1
theorem yielded_bool {ops : Array Oper} {a : Act} {j g : Nat} (hj : (ops[j]?).bind (·.dst) = some g) {b : Bool} (h : a.tmps.getD g undef = .bool b) : yielded ops a.tmps j = some b := by
  have hq' : a.tmps[g]? = some (.bool b) := by
    rw [Array.getD_eq_getD_getElem?] at h
    cases hg' : a.tmps[g]? with
    | none => rw [hg'] at h; simp [undef] at h
    | some u => rw [hg'] at h; simp at h; rw [h]
  simp [yielded, hj, hq']
theorem yielded_undef {ops : Array Oper} {a : Act} {j g : Nat} (hj : (ops[j]?).bind (·.dst) = some g) (h : a.tmps.getD g undef = undef) : yielded ops a.tmps j = none := by
  rw [Array.getD_eq_getD_getElem?] at h
  cases hg' : a.tmps[g]? with
  | none => simp [yielded, hj, hg']
  | some u => rw [hg'] at h; simp at h; subst h; simp [yielded, hj, hg', undef]
theorem tr_bool {F : FMem} {b : Bool} {v : Value} (h : TR F (.v (.bool b)) v) : v = .bool b := by cases h; rfl
theorem wanted_gval {F : FMem} {φ : Phi} {ops : Array Oper} {o : Oper} {a : Act} {j g : Nat} {want e : Bool} {p : PV} (hg : o.guard = some (j, want)) (hj : (ops[j]?).bind (·.dst) = some g) (hv : VR F φ p (a.tmps.getD g undef)) (he : gval p want = some e) :
    Region.wanted o (yielded ops a.tmps) = e := by
  unfold gval at he
  split at he
  · cases he; cases hv with | t h => simp [Region.wanted, hg, yielded_bool hj (tr_bool h)]
  · cases he; cases hv with | t h => simp [Region.wanted, hg, yielded_bool hj (tr_bool h)]
  · rename_i e' b
    cases he
    cases hv with
    | cond h hn =>
      cases e' with
      | true => cases h rfl with | t h => simp [Region.wanted, hg, yielded_bool hj (tr_bool h)]
      | false => simp [Region.wanted, hg, yielded_undef hj (hn (by simp))]
  · rename_i e' b
    cases he
    cases hv with
    | cond h hn =>
      cases e' with
      | true => cases h rfl with | t h => simp [Region.wanted, hg, yielded_bool hj (tr_bool h)]
      | false => simp [Region.wanted, hg, yielded_undef hj (hn (by simp))]
  · cases he
/-- A guarded operation that gives a value: no ways part. -/
theorem TriL.gvo {ops : Array Oper} {o : Oper} {l : List Oper} {K : St → Prop} {s : St} {j : Nat} {want e : Bool} {d g : Nat} {p : PV} (hg : o.guard = some (j, want)) (hj : (ops[j]?).bind (·.dst) = some g)
    (hb : gval (s.ev (.tmp g)) want = some e) (hd : o.dst = some d) (hN : Nat.blt d s.N = true) (h : VO P (e = true) o s p) (hK : TriL P ops l K (s.put d (.cond e true p))) : TriL P ops (o :: l) K s := by
  have hN' : d < s.N := by simpa [Nat.blt_eq] using hN
  intro B0 w0 φ0 F0 F φ a w hs Q hQ
  have hw := wanted_gval (o := o) (a := a) hg hj (hs.ev (.tmp g)) hb
  refine wpList_step (fun K' hK' => ?_)
  rw [hw]
  cases e with
  | true =>
    rw [if_pos rfl]
    refine h rfl B0 w0 φ0 F0 F φ a w hs K' Q (fun v F' w' hs' hv => ?_)
    rw [hd]
    exact hK' _ _ (hK B0 w0 φ0 F0 F' φ _ w' (hs'.put hN' (.cond (fun _ => hv) (fun h => absurd rfl h))) Q (fun s2 F2 φ2 a2 w2 hk2 h12 h22 hs2 => hQ s2 F2 φ2 a2 w2 hk2 h12 h22 hs2))
  | false =>
    rw [if_neg (by simp)]
    rw [hd]
    exact hK' _ _ (hK B0 w0 φ0 F0 F φ _ w (hs.put hN' (.cond (fun h => by cases h) (fun _ => rfl))) Q (fun s2 F2 φ2 a2 w2 hk2 h12 h22 hs2 => hQ s2 F2 φ2 a2 w2 hk2 h12 h22 hs2))

section ops
variable {d ty : Nat} {pos : String} {af : Array Edge} {g : Option (Nat × Bool)} {K : St → Prop} {s : St} {H : Prop}

theorem evv0 {B0 : Fr} {w0 : World} {φ0 : Phi} {F0 : FMem} {F : FMem} {φ : Phi} {a : Act} {w : World} (h : Sim B0 w0 φ0 F0 s F φ a w) {x : Operand} {u : Value} (hx : s.ev x = .t (.v u)) : a.eval x = u ∧ sc u = true := by
  have := h.ev x
  rw [hx] at this
  cases this with
  | t ht =>
    generalize hq : a.eval x = q at ht
    cases ht with
    | v h => exact ⟨rfl, h⟩

theorem evv {B0 : Fr} {w0 : World} {φ0 : Phi} {F0 : FMem} {F : FMem} {φ : Phi} {a : Act} {w : World} (hH : H) (h : Sim B0 w0 φ0 F0 s F φ a w) {x : Operand} {u : Value} (hx : EvH H s x (.t (.v u))) : a.eval x = u ∧ sc u = true := by
  have := hx.vr hH h
  cases this with
  | t ht =>
    generalize hq : a.eval x = q at ht
    cases ht with
    | v h => exact ⟨rfl, h⟩
theorem PO.move {x : Operand} {p : PV} (hx : EvH H s x p) : PO P H ⟨some d, .move x, ty, pos, af, g⟩ s p :=
  fun hH _ _ _ _ _ _ a w hs => ⟨a.eval x, by simp [execOp], hx.vr hH hs⟩
theorem PO.assign {x : Operand} {p : PV} (hx : EvH H s x p) : PO P H ⟨some d, .assign x, ty, pos, af, g⟩ s p :=
  fun hH _ _ _ _ _ _ a w hs => ⟨a.eval x, by simp [execOp], hx.vr hH hs⟩
theorem PO.pickb {c x y : Operand} {b p q : Bool} (hc : EvH H s c (.t (.v (.bool b)))) (hx : EvH (H ∧ b = true) s x (.t (.v (.bool p)))) (hy : EvH (H ∧ b = false) s y (.t (.v (.bool q)))) :
    PO P H ⟨some d, .pick c x y, ty, pos, af, g⟩ s (.t (.v (.bool (bif b then p else q)))) := by
  intro hH B0 w0 φ0 F0 F φ a w hs
  refine ⟨.bool (bif b then p else q), ?_, .t (.v rfl)⟩
  have h1 := (evv hH hs hc).1
  cases b with
  | true => have h2 := (evv ⟨hH, rfl⟩ hs hx).1; simp [execOp, h1, h2, asBool]
  | false => have h3 := (evv ⟨hH, rfl⟩ hs hy).1; simp [execOp, h1, h3, asBool]
/-- A choice between values of whatever kind. -/
theorem PO.pick {c x y : Operand} {b : Bool} {p q : PV} (hc : EvH H s c (.t (.v (.bool b)))) (hx : EvH (H ∧ b = true) s x p) (hy : EvH (H ∧ b = false) s y q) :
    PO P H ⟨some d, .pick c x y, ty, pos, af, g⟩ s (if b then p else q) := by
  intro hH B0 w0 φ0 F0 F φ a w hs
  have h1 := (evv hH hs hc).1
  cases b with
  | true => exact ⟨a.eval x, by simp [execOp, h1, asBool], hx.vr ⟨hH, rfl⟩ hs⟩
  | false => exact ⟨a.eval y, by simp [execOp, h1, asBool], hy.vr ⟨hH, rfl⟩ hs⟩

/-! ### numbers -/
def binV (op : BinOp) : Value → Value → Option Value
  | .int k a, .int k' b =>
    if k = k' then
      match op with
      | .add => some (.int k (k.wrap (a + b)))
      | .sub => some (.int k (k.wrap (a - b)))
      | .mul => some (.int k (k.wrap (a * b)))
      | .quo => if b = 0 then none else some (.int k (k.wrap (a.tdiv b)))
      | .rem => if b = 0 then none else some (.int k (a.tmod b))
      | .eql => some (.bool (decide (a = b)))
      | .neq => some (.bool (decide (a ≠ b)))
      | .lss => some (.bool (decide (a < b)))
      | .leq => some (.bool (decide (a ≤ b)))
      | .gtr => some (.bool (decide (a > b)))
      | .geq => some (.bool (decide (a ≥ b)))
      | _ => none
    else none
  | .string a, .string b =>
    match op with
    | .eql => some (.bool (decide (a = b)))
    | .neq => some (.bool (decide (a ≠ b)))
    | _ => none
  | _, _ => none
theorem toList_inj {a b : ByteArray} : (a.toList == b.toList) = decide (a = b) := by
  by_cases e : a = b
  · subst e; simp
  · have : a.toList ≠ b.toList := fun h => e (by
      have h2 : a.data.toList = b.data.toList := by rw [← ByteArray.toList_eq, ← ByteArray.toList_eq]; exact h
      cases a; cases b; simp at h2; simp [h2])
    simp [e, this]
theorem binV_run {op : BinOp} {u v r : Value} (h : binV op u v = some r) (t : TypeId) (x y : Operand) (w : World) :
    (do eqGuard op t x y u v; binOp op t u v : Sem Value).run P w = .ok r w := by
  unfold binV at h
  split at h
  · rename_i k a k' b
    split at h
    · rename_i hk
      subst hk
      cases op <;> simp only [Option.some.injEq, reduceCtorEq] at h
      case quo =>
        split at h
        · cases h
        · cases h; rename_i hb; simp only [eqGuard_quo, pure_bind, binOp_quo, Op.intDiv, if_neg hb]; rfl
      case rem =>
        split at h
        · cases h
        · cases h; rename_i hb; simp only [eqGuard_rem, pure_bind, binOp_rem, Op.intDiv, if_neg hb]; rfl
      case add => cases h; simp only [eqGuard_add, pure_bind, binOp_add, Op.intArith]; rfl
      case sub => cases h; simp only [eqGuard_sub, pure_bind, binOp_sub, Op.intArith]; rfl
      case mul => cases h; simp only [eqGuard_mul, pure_bind, binOp_mul, Op.intArith]; rfl
      case eql => cases h; simp only [eqGuard_at_int, pure_bind, binOp_eql]; rfl
      case neq => cases h; simp only [eqGuard_at_int, pure_bind, binOp_neq]; by_cases e : a = b <;> simp [e]
      case lss => cases h; simp only [eqGuard_at_int, pure_bind, binOp_lss]; rfl
      case leq => cases h; simp only [eqGuard_at_int, pure_bind, binOp_leq]; rfl
      case gtr => cases h; simp only [eqGuard_at_int, pure_bind, binOp_gtr]; rfl
      case geq => cases h; simp only [eqGuard_at_int, pure_bind, binOp_geq]; rfl
    · cases h
  · rename_i a b
    cases op <;> simp only [Option.some.injEq, reduceCtorEq] at h
    case eql => cases h; simp only [eqGuard_at_string, pure_bind, binOp_string_eql, toList_inj]; rfl
    case neq => cases h; simp only [eqGuard_at_string, pure_bind, binOp_string_neq, toList_inj]; simp
  · cases h
theorem sc_binV {op : BinOp} {u v r : Value} (h : binV op u v = some r) : sc r = true := by
  unfold binV at h
  split at h
  · split at h
    · cases op <;> simp only [Option.some.injEq] at h <;> (try cases h) <;> (try rfl) <;> (try (split at h <;> cases h <;> rfl))
    · cases h
  · cases op <;> simp only [Option.some.injEq] at h <;> (try cases h) <;> rfl
  · cases h
theorem PO.bin {op : BinOp} {t t' : TypeId} {x y : Operand} {u v r : Value} (hx : EvH H s x (.t (.v u))) (hy : EvH H s y (.t (.v v))) (hr : binV op u v = some r) : PO P H ⟨some d, .binOp op t x y t', ty, pos, af, g⟩ s (.t (.v r)) := by
  intro hH _ _ _ _ _ _ a w hs; refine ⟨r, ?_, .t (.v (sc_binV hr))⟩
  have h1 := (evv hH hs hx).1
  have h2 := (evv hH hs hy).1
  have := binV_run (P := P) hr t x y w
  simp only [execOp, h1, h2]
  simp only [Sem.run_bind] at this ⊢
  rw [this]; rfl
/-- An int's sum that needs no wrap. -/
theorem PO.add {k : IntKind} {t t' : TypeId} {x y : Operand} {m n : Int} (hx : EvH H s x (.t (.v (.int k m)))) (hy : EvH H s y (.t (.v (.int k n)))) (hw : H → k.wrap (m + n) = m + n) : PO P H ⟨some d, .binOp .add t x y t', ty, pos, af, g⟩ s (.t (.v (.int k (m + n)))) :=
  fun hH => PO.bin hx hy (by simp [binV, hw hH]) hH
theorem PO.sub {k : IntKind} {t t' : TypeId} {x y : Operand} {m n : Int} (hx : EvH H s x (.t (.v (.int k m)))) (hy : EvH H s y (.t (.v (.int k n)))) (hw : H → k.wrap (m - n) = m - n) : PO P H ⟨some d, .binOp .sub t x y t', ty, pos, af, g⟩ s (.t (.v (.int k (m - n)))) :=
  fun hH => PO.bin hx hy (by simp [binV, hw hH]) hH
theorem PO.mul {k : IntKind} {t t' : TypeId} {x y : Operand} {m n : Int} (hx : EvH H s x (.t (.v (.int k m)))) (hy : EvH H s y (.t (.v (.int k n)))) (hw : H → k.wrap (m * n) = m * n) : PO P H ⟨some d, .binOp .mul t x y t', ty, pos, af, g⟩ s (.t (.v (.int k (m * n)))) :=
  fun hH => PO.bin hx hy (by simp [binV, hw hH]) hH
theorem PO.quo {k : IntKind} {t t' : TypeId} {x y : Operand} {m n r : Int} (hx : EvH H s x (.t (.v (.int k m)))) (hy : EvH H s y (.t (.v (.int k n)))) (h0 : H → n ≠ 0) (hw : H → k.wrap (m.tdiv n) = r) : PO P H ⟨some d, .binOp .quo t x y t', ty, pos, af, g⟩ s (.t (.v (.int k r))) :=
  fun hH => PO.bin hx hy (by simp [binV, hw hH, h0 hH]) hH
theorem PO.rem {k : IntKind} {t t' : TypeId} {x y : Operand} {m n : Int} (hx : EvH H s x (.t (.v (.int k m)))) (hy : EvH H s y (.t (.v (.int k n)))) (h0 : H → n ≠ 0) : PO P H ⟨some d, .binOp .rem t x y t', ty, pos, af, g⟩ s (.t (.v (.int k (m.tmod n)))) :=
  fun hH => PO.bin hx hy (by simp [binV, h0 hH]) hH
theorem PO.binr {op : BinOp} {t t' : TypeId} {x y : Operand} {u v r : Value} (hx : EvH H s x (.t (.v u))) (hy : EvH H s y (.t (.v v))) (hsc : sc r = true)
    (hr : ∀ w, (do eqGuard op t x y u v; binOp op t u v : Sem Value).run P w = .ok r w) : PO P H ⟨some d, .binOp op t x y t', ty, pos, af, g⟩ s (.t (.v r)) := by
  intro hH _ _ _ _ _ _ a w hs; refine ⟨r, ?_, .t (.v hsc)⟩
  have h1 := (evv hH hs hx).1
  have h2 := (evv hH hs hy).1
  have := hr w
  simp only [execOp, h1, h2]
  simp only [Sem.run_bind] at this ⊢
  rw [this]; rfl
theorem PO.cat {t t' : TypeId} {x y : Operand} {m n : ByteArray} (hx : EvH H s x (.t (.v (.string m)))) (hy : EvH H s y (.t (.v (.string n)))) (hw : H → m.size + n.size ≤ 4611686018427387904) : PO P H ⟨some d, .binOp .add t x y t', ty, pos, af, g⟩ s (.t (.v (.string (m ++ n)))) := by
  refine fun hH => PO.binr hx hy rfl (fun w => ?_) hH
  have hw := hw hH
  have h3 : ¬ ((m.size : Int) + n.size > IntKind.i64.max) := by simp [IntKind.max, IntKind.bits, IntKind.signed]; omega
  simp only [eqGuard_at_string, pure_bind, binOp_string_add, Op.stringOp]
  rw [if_neg (by simpa using h3)]; rfl
/-- Bools held against each other. -/
theorem PO.eqb {t t' : TypeId} {x y : Operand} {m n : Bool} {sz bytes : Nat} {z : Value} [ht : TyIs P t .bool sz bytes z] (hx : EvH H s x (.t (.v (.bool m)))) (hy : EvH H s y (.t (.v (.bool n)))) : PO P H ⟨some d, .binOp .eql t x y t', ty, pos, af, g⟩ s (.t (.v (.bool (decide (m = n))))) := by
  refine fun hH => PO.binr hx hy rfl (fun w => ?_) hH
  simp only [eqGuard_at_bool, pure_bind]
  rw [run_eql_bool _ _ _ _ ht.und]; rfl
theorem PO.neb {t t' : TypeId} {x y : Operand} {m n : Bool} {sz bytes : Nat} {z : Value} [ht : TyIs P t .bool sz bytes z] (hx : EvH H s x (.t (.v (.bool m)))) (hy : EvH H s y (.t (.v (.bool n)))) : PO P H ⟨some d, .binOp .neq t x y t', ty, pos, af, g⟩ s (.t (.v (.bool (decide (m ≠ n))))) := by
  refine fun hH => PO.binr hx hy rfl (fun w => ?_) hH
  simp only [eqGuard_at_bool, pure_bind]
  rw [run_neq_bool _ _ _ _ ht.und]; cases m <;> cases n <;> rfl
theorem PO.not {t : TypeId} {x : Operand} {m : Bool} (hx : EvH H s x (.t (.v (.bool m)))) : PO P H ⟨some d, .unOp .not t x, ty, pos, af, g⟩ s (.t (.v (.bool (!m)))) := by
  intro hH _ _ _ _ _ _ a w hs; refine ⟨_, ?_, .t (.v rfl)⟩
  have h1 := (evv hH hs hx).1
  simp only [execOp, h1, Op.unary]; rfl
theorem PO.neg {t : TypeId} {x : Operand} {k : IntKind} {m : Int} (hx : EvH H s x (.t (.v (.int k m)))) : PO P H ⟨some d, .unOp .neg t x, ty, pos, af, g⟩ s (.t (.v (.int k (k.wrap (0 - m))))) := by
  intro hH _ _ _ _ _ _ a w hs; refine ⟨_, ?_, .t (.v rfl)⟩
  have h1 := (evv hH hs hx).1
  simp only [execOp, h1, Op.unary, Op.intArith]; rfl
/-- A conversion between kinds of numbers. -/
theorem PO.conv {src dst : TypeId} {x : Operand} {k k' : IntKind} {m r : Int} {ds : TypeDesc} {sz bytes sz' bytes' : Nat} {z z' : Value} [hs1 : TyIs P src ds sz bytes z] [ht : TyIs P dst (.int k') sz' bytes' z']
    (hx : EvH H s x (.t (.v (.int k m)))) (hw : k'.wrap m = r) : PO P H ⟨some d, .convert src dst x, ty, pos, af, g⟩ s (.t (.v (.int k' r))) := by
  intro hH _ _ _ _ _ _ a w hs; refine ⟨.int k' r, ?_, .t (.v rfl)⟩
  have h1 := (evv hH hs hx).1
  simp only [execOp, h1, convert, Sem.run_bind, hs1.under, ht.under, Result.andThen_ok, Conv.intToInt, hw]; rfl
/-! ### strings -/
/-- A text's bytes. -/
def bs (s : ByteArray) : List UInt8 := s.data.toList
theorem bs_inj {a b : ByteArray} (h : bs a = bs b) : a = b := by
  cases a; cases b; simp [bs] at h; simp [h]
def byteAt (s : ByteArray) (i : Int) : UInt8 := (bs s).getD i.toNat 0
theorem PO.idxS {t : TypeId} {x y : Operand} {k : IntKind} {b : ByteArray} {i : Int} {sz bytes : Nat} {z : Value} [ht : TyIs P t .string sz bytes z] (hx : EvH H s x (.t (.v (.string b)))) (hy : EvH H s y (.t (.v (.int k i))))
    (h0 : H → 0 ≤ i) (h1 : H → i < b.size) : PO P H ⟨some d, .index t x y, ty, pos, af, g⟩ s (.t (.v (.int .u8 (byteAt b i).toNat))) := by
  intro hH _ _ _ _ _ _ a w hs; refine ⟨_, ?_, .t (.v rfl)⟩
  have e1 := (evv hH hs hx).1
  have e2 := (evv hH hs hy).1
  have h0 := h0 hH
  have h1 := h1 hH
  have h2 : i.toNat < b.size := by omega
  have h3 : b[i.toNat]? = some (b[i.toNat]) := by simp [h2]
  have h4 : byteAt b i = b[i.toNat] := by
    rw [byteAt, bs, List.getD_eq_getElem?_getD, List.getElem?_eq_getElem (by simpa using h2)]
    rfl
  simp only [execOp, e1, e2, Instr.index, asIntOf, Sem.run_bind, Sem.run_pure, ht.under, Result.andThen_ok, if_pos h0, h3, h4]
/-- A builtin that gives a value and touches no memory. -/
theorem PO.blt {b : Builtin} {xs : Array Operand} {ts : Array TypeId} {p : PV}
    (h : H → ∀ B0 w0 φ0 F0 F φ a w, Sim B0 w0 φ0 F0 s F φ a w → ∃ v, (builtin b ts ty (xs.map fun | .const _ => true | _ => false) (xs.map a.eval)).run P w = .ok (.value v) w ∧ VR F φ p v) :
    PO P H ⟨some d, .call ⟨.builtin b, xs, ts⟩, ty, pos, af, g⟩ s p := by
  intro hH B0 w0 φ0 F0 F φ a w hs
  obtain ⟨v, h1, h2⟩ := h hH B0 w0 φ0 F0 F φ a w hs
  refine ⟨v, ?_, h2⟩
  simp only [execOp, resolve, Sem.run_bind, Sem.run_pure, Result.andThen_ok, invoke]
  exact h1
theorem run_len_string (t ty : TypeId) (b : ByteArray) (h : P.underlying t = some .string) (w : World) : (Builtin.len_ #[t] ty #[.string b]).run P w = .ok (goInt b.size) w := by
  simp [Builtin.len_, run_underlying h]
theorem PO.lenS {t : TypeId} {x : Operand} {b : ByteArray} {sz bytes : Nat} {z : Value} [ht : TyIs P t .string sz bytes z] (hx : EvH H s x (.t (.v (.string b)))) : PO P H ⟨some d, .call ⟨.builtin .len, #[x], #[t]⟩, ty, pos, af, g⟩ s (.t (.v (.int .i64 b.size))) := by
  refine .blt (fun hH _ _ _ _ _ _ a w hs => ⟨.int .i64 b.size, ?_, .t (.v rfl)⟩)
  have e1 := (evv hH hs hx).1
  simp only [builtin, List.map_toArray, List.map_cons, List.map_nil, e1, Sem.run_bind]
  rw [run_len_string _ _ _ ht.und]; rfl
end ops
end Go.Proofs.YtdiimgkopknbcaaGreatDoor.E

/- The engine's rules for operations that touch memory: new blocks, loads, stores, addresses. -/
namespace Go.Proofs.YtdiimgkopknbcaaGreatDoor.E
set_option linter.unusedVariables false
set_option linter.unusedSimpArgs false
open Go Go.RowKit

variable {P : Program}

section
variable {B0 : Fr} {w0 : World} {φ0 : Phi} {F0 : FMem} {s : St} {F : FMem} {φ : Phi} {a : Act} {w : World}

theorem Sim.world (h : Sim B0 w0 φ0 F0 s F φ a w) {w' : World} (hb : Bel B0 w w') (hh : ∀ b k B sz, look b s.heap = some k → φ b = some (B, sz) → w'.heap[B]? = w.heap[B]?) (hc : FOK F w') : Sim B0 w0 φ0 F0 s F φ a w' :=
  ⟨h.below.trans hb, h.base, hc, h.fle, h.fnew, h.phi0, h.lo, h.fresh, h.size, h.defers, h.tm, (fun b k hk => by
      obtain ⟨B, cs, hl⟩ := h.heap b k hk
      exact ⟨B, cs, hl.to (hh b k B _ hk hl.at_) hl.at_ hl.old (FMem.le_refl F) (Phi.le_refl φ) hl.reads⟩), h.inj⟩
theorem Sim.drew (h : Sim B0 w0 φ0 F0 s F φ a w) : Sim B0 w0 φ0 F0 s F φ a w.drew :=
  h.world ((Bel.refl _ _).drew) (fun _ _ _ _ _ _ => rfl) (h.fok.grow (FMem.le_refl F) (fun a u e => h.fok.cell a u e) fun _ _ _ _ _ _ h => h)
theorem cell_lt {w : World} {a : Addr} {u : Value} (h : w.cell? a = some u) : a.block < w.heap.size := by
  unfold World.cell? at h
  split at h
  · rename_i hb; exact (Array.getElem?_eq_some_iff.1 hb).1
  · cases h
theorem FOK.lt (h : FOK F w) {a : Addr} {u : Value} (e : F a = some u) : a.block < w.heap.size := cell_lt (h a u e).1
theorem Sim.base_le (h : Sim B0 w0 φ0 F0 s F φ a w) : ∀ k, B0 k → k < w.heap.size := fun k hk => Nat.lt_of_lt_of_le (h.base k hk) h.below.size
theorem Sim.base_new (h : Sim B0 w0 φ0 F0 s F φ a w) {k : Nat} (hk : w.heap.size ≤ k) : ¬ B0 k := fun hb => Nat.not_lt.2 hk (h.base_le k hb)
theorem Sim.block_lt (h : Sim B0 w0 φ0 F0 s F φ a w) {b : Nat} {k : Blk} (hk : look b s.heap = some k) {B sz : Nat} (hb : φ b = some (B, sz)) : B < w.heap.size := by
  obtain ⟨B', cs, hl⟩ := h.heap b k hk
  have := hl.at_; rw [hb] at this; cases this
  exact hl.lt
theorem szW_alloc {w : World} {a : Addr} {u : Value} {n : Nat} (o : Obj) (h1 : w.cell? a = some u) (h : szW w a.block = some n) : szW (w.alloc o) a.block = some n :=
  szW_block (Below.heap_alloc _ _ _ (cell_lt h1)) h
theorem FOK.alloc (h : FOK F w) (o : Obj) : FOK F (w.alloc o) := h.grow (FMem.le_refl F) (fun a u e => by
  rw [World.cell?_alloc_lt (o := o) (h := h.lt e)]; exact h a u e) fun g j u n _ e h2 => szW_alloc (a := ⟨g, j, none⟩) o e h2

def Phi.new (φ : Phi) (n : Nat) (x : Nat × Nat) : Phi := fun b => if b = n then some x else φ b
theorem Phi.le_new {φ : Phi} {n : Nat} {x : Nat × Nat} (h : φ n = none) : φ.le (φ.new n x) := by
  intro b y hb
  unfold Phi.new
  split
  · rename_i e; subst e; rw [h] at hb; cases hb
  · exact hb
theorem HB.mono {F : FMem} {φ ψ : Phi} (hφ : φ.le ψ) {B : Nat} {cs : Array Value} {k : Blk} (h : HB F φ B cs k) : HB F ψ B cs k := by
  cases h with
  | obj hn h hF => exact .obj hn (fun i p hp => let ⟨u, h1, h2⟩ := h i p hp; ⟨u, h1, h2.mono (FMem.le_refl F) hφ⟩) hF
  | row hn he h hF => exact .row hn he h hF
  | map hF => exact .map hF
def St.alloc (s : St) (k : Blk) : St := { s with heap := (s.n, k) :: s.heap, n := s.n + 1 }
/-- A new block. -/
theorem Sim.alloc (h : Sim B0 w0 φ0 F0 s F φ a w) {cs : Array Value} {t : TypeId} {k : Blk} (hk : HB F φ w.heap.size cs k) (hty : ∀ t', k.ty = some t' → t' = t := by intro t' h; first | (cases h; done) | (cases h; rfl)) (hnm : k.isMap = false := by rfl) :
    φ.le (φ.new s.n (w.heap.size, cs.size)) ∧ Sim B0 w0 φ0 F0 (s.alloc k) F (φ.new s.n (w.heap.size, cs.size)) a (w.alloc (.cells cs t)) := by
  have hle : φ.le (φ.new s.n (w.heap.size, cs.size)) := Phi.le_new (h.fresh _ (Nat.le_refl _))
  have hsz : (w.alloc (.cells cs t)).heap.size = w.heap.size + 1 := by simp
  refine ⟨hle, ⟨h.below.alloc h.base_le _, h.base, h.fok.alloc _, h.fle, h.fnew, ?_, Nat.le_succ_of_le h.lo, ?_, h.size, h.defers, ?_, ?_, ?_⟩⟩
  · intro b hb
    show (φ.new s.n _) b = _
    have := h.lo
    unfold Phi.new
    rw [if_neg (by simp [St.alloc] at hb; omega)]
    exact h.phi0 b hb
  · intro b hb
    simp only [St.alloc] at hb
    unfold Phi.new
    rw [if_neg (by omega)]
    exact h.fresh b (by omega)
  · intro i p hp
    exact (h.tm i p hp).mono (FMem.le_refl F) hle
  · intro b k' hk'
    simp only [St.alloc, look] at hk'
    split at hk'
    · rename_i e; subst e; cases hk'
      refine ⟨w.heap.size, cs, by simp [Phi.new], h.base_new (Nat.le_refl _), fun _ => ⟨t, ?_⟩, fun t' e => ?_, fun es e => (by subst e; cases hnm), hk.mono hle⟩
      · show (w.heap.push _)[w.heap.size]? = _
        simp
      · show (w.heap.push _)[w.heap.size]? = _
        rw [hty t' e]; simp
    · obtain ⟨B, cs', hl⟩ := h.heap b k' hk'
      exact ⟨B, cs', hl.to (Below.heap_alloc _ _ _ hl.lt) (hle _ _ hl.at_) hl.old (FMem.le_refl F) hle (hl.reads.mono hle)⟩
  · intro b b' k1 k2 B sz sz' h1 h2 h3 h4
    simp only [St.alloc, look] at h1 h2
    unfold Phi.new at h3 h4
    by_cases e1 : b = s.n <;> by_cases e2 : b' = s.n
    · rw [e1, e2]
    · rw [if_pos e1] at h3; rw [if_neg e2] at h4 h2
      cases h3
      exact absurd (h.block_lt h2 h4) (by omega)
    · rw [if_pos e2] at h4; rw [if_neg e1] at h3 h1
      cases h4
      exact absurd (h.block_lt h1 h3) (by omega)
    · rw [if_neg e1] at h3 h1; rw [if_neg e2] at h4 h2
      exact h.inj b b' k1 k2 B sz sz' h1 h2 h3 h4

def St.upd (s : St) (b : Nat) (k : Blk) : St := { s with heap := (b, k) :: s.heap }
theorem szW_set {w : World} {B : Nat} {cs cs' : Array Value} {t : TypeId} {g n : Nat} (ht : w.heap[B]? = some (.cells cs t (0, 0))) (hsz : cs'.size = cs.size) (h : szW w g = some n) : szW (w.setRow B cs') g = some n := by
  by_cases e : g = B
  · subst e
    unfold szW at h ⊢
    rw [ht] at h
    rw [setRow_heap w g cs cs' t (0, 0) ht]
    simpa [hsz] using h
  · exact szW_block (setRow_other _ _ _ _ e) h
/-- A block of our own is written. -/
theorem Sim.upd (h : Sim B0 w0 φ0 F0 s F φ a w) {b : Nat} {k k' : Blk} {B : Nat} {cs cs' : Array Value} (hk : look b s.heap = some k) (hl : Live F φ B0 w b k B cs) (hsz : cs'.size = cs.size)
    (hk' : HB F φ B cs' k') (hF : ∀ a u, F a = some u → a.block = B → cs'[a.off]? = cs[a.off]?) (hty : ∀ t, k'.ty = some t → k.ty = some t := by intro t h; first | exact h | (cases h; done)) (hnm : k.isMap = false := by rfl) (hnm' : k'.isMap = false := by rfl) : Sim B0 w0 φ0 F0 (s.upd b k') F φ a (w.setRow B cs') := by
  obtain ⟨t, ht⟩ := hl.cells hnm
  refine ⟨?_, h.base, h.fok.grow (FMem.le_refl F) ?_ (fun g j u n _ _ h2 => szW_set ht hsz h2), h.fle, h.fnew, h.phi0, h.lo, h.fresh, h.size, h.defers, h.tm, ?_, ?_⟩
  · exact h.below.trans ⟨rfl, rfl, rfl, by simp, fun j hj => setRow_other _ _ _ _ (fun e => hl.old (e ▸ hj))⟩
  · intro x u e
    by_cases eb : x.block = B
    · obtain ⟨h1, h3⟩ := h.fok x u e
      refine ⟨?_, h3⟩
      have h2 := hF x u e eb
      unfold World.cell? at h1 ⊢
      rw [eb] at h1 ⊢
      rw [setRow_heap w B cs cs' t (0, 0) ht]
      rw [ht] at h1
      simp only at h1 ⊢
      split at h1
      · cases h1
      · rename_i hs; rw [if_neg hs, h2]; exact h1
    · rw [World.cell?_of_block (w := w) (setRow_other _ _ _ _ eb)]; exact h.fok x u e
  · intro b2 k2 hk2
    simp only [St.upd, look] at hk2
    split at hk2
    · rename_i e; subst e; cases hk2
      exact ⟨B, cs', by rw [hsz]; exact hl.at_, hl.old, fun _ => ⟨t, setRow_heap w B cs cs' t (0, 0) ht⟩, fun t' e => setRow_heap w B cs cs' t' (0, 0) (hl.ty t' (hty t' e)), fun es e => (by subst e; cases hnm'), hk'⟩
    · rename_i e
      obtain ⟨B2, cs2, hl2⟩ := h.heap b2 k2 hk2
      have : B2 ≠ B := fun e2 => e (h.inj b2 b k2 k B _ _ hk2 hk (e2 ▸ hl2.at_) hl.at_)
      exact ⟨B2, cs2, hl2.to (setRow_other _ _ _ _ this) hl2.at_ hl2.old (FMem.le_refl F) (Phi.le_refl φ) hl2.reads⟩
  · intro b1 b2 k1 k2 B' sz sz' h1 h2 h3 h4
    simp only [St.upd, look] at h1 h2
    by_cases e1 : b1 = b <;> by_cases e2 : b2 = b
    · rw [e1, e2]
    · rw [if_neg e2] at h2; subst e1; exact h.inj _ _ k k2 B' sz sz' hk h2 h3 h4
    · rw [if_neg e1] at h1; subst e2; exact h.inj _ _ k1 k B' sz sz' h1 hk h3 h4
    · rw [if_neg e1] at h1; rw [if_neg e2] at h2; exact h.inj _ _ k1 k2 B' sz sz' h1 h2 h3 h4
end

/-! ### a value's cells -/
def PV.known : PV → Bool
  | .undef | .cond _ _ _ => false
  | _ => true
theorem TR.cells {F : FMem} {x : T} {v : Value} (h : TR F x v) : x.leaves.length = v.cells.size ∧ ∀ (i : Nat) (y : T), x.leaves[i]? = some y → ∃ u, v.cells[i]? = some u ∧ TR F y u := by
  cases h with
  | v h =>
    have : v.cells = #[v] := by cases v <;> simp_all [sc, Value.cells]
    rw [this]
    refine ⟨rfl, fun i y hy => ?_⟩
    simp only [T.leaves] at hy
    cases i with
    | zero => simp at hy; subst hy; exact ⟨v, rfl, .v h⟩
    | succ i => simp at hy
  | nil =>
    refine ⟨rfl, fun i y hy => ?_⟩
    simp only [T.leaves] at hy
    cases i with
    | zero => simp at hy; subst hy; exact ⟨_, rfl, .nil⟩
    | succ i => simp at hy
  | sl0 =>
    refine ⟨rfl, fun i y hy => ?_⟩
    simp only [T.leaves] at hy
    cases i with
    | zero => simp at hy; subst hy; exact ⟨_, rfl, .sl0⟩
    | succ i => simp at hy
  | sl us hc he hF hu =>
    refine ⟨rfl, fun i y hy => ?_⟩
    simp only [T.leaves] at hy
    cases i with
    | zero => simp at hy; subst hy; exact ⟨_, rfl, .sl us hc he hF hu⟩
    | succ i => simp at hy
  | @agg xs vs hn h =>
    refine ⟨hn, fun i y hy => ?_⟩
    simp only [T.leaves] at hy
    have hi : i < vs.size := by
      rw [← hn]; exact (List.getElem?_eq_some_iff.1 hy).1
    exact ⟨vs[i], Array.getElem?_eq_getElem hi, h i y _ hy (Array.getElem?_eq_getElem hi)⟩
theorem VR.cells {F : FMem} {φ : Phi} {p : PV} {v : Value} (h : VR F φ p v) (hp : p.known = true) :
    p.leaves.length = v.cells.size ∧ ∀ (i : Nat) (y : PV), p.leaves[i]? = some y → ∃ u, v.cells[i]? = some u ∧ VR F φ y u := by
  have one : ∀ {q : PV} {u : Value}, VR F φ q u → q.leaves = [q] → u.cells = #[u] → q.leaves.length = u.cells.size ∧ ∀ (i : Nat) (y : PV), q.leaves[i]? = some y → ∃ x, u.cells[i]? = some x ∧ VR F φ y x := by
    intro q u hq h1 h2
    rw [h1, h2]
    refine ⟨rfl, fun i y hy => ?_⟩
    cases i with
    | zero => simp at hy; subst hy; exact ⟨u, rfl, hq⟩
    | succ i => simp at hy
  cases h with
  | undef => cases hp
  | @t x v h =>
    obtain ⟨h1, h2⟩ := h.cells
    cases x with
    | agg xs =>
      simp only [T.leaves] at h1 h2
      refine ⟨by simpa [PV.leaves] using h1, fun i y hy => ?_⟩
      simp only [PV.leaves, List.getElem?_map, Option.map_eq_some_iff] at hy
      obtain ⟨z, hz, rfl⟩ := hy
      obtain ⟨u, hu, hr⟩ := h2 i z hz
      exact ⟨u, hu, .t hr⟩
    | v z => 
      refine one (.t h) rfl ?_
      cases h with | v hs => cases v <;> simp_all [sc, Value.cells]
    | sl n xs =>
      refine one (.t h) rfl ?_
      cases h <;> rfl
  | ref hb h1 h2 h3 => exact one (.ref hb h1 h2 h3) rfl rfl
  | ptr hb => exact one (.ptr hb) rfl rfl
  | rptr hb => exact one (.rptr hb) rfl rfl
  | eptr us h => exact one (.eptr us h) rfl rfl
  | clip us h => exact one (.clip us h) rfl rfl
  | @agg ps vs hn h =>
    refine ⟨hn, fun i y hy => ?_⟩
    simp only [PV.leaves] at hy
    have hi : i < vs.size := by rw [← hn]; exact (List.getElem?_eq_some_iff.1 hy).1
    exact ⟨vs[i], Array.getElem?_eq_getElem hi, h i y _ hy (Array.getElem?_eq_getElem hi)⟩
  | tup hn h => exact one (.tup hn h) rfl rfl
  | fn hm hf hn h => exact one (.fn hm hf hn h) rfl rfl
  | mp hb => exact one (.mp hb) rfl rfl
  | yl hb => exact one (.yl hb) rfl rfl
  | ifc h => exact one (.ifc h) rfl rfl
  | cond => cases hp
/-- A block's cells that are a value's. -/
theorem HB.ofCells {bt : Option TypeId} {F : FMem} {φ : Phi} {w : World} (hF : FOK F w) {cells : List PV} {cs : Array Value} (h1 : cells.length = cs.size) (h2 : ∀ (i : Nat) (y : PV), cells[i]? = some y → ∃ u, cs[i]? = some u ∧ VR F φ y u) :
    HB F φ w.heap.size cs (.obj cells bt) :=
  .obj (Nat.le_of_eq h1) h2 (fun _ _ e => Nat.ne_of_lt (hF.lt e))

/-- A struct's value out of its leaves: a tree, if they are. -/
def toTs : List PV → Option (List T)
  | [] => some []
  | .t x :: l => (toTs l).map (x :: ·)
  | _ :: _ => none
def mkAgg (ps : List PV) : PV :=
  match toTs ps with
  | some xs => .t (.agg xs)
  | none => .agg ps
theorem toTs_some {ps : List PV} {xs : List T} (h : toTs ps = some xs) : ps = xs.map .t := by
  induction ps generalizing xs with
  | nil => cases h; rfl
  | cons p ps ih =>
    cases p with
    | t x =>
      simp only [toTs, Option.map_eq_some_iff] at h
      obtain ⟨ys, hy, rfl⟩ := h
      rw [ih hy]; rfl
    | _ => cases h
theorem mkAgg_vr {F : FMem} {φ : Phi} {ps : List PV} {vs : Array Value} (hn : ps.length = vs.size) (h : ∀ (i : Nat) (p : PV) (u : Value), ps[i]? = some p → vs[i]? = some u → VR F φ p u) : VR F φ (mkAgg ps) (.agg vs) := by
  unfold mkAgg
  split
  · rename_i xs hxs
    have := toTs_some hxs
    subst this
    refine .t (.agg (by simpa using hn) (fun i x u hx hu => ?_))
    have := h i (.t x) u (by simp [hx]) hu
    cases this with | t ht => exact ht
  · exact .agg hn h

section ops
variable {d ty : Nat} {pos : String} {af : Array Edge} {g : Option (Nat × Bool)} {K : St → Prop} {s : St} {H : Prop}

theorem TriO.gen {o : Oper} {d : Nat} (hd : o.dst = some d) (hN : Nat.blt d s.N = true)
    (h : ∀ B0 w0 φ0 F0 F φ a w, Sim B0 w0 φ0 F0 s F φ a w → ∃ v w' s' F' φ' p, (execOp a.eval o).run P w = .ok (.value v) w' ∧ s'.lo = s.lo ∧ s'.N = s.N ∧ Sim B0 w0 φ0 F0 s' F' φ' a w' ∧ VR F' φ' p v ∧ K (s'.put d p)) : TriO P o K s := by
  intro B0 w0 φ0 F0 F φ a w hs next Q hQ
  obtain ⟨v, w', s', F', φ', p, hr, h1, h2, hs', hv, hK⟩ := h B0 w0 φ0 F0 F φ a w hs
  simp only [Oper.wp, hr, Oper.upon]
  rw [hd]
  exact hQ (s'.put d p) F' φ' _ _ hK h1 h2 (hs'.put (by rw [h2]; simpa [Nat.blt_eq] using hN) hv)
/-- An operation without an answer. -/
theorem TriO.act {o : Oper} (hd : o.dst = none)
    (h : ∀ B0 w0 φ0 F0 F φ a w, Sim B0 w0 φ0 F0 s F φ a w → ∃ w' s' F' φ', (execOp a.eval o).run P w = .ok .skip w' ∧ s'.lo = s.lo ∧ s'.N = s.N ∧ Sim B0 w0 φ0 F0 s' F' φ' a w' ∧ K s') : TriO P o K s := by
  intro B0 w0 φ0 F0 F φ a w hs next Q hQ
  obtain ⟨w', s', F', φ', hr, h1, h2, hs', hK⟩ := h B0 w0 φ0 F0 F φ a w hs
  simp only [Oper.wp, hr, Oper.upon]
  rw [hd]
  exact hQ s' F' φ' _ _ hK h1 h2 hs'

/-! ### new variables -/
theorem TriO.box {t : TypeId} {x : Operand} {p : PV} {ls : List PV} (hx : s.ev x = p) (hp : p.known = true) (hl : p.leaves = ls) (hN : Nat.blt d s.N = true)
    (hK : K ((s.alloc (.obj ls)).put d (.ptr s.n 0))) : TriO P ⟨some d, .box t x, ty, pos, af, g⟩ K s := by
  refine .gen rfl hN (fun B0 w0 φ0 F0 F φ a w hs => ?_)
  have hv : VR F φ p (a.eval x) := hx ▸ hs.ev x
  obtain ⟨h1, h2⟩ := hv.cells hp
  subst hl
  obtain ⟨hle, hs'⟩ := hs.alloc (t := t) (HB.ofCells (bt := none) hs.fok h1 h2)
  refine ⟨_, _, s.alloc (.obj p.leaves), F, _, .ptr s.n 0, ?_, rfl, rfl, hs', .ptr (B := w.heap.size) (if_pos rfl), hK⟩
  simp only [execOp, Instr.box, newVar, newRow, newObj, Sem.run_bind, Sem.run, Result.andThen_ok, Sem.run_pure]
  rfl
theorem TriO.alloc {t : TypeId} {ds : TypeDesc} {sz bytes : Nat} {z : Value} {p : PV} {ls : List PV} [ht : TyIs P t ds sz bytes z] (hz : ofConst z = p) (hp : p.known = true) (hl : p.leaves = ls) (hN : Nat.blt d s.N = true)
    (hK : K ((s.alloc (.obj ls)).put d (.ptr s.n 0))) : TriO P ⟨some d, .alloc t, ty, pos, af, g⟩ K s := by
  refine .gen rfl hN (fun B0 w0 φ0 F0 F φ a w hs => ?_)
  have hv : VR F φ p z := hz ▸ ofConst_vr z
  obtain ⟨h1, h2⟩ := hv.cells hp
  subst hl
  obtain ⟨hle, hs'⟩ := hs.alloc (t := t) (HB.ofCells (bt := none) hs.fok h1 h2)
  refine ⟨_, _, s.alloc (.obj p.leaves), F, _, .ptr s.n 0, ?_, rfl, rfl, hs', .ptr (B := w.heap.size) (if_pos rfl), hK⟩
  simp only [execOp, Instr.alloc, newVar, newRow, newObj, Sem.run_bind, ht.zero, Sem.run, Result.andThen_ok, Sem.run_pure]
  rfl

/-! ### loads -/
def aggD : TypeDesc → Bool
  | .struct _ | .array _ _ => true
  | _ => false
theorem isAgg_run {t : TypeId} {ds : TypeDesc} {sz bytes : Nat} {z : Value} (ht : TyIs P t ds sz bytes z) (w : World) : (isAgg t).run P w = .ok (aggD ds) w := by
  unfold isAgg
  rw [Sem.run_bind, ht.under]
  cases ds <;> rfl
theorem loadAt_one {t : TypeId} {ds : TypeDesc} {sz bytes : Nat} {z : Value} (ht : TyIs P t ds sz bytes z) (hd : aggD ds = false) {w : World} {B o : Nat} {u : Value} (h : w.cell? ⟨B, o, none⟩ = some u) :
    (Instr.loadAt t (.pointer (some ⟨B, o, none⟩))).run P w = .ok u w := by
  simp [Instr.loadAt, Instr.sureAddr, loadVar, isAgg_run ht, hd, h]
theorem loadAt_many {t : TypeId} {ds : TypeDesc} {sz bytes : Nat} {z : Value} (ht : TyIs P t ds sz bytes z) (hd : aggD ds = true) {w : World} {B o : Nat} {cs : List Value} (hn : cs.length = sz)
    (h : ∀ (j : Nat) (u : Value), cs[j]? = some u → w.cell? ⟨B, o + j, none⟩ = some u) :
    (Instr.loadAt t (.pointer (some ⟨B, o, none⟩))).run P w = .ok (.agg cs.toArray) w := by
  obtain ⟨i, h1, h2, h3, h4⟩ := ht.inf
  refine run_loadAt_mid w B o t cs ds h ht.und ?_ (by simp [h1, h3, hn])
  cases ds <;> simp_all [aggD, TypeDesc.isRow]
theorem cell_at {w : World} {B : Nat} {cs : Array Value} {t : TypeId} {fr : Nat × Nat} (h : w.heap[B]? = some (.cells cs t fr)) (o : Nat) : w.cell? ⟨B, o, none⟩ = cs[o]? := by
  simp [World.cell?, h]
/-- A cell of a variable of our own. -/
theorem PO.load {bt : Option TypeId} {t : TypeId} {x : Operand} {ds : TypeDesc} {sz bytes : Nat} {z : Value} {b o : Nat} {ls : List PV} {p : PV} [ht : TyIs P t ds sz bytes z] (hd : aggD ds = false) (hx : EvH H s x (.ptr b o)) (hb : look b s.heap = some (.obj ls bt))
    (hp : ls[o]? = some p) : PO P H ⟨some d, .load t x, ty, pos, af, g⟩ s p := by
  intro hH B0 w0 φ0 F0 F φ a w hs
  have hv := hx.vr hH hs
  generalize hq : a.eval x = q at hv
  cases hv with
  | ptr hφ =>
    obtain ⟨B, cs, hl⟩ := hs.heap b _ hb
    have := hl.at_; rw [hφ] at this; cases this
    cases hl.reads with
    | obj hn hr hF =>
      obtain ⟨u, hu, hvr⟩ := hr o p hp
      obtain ⟨t', ht'⟩ := hl.cells rfl
      refine ⟨u, ?_, hvr⟩
      simp only [execOp, hq, Sem.run_bind, loadAt_one ht hd (by rw [cell_at ht']; exact hu), Result.andThen_ok, Sem.run_pure]
/-- A struct, an array in a variable of our own. -/
theorem PO.loadS {bt : Option TypeId} {t : TypeId} {x : Operand} {ds : TypeDesc} {sz bytes : Nat} {z : Value} {b o : Nat} {ls qs : List PV} {p : PV} [ht : TyIs P t ds sz bytes z] (hd : aggD ds = true) (hx : EvH H s x (.ptr b o)) (hb : look b s.heap = some (.obj ls bt))
    (hq : (ls.drop o).take sz = qs) (hn : qs.length = sz) (hp : mkAgg qs = p) : PO P H ⟨some d, .load t x, ty, pos, af, g⟩ s p := by
  intro hH B0 w0 φ0 F0 F φ a w hs
  have hv := hx.vr hH hs
  generalize he : a.eval x = q at hv
  cases hv with
  | ptr hφ =>
    obtain ⟨B, cs, hl⟩ := hs.heap b _ hb
    have := hl.at_; rw [hφ] at this; cases this
    cases hl.reads with
    | obj hn' hr hF =>
      obtain ⟨t', ht'⟩ := hl.cells rfl
      have hlen : o + sz ≤ ls.length ∨ sz = 0 := by
        subst hq; simp at hn; omega
      have hcs : ((cs.toList.drop o).take sz).length = sz := by simp; omega
      refine ⟨.agg ((cs.toList.drop o).take sz).toArray, ?_, ?_⟩
      · simp only [execOp, he, Sem.run_bind]
        rw [loadAt_many ht hd hcs (fun j u hu => ?_)]
        · rfl
        · rw [cell_at ht']
          rw [List.getElem?_take] at hu
          split at hu
          · rw [List.getElem?_drop] at hu; simpa using hu
          · cases hu
      · rw [← hp]
        refine mkAgg_vr (by simp [hn]; omega) (fun i y u hy hu => ?_)
        subst hq
        have hi : i < sz := by have := (List.getElem?_eq_some_iff.1 hy).1; omega
        rw [List.getElem?_take_of_lt hi, List.getElem?_drop] at hy
        obtain ⟨u', hu', hvr⟩ := hr (o + i) y hy
        have : u = u' := by
          simp only [List.getElem?_toArray, List.getElem?_take_of_lt hi, List.getElem?_drop] at hu
          rw [Array.getElem?_toList] at hu; rw [hu'] at hu; cases hu; rfl
        rw [this]; exact hvr
/-- A leaf of an element that came in. -/
theorem PO.loadE {t : TypeId} {x : Operand} {ds : TypeDesc} {sz bytes : Nat} {z : Value} {y p : T} {o : Nat} [ht : TyIs P t ds sz bytes z] (hd : aggD ds = false) (hx : EvH H s x (.eptr y o)) (hp : y.leaves[o]? = some p) : PO P H ⟨some d, .load t x, ty, pos, af, g⟩ s (.t p) := by
  intro hH B0 w0 φ0 F0 F φ a w hs
  have hv := hx.vr hH hs
  generalize hq : a.eval x = q at hv
  cases hv with
  | eptr us h =>
    refine ⟨us o, ?_, .t (h.hu o p hp)⟩
    simp only [execOp, hq, Sem.run_bind, loadAt_one ht hd (hs.fok _ _ (h.hF o p hp)).1, Result.andThen_ok, Sem.run_pure]
/-- A whole struct that came in. -/
theorem PO.loadES {t : TypeId} {x : Operand} {ds : TypeDesc} {sz bytes : Nat} {z : Value} {y : T} {ls : List T} [ht : TyIs P t ds sz bytes z] (hd : aggD ds = true) (hx : EvH H s x (.eptr y 0)) (hy : y = .agg ls) (hn : ls.length = sz) : PO P H ⟨some d, .load t x, ty, pos, af, g⟩ s (.t y) := by
  intro hH B0 w0 φ0 F0 F φ a w hs
  have hv := hx.vr hH hs
  generalize hq : a.eval x = q at hv
  cases hv with
  | @eptr _ _ B o us h =>
    subst hy
    have hg : ∀ (j : Nat) (u : Value), ((List.range sz).map us)[j]? = some u → j < sz ∧ u = us j := by
      intro j u hu
      have hj := (List.getElem?_eq_some_iff.1 hu).1
      simp at hj
      rw [List.getElem?_map, List.getElem?_range hj] at hu
      cases hu; exact ⟨hj, rfl⟩
    refine ⟨.agg ((List.range sz).map us).toArray, ?_, .t (.agg (by simp [hn]) (fun i p u hp hu => ?_))⟩
    · simp only [execOp, hq, Sem.run_bind]
      rw [loadAt_many ht hd (cs := (List.range sz).map us) (by simp) (fun j u hu => ?_)]
      · rfl
      · obtain ⟨hj, rfl⟩ := hg j u hu
        rw [Nat.add_zero]
        exact (hs.fok _ _ (h.hF j ls[j] (by simp [T.leaves, List.getElem?_eq_getElem (by omega : j < ls.length)]))).1
    · obtain ⟨hj, rfl⟩ := hg i u (by simpa using hu)
      exact h.hu i p hp
/-! ### addresses -/
theorem fieldAt_run {t ft : TypeId} {fs : Array Field} {sz bytes fsz fbytes : Nat} {z fz : Value} {fd : TypeDesc} (ht : TyIs P t (.struct fs) sz bytes z) {f : Nat} {fl : Field} (hf : fs[f]? = some fl) (hft : fl.type = ft) (hft' : TyIs P ft fd fsz fbytes fz) (h0 : fsz ≠ 0)
    {B o : Nat} (w : World) : (Instr.fieldAt t (.pointer (some ⟨B, o, none⟩)) f).run P w = .ok (.pointer (some ⟨B, o + fl.offset, none⟩)) w := by
  subst hft
  simp only [Instr.fieldAt, Sem.run_bind, ht.under, Result.andThen_ok, hf, Instr.sureAddr, Sem.run_pure, fieldPlace, hft'.sizeOf, if_neg h0, Addr.add_mid]
/-- A field's type, and where it lies. -/
def fldAt : List Field → Nat → Option (Nat × Nat)
  | ⟨_, t, o, _, _, _, _⟩ :: _, 0 => some (t, o)
  | _ :: l, k + 1 => fldAt l k
  | [], _ => none
theorem fldAt_get : ∀ {l : List Field} {f t o : Nat}, fldAt l f = some (t, o) → ∃ fl, l[f]? = some fl ∧ fl.type = t ∧ fl.offset = o
  | [], _, _, _, h => by cases h
  | x :: l, 0, t, o, h => by cases x; cases h; exact ⟨_, rfl, rfl, rfl⟩
  | x :: l, f + 1, t, o, h => by
    have : fldAt l f = some (t, o) := by cases x; exact h
    simpa using fldAt_get this
theorem fldAt_spec {fs : Array Field} {f t o : Nat} (h : fldAt fs.toList f = some (t, o)) : ∃ fl, fs[f]? = some fl ∧ fl.type = t ∧ fl.offset = o := by
  obtain ⟨fl, h1, h2⟩ := fldAt_get h
  exact ⟨fl, by simpa using h1, h2⟩
theorem PO.fld {t ft : TypeId} {x : Operand} {f : Nat} {fs : Array Field} {off : Nat} {sz bytes fsz fbytes : Nat} {z fz : Value} {fd : TypeDesc} {b o : Nat} [ht : TyIs P t (.struct fs) sz bytes z] (hx : EvH H s x (.ptr b o)) (hf : fldAt fs.toList f = some (ft, off)) (hft' : TyIs P ft fd fsz fbytes fz) (h0 : fsz ≠ 0) : PO P H ⟨some d, .fieldAddr t x f, ty, pos, af, g⟩ s (.ptr b (o + off)) := by
  obtain ⟨fl, hf2, hft, rfl⟩ := fldAt_spec hf
  intro hH B0 w0 φ0 F0 F φ a w hs
  have hv := hx.vr hH hs
  generalize hq : a.eval x = q at hv
  cases hv with
  | ptr hφ =>
    refine ⟨_, ?_, .ptr hφ⟩
    simp only [execOp, hq, Sem.run_bind]
    rw [fieldAt_run ht hf2 hft hft' h0]; rfl
theorem PO.fldE {t ft : TypeId} {x : Operand} {f : Nat} {fs : Array Field} {off : Nat} {sz bytes fsz fbytes : Nat} {z fz : Value} {fd : TypeDesc} {y : T} {o : Nat} [ht : TyIs P t (.struct fs) sz bytes z] (hx : EvH H s x (.eptr y o)) (hf : fldAt fs.toList f = some (ft, off)) (hft' : TyIs P ft fd fsz fbytes fz) (h0 : fsz ≠ 0) : PO P H ⟨some d, .fieldAddr t x f, ty, pos, af, g⟩ s (.eptr y (o + off)) := by
  obtain ⟨fl, hf2, hft, rfl⟩ := fldAt_spec hf
  intro hH B0 w0 φ0 F0 F φ a w hs
  have hv := hx.vr hH hs
  generalize hq : a.eval x = q at hv
  cases hv with
  | eptr us h =>
    refine ⟨_, ?_, .eptr us h⟩
    simp only [execOp, hq, Sem.run_bind]
    rw [fieldAt_run ht hf2 hft hft' h0, Nat.add_assoc]; rfl
theorem indexAt_run {t et : TypeId} {sz bytes esz ebytes : Nat} {z ez : Value} {ed : TypeDesc} (ht : TyIs P t (.slice et) sz bytes z) (he : TyIs P et ed esz ebytes ez) {B o len cap : Nat} {k : IntKind} {i : Int} (h0 : 0 ≤ i) (h1 : i < len) (w : World) :
    (Instr.indexAt t (.slice (some ⟨B, o, none⟩) len cap) (.int k i)).run P w = .ok (.pointer (some ⟨B, o + i.toNat * esz, none⟩)) w := by
  simp [Instr.indexAt, asIntOf, ht.under, he.sizeOf, h0, h1, Addr.add_mid]
/-- An element of a list that came in. -/
theorem PO.idx {t et : TypeId} {x y : Operand} {k : IntKind} {i : Int} {n : Bool} {xs : List T} {e : T} {sz bytes esz ebytes : Nat} {z ez : Value} {ed : TypeDesc} [ht : TyIs P t (.slice et) sz bytes z] [he : TyIs P et ed esz ebytes ez]
    (hx : EvH H s x (.t (.sl n xs))) (hy : EvH H s y (.t (.v (.int k i)))) (h0 : H → 0 ≤ i) (h1 : H → xs[i.toNat]? = some e) (hl : H → e.leaves.length = esz) : PO P H ⟨some d, .indexAddr t x y, ty, pos, af, g⟩ s (.eptr e 0) := by
  intro hH B0 w0 φ0 F0 F φ a w hs
  have hv := hx.vr hH hs
  have hi := (evv hH hs hy).1
  generalize hq : a.eval x = q at hv
  have h0 := h0 hH
  have h1 := h1 hH
  have hl := hl hH
  have hlt := (List.getElem?_eq_some_iff.1 h1).1
  cases hv with
  | t h =>
    cases h with
    | nil => simp at h1
    | sl0 => simp at h1
    | @sl _ B o e' c us hc he' hF hu =>
      obtain rfl : e' = esz := by rw [← hl]; exact (he' _ _ h1).symm
      have hr : RowAt F xs B o e' us := ⟨he', hF, hu⟩
      refine ⟨_, ?_, .eptr (off := 0) (us i.toNat) (hr.el h1)⟩
      simp only [execOp, hq, hi, Sem.run_bind]
      rw [indexAt_run ht he h0 (by omega)]; rfl
theorem PO.idxR {t et : TypeId} {x y : Operand} {k : IntKind} {i : Int} {b off len cap : Nat} {sz bytes esz ebytes : Nat} {z ez : Value} {ed : TypeDesc} [ht : TyIs P t (.slice et) sz bytes z] [he : TyIs P et ed esz ebytes ez]
    (hx : EvH H s x (.ref b esz off len cap)) (hy : EvH H s y (.t (.v (.int k i)))) (h0 : H → 0 ≤ i) (h1 : H → i < len) : PO P H ⟨some d, .indexAddr t x y, ty, pos, af, g⟩ s (.rptr b esz (off + i.toNat) 0) := by
  intro hH B0 w0 φ0 F0 F φ a w hs
  have hv := hx.vr hH hs
  have hi := (evv hH hs hy).1
  generalize hq : a.eval x = q at hv
  cases hv with
  | ref hb h2 h3 h4 =>
    refine ⟨_, ?_, .rptr hb⟩
    simp only [execOp, hq, hi, Sem.run_bind]
    rw [indexAt_run ht he (h0 hH) (h1 hH), Nat.add_mul]; rfl

/-! ### lengths -/
theorem run_len_slice' {t : TypeId} {ty e : TypeId} (h : P.underlying t = some (.slice e)) (base : Option Addr) (n c : Nat) (w : World) : (Builtin.len_ #[t] ty #[.slice base n c]).run P w = .ok (goInt n) w := by
  simp [Builtin.len_, run_underlying h]
theorem PO.len {t et : TypeId} {x : Operand} {n : Bool} {xs : List T} {sz bytes : Nat} {z : Value} [ht : TyIs P t (.slice et) sz bytes z] (hx : EvH H s x (.t (.sl n xs))) : PO P H ⟨some d, .call ⟨.builtin .len, #[x], #[t]⟩, ty, pos, af, g⟩ s (.t (.v (.int .i64 xs.length))) := by
  refine .blt (fun hH _ _ _ _ _ _ a w hs => ⟨.int .i64 xs.length, ?_, .t (.v rfl)⟩)
  have hv := hx.vr hH hs
  generalize hq : a.eval x = q at hv
  simp only [builtin, List.map_toArray, List.map_cons, List.map_nil, hq, Sem.run_bind]
  cases hv with
  | t h => cases h <;> (rw [run_len_slice' ht.und]; rfl)
theorem PO.lenR {t et : TypeId} {x : Operand} {b e off len cap : Nat} {sz bytes : Nat} {z : Value} [ht : TyIs P t (.slice et) sz bytes z] (hx : EvH H s x (.ref b e off len cap)) : PO P H ⟨some d, .call ⟨.builtin .len, #[x], #[t]⟩, ty, pos, af, g⟩ s (.t (.v (.int .i64 len))) := by
  refine .blt (fun hH _ _ _ _ _ _ a w hs => ⟨.int .i64 len, ?_, .t (.v rfl)⟩)
  have hv := hx.vr hH hs
  generalize hq : a.eval x = q at hv
  simp only [builtin, List.map_toArray, List.map_cons, List.map_nil, hq, Sem.run_bind]
  cases hv with
  | ref => rw [run_len_slice' ht.und]; rfl
end ops
end Go.Proofs.YtdiimgkopknbcaaGreatDoor.E

/- The engine's rules: stores, literals, append, slicing. -/
namespace Go.Proofs.YtdiimgkopknbcaaGreatDoor.E
set_option linter.unusedVariables false
set_option linter.unusedSimpArgs false
open Go Go.RowKit

variable {P : Program}

/-- A value of one cell. -/
def PV.flat : PV → Bool
  | .undef | .agg _ | .tup _ | .t (.agg _) | .cond _ _ _ => false
  | _ => true
theorem VR.one {F : FMem} {φ : Phi} {p : PV} {u : Value} (h : VR F φ p u) (hp : p.flat = true) : u.oneCell' = true := by
  cases h with
  | undef => cases hp
  | t h =>
    cases h with
    | v hs => cases u <;> simp_all [sc, Value.oneCell']
    | nil => rfl
    | sl0 => rfl
    | sl => rfl
    | agg => cases hp
  | agg => cases hp
  | tup => cases hp
  | cond => cases hp
  | _ => rfl
def allFlat : List PV → Bool
  | [] => true
  | p :: ps => PV.flat p && allFlat ps
theorem allFlat_get {ps : List PV} (h : allFlat ps = true) : ∀ (i : Nat) (p : PV), ps[i]? = some p → p.flat = true := by
  induction ps with
  | nil => intro i p hp; simp at hp
  | cons q qs ih =>
    simp only [allFlat, Bool.and_eq_true] at h
    intro i p hp
    cases i with
    | zero => simp at hp; subst hp; exact h.1
    | succ i => exact ih h.2 i p (by simpa using hp)

/-- What lies behind a write of 'vs' at 'o'. -/
theorem splice_get {α : Type} {l vs : List α} {o : Nat} (h : o + vs.length ≤ l.length) (i : Nat) :
    (l.take o ++ vs ++ l.drop (o + vs.length))[i]? = if i < o then l[i]? else if i < o + vs.length then vs[i - o]? else l[i]? := by
  have h1 : (l.take o).length = o := by simp; omega
  by_cases c1 : i < o
  · rw [if_pos c1, List.append_assoc, List.getElem?_append_left (by omega), List.getElem?_take_of_lt c1]
  · rw [if_neg c1]
    by_cases c2 : i < o + vs.length
    · rw [if_pos c2, List.append_assoc, List.getElem?_append_right (by omega), h1, List.getElem?_append_left (by omega)]
    · rw [if_neg c2, List.getElem?_append_right (by simp; omega), List.getElem?_drop]
      congr 1
      simp; omega
theorem splice_len {α : Type} {l vs : List α} {o : Nat} (h : o + vs.length ≤ l.length) : (l.take o ++ vs ++ l.drop (o + vs.length)).length = l.length := by
  simp; omega

section
variable {B0 : Fr} {w0 : World} {φ0 : Phi} {F0 : FMem} {s : St} {F : FMem} {φ : Phi} {a : Act} {w : World}
theorem run_storeVar_at {t : TypeId} {ds : TypeDesc} {sz bytes : Nat} {z : Value} (ht : TyIs P t ds sz bytes z) {B o : Nat} {cs : Array Value} {ty : TypeId} {v : Value} (hB : w.heap[B]? = some (.cells cs ty (0, 0))) (hn : v.cells.size = sz)
    (hr : o + sz ≤ cs.size) (h1 : ∀ u ∈ v.cells.toList, u.oneCell' = true) :
    (Instr.storeAt t (.pointer (some ⟨B, o, none⟩)) v).run P w = .ok () (w.setRow B (cs.toList.take o ++ v.cells.toList ++ cs.toList.drop (o + v.cells.toList.length)).toArray) := by
  have := run_storeCells_at (P := P) B o ty v.cells.toList 0 cs w hB (by simp; omega) h1
  simp only [Nat.add_zero] at this
  simp only [Instr.storeAt, Instr.sureAddr, Sem.run_bind, Sem.run_pure, Result.andThen_ok, storeVar, ht.sizeOf]
  rw [if_neg (by simp [hn])]
  exact this
/-- A store into a variable of our own. -/
theorem Sim.store (h : Sim B0 w0 φ0 F0 s F φ a w) {t : TypeId} {ds : TypeDesc} {sz bytes : Nat} {z : Value} (ht : TyIs P t ds sz bytes z) {bt : Option TypeId} {b o B sz' : Nat} {ls qs : List PV} {p : PV} {v : Value} (hφ : φ b = some (B, sz')) (hb : look b s.heap = some (.obj ls bt))
    (hv : VR F φ p v) (hp : p.known = true) (hq : p.leaves = qs) (hn : qs.length = sz) (hf : allFlat qs = true) (hr : o + sz ≤ ls.length) :
    ∃ w', (Instr.storeAt t (.pointer (some ⟨B, o, none⟩)) v).run P w = .ok () w' ∧ Sim B0 w0 φ0 F0 (s.upd b (.obj (ls.take o ++ qs ++ ls.drop (o + qs.length)) bt)) F φ a w' := by
  obtain ⟨h1, h2⟩ := hv.cells hp
  subst hq
  obtain ⟨B', cs, hl⟩ := h.heap b _ hb
  have := hl.at_; rw [hφ] at this; cases this
  obtain ⟨ty, hty⟩ := hl.cells rfl
  cases hl.reads with
  | obj hn' hr' hF =>
    have hcs : o + v.cells.toList.length ≤ cs.toList.length := by simp; omega
    refine ⟨_, run_storeVar_at ht hty (by omega) (by omega) ?_, h.upd hb hl ?_ (.obj ?_ ?_ hF) ?_⟩
    · intro u hu
      obtain ⟨j, hj⟩ := List.mem_iff_getElem?.1 hu
      have hjl := (List.getElem?_eq_some_iff.1 hj).1
      have hjp : j < p.leaves.length := by simp at hjl; omega
      obtain ⟨u', hu', hvr⟩ := h2 j _ (List.getElem?_eq_getElem hjp)
      rw [← Array.getElem?_toList, hj] at hu'; cases hu'
      exact hvr.one (allFlat_get hf j _ (List.getElem?_eq_getElem hjp))
    · have := splice_len hcs; simp only [List.size_toArray]; rw [this]; simp
    · have := splice_len hcs; have h3 := splice_len (l := ls) (vs := p.leaves) (o := o) (by omega)
      simp only [List.size_toArray]; rw [this, h3]; simpa using hn'
    · intro i q hi
      rw [splice_get (by omega)] at hi
      simp only [List.getElem?_toArray]
      rw [splice_get hcs]
      have e1 : v.cells.toList.length = p.leaves.length := by simp [h1]
      rw [e1]
      by_cases c1 : i < o
      · rw [if_pos c1] at hi ⊢
        obtain ⟨u, hu, hvr⟩ := hr' i q hi; exact ⟨u, by simpa using hu, hvr⟩
      · rw [if_neg c1] at hi ⊢
        by_cases c2 : i < o + p.leaves.length
        · rw [if_pos c2] at hi ⊢
          obtain ⟨u, hu, hvr⟩ := h2 _ q hi
          exact ⟨u, by simpa using hu, hvr⟩
        · rw [if_neg c2] at hi ⊢
          obtain ⟨u, hu, hvr⟩ := hr' i q hi; exact ⟨u, by simpa using hu, hvr⟩
    · intro x u e eb; exact absurd eb (hF x u e)
end

section ops
variable {d ty : Nat} {pos : String} {af : Array Edge} {g : Option (Nat × Bool)} {K : St → Prop} {s : St}

theorem TriO.store {bt : Option TypeId} {t : TypeId} {x y : Operand} {ds : TypeDesc} {sz bytes : Nat} {z : Value} {b o : Nat} {ls qs ls' : List PV} {p : PV} [ht : TyIs P t ds sz bytes z] (hx : s.ev x = .ptr b o) (hb : look b s.heap = some (.obj ls bt)) (hy : s.ev y = p)
    (hp : p.known = true) (hq : p.leaves = qs) (hn : qs.length = sz) (hf : allFlat qs = true) (hr : Nat.ble (o + sz) ls.length = true) (hl : ls.take o ++ qs ++ ls.drop (o + qs.length) = ls') (hK : K (s.upd b (.obj ls' bt))) : TriO P ⟨none, .store t x y, ty, pos, af, g⟩ K s := by
  refine .act rfl (fun B0 w0 φ0 F0 F φ a w hs => ?_)
  have hv := hx ▸ hs.ev x
  have hv2 := hy ▸ hs.ev y
  generalize he : a.eval x = q at hv
  cases hv with
  | ptr hφ =>
    obtain ⟨w', hr', hs'⟩ := hs.store ht hφ hb hv2 hp hq hn hf (by simpa [Nat.ble_eq] using hr)
    subst hl
    refine ⟨w', s.upd b _, F, φ, ?_, rfl, rfl, hs', hK⟩
    simp only [execOp, he, Sem.run_bind, hr', Result.andThen_ok]; rfl

/-! ### trees for elements -/
def PV.toT : PV → Option T
  | .t x => some x
  | .agg ps => (toTs ps).map .agg
  | .clip xs => some (.sl false xs)
  | _ => none
theorem PV.toT_tr {F : FMem} {φ : Phi} {p : PV} {x : T} {v : Value} (h : VR F φ p v) (e : p.toT = some x) : TR F x v := by
  cases h with
  | t h => cases e; exact h
  | agg hn h =>
    simp only [PV.toT, Option.map_eq_some_iff] at e
    obtain ⟨xs, hxs, rfl⟩ := e
    have := toTs_some hxs
    subst this
    refine .agg (by simpa using hn) (fun i y u hy hu => ?_)
    have := h i (.t y) u (by simp [hy]) hu
    cases this with | t ht => exact ht
  | clip us h => cases e; exact h.tr (Nat.le_refl _)
  | _ => cases e
def toTsAll : List PV → Option (List T)
  | [] => some []
  | p :: ps => match p.toT, toTsAll ps with
    | some x, some xs => some (x :: xs)
    | _, _ => none
theorem toTsAll_get : ∀ {ps : List PV} {xs : List T}, toTsAll ps = some xs → xs.length = ps.length ∧ ∀ (i : Nat) (p : PV), ps[i]? = some p → ∃ x, xs[i]? = some x ∧ p.toT = some x
  | [], xs, h => by cases h; exact ⟨rfl, fun i p hp => by simp at hp⟩
  | p :: ps, xs, h => by
    simp only [toTsAll] at h
    split at h
    · rename_i x ys h1 h2
      cases h
      obtain ⟨h3, h4⟩ := toTsAll_get h2
      refine ⟨by simp [h3], fun i q hq => ?_⟩
      cases i with
      | zero => simp at hq; subst hq; exact ⟨x, rfl, h1⟩
      | succ i => exact h4 i q (by simpa using hq)
    · cases h
def T.one : T → Bool
  | .agg _ => false
  | _ => true
def T.flatL (x : T) : Bool := x.leaves.all T.one
theorem TR.one {F : FMem} {x : T} {u : Value} (h : TR F x u) (hx : x.one = true) : u.oneCell' = true := by
  cases h with
  | v hs => cases u <;> first | rfl | (simp [sc] at hs)
  | nil => rfl
  | sl0 => rfl
  | sl => rfl
  | agg => cases hx

/-- Cells that are a list of trees. -/
structure CellsOf (F : FMem) (ys : List T) (e : Nat) (news : List Value) : Prop where
  len : news.length = ys.length * e
  he : ∀ (i : Nat) (y : T), ys[i]? = some y → y.leaves.length = e
  get : ∀ (i : Nat) (y : T) (j : Nat) (p : T), ys[i]? = some y → y.leaves[j]? = some p → ∃ u, news[i * e + j]? = some u ∧ TR F p u
  one : ∀ u ∈ news, u.oneCell' = true
theorem CellsOf.get1 {F : FMem} {ys : List T} {e : Nat} {news : List Value} (h : CellsOf F ys e news) {i : Nat} {y : T} {j : Nat} {p : T} (hy : ys[i]? = some y) (hp : y.leaves[j]? = some p) : ∃ u, news[i * e + j]? = some u ∧ TR F p u ∧ u.oneCell' = true := by
  obtain ⟨u, h1, h2⟩ := h.get i y j p hy hp
  exact ⟨u, h1, h2, h.one u (List.mem_of_getElem? h1)⟩
theorem CellsOf.append {F : FMem} {xs ys : List T} {e : Nat} {olds news : List Value} (h : CellsOf F xs e olds) (k : CellsOf F ys e news) : CellsOf F (xs ++ ys) e (olds ++ news) := by
  refine ⟨by simp [h.len, k.len, Nat.add_mul], fun i y hy => ?_, fun i y j p hy hp => ?_, fun u hu => ?_⟩
  · rw [List.getElem?_append] at hy
    split at hy
    · exact h.he _ _ hy
    · exact k.he _ _ hy
  · rw [List.getElem?_append] at hy
    split at hy
    · rename_i c
      obtain ⟨u, h1, h2⟩ := h.get i y j p hy hp
      refine ⟨u, ?_, h2⟩
      rw [List.getElem?_append_left (List.getElem?_eq_some_iff.1 h1).1]; exact h1
    · rename_i c
      obtain ⟨u, h1, h2⟩ := k.get _ y j p hy hp
      refine ⟨u, ?_, h2⟩
      have : i * e = (i - xs.length) * e + xs.length * e := by rw [← Nat.add_mul]; congr 1; omega
      rw [List.getElem?_append_right (by rw [h.len, this]; omega), h.len, this]
      rw [show (i - xs.length) * e + xs.length * e + j - xs.length * e = (i - xs.length) * e + j from by omega]
      exact h1
  · rcases List.mem_append.1 hu with hu | hu
    · exact h.one u hu
    · exact k.one u hu
theorem div_lt {j n e : Nat} (h : j < n * e) : j / e < n := Nat.div_lt_of_lt_mul (by rw [Nat.mul_comm]; exact h)
/-- What a row that came in yields. -/
theorem RowAt.cellsOf {F : FMem} {xs : List T} {B o e : Nat} {us : Nat → Nat → Value} (h : RowAt F xs B o e us) {w : World} (hF : FOK F w) :
    CellsOf F xs e ((List.range (xs.length * e)).map fun j => us (j / e) (j % e)) ∧ ∀ (j : Nat) (u : Value), ((List.range (xs.length * e)).map fun j => us (j / e) (j % e))[j]? = some u → w.cell? ⟨B, o + j, none⟩ = some u := by
  have hg : ∀ (j : Nat) (u : Value), ((List.range (xs.length * e)).map fun j => us (j / e) (j % e))[j]? = some u → j < xs.length * e ∧ u = us (j / e) (j % e) ∧ F ⟨B, o + j, none⟩ = some u := by
    intro j u hu
    have hj := (List.getElem?_eq_some_iff.1 hu).1
    simp at hj
    rw [List.getElem?_map, List.getElem?_range hj] at hu
    cases hu
    refine ⟨hj, rfl, ?_⟩
    have he : 0 < e := by
      rcases Nat.eq_zero_or_pos e with h0 | h0
      · simp [h0] at hj
      · exact h0
    have hi := div_lt hj
    have hx := List.getElem?_eq_getElem hi
    have hl := h.he _ _ hx
    have hm : j % e < (xs[j / e]).leaves.length := by rw [hl]; exact Nat.mod_lt _ he
    have := h.hF _ _ (j % e) _ hx (List.getElem?_eq_getElem hm)
    rw [Nat.add_assoc, Nat.mul_comm, Nat.div_add_mod] at this
    exact this
  refine ⟨⟨by simp, h.he, fun i y j p hy hp => ?_, fun u hu => ?_⟩, fun j u hu => ?_⟩
  · have hi := (List.getElem?_eq_some_iff.1 hy).1
    have hj := (List.getElem?_eq_some_iff.1 hp).1
    rw [h.he i y hy] at hj
    have hlt : i * e + j < xs.length * e := by
      have : (i + 1) * e ≤ xs.length * e := Nat.mul_le_mul_right e hi
      rw [Nat.add_mul] at this; omega
    refine ⟨us i j, ?_, h.hu i y j p hy hp⟩
    rw [List.getElem?_map, List.getElem?_range hlt]
    simp only [Option.map_some]
    have h1 : (i * e + j) / e = i := by
      rw [Nat.mul_comm, Nat.mul_add_div (by omega), Nat.div_eq_of_lt hj]; rfl
    have h2 : (i * e + j) % e = j := by
      rw [Nat.mul_comm, Nat.mul_add_mod, Nat.mod_eq_of_lt hj]
    rw [h1, h2]
  · obtain ⟨j, hj⟩ := List.mem_iff_getElem?.1 hu
    obtain ⟨_, _, hf⟩ := hg j u hj
    exact (hF _ _ hf).2
  · exact (hF _ _ (hg j u hu).2.2).1
theorem CellsOf.hb {F : FMem} {φ : Phi} {ys : List T} {e : Nat} {news : List Value} (h : CellsOf F ys e news) {B : Nat} {rest : List Value} {fz : Bool} (hF : ∀ a u, F a = some u → a.block = B → fz = true ∧ a.off < ys.length * e) : HB F φ B (news ++ rest).toArray (.row e ys fz) := by
  refine .row (by simp [h.len]) h.he (fun i y j p hy hp => ?_) hF
  obtain ⟨u, h1, h2, h3⟩ := h.get1 hy hp
  refine ⟨u, ?_, h2, h3⟩
  simp only [List.getElem?_toArray]
  rw [List.getElem?_append_left (List.getElem?_eq_some_iff.1 h1).1]; exact h1
/-- What a row of our own yields. -/
theorem HB.cellsOf {F : FMem} {φ : Phi} {B : Nat} {cs : Array Value} {e : Nat} {xs : List T} {fz : Bool} (h : HB F φ B cs (.row e xs fz)) (k n : Nat) (hk : k + n ≤ xs.length) (hone : ∀ (i : Nat), i < xs.length * e → ∃ u, cs[i]? = some u ∧ u.oneCell' = true) :
    CellsOf F ((xs.drop k).take n) e ((cs.toList.drop (k * e)).take (n * e)) := by
  cases h with
  | row hn he hr hF =>
    have key : ∀ i x, ((xs.drop k).take n)[i]? = some x → i < n ∧ xs[k + i]? = some x := by
      intro i x hx
      rw [List.getElem?_take] at hx
      split at hx
      · rw [List.getElem?_drop] at hx; exact ⟨by omega, hx⟩
      · cases hx
    have hke : (k + n) * e ≤ xs.length * e := Nat.mul_le_mul_right e hk
    rw [Nat.add_mul] at hke
    refine ⟨by simp [List.length_take, List.length_drop]; rw [Nat.min_eq_left (by omega), Nat.min_eq_left (by omega)], fun i x hx => he _ _ (key i x hx).2, fun i x j p hx hp => ?_, fun u hu => ?_⟩
    · obtain ⟨h1, h2⟩ := key i x hx
      obtain ⟨u, hu, ht, _⟩ := hr _ _ _ _ h2 hp
      refine ⟨u, ?_, ht⟩
      have hj := (List.getElem?_eq_some_iff.1 hp).1
      rw [he _ _ h2] at hj
      have : (i + 1) * e ≤ n * e := Nat.mul_le_mul_right e h1
      rw [Nat.add_mul] at this
      rw [List.getElem?_take_of_lt (by omega), List.getElem?_drop]
      rw [Nat.add_mul, Nat.add_assoc] at hu
      simpa using hu
    · obtain ⟨j, hj⟩ := List.mem_iff_getElem?.1 hu
      rw [List.getElem?_take] at hj
      split at hj
      · rename_i hlt
        rw [List.getElem?_drop] at hj
        obtain ⟨u', h1, h2⟩ := hone (k * e + j) (by omega)
        rw [← Array.getElem?_toList, hj] at h1; cases h1; exact h2
      · cases hj
theorem HB.ones {F : FMem} {φ : Phi} {B : Nat} {cs : Array Value} {e : Nat} {xs : List T} {fz : Bool} (h : HB F φ B cs (.row e xs fz)) (i : Nat) (hi : i < xs.length * e) : ∃ u, cs[i]? = some u ∧ u.oneCell' = true := by
  cases h with
  | row hn he hr hF =>
    have he0 : 0 < e := by
      rcases Nat.eq_zero_or_pos e with h0 | h0
      · simp [h0] at hi
      · exact h0
    have hd := div_lt hi
    have hx := List.getElem?_eq_getElem hd
    have hm : i % e < (xs[i / e]).leaves.length := by rw [he _ _ hx]; exact Nat.mod_lt _ he0
    obtain ⟨u, h1, _, h3⟩ := hr _ _ _ _ hx (List.getElem?_eq_getElem hm)
    rw [Nat.mul_comm, Nat.div_add_mod] at h1
    exact ⟨u, h1, h3⟩
end ops
end Go.Proofs.YtdiimgkopknbcaaGreatDoor.E

/- The engine's rules: append, literals of lists and structs, slicing, make. -/
namespace Go.Proofs.YtdiimgkopknbcaaGreatDoor.E
set_option linter.unusedVariables false
set_option linter.unusedSimpArgs false
open Go Go.RowKit

variable {P : Program}

theorem growBy_le (n : Nat) : ∀ (r c : Nat), 256 ≤ c → c < n → Builtin.growBy n r c ≤ 2 * n
  | 0, c, _, h => by simp [Builtin.growBy]; omega
  | r + 1, c, h0, h => by
    unfold Builtin.growBy
    rw [if_neg (by omega)]
    by_cases h1 : c + (c + 768) / 4 < n
    · exact growBy_le n r _ (by omega) h1
    · have h2 : c + (c + 768) / 4 ≤ 2 * n := by omega
      cases r with
      | zero => simpa [Builtin.growBy] using h2
      | succ r => unfold Builtin.growBy; rw [if_pos (by omega)]; exact h2
theorem nextcap_le {n c : Nat} (h : c < n) : Builtin.nextslicecap n c ≤ 2 * n := by
  unfold Builtin.nextslicecap
  split
  · omega
  · split
    · omega
    · exact growBy_le n 4 c (by omega) h
theorem zeroCells_size (z : Array Value) (n : Nat) : (Builtin.zeroCells z n).size = n * z.size := by simp [Builtin.zeroCells]

/-- What is appended. -/
def SrcE (P : Program) (s : St) (tx : TypeId) (y : Operand) (e : Nat) (ys : List T) : Prop :=
  ∀ B0 w0 φ0 F0 F φ a w, Sim B0 w0 φ0 F0 s F φ a w → ∃ news, Src P e tx (a.eval y) ys.length news w ∧ CellsOf F ys e news

section
variable {s : St} {tx et : TypeId} {y : Operand} {e sz bytes : Nat} {z : Value}
theorem SrcE.row {n : Bool} {ys : List T} [ht : TyIs P tx (.slice et) sz bytes z] (hy : s.ev y = .t (.sl n ys)) (he : ∀ (i : Nat) (x : T), ys[i]? = some x → x.leaves.length = e) : SrcE P s tx y e ys := by
  intro B0 w0 φ0 F0 F φ a w hs
  have hv := hy ▸ hs.ev y
  generalize hq : a.eval y = q at hv
  cases hv with
  | t h =>
    cases h with
    | nil => exact ⟨[], Src.ofNil w ht.und 0, ⟨by simp, fun i y h => by simp at h, fun i y j p h => by simp at h, fun _ h => by cases h⟩⟩
    | @sl0 a0 c => exact ⟨[], Src.ofSlice w ht.und a0 0 c [] (by simp) (fun j u h => by simp at h) (fun _ h => by cases h), ⟨by simp, fun i y h => by simp at h, fun i y j p h => by simp at h, fun _ h => by cases h⟩⟩
    | @sl _ B o e' c us hc he' hF hu =>
      have hr : RowAt F ys B o e' us := ⟨he', hF, hu⟩
      have : ys = [] ∨ e' = e := by
        cases ys with
        | nil => exact .inl rfl
        | cons x xs => exact .inr ((he' 0 x rfl).symm.trans (he 0 x rfl))
      rcases this with rfl | rfl
      · exact ⟨[], Src.ofSlice w ht.und ⟨B, o, none⟩ 0 c [] (by simp) (fun j u h => by simp at h) (fun _ h => by cases h), ⟨by simp, fun i y h => by simp at h, fun i y j p h => by simp at h, fun _ h => by cases h⟩⟩
      · obtain ⟨h1, h2⟩ := hr.cellsOf hs.fok
        exact ⟨_, Src.ofSlice w ht.und ⟨B, o, none⟩ ys.length c _ h1.len (fun j u h => by rw [Addr.add_mid]; exact h2 j u h) h1.one, h1⟩
theorem SrcE.ref {b off len cap : Nat} {xs ys : List T} {fz : Bool} [ht : TyIs P tx (.slice et) sz bytes z] (hy : s.ev y = .ref b e off len cap) (hb : look b s.heap = some (.row e xs fz)) (hl : off + len ≤ xs.length) (hys : (xs.drop off).take len = ys) : SrcE P s tx y e ys := by
  intro B0 w0 φ0 F0 F φ a w hs
  have hv := hy ▸ hs.ev y
  generalize hq : a.eval y = q at hv
  cases hv with
  | @ref _ _ _ _ _ B sz' c hφ h1 h2 h3 =>
    obtain ⟨B', cs, hlv⟩ := hs.heap b _ hb
    have := hlv.at_; rw [hφ] at this; cases this
    obtain ⟨t', ht'⟩ := hlv.cells rfl
    have hc := hlv.reads.cellsOf off len hl hlv.reads.ones
    rw [hys] at hc
    have hyl : ys.length = len := by subst hys; simp; omega
    refine ⟨_, ?_, hc⟩
    rw [hyl]
    refine Src.ofSlice w ht.und ⟨B, off * e, none⟩ len c _ (by rw [hc.len, hyl]) (fun j u h => ?_) hc.one
    rw [Addr.add_mid, cell_at ht']
    rw [List.getElem?_take] at h
    split at h
    · rw [List.getElem?_drop] at h; simpa using h
    · cases h
theorem SrcE.str {b : ByteArray} [ht : TyIs P tx .string sz bytes z] (hy : s.ev y = .t (.v (.string b))) : SrcE P s tx y 1 (b.data.toList.map fun c => .v (.int .u8 c.toNat)) := by
  intro B0 w0 φ0 F0 F φ a w hs
  have h1 := (evv0 hs hy).1
  refine ⟨byteCells b, ?_, ⟨by simp [byteCells], fun i x hx => ?_, fun i x j p hx hp => ?_, fun u hu => ?_⟩⟩
  · rw [h1]
    have := Src.ofString w ht.und b
    simpa using this
  · simp only [List.getElem?_map, Option.map_eq_some_iff] at hx
    obtain ⟨c, _, rfl⟩ := hx; rfl
  · simp only [List.getElem?_map, Option.map_eq_some_iff] at hx
    obtain ⟨c, hc, rfl⟩ := hx
    simp only [T.leaves] at hp
    cases j with
    | zero => simp at hp; subst hp; exact ⟨_, by simp [byteCells, hc], .v rfl⟩
    | succ j => simp at hp
  · obtain ⟨_, _, rfl⟩ := List.mem_map.1 hu; rfl
end

section ops
variable {d ty : Nat} {pos : String} {af : Array Edge} {g : Option (Nat × Bool)} {K : St → Prop} {s : St}

/-- A new row. -/
theorem Sim.row {B0 : Fr} {w0 : World} {φ0 : Phi} {F0 : FMem} {F : FMem} {φ : Phi} {a : Act} {w : World} (h : Sim B0 w0 φ0 F0 s F φ a w) {ys : List T} {e : Nat} {news rest : List Value} {t : TypeId} {fz : Bool} (hc : CellsOf F ys e news) :
    φ.le (φ.new s.n (w.heap.size, (news ++ rest).toArray.size)) ∧ Sim B0 w0 φ0 F0 (s.alloc (.row e ys fz)) F (φ.new s.n (w.heap.size, (news ++ rest).toArray.size)) a (w.alloc (.cells (news ++ rest).toArray t)) :=
  h.alloc (hc.hb fun _ _ e1 e2 => absurd e2 (Nat.ne_of_lt (h.fok.lt e1)))

/-- append of nothing to nil. -/
theorem PO.appNil0 {t tx et : TypeId} {x y : Operand} {sz bytes e ebytes : Nat} {z ez : Value} {ed : TypeDesc} [ht : TyIs P t (.slice et) sz bytes z] [he : TyIs P et ed e ebytes ez]
    (hx : s.ev x = .t (.sl true [])) (hsrc : SrcE P s tx y e []) : PO P True ⟨some d, .call ⟨.builtin .append, #[x, y], #[t, tx]⟩, ty, pos, af, g⟩ s (.t (.sl true [])) := by
  intro _ B0 w0 φ0 F0 F φ a w hs
  obtain ⟨news, h1, h2⟩ := hsrc B0 w0 φ0 F0 F φ a w hs
  obtain ⟨i, i1, i2, i3, i4⟩ := he.inf
  have hv := hx ▸ hs.ev x
  generalize hq : a.eval x = q at hv
  cases hv with
  | t h =>
    cases h with
    | nil =>
      refine ⟨.slice none 0 0, ?_, .t .nil⟩
      simp only [execOp, resolve, invoke, builtin, List.map_toArray, List.map_cons, List.map_nil, hq, Sem.run_bind, Sem.run_pure, Result.andThen_ok]
      have h3 := h1.len w
      have h4 : (Builtin.firstCells e 0 (a.eval y)).run P w = .ok news.toArray w := h1.cells
      have h5 : (Builtin.lenOf (a.eval y)).run P w = .ok 0 w := h3
      rcases h1.kind with ⟨e', hk⟩ | hk <;> simp [Builtin.append_, ht.under, run_underlying hk, he.sizeOf, h5, h4]
end ops
end Go.Proofs.YtdiimgkopknbcaaGreatDoor.E

/- The engine's rules: literals, slicing, parts of values. -/
namespace Go.Proofs.YtdiimgkopknbcaaGreatDoor.E
set_option linter.unusedVariables false
set_option linter.unusedSimpArgs false
open Go Go.RowKit

variable {P : Program}

/-! ### a list's literal -/
/-- The parts of a literal, in order. -/
theorem fill_seq (e : Nat) : ∀ (vs : List Value) (k : Nat) (cells : Array Value), (∀ v ∈ vs, v.cells.size = e) → (k + vs.length) * e ≤ cells.size →
    ∃ out, Instr.fill (fun i => some (i * e, e)) cells ((List.range' k vs.length).zip vs) = some out ∧ out.size = cells.size ∧
      out.toList = cells.toList.take (k * e) ++ vs.flatMap (fun v => v.cells.toList) ++ cells.toList.drop ((k + vs.length) * e)
  | [], k, cells, _, _ => ⟨cells, rfl, rfl, by simp⟩
  | v :: vs, k, cells, h1, h2 => by
    have hv := h1 v (by simp)
    have hk : k * e + e ≤ cells.size := by
      have : (k + 1) * e ≤ (k + (v :: vs).length) * e := Nat.mul_le_mul_right e (by simp only [List.length_cons]; omega)
      rw [Nat.add_mul] at this; omega
    have key : ∀ (l : List Value) (o : Nat) (cs : Array Value), k * e + o + l.length ≤ cs.size →
        ((l.zipIdx o).foldl (fun cs (x : Value × Nat) => cs.setIfInBounds (k * e + x.2) x.1) cs).toList = cs.toList.take (k * e + o) ++ l ++ cs.toList.drop (k * e + o + l.length) := by
      intro l
      induction l with
      | nil => intro o cs _; simp
      | cons x l ih =>
        intro o cs hle
        simp only [List.zipIdx_cons, List.foldl_cons]
        have hle' : k * e + (o + 1) + l.length ≤ cs.size := by simp only [List.length_cons] at hle; omega
        rw [ih (o + 1) _ (by simpa using hle')]
        have h := list_seg_step cs.toList (k * e + o) x l (by simp only [Array.length_toList]; omega)
        simp only [Array.toList_setIfInBounds]
        rw [show k * e + (o + 1) = k * e + o + 1 from by omega]
        simpa using h
    have hcell : (v.cells.zipIdx.foldl (fun cs (x : Value × Nat) => cs.setIfInBounds (k * e + x.2) x.1) cells).toList = cells.toList.take (k * e) ++ v.cells.toList ++ cells.toList.drop (k * e + e) := by
      have := key v.cells.toList 0 cells (by simp; omega)
      rw [← Array.foldl_toList, Array.toList_zipIdx]
      simpa [hv] using this
    generalize hc' : v.cells.zipIdx.foldl (fun cs (x : Value × Nat) => cs.setIfInBounds (k * e + x.2) x.1) cells = cells' at hcell
    have hlen : cells'.size = cells.size := by
      have := congrArg List.length hcell
      simp at this; omega
    have h2' : (k + 1 + vs.length) * e ≤ cells'.size := by
      rw [hlen]; have : k + 1 + vs.length = k + (v :: vs).length := by simp; omega
      rw [this]; exact h2
    obtain ⟨out, o1, o2, o3⟩ := fill_seq e vs (k + 1) cells' (fun u hu => h1 u (by simp [hu])) h2'
    refine ⟨out, ?_, o2.trans hlen, ?_⟩
    · simp only [List.length_cons, List.range'_succ, List.zip_cons_cons, Instr.fill]
      rw [if_neg (by simp [hv]; omega)]
      rw [hc']; exact o1
    · rw [o3, hcell]
      have e1 : (cells.toList.take (k * e) ++ v.cells.toList ++ cells.toList.drop (k * e + e)).take ((k + 1) * e) = cells.toList.take (k * e) ++ v.cells.toList := by
        rw [List.take_append_of_le_length (by simp [hv, Nat.add_mul]; omega)]
        rw [List.take_of_length_le (by simp [hv, Nat.add_mul]; omega)]
      have e2 : (cells.toList.take (k * e) ++ v.cells.toList ++ cells.toList.drop (k * e + e)).drop ((k + 1 + vs.length) * e) = cells.toList.drop ((k + (v :: vs).length) * e) := by
        have hl : (cells.toList.take (k * e) ++ v.cells.toList).length = k * e + e := by simp [hv]; omega
        rw [List.drop_append, List.drop_eq_nil_of_le (by rw [hl, Nat.add_mul, Nat.add_mul]; omega), List.nil_append, hl, List.drop_drop]
        congr 1
        simp only [List.length_cons, Nat.add_mul]; omega
      rw [e1, e2]
      simp
/-- The operands of parts that are numbered one by one. -/
def inRow : Nat → List (Nat × Operand) → Bool
  | _, [] => true
  | k, (i, _) :: l => i == k && inRow (k + 1) l
theorem inRow_zip : ∀ (k : Nat) (l : List (Nat × Operand)), inRow k l = true → ∀ f : Operand → Value, l.map (fun x => (x.1, f x.2)) = (List.range' k l.length).zip (l.map fun x => f x.2)
  | _, [], _, _ => rfl
  | k, (i, x) :: l, h, f => by
    simp only [inRow, Bool.and_eq_true, beq_iff_eq] at h
    simp only [List.map_cons, List.length_cons, List.range'_succ, List.zip_cons_cons]
    rw [h.1, inRow_zip (k + 1) l h.2 f]
theorem flatMap_cells {F : FMem} {e : Nat} : ∀ {vs : List Value} {ys : List T}, ys.length = vs.length → (∀ (i : Nat) (v : Value) (y : T), vs[i]? = some v → ys[i]? = some y → TR F y v ∧ y.leaves.length = e ∧ y.flatL = true) →
    CellsOf F ys e (vs.flatMap fun v => v.cells.toList)
  | [], [], _, _ => ⟨by simp, fun i y h => by simp at h, fun i y j p h => by simp at h, fun _ h => by cases h⟩
  | v :: vs, y :: ys, hl, h => by
    obtain ⟨h1, h2, h3⟩ := h 0 v y rfl rfl
    obtain ⟨c1, c2⟩ := h1.cells
    have one : CellsOf F [y] e v.cells.toList := by
      refine ⟨by simp [← c1, h2], fun i x hx => ?_, fun i x j p hx hp => ?_, fun u hu => ?_⟩
      · cases i with
        | zero => simp at hx; subst hx; exact h2
        | succ i => simp at hx
      · cases i with
        | zero => simp at hx; subst hx; obtain ⟨u, hu, ht⟩ := c2 j p hp; exact ⟨u, by simpa using hu, ht⟩
        | succ i => simp at hx
      · obtain ⟨j, hj⟩ := List.mem_iff_getElem?.1 hu
        have hjl := (List.getElem?_eq_some_iff.1 hj).1
        have hjp : j < y.leaves.length := by simp at hjl; omega
        obtain ⟨u', hu', ht⟩ := c2 j _ (List.getElem?_eq_getElem hjp)
        rw [← Array.getElem?_toList, hj] at hu'; cases hu'
        refine ht.one ?_
        have := (List.all_eq_true.1 h3) _ (List.getElem_mem hjp)
        exact this
    exact one.append (flatMap_cells (by simpa using hl) (fun i u z hu hz => h (i + 1) u z (by simpa using hu) (by simpa using hz)))
  | [], _ :: _, hl, _ => by simp at hl
  | _ :: _, [], hl, _ => by simp at hl

section ops
variable {d ty : Nat} {pos : String} {af : Array Edge} {g : Option (Nat × Bool)} {K : St → Prop} {s : St} {H : Prop}

def flatAll (e : Nat) (ys : List T) : Bool := ys.all fun y => (y.leaves.length == e) && y.flatL
/-- '[]E{x, y, ..}': what it does. -/
theorem lit_run {t et : TypeId} {n : Nat} {parts : List (Nat × Operand)} {ps : List PV} {ys : List T} {sz bytes e ebytes : Nat} {z ez : Value} {ed : TypeDesc} [ht : TyIs P t (.slice et) sz bytes z] [he : TyIs P et ed e ebytes ez]
    (hp : parts.map (fun x => s.ev x.2) = ps) (hy : toTsAll ps = some ys) (hi : inRow 0 parts = true) (hn : parts.length = n) (hf : flatAll e ys = true) (hb : n * e ≤ 16777216) (he0 : 0 < e)
    {B0 : Fr} {w0 : World} {φ0 : Phi} {F0 : FMem} {F : FMem} {φ : Phi} {a : Act} {w : World} (hs : Sim B0 w0 φ0 F0 s F φ a w) :
    ∃ out : Array Value, ys.length = n ∧ CellsOf F ys e out.toList ∧ (execOp a.eval ⟨some d, .buildSlice t n parts.toArray, ty, pos, af, g⟩).run P w = .ok (.value (.slice (some ⟨w.heap.size, 0, none⟩) n n)) (w.alloc (.cells out.toList.toArray et)) := by
  subst hn
  obtain ⟨l1, l2⟩ := toTsAll_get hy
  have hpl : ps.length = parts.length := by rw [← hp]; simp
  have hc : CellsOf F ys e ((parts.map fun x => a.eval x.2).flatMap fun v => v.cells.toList) := by
    refine flatMap_cells (by simp [l1, hpl]) (fun i v y hv hy' => ?_)
    simp only [List.getElem?_map, Option.map_eq_some_iff] at hv
    obtain ⟨x, hx, rfl⟩ := hv
    have hpi : ps[i]? = some (s.ev x.2) := by rw [← hp]; simp [hx]
    obtain ⟨y', h3, h4⟩ := l2 i _ hpi
    rw [h3] at hy'; cases hy'
    have hfa := (List.all_eq_true.1 hf) y (List.mem_of_getElem? h3)
    simp only [Bool.and_eq_true, beq_iff_eq] at hfa
    exact ⟨PV.toT_tr (hs.ev x.2) h4, hfa.1, hfa.2⟩
  have hsize : ∀ v ∈ (parts.map fun x => a.eval x.2), v.cells.size = e := by
    intro v hv
    obtain ⟨i, hi'⟩ := List.mem_iff_getElem?.1 hv
    simp only [List.getElem?_map, Option.map_eq_some_iff] at hi'
    obtain ⟨x, hx, rfl⟩ := hi'
    have hpi : ps[i]? = some (s.ev x.2) := by rw [← hp]; simp [hx]
    obtain ⟨y, h3, h4⟩ := l2 i _ hpi
    have hfa := (List.all_eq_true.1 hf) y (List.mem_of_getElem? h3)
    simp only [Bool.and_eq_true, beq_iff_eq] at hfa
    rw [← (PV.toT_tr (hs.ev x.2) h4).cells.1]; exact hfa.1
  obtain ⟨out, o1, o2, o3⟩ := fill_seq e (parts.map fun x => a.eval x.2) 0 ((Array.range (parts.length * e)).map (ez.cells[· % ez.cells.size]!)) hsize (by simp)
  have hout : out.toList = (parts.map fun x => a.eval x.2).flatMap fun v => v.cells.toList := by
    rw [o3]; simp
  rw [← hout] at hc
  have hfill : Instr.fill (fun i => some (i * e, e)) ((Array.range (parts.length * e)).map (ez.cells[· % ez.cells.size]!)) (parts.map fun x => (x.1, a.eval x.2)) = some out := by
    rw [inRow_zip 0 parts hi]; simpa using o1
  have hyl : ys.length = parts.length := by rw [l1, hpl]
  refine ⟨out, hyl, hc, ?_⟩
  simp only [execOp, Instr.buildSlice, Sem.run_bind, ht.under, he.sizeOf, Result.andThen_ok]
  rw [if_neg (by omega)]
  by_cases h0 : parts.length * e = 0
  · simp only [h0, if_true, Sem.run_bind, Sem.run_pure, Result.andThen_ok]
    rw [show (parts.toArray.map fun (x : Nat × Operand) => (x.1, a.eval x.2)).toList = parts.map fun x => (x.1, a.eval x.2) from by simp]
    have hnil : parts = [] := by
      rcases Nat.mul_eq_zero.1 h0 with h | h
      · exact List.length_eq_zero_iff.1 h
      · omega
    subst hnil
    have : out.toList = [] := by rw [hout]; rfl
    rw [this]
    simp only [List.length_nil, List.map_nil, Instr.fill, newRow, newObj, Sem.run_bind, Sem.run, Result.andThen_ok, Sem.run_pure, Array.range_zero', List.map_toArray, Array.map_empty]
    rfl
  · simp only [h0, if_false, Sem.run_bind, he.zero, Sem.run_pure, Result.andThen_ok]
    rw [show (parts.toArray.map fun (x : Nat × Operand) => (x.1, a.eval x.2)).toList = parts.map fun x => (x.1, a.eval x.2) from by simp]
    rw [hfill]
    simp only [newRow, newObj, Sem.run_bind, Sem.run, Result.andThen_ok, Sem.run_pure, Array.toArray_toList]
    rfl
/-- '[]E{x, y, ..}'. -/
theorem TriO.lit {t et : TypeId} {n : Nat} {parts : List (Nat × Operand)} {ps : List PV} {ys : List T} {sz bytes e ebytes : Nat} {z ez : Value} {ed : TypeDesc} [ht : TyIs P t (.slice et) sz bytes z] [he : TyIs P et ed e ebytes ez]
    (hp : parts.map (fun x => s.ev x.2) = ps) (hy : toTsAll ps = some ys) (hi : inRow 0 parts = true) (hn : parts.length = n) (hf : flatAll e ys = true) (hb : n * e ≤ 16777216) (he0 : 0 < e) (hN : Nat.blt d s.N = true)
    (hK : K ((s.alloc (.row e ys false)).put d (.ref s.n e 0 n n))) : TriO P ⟨some d, .buildSlice t n parts.toArray, ty, pos, af, g⟩ K s := by
  refine .gen rfl hN (fun B0 w0 φ0 F0 F φ a w hs => ?_)
  obtain ⟨out, hl, hc, hr⟩ := lit_run (P := P) (ty := ty) (d := d) (pos := pos) (af := af) (g := g) (t := t) hp hy hi hn hf hb he0 hs
  obtain ⟨hle, hs'⟩ := hs.row (rest := []) (t := et) (fz := false) hc
  rw [List.append_nil] at hs' hle
  refine ⟨_, _, s.alloc (.row e ys false), F, _, .ref s.n e 0 n n, hr, rfl, rfl, hs', ?_, hK⟩
  have hcl := hc.len
  rw [hl] at hcl
  have := VR.ref (F := F) (φ := φ.new s.n (w.heap.size, out.toList.toArray.size)) (b := s.n) (e := e) (off := 0) (len := n) (cap := n) (B := w.heap.size) (sz := out.toList.toArray.size) (c := n)
    (if_pos rfl) (Nat.le_refl _) (Nat.le_refl _) (by simp at hcl ⊢; omega)
  simpa using this

/-! ### parts of values -/
theorem PO.ext {x : Operand} {ps : List PV} {i : Nat} {p : PV} (hx : EvH H s x (.tup ps)) (hp : ps[i]? = some p) : PO P H ⟨some d, .extract x i, ty, pos, af, g⟩ s p := by
  intro hH B0 w0 φ0 F0 F φ a w hs
  have hv := hx.vr hH hs
  generalize hq : a.eval x = q at hv
  cases hv with
  | @tup _ vs hn h =>
    have hi : i < vs.size := by rw [← hn]; exact (List.getElem?_eq_some_iff.1 hp).1
    refine ⟨vs[i], ?_, h i p _ hp (Array.getElem?_eq_getElem hi)⟩
    simp only [execOp, hq, Instr.extract, Array.getElem?_eq_getElem hi, Sem.run_bind, Sem.run_pure, Result.andThen_ok]
theorem PO.nilchk {x : Operand} {b o : Nat} (hx : EvH H s x (.ptr b o)) : PO P H ⟨some d, .nilCheck x, ty, pos, af, g⟩ s (.ptr b o) := by
  intro hH B0 w0 φ0 F0 F φ a w hs
  have hv := hx.vr hH hs
  generalize hq : a.eval x = q at hv
  cases hv with
  | ptr hφ =>
    refine ⟨_, ?_, .ptr hφ⟩
    simp only [execOp, hq]; rfl
def PV.isAgg : PV → Bool
  | .agg _ | .t (.agg _) => true
  | _ => false
/-- A field of a struct's value (of one cell). -/
theorem PO.field {t ft : TypeId} {x : Operand} {f : Nat} {fs : Array Field} {off : Nat} {sz bytes fsz fbytes : Nat} {z fz : Value} {fd : TypeDesc} {p q : PV} [ht : TyIs P t (.struct fs) sz bytes z] (hx : EvH H s x p) (hp : p.known = true) (ha : fldAt fs.toList f = some (ft, off))
    (hft' : TyIs P ft fd fsz fbytes fz) (hd : aggD fd = false) (hagg : p.isAgg = true) (hq : p.leaves[off]? = some q) :
    PO P H ⟨some d, .field t x f, ty, pos, af, g⟩ s q := by
  obtain ⟨fl, ha2, hft, rfl⟩ := fldAt_spec ha
  intro hH B0 w0 φ0 F0 F φ a w hs
  have hv := hx.vr hH hs
  obtain ⟨h1, h2⟩ := hv.cells hp
  obtain ⟨u, hu, hr⟩ := h2 _ _ hq
  generalize he : a.eval x = v at hv hu
  have hv' : ∃ cs, v = .agg cs := by
    cases hv with
    | agg => exact ⟨_, rfl⟩
    | t h => cases h with
      | agg => exact ⟨_, rfl⟩
      | _ => cases hagg
    | _ => cases hagg
  obtain ⟨cs, rfl⟩ := hv'
  subst hft
  refine ⟨u, ?_, hr⟩
  simp only [Value.cells] at hu
  simp only [execOp, he, Instr.field, Sem.run_bind, ht.under, Result.andThen_ok, ha2, asAgg, Sem.run_pure, part, isAgg_run hft', hd, Bool.false_eq_true, if_false, hu]

/-! ### slicing -/
theorem sub_row {F : FMem} {n : Bool} {xs : List T} {v : Value} (h : TR F (.sl n xs) v) : ∃ base c, v = .slice base xs.length c ∧ xs.length ≤ c ∧ (base = none → n = true ∧ xs = [] ∧ c = 0) ∧
    ∀ (size l k m : Nat), l ≤ k → k ≤ xs.length → k ≤ m → m ≤ c → (∀ (i : Nat) (x : T), xs[i]? = some x → x.leaves.length = size) →
      ∃ n', TR F (.sl n' ((xs.drop l).take (k - l))) (.slice (if m = l then base else base.map (·.add (l * size))) (k - l) (m - l)) ∧ n' = n := by
  cases h with
  | nil => exact ⟨none, 0, rfl, Nat.le_refl _, fun _ => ⟨rfl, rfl, rfl⟩, fun size l k m h1 h2 h3 h4 he => ⟨true, by
      obtain rfl : k = 0 := by simpa using h2
      obtain rfl : l = 0 := by omega
      obtain rfl : m = 0 := by omega
      simpa using TR.nil, rfl⟩⟩
  | @sl0 a0 c =>
    refine ⟨some a0, c, rfl, Nat.zero_le _, (fun h => by cases h), fun size l k m h1 h2 h3 h4 he => ⟨false, ?_, rfl⟩⟩
    obtain rfl : k = 0 := by simpa using h2
    obtain rfl : l = 0 := by omega
    split <;> exact .sl0
  | @sl _ B o e c us hc he' hF hu =>
    have hr : RowAt F xs B o e us := ⟨he', hF, hu⟩
    refine ⟨some ⟨B, o, none⟩, c, rfl, hc, (fun h => by cases h), fun size l k m h1 h2 h3 h4 he => ⟨false, ?_, rfl⟩⟩
    have hlen : ((xs.drop l).take (k - l)).length = k - l := by simp; omega
    by_cases hxs : xs = []
    · subst hxs
      have hk : k = 0 := by simpa using h2
      subst hk
      have hl : l = 0 := by omega
      subst hl
      split
      · exact RowAt.tr (xs := []) (us := us) (e := e) ⟨fun i x h => by simp at h, fun i x j p h => by simp at h, fun i x j p h => by simp at h⟩ (by simp)
      · simp only [Option.map_some, Addr.add_mid]
        exact RowAt.tr (xs := []) (us := us) (e := e) ⟨fun i x h => by simp at h, fun i x j p h => by simp at h, fun i x j p h => by simp at h⟩ (by simp)
    · have hse : size = e := by
        obtain ⟨x, hx⟩ : ∃ x, xs[0]? = some x := by
          cases xs with
          | nil => exact absurd rfl hxs
          | cons x t => exact ⟨x, rfl⟩
        rw [← he 0 x hx, he' 0 x hx]
      subst hse
      split
      · rename_i hm
        have : k - l = 0 := by omega
        rw [this, List.take_zero]
        exact RowAt.tr (xs := []) (us := us) (e := size) ⟨fun i x h => by simp at h, fun i x j p h => by simp at h, fun i x j p h => by simp at h⟩ (by simp)
      · simp only [Option.map_some, Addr.add_mid]
        have := (hr.part l (k - l)).tr (c := m - l) (by rw [hlen]; omega)
        rwa [hlen] at this
/-- The bounds of a cut. -/
structure Cut (H : Prop) (s : St) (len : Nat) (low high : Option Operand) (l k : Nat) : Prop where
  low : match low with | none => l = 0 | some x => ∃ q i, EvH H s x (.t (.v (.int q i))) ∧ 0 ≤ i ∧ l = i.toNat
  high : match high with | none => k = len | some x => ∃ q i, EvH H s x (.t (.v (.int q i))) ∧ 0 ≤ i ∧ k = i.toNat
theorem cut_run (hH : H) {B0 : Fr} {w0 : World} {φ0 : Phi} {F0 : FMem} {F : FMem} {φ : Phi} {a : Act} {w : World} (hs : Sim B0 w0 φ0 F0 s F φ a w) {len cap : Nat} {low high : Option Operand} {l k : Nat} (hc : Cut H s len low high l k) (h1 : l ≤ k) (h2 : k ≤ cap) (isS : Bool) :
    (Instr.sliceBounds isS len cap (low.map a.eval) (high.map a.eval) none).run P w = .ok (l, k, cap) w := by
  have hsb : ∀ (x : Operand) (n m : Nat) (code : BoundsCode), (∃ q i, EvH H s x (.t (.v (.int q i))) ∧ 0 ≤ i ∧ n = i.toNat) → n ≤ m → (Instr.sliceBound (a.eval x) m code).run P w = .ok n w := by
    rintro x n m code ⟨q, i, hx, h0, rfl⟩ hm
    have := (evv hH hs hx).1
    simp only [Instr.sliceBound, this, asIntOf, Sem.run_bind, Sem.run_pure, Result.andThen_ok]
    rw [if_pos ⟨h0, by omega⟩]; rfl
  cases high with
  | none =>
    have hk := hc.high; simp only at hk; subst hk
    cases low with
    | none => have hl := hc.low; simp only at hl; subst hl; simp [Instr.sliceBounds]
    | some x => simp [Instr.sliceBounds, hsb x l k _ hc.low h1]
  | some y =>
    cases low with
    | none => have hl := hc.low; simp only at hl; subst hl; simp [Instr.sliceBounds, hsb y k cap _ hc.high h2]
    | some x => simp [Instr.sliceBounds, hsb y k cap _ hc.high h2, hsb x l k _ hc.low h1]
/-- 'xs[l:k]' of a list that came in. -/
theorem PX.cut {t et : TypeId} {x : Operand} {low high : Option Operand} {n : Bool} {xs : List T} {l k : Nat} {sz bytes e ebytes : Nat} {z ez : Value} {ed : TypeDesc} [ht : TyIs P t (.slice et) sz bytes z] [he : TyIs P et ed e ebytes ez]
    (hx : EvH H s x (.t (.sl n xs))) (hc : Cut H s xs.length low high l k) (h1 : l ≤ k) (h2 : k ≤ xs.length) (hel : ∀ (i : Nat) (x : T), xs[i]? = some x → x.leaves.length = e) : PO P H ⟨some d, .slice t x low high none, ty, pos, af, g⟩ s (.t (.sl n ((xs.drop l).take (k - l)))) := by
  intro hH B0 w0 φ0 F0 F φ a w hs
  have hv := hx.vr hH hs
  generalize hq : a.eval x = q at hv
  cases hv with
  | t h =>
    obtain ⟨base, c, rfl, hcap, hnone, hsub⟩ := sub_row h
    obtain ⟨n', htr, rfl⟩ := hsub e l k c h1 h2 (by omega) (Nat.le_refl _) hel
    refine ⟨_, ?_, .t htr⟩
    simp only [execOp, hq, Instr.sliceAt, Instr.slice, Sem.run_bind, ht.under, Result.andThen_ok, Option.map_none]
    rw [cut_run hH hs hc h1 (by omega)]
    simp only [Result.andThen_ok, he.sizeOf]; rfl
/-- 's[l:k]' of a string. -/
theorem PX.cutS {t : TypeId} {x : Operand} {low high : Option Operand} {b : ByteArray} {l k : Nat} {sz bytes : Nat} {z : Value} [ht : TyIs P t .string sz bytes z]
    (hx : EvH H s x (.t (.v (.string b)))) (hc : Cut H s b.size low high l k) (h1 : l ≤ k) (h2 : k ≤ b.size) : PO P H ⟨some d, .slice t x low high none, ty, pos, af, g⟩ s (.t (.v (.string (b.extract l k)))) := by
  intro hH B0 w0 φ0 F0 F φ a w hs
  have hq := (evv hH hs hx).1
  refine ⟨_, ?_, .t (.v rfl)⟩
  simp only [execOp, hq, Instr.sliceAt, Instr.slice, Sem.run_bind, ht.under, Result.andThen_ok, Option.map_none, Option.isSome_none, Bool.false_eq_true, if_false, Sem.run_pure]
  rw [cut_run hH hs hc h1 h2]
  simp only [Result.andThen_ok, Sem.run_pure]
/-- 'xs[l:k]' of a row of our own. -/
theorem PX.cutR {t et : TypeId} {x : Operand} {low high : Option Operand} {b off len cap l k : Nat} {sz bytes e ebytes : Nat} {z ez : Value} {ed : TypeDesc} [ht : TyIs P t (.slice et) sz bytes z] [he : TyIs P et ed e ebytes ez]
    (hx : EvH H s x (.ref b e off len cap)) (hc : Cut H s len low high l k) (h1 : l ≤ k) (h2 : k ≤ cap) (h3 : l < cap) : PO P H ⟨some d, .slice t x low high none, ty, pos, af, g⟩ s (.ref b e (off + l) (k - l) (cap - l)) := by
  intro hH B0 w0 φ0 F0 F φ a w hs
  have hv := hx.vr hH hs
  generalize hq : a.eval x = q at hv
  cases hv with
  | @ref _ _ _ _ _ B sz' c hφ k1 k2 k3 =>
    refine ⟨.slice (some ⟨B, (off + l) * e, none⟩) (k - l) (c - l), ?_, .ref hφ (by omega) (by omega) ?_⟩
    · simp only [execOp, hq, Instr.sliceAt, Instr.slice, Sem.run_bind, ht.under, Result.andThen_ok, Option.map_none]
      rw [cut_run hH hs hc h1 (by omega)]
      simp only [Result.andThen_ok, he.sizeOf, Sem.run_pure, Sem.run_bind]
      rw [if_neg (by omega)]
      simp only [Option.map_some, Addr.add_mid, Nat.add_mul]
    · have : (off + l) * e + (c - l) * e = off * e + c * e := by rw [← Nat.add_mul, ← Nat.add_mul]; congr 1; omega
      omega
/-! the shapes -/
/-! ### max, min; floats; shifts -/
theorem PO.max {k : IntKind} {t t' : TypeId} {x y : Operand} {m n : Int} (hx : EvH H s x (.t (.v (.int k m)))) (hy : EvH H s y (.t (.v (.int k n)))) : PO P H ⟨some d, .call ⟨.builtin .max, #[x, y], #[t, t']⟩, ty, pos, af, g⟩ s (.t (.v (.int k (Max.max m n)))) := by
  refine .blt (fun hH _ _ _ _ _ _ a w hs => ⟨.int k (Max.max m n), ?_, .t (.v rfl)⟩)
  have e1 := (evv hH hs hx).1
  have e2 := (evv hH hs hy).1
  simp only [builtin, List.map_toArray, List.map_cons, List.map_nil, e1, e2, Builtin.max_, Builtin.max2, List.foldlM_cons, List.foldlM_nil, Sem.run_bind, Sem.run_pure, Result.andThen_ok, gt_iff_lt]
  by_cases h : m < n
  · simp [h, Int.max_eq_right (Int.le_of_lt h)]
  · simp [h, Int.max_eq_left (Int.not_lt.1 h)]
theorem PO.min {k : IntKind} {t t' : TypeId} {x y : Operand} {m n : Int} (hx : EvH H s x (.t (.v (.int k m)))) (hy : EvH H s y (.t (.v (.int k n)))) : PO P H ⟨some d, .call ⟨.builtin .min, #[x, y], #[t, t']⟩, ty, pos, af, g⟩ s (.t (.v (.int k (Min.min m n)))) := by
  refine .blt (fun hH _ _ _ _ _ _ a w hs => ⟨.int k (Min.min m n), ?_, .t (.v rfl)⟩)
  have e1 := (evv hH hs hx).1
  have e2 := (evv hH hs hy).1
  simp only [builtin, List.map_toArray, List.map_cons, List.map_nil, e1, e2, Builtin.min_, Builtin.min2, List.foldlM_cons, List.foldlM_nil, Sem.run_bind, Sem.run_pure, Result.andThen_ok]
  by_cases h : n < m
  · simp [h, Int.min_eq_right (Int.le_of_lt h)]
  · simp [h, Int.min_eq_left (Int.not_lt.1 h)]
theorem PO.imag {k : FloatKind} {t : TypeId} {x : Operand} {re im : Nat} (hx : EvH H s x (.t (.v (.complex k re im)))) : PO P H ⟨some d, .call ⟨.builtin .imag, #[x], #[t]⟩, ty, pos, af, g⟩ s (.t (.v (.float k im))) := by
  refine .blt (fun hH _ _ _ _ _ _ a w hs => ⟨.float k im, ?_, .t (.v rfl)⟩)
  have e1 := (evv hH hs hx).1
  simp only [builtin, List.map_toArray, List.map_cons, List.map_nil, e1, Sem.run_bind]; rfl
theorem PO.real {k : FloatKind} {t : TypeId} {x : Operand} {re im : Nat} (hx : EvH H s x (.t (.v (.complex k re im)))) : PO P H ⟨some d, .call ⟨.builtin .real, #[x], #[t]⟩, ty, pos, af, g⟩ s (.t (.v (.float k re))) := by
  refine .blt (fun hH _ _ _ _ _ _ a w hs => ⟨.float k re, ?_, .t (.v rfl)⟩)
  have e1 := (evv hH hs hx).1
  simp only [builtin, List.map_toArray, List.map_cons, List.map_nil, e1, Sem.run_bind]; rfl
theorem PO.cplx {k : FloatKind} {t t' : TypeId} {x y : Operand} {re im : Nat} (hx : EvH H s x (.t (.v (.float k re)))) (hy : EvH H s y (.t (.v (.float k im)))) : PO P H ⟨some d, .call ⟨.builtin .complex, #[x, y], #[t, t']⟩, ty, pos, af, g⟩ s (.t (.v (.complex k re im))) := by
  refine .blt (fun hH _ _ _ _ _ _ a w hs => ⟨.complex k re im, ?_, .t (.v rfl)⟩)
  have e1 := (evv hH hs hx).1
  have e2 := (evv hH hs hy).1
  simp only [builtin, List.map_toArray, List.map_cons, List.map_nil, e1, e2, Sem.run_bind]
  have e : Builtin.complex_ #[t, t'] ty #[.float k re, .float k im] = (if k = k then pure (.complex k re im) else stuck "complex: parts of different kinds") := rfl
  rw [e, if_pos rfl]; rfl
theorem PO.i2f {src dst : TypeId} {x : Operand} {q : IntKind} {k : FloatKind} {n : Int} {ds : TypeDesc} {sz bytes sz' bytes' : Nat} {z z' : Value} [hs1 : TyIs P src ds sz bytes z] [ht : TyIs P dst (.float k) sz' bytes' z']
    (hx : EvH H s x (.t (.v (.int q n)))) : PO P H ⟨some d, .convert src dst x, ty, pos, af, g⟩ s (.t (.v (.float k (floatOfInt k n)))) := by
  intro hH _ _ _ _ _ _ a w hs; refine ⟨.float k (floatOfInt k n), ?_, .t (.v rfl)⟩
  have h1 := (evv hH hs hx).1
  simp only [execOp, h1, Sem.run_bind]
  rw [run_convert_int_float w src dst q k n (by rw [hs1.und]; rfl) ht.und]; rfl
theorem PO.f2i {src dst : TypeId} {x : Operand} {q : IntKind} {k : FloatKind} {u : Nat} {n : Int} {ds : TypeDesc} {sz bytes sz' bytes' : Nat} {z z' : Value} [hs1 : TyIs P src ds sz bytes z] [ht : TyIs P dst (.int q) sz' bytes' z']
    (hx : EvH H s x (.t (.v (.float k u)))) (hn : H → floatToIntVal k u q = some n) : PO P H ⟨some d, .convert src dst x, ty, pos, af, g⟩ s (.t (.v (.int q n))) := by
  intro hH _ _ _ _ _ _ a w hs; refine ⟨.int q n, ?_, .t (.v rfl)⟩
  have h1 := (evv hH hs hx).1
  simp only [execOp, h1, Sem.run_bind]
  rw [run_convert_float_int w src dst k q u n (by rw [hs1.und]; rfl) ht.und (hn hH)]; rfl
theorem PO.shl {k k' : IntKind} {t t' : TypeId} {x y : Operand} {m n : Int} (hx : EvH H s x (.t (.v (.int k m)))) (hy : EvH H s y (.t (.v (.int k' n)))) (h0 : H → 0 ≤ n) : PO P H ⟨some d, .binOp .shl t x y t', ty, pos, af, g⟩ s (.t (.v (.int k (k.wrap (m * 2 ^ Nat.min n.toNat k.bits))))) := by
  intro hH _ _ _ _ _ _ a w hs; refine ⟨.int k (k.wrap (m * 2 ^ Nat.min n.toNat k.bits)), ?_, .t (.v rfl)⟩
  have e1 := (evv hH hs hx).1
  have e2 := (evv hH hs hy).1
  simp only [execOp, e1, e2, binOp, shift_shl_any k k' m n (h0 hH), Sem.run_bind, Sem.run_pure, Result.andThen_ok]; rfl
theorem PO.shr {k k' : IntKind} {t t' : TypeId} {x y : Operand} {m n : Int} (hx : EvH H s x (.t (.v (.int k m)))) (hy : EvH H s y (.t (.v (.int k' n)))) (h0 : H → 0 ≤ n) : PO P H ⟨some d, .binOp .shr t x y t', ty, pos, af, g⟩ s (.t (.v (.int k (m / 2 ^ Nat.min n.toNat k.bits)))) := by
  intro hH _ _ _ _ _ _ a w hs; refine ⟨.int k (m / 2 ^ Nat.min n.toNat k.bits), ?_, .t (.v rfl)⟩
  have e1 := (evv hH hs hx).1
  have e2 := (evv hH hs hy).1
  simp only [execOp, e1, e2, binOp, shift_shr_any k k' m n (h0 hH), Sem.run_bind, Sem.run_pure, Result.andThen_ok]; rfl
end ops
end Go.Proofs.YtdiimgkopknbcaaGreatDoor.E
