/- Layer 10: the reference's Name. -/
import Derived.Test.YtldelbknkkeniaaGreatDoorK5
namespace Go.Proofs.YtldelbknkkeniaaGreatDoor
open Go E
set_option maxRecDepth 100000
set_option linter.unusedVariables false
set_option linter.unusedSimpArgs false
attribute [local irreducible] Tri TriL TriO PO VO E.Pure DOb
def kindOf (c : Int) : Int := if c ≥ 97 ∧ c ≤ 122 then 1 else if c ≥ 65 ∧ c ≤ 90 then 2 else if c ≥ 48 ∧ c ≤ 57 then 3 else if c = 45 then 4 else if c = 46 then 5 else 0
/-- May the letters go on, behind a part's begin (or at one)? -/
def nmGo : Bool → Int → List UInt8 → Bool
  | st, _, [] => !st
  | true, _, c :: cs => if kindOf c.toNat = 1 ∨ kindOf c.toNat = 2 then nmGo false (kindOf c.toNat) cs else false
  | false, z, c :: cs => if kindOf c.toNat = z ∨ kindOf c.toNat = 3 ∨ kindOf c.toNat = 4 then nmGo (decide (c = 45)) z cs else false
def nameOk (s : ByteArray) : Bool := decide (1 ≤ s.size) && decide (s.size ≤ 100) && nmGo true 0 (bs s)
set_option maxHeartbeats 4000000
end Go.Proofs.YtldelbknkkeniaaGreatDoor

/- Layers 11, 13: the reference's names, own, deep, parts, May. -/
namespace Go.Proofs.YtldelbknkkeniaaGreatDoor
open Go E
set_option maxRecDepth 100000
set_option maxHeartbeats 4000000
set_option linter.unusedVariables false
set_option linter.unusedSimpArgs false
attribute [local irreducible] Tri TriL TriO PO VO E.Pure DOb
def inB (s : ByteArray) (l : List ByteArray) : Bool := l.any fun x => decide (x = s)
/-- Names, behind others: all are, and differ. -/
def namesGo : List ByteArray → List ByteArray → Bool
  | _, [] => true
  | seen, s :: t => nameOk s && !inB s seen && namesGo (seen ++ [s]) t
def namesB (l : List ByteArray) (most : Int) : Bool := namesGo [] l && decide (1 ≤ (l.length : Int)) && decide ((l.length : Int) ≤ most)
theorem get_str {l : List ByteArray} {i : Nat} (h : i < l.length) : (l.map tStr)[((i : Nat) : Int).toNat]? = some (tStr l[i]) := by
  rw [Int.toNat_natCast, List.getElem?_map, List.getElem?_eq_getElem h]; rfl
theorem namesGo_step {l : List ByteArray} {i : Nat} (h : i < l.length) : namesGo (l.take i) (l.drop i) = (nameOk l[i] && !inB l[i] (l.take i) && namesGo (l.take (i + 1)) (l.drop (i + 1))) := by
  rw [List.drop_eq_getElem_cons h, namesGo, List.take_succ_eq_append_getElem h]
end Go.Proofs.YtldelbknkkeniaaGreatDoor

/- Layers 11, 13: None, own. -/
namespace Go.Proofs.YtldelbknkkeniaaGreatDoor
open Go E
set_option maxRecDepth 100000
set_option maxHeartbeats 4000000
set_option linter.unusedVariables false
set_option linter.unusedSimpArgs false
attribute [local irreducible] Tri TriL TriO PO VO E.Pure DOb
theorem retB {a b : Bool} (h : a = b) : R1.t (.v (.bool a)) = R1.t (tBool b) := by rw [h]; rfl
def noneT (t : Ty) : Bool := decide (t.kind = 0) && decide (t.r = 0) && decide (t.names.length = 0) && decide (t.l.length = 0)
/-- May a type's own fields be? -/
def ownB (t : Ty) : Bool :=
  if t.kind = 20 ∨ t.kind = 21 then decide (t.names.length = 0) && decide (t.l.length = 0) && decide (t.r ≥ 0) && decide (t.r ≤ 1048576)
  else if t.r ≠ 0 ∨ t.l.length > 64 then false
  else if t.kind = 13 ∨ t.kind = 15 then namesB t.names 64 && decide (t.l.length = t.names.length)
  else if t.kind = 16 then namesB t.names 64 && decide (t.l.length = 0)
  else if t.kind = 19 then namesB t.names 32 && decide (t.l.length = 0)
  else if t.names.length > 0 then false
  else if t.kind = 12 ∨ t.kind = 17 then decide (t.l.length = 1)
  else if t.kind = 14 then decide (t.l.length ≥ 1)
  else if t.kind = 18 then decide (t.l.length = 2)
  else decide (t.kind ≥ 1) && decide (t.kind ≤ 11) && decide (t.l.length = 0)
end Go.Proofs.YtldelbknkkeniaaGreatDoor

/- Layer 13: deep. -/
namespace Go.Proofs.YtldelbknkkeniaaGreatDoor
open Go E
set_option maxRecDepth 100000
set_option maxHeartbeats 4000000
set_option linter.unusedVariables false
set_option linter.unusedSimpArgs false
attribute [local irreducible] Tri TriL TriO PO VO E.Pure DOb
mutual
/-- May a type be, within so many others? -/
def deepB : Ty → Int → Bool
  | .mk k nn ns nl l r, n => !decide (n ≥ 16) && ownB (.mk k nn ns nl l r) && deepsB k l n
def deepsB (k : Int) : List Ty → Int → Bool
  | [], _ => true
  | t :: ts, n => (decide (k = 15 ∨ k = 18) && noneT t || deepB t (n + 1)) && deepsB k ts n
end
theorem deepB_eq (t : Ty) (n : Int) : deepB t n = (!decide (n ≥ 16) && ownB t && deepsB t.kind t.l n) := by cases t; rw [deepB]; rfl
theorem size_get {l : List Ty} {i : Nat} (h : i < l.length) (t : Ty) (ht : t.l = l) : SizeOf.sizeOf l[i] < SizeOf.sizeOf t := by
  have h1 := List.sizeOf_lt_of_mem (List.getElem_mem h)
  cases t; simp only [Ty.l] at ht; subst ht; simp; omega
/-- A type, as it lies. -/
abbrev agTy (t : Ty) : T := .agg [.v (.int .i64 t.kind), .sl t.nn (t.names.map tStr), .sl t.nl (encTys t.l), .v (.int .i64 t.r)]
theorem get_ty {l : List Ty} {i : Nat} (h : i < l.length) : (encTys l)[((i : Nat) : Int).toNat]? = some (agTy l[i]) := by
  rw [Int.toNat_natCast, encTys_get, List.getElem?_eq_getElem h, Option.map_some, encTy_eta]
end Go.Proofs.YtldelbknkkeniaaGreatDoor

/- Layer 13: parts, May. -/
namespace Go.Proofs.YtldelbknkkeniaaGreatDoor
open Go E
set_option maxRecDepth 100000
set_option maxHeartbeats 4000000
set_option linter.unusedVariables false
set_option linter.unusedSimpArgs false
attribute [local irreducible] Tri TriL TriO PO VO E.Pure DOb
mutual
def partsN : Ty → Int
  | .mk _ _ _ _ l _ => partsGo 1 l
def partsGo : Int → List Ty → Int
  | n, [] => n
  | n, t :: ts => if n ≤ 500 then partsGo (if t.kind ≠ 0 then n + partsN t else n) ts else n
end
mutual
def dep : Ty → Int
  | .mk _ _ _ _ l _ => 1 + deps l
def deps : List Ty → Int
  | [] => 0
  | t :: ts => max (dep t) (deps ts)
end
mutual
theorem dep_pos : ∀ t : Ty, 1 ≤ dep t
  | .mk _ _ _ _ l _ => by have := deps_pos l; simp only [dep]; omega
theorem deps_pos : ∀ l : List Ty, 0 ≤ deps l
  | [] => by simp [deps]
  | t :: ts => by have := dep_pos t; have := deps_pos ts; simp only [deps]; omega
end
mutual
theorem partsN_le : ∀ t : Ty, 1 ≤ partsN t ∧ partsN t ≤ 500 * dep t + 1
  | .mk _ _ _ _ l _ => by have := partsGo_le 1 l; have := deps_pos l; simp only [partsN, dep]; omega
theorem partsGo_le : ∀ (n : Int) (l : List Ty), n ≤ partsGo n l ∧ partsGo n l ≤ max n (501 + 500 * deps l)
  | n, [] => by simp only [partsGo]; omega
  | n, t :: ts => by
    have h1 := partsN_le t
    have h2 := dep_pos t
    have h3 := deps_pos ts
    simp only [partsGo, deps]
    split
    · split
      · have := partsGo_le (n + partsN t) ts; omega
      · have := partsGo_le n ts; omega
    · omega
end
theorem partsN_eq (t : Ty) : partsN t = partsGo 1 t.l := by cases t; rfl
def mayB (t : Ty) : Bool := deepB t 0 && decide (partsN t ≤ 500)
end Go.Proofs.YtldelbknkkeniaaGreatDoor

/- Layer 13: MaySig. -/
namespace Go.Proofs.YtldelbknkkeniaaGreatDoor
open Go E
set_option maxRecDepth 100000
set_option maxHeartbeats 4000000
set_option linter.unusedVariables false
set_option linter.unusedSimpArgs false
attribute [local irreducible] Tri TriL TriO PO VO E.Pure DOb
abbrev agSg (s : Sg) : T := .agg [.v (.string s.name), .sl s.np (s.p.map tStr), .sl s.nt (encTys s.t), .v (.int .i64 s.r.kind), .sl s.r.nn (s.r.names.map tStr), .sl s.r.nl (encTys s.r.l), .v (.int .i64 s.r.r)]
theorem encSg_eta (s : Sg) : encSg s = agSg s := by
  unfold encSg; rw [encTy_eta]; rfl
structure smallSg (s : Sg) : Prop where
  p : s.p.length ≤ big
  ps : ∀ x, x ∈ s.p → x.size ≤ big
  t : s.t.length ≤ big
  ts : smalls s.t
  r : small s.r
def mayAll : List Ty → Bool
  | [] => true
  | t :: ts => mayB t && mayAll ts
def maySgB (s : Sg) : Bool :=
  decide (s.p.length = s.t.length) && (decide (s.p.length = 0) || namesB s.p 64) && (noneT s.r || mayB s.r) && mayAll s.t
theorem mayAll_step {l : List Ty} {i : Nat} (h : i < l.length) : mayAll (l.drop i) = (mayB l[i] && mayAll (l.drop (i + 1))) := by
  rw [List.drop_eq_getElem_cons h, mayAll]
end Go.Proofs.YtldelbknkkeniaaGreatDoor
