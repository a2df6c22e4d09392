/- What a value of a type is made of: plain. -/
import Derived.Test.YtmhbibfkhbaclaaGreatDoorK11
import Derived.Test.YtmhbibfkhbaclaaGreatDoorK17
namespace Go.Proofs.YtmhbibfkhbaclaaGreatDoor
open Go E
set_option linter.unusedVariables false
set_option linter.unusedSimpArgs false
/-- Is a kind one of whole numbers? -/
def isW (k : Int) : Bool := decide ((1 ≤ k ∧ k ≤ 9) ∨ k = 20 ∨ k = 21)
def loK (k : Int) : Int := if k = 2 then -128 else if k = 4 then -32768 else if k = 6 then -2147483648 else if k = 8 ∨ k = 9 then -9223372036854775808 else 0
def hiK (k : Int) : Int := if k = 1 then 1 else if k = 2 then 127 else if k = 3 then 255 else if k = 4 then 32767 else if k = 5 then 65535 else if k = 6 then 2147483647 else if k = 7 ∨ k = 20 ∨ k = 21 then 4294967295 else if k = 8 ∨ k = 9 then 9223372036854775807 else 0
def inK (k n : Int) : Bool := decide (loK k ≤ n ∧ n ≤ hiK k)
def scalarB (p : Int) : Bool := decide (0 ≤ p ∧ p ≤ 1114111 ∧ (p < 55296 ∨ 57343 < p))
/-- The type of a variant's case. -/
def caseT (t : Ty) (n : Int) : Ty := (plainT false t).l.getD n.toNat ty0
/-- The types of what is within, and whether there is so much of it. -/
def insL (t : Ty) (n : Int) (m : Nat) : List Ty :=
  if t.kind = 12 then List.replicate m (t.l.getD 0 ty0)
  else if t.kind = 13 ∨ t.kind = 14 then t.l
  else if 15 ≤ t.kind ∧ t.kind ≤ 18 ∧ 0 ≤ n ∧ n < ((plainT false t).l.length : Int) ∧ (caseT t n).kind ≠ 0 then [caseT t n] else []
def insB (t : Ty) (n : Int) (m : Nat) : Bool :=
  if t.kind = 12 then decide (n = 0) && decide (m ≤ 1000)
  else if t.kind = 13 ∨ t.kind = 14 then decide (n = 0) && decide (m = t.l.length)
  else if 15 ≤ t.kind ∧ t.kind ≤ 18 then decide (0 ≤ n ∧ n < ((plainT false t).l.length : Int)) && (if (caseT t n).kind = 0 then decide (m = 0) else decide (m = 1))
  else decide (m = 0)
mutual
/-- What a value of a type is made of; 0: it is none. -/
def partV : Val → Ty → Nat
  | .mk n _ s _ l, t =>
    if isW t.kind = true then (if inK t.kind n = true ∧ s = [] ∧ l = [] then 1 else 0)
    else if t.kind = 10 then (if scalarB n = true ∧ s = [] ∧ l = [] then 1 else 0)
    else if t.kind = 11 then (if s.all scalarB = true ∧ n = 0 ∧ l = [] ∧ s.length ≤ 1000 then 1 + s.length else 0)
    else if s ≠ [] then 0
    else if t.kind = 19 then (if 0 ≤ n ∧ n < 2 ^ t.names.length ∧ l = [] then 1 else 0)
    else if insB t n l.length = true then sumV l (insL t n l.length) 1 else 0
def sumV : List Val → List Ty → Nat → Nat
  | [], _, acc => acc
  | v :: vs, ts, acc => if partV v (ts.headD ty0) = 0 ∨ 4000 < acc + partV v (ts.headD ty0) then 0 else sumV vs ts.tail (acc + partV v (ts.headD ty0))
end
theorem partV_eq (v : Val) (t : Ty) : partV v t =
    if isW t.kind = true then (if inK t.kind v.n = true ∧ v.s = [] ∧ v.l = [] then 1 else 0)
    else if t.kind = 10 then (if scalarB v.n = true ∧ v.s = [] ∧ v.l = [] then 1 else 0)
    else if t.kind = 11 then (if v.s.all scalarB = true ∧ v.n = 0 ∧ v.l = [] ∧ v.s.length ≤ 1000 then 1 + v.s.length else 0)
    else if v.s ≠ [] then 0
    else if t.kind = 19 then (if 0 ≤ v.n ∧ v.n < 2 ^ t.names.length ∧ v.l = [] then 1 else 0)
    else if insB t v.n v.l.length = true then sumV v.l (insL t v.n v.l.length) 1 else 0 := by cases v; rw [partV]; rfl
mutual
theorem partV_le : ∀ (v : Val) (t : Ty), partV v t ≤ 4000
  | .mk n ns s nl l, t => by
    rw [partV]
    have := sumV_le l (insL t n l.length) 1 (by omega)
    (repeat' split) <;> omega
theorem sumV_le : ∀ (l : List Val) (ts : List Ty) (acc : Nat), acc ≤ 4000 → sumV l ts acc ≤ 4000
  | [], _, acc, h => by rw [sumV]; exact h
  | v :: vs, ts, acc, h => by
    rw [sumV]
    split
    · omega
    · rename_i hc
      exact sumV_le vs ts.tail _ (by simp only [not_or] at hc; omega)
end
theorem sumV_step {l : List Val} {ts : List Ty} {acc i : Nat} (h : i < l.length) (h2 : i < ts.length) : sumV (l.drop i) (ts.drop i) acc =
    if partV l[i] ts[i] = 0 ∨ 4000 < acc + partV l[i] ts[i] then 0 else sumV (l.drop (i + 1)) (ts.drop (i + 1)) (acc + partV l[i] ts[i]) := by
  rw [List.drop_eq_getElem_cons h, List.drop_eq_getElem_cons h2, sumV]
  rfl
/-- Is it a value of a type? -/
def checkV (t : Ty) (v : Val) : Int := if mayB t = true then (if partV v t = 0 then 6 else 0) else 1
end Go.Proofs.YtmhbibfkhbaclaaGreatDoor
