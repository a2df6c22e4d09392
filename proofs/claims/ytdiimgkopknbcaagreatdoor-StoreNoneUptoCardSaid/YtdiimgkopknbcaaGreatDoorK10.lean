/- Values of components' types, as trees, and what is said of them. -/
import Derived.Test.YtdiimgkopknbcaaGreatDoorK4
namespace Go.Proofs.YtdiimgkopknbcaaGreatDoor
open Go E
set_option linter.unusedVariables false
set_option linter.unusedSimpArgs false
/-- A value. 'ns', 'nl': its list of characters, of values is nil. -/
inductive Val where
  | mk (n : Int) (ns : Bool) (s : List Int) (nl : Bool) (l : List Val)
  deriving Inhabited
namespace Val
def n : Val → Int | mk n _ _ _ _ => n
def ns : Val → Bool | mk _ b _ _ _ => b
def s : Val → List Int | mk _ _ s _ _ => s
def nl : Val → Bool | mk _ _ _ b _ => b
def l : Val → List Val | mk _ _ _ _ l => l
end Val
mutual
def encVal : Val → T
  | .mk n ns s nl l => .agg [.v (.int .i64 n), .sl ns (s.map tInt), .sl nl (encVals l)]
def encVals : List Val → List T
  | [] => []
  | v :: vs => encVal v :: encVals vs
end
theorem encVals_length : ∀ l : List Val, (encVals l).length = l.length
  | [] => rfl
  | _ :: vs => by simp [encVals, encVals_length vs]
theorem encVals_get : ∀ (l : List Val) (i : Nat), (encVals l)[i]? = l[i]?.map encVal
  | [], i => by simp [encVals]
  | v :: vs, 0 => rfl
  | v :: vs, i + 1 => by simpa [encVals] using encVals_get vs i
theorem encVals_map (l : List Val) : encVals l = l.map encVal := by
  induction l with
  | nil => rfl
  | cons t l ih => simp [encVals, ih]
/-- A value, as it lies. -/
abbrev agVal (v : Val) : T := .agg [.v (.int .i64 v.n), .sl v.ns (v.s.map tInt), .sl v.nl (encVals v.l)]
theorem encVal_eta (v : Val) : encVal v = agVal v := by cases v; rfl
theorem leaves_encVal (v : Val) : (encVal v).leaves.length = 3 := by cases v; rfl
theorem encVal_flat (v : Val) : (encVal v).leaves.length = 3 ∧ (encVal v).flatL = true := by cases v; exact ⟨rfl, rfl⟩
theorem get_val {l : List Val} {i : Nat} (h : i < l.length) : (encVals l)[((i : Nat) : Int).toNat]? = some (agVal l[i]) := by
  rw [Int.toNat_natCast, encVals_get, List.getElem?_eq_getElem h, Option.map_some, encVal_eta]
theorem vsize_get {l : List Val} {i : Nat} (h : i < l.length) (v : Val) (ht : v.l = l) : SizeOf.sizeOf l[i] < SizeOf.sizeOf v := by
  have h1 := List.sizeOf_lt_of_mem (List.getElem_mem h)
  cases v; simp only [Val.l] at ht; subst ht; simp; omega
/-- A number of 64 bits. -/
def inI (n : Int) : Prop := -9223372036854775808 ≤ n ∧ n < 9223372036854775808
mutual
def smallV : Val → Prop
  | .mk n _ s _ l => inI n ∧ s.length ≤ big ∧ (∀ x, x ∈ s → inI x) ∧ l.length ≤ big ∧ smallVs l
def smallVs : List Val → Prop
  | [] => True
  | v :: vs => smallV v ∧ smallVs vs
end
theorem smallVs_get : ∀ {l : List Val}, smallVs l → ∀ {i : Nat} {v : Val}, l[i]? = some v → smallV v
  | [], _, i, t, h => by simp at h
  | x :: xs, h, 0, t, e => by simp at e; subst e; exact h.1
  | x :: xs, h, i + 1, t, e => smallVs_get h.2 (by simpa using e)
theorem smallVs_of : ∀ {l : List Val}, (∀ v, v ∈ l → smallV v) → smallVs l
  | [], _ => trivial
  | t :: l, h => ⟨h t (by simp), smallVs_of fun x hx => h x (by simp [hx])⟩
theorem smallV_s {v : Val} (h : smallV v) : v.s.length ≤ big := by cases v; exact h.2.1
theorem smallV_l {v : Val} (h : smallV v) : v.l.length ≤ big := by cases v; exact h.2.2.2.1
theorem smallV_ls {v : Val} (h : smallV v) : smallVs v.l := by cases v; exact h.2.2.2.2
mutual
/-- How much is in a value; much, if too much, too deep. -/
def wghV (d : Nat) : Val → Nat
  | .mk _ _ s _ l => if d > 20 ∨ s.length > 20000 ∨ l.length > 20000 then 1073741824 else wghVs (d + 1) (1 + s.length) l
def wghVs (d acc : Nat) : List Val → Nat
  | [] => acc
  | v :: vs => if acc ≤ 20000 then wghVs d (acc + wghV d v) vs else acc
end
theorem wghV_eq (d : Nat) (v : Val) : wghV d v = if d > 20 ∨ v.s.length > 20000 ∨ v.l.length > 20000 then 1073741824 else wghVs (d + 1) (1 + v.s.length) v.l := by cases v; rw [wghV]; rfl
theorem wghVs_step {d acc : Nat} {l : List Val} {i : Nat} (h : i < l.length) (ha : acc ≤ 20000) : wghVs d acc (l.drop i) = wghVs d (acc + wghV d l[i]) (l.drop (i + 1)) := by
  rw [List.drop_eq_getElem_cons h, wghVs, if_pos ha]
theorem wghVs_end {d acc : Nat} {l : List Val} (ha : ¬ acc ≤ 20000) : wghVs d acc l = acc := by
  cases l with
  | nil => rw [wghVs]
  | cons v vs => rw [wghVs, if_neg ha]
mutual
theorem wghV_le : ∀ (v : Val) (d : Nat), wghV d v ≤ 1073741824 + 20001 * (21 - d)
  | .mk _ _ s _ l, d => by
    rw [wghV]
    split
    · omega
    · have := wghVs_le l (d + 1) (1 + s.length) (by omega)
      omega
theorem wghVs_le : ∀ (l : List Val) (d acc : Nat), acc ≤ 20000 + (1073741824 + 20001 * (21 - d)) → wghVs d acc l ≤ 20000 + (1073741824 + 20001 * (21 - d))
  | [], d, acc, h => by rw [wghVs]; exact h
  | v :: vs, d, acc, h => by
    rw [wghVs]
    split
    · exact wghVs_le vs d _ (by have := wghV_le v d; omega)
    · exact h
end
theorem wghV_big (d : Nat) (v : Val) : wghV d v ≤ 1073741824 + 20001 * 21 := by have := wghV_le v d; omega
def lightB (v : Val) : Bool := decide (wghV 0 v ≤ 20000)
end Go.Proofs.YtdiimgkopknbcaaGreatDoor
