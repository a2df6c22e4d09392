/- The data of layer 13, as trees, and what is said of them. -/
import Derived.Test.YtdiimgkopknbcaaGreatDoorK2
import Derived.Test.YtdiimgkopknbcaaGreatDoorK3
namespace Go.Proofs.YtdiimgkopknbcaaGreatDoor
open Go E
set_option linter.unusedVariables false
set_option linter.unusedSimpArgs false

/-- A component's type. 'nn', 'nl': its list of names, of types is nil. -/
inductive Ty where
  | mk (kind : Int) (nn : Bool) (names : List ByteArray) (nl : Bool) (l : List Ty) (r : Int)
  deriving Inhabited
namespace Ty
def kind : Ty → Int | mk k _ _ _ _ _ => k
def nn : Ty → Bool | mk _ n _ _ _ _ => n
def names : Ty → List ByteArray | mk _ _ n _ _ _ => n
def nl : Ty → Bool | mk _ _ _ n _ _ => n
def l : Ty → List Ty | mk _ _ _ _ l _ => l
def r : Ty → Int | mk _ _ _ _ _ r => r
end Ty
def tStr (s : ByteArray) : T := .v (.string s)
def tInt (n : Int) : T := .v (.int .i64 n)
def tBool (b : Bool) : T := .v (.bool b)
mutual
def encTy : Ty → T
  | .mk k nn ns nl l r => .agg [.v (.int .i64 k), .sl nn (ns.map tStr), .sl nl (encTys l), .v (.int .i64 r)]
def encTys : List Ty → List T
  | [] => []
  | t :: ts => encTy t :: encTys ts
end
theorem encTy_eta (t : Ty) : encTy t = .agg [.v (.int .i64 t.kind), .sl t.nn (t.names.map tStr), .sl t.nl (encTys t.l), .v (.int .i64 t.r)] := by cases t; rfl
theorem leaves_encTy (t : Ty) : (encTy t).leaves.length = 4 := by cases t; rfl
/-- How long a list, a text may be. -/
def big : Nat := 140737488355328
mutual
def small : Ty → Prop
  | .mk _ _ ns _ l _ => ns.length ≤ big ∧ (∀ s, s ∈ ns → s.size ≤ big) ∧ l.length ≤ big ∧ smalls l
def smalls : List Ty → Prop
  | [] => True
  | t :: ts => small t ∧ smalls ts
end
/-- A function's type. -/
structure Sg where
  name : ByteArray
  np : Bool
  p : List ByteArray
  nt : Bool
  t : List Ty
  r : Ty
end Go.Proofs.YtdiimgkopknbcaaGreatDoor
