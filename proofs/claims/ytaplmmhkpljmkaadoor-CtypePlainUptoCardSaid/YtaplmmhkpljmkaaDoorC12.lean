/- Layer 13, the code: Itoa of small numbers, Clone. -/
import Derived.Test.YtaplmmhkpljmkaaDoorC11
import Derived.Test.YtaplmmhkpljmkaaDoorF2
namespace Go.Proofs.YtaplmmhkpljmkaaDoor
open Go E
set_option maxRecDepth 100000
set_option maxHeartbeats 4000000
set_option linter.unusedVariables false
set_option linter.unusedSimpArgs false
attribute [local irreducible] Tri TriL TriO PO VO E.Pure DOb
/-- A small number, as it is written. -/
def digT (n : Nat) : ByteArray := ⟨if n < 10 then #[UInt8.ofNat (48 + n)] else #[UInt8.ofNat (48 + n / 10), UInt8.ofNat (48 + n % 10)]⟩
theorem small_p (n : Nat) (h : n < 100) : E.Pure Tryd.prog 62 [tInt n] (.one (.t (tStr (digT n)))) := by
  refine Pure.of1 Tryd.func62 rfl rfl (Nat.le_of_ble_eq_true rfl) rfl ?_
  repeat' (first | refine Tri.seq ?_ | refine Tri.reg ?_ | refine TriL.nil ?_ | (apply U.moveT; rfl; trivial; rfl) | (apply U.assignT; rfl; trivial; rfl) | (apply U.add; rfl; trivial; rfl; trivial; exact fun _ => wrap_i64 (by omega) (by omega); rfl) | (apply U.mul; rfl; trivial; rfl; trivial; exact fun _ => (by first | assumption | exact wrap_i64 (by omega) (by omega)); rfl) | (apply U.bin; rfl; trivial; rfl; trivial; rfl; rfl) | refine Tri.skip ?_ | (refine Tri.cond rfl (fun h => ?_) (fun h => ?_) <;> (try simp at h) <;> (try contradiction)) | fail)
  · refine U.cutSLH rfl trivial rfl trivial rfl trivial (fun _ => by omega) (fun _ => by omega) (fun _ => ?_) rfl ?_
    · show (n : Int) + 1 ≤ ((36 : Nat) : Int); omega
    repeat' (first | refine TriL.nil ?_ | (apply U.assignT; rfl; trivial; rfl) | refine Tri.ret ?_ | fail)
    refine Comes1.ret rfl ?_
    refine congrArg R1.t (congrArg T.v (congrArg Value.string (ByteArray.ext ?_)))
    revert n; decide
  · refine U.cutSLH rfl trivial rfl trivial rfl trivial (fun _ => by omega) (fun _ => by omega) (fun _ => ?_) rfl ?_
    · show (n : Int) * 2 + 2 ≤ ((200 : Nat) : Int); omega
    repeat' (first | refine TriL.nil ?_ | (apply U.assignT; rfl; trivial; rfl) | refine Tri.ret ?_ | fail)
    refine Comes1.ret rfl ?_
    refine congrArg R1.t (congrArg T.v (congrArg Value.string (ByteArray.ext ?_)))
    revert n; decide
theorem itoa_p (n : Nat) (h : n < 100) : E.Pure Tryd.prog 33 [tInt n] (.one (.t (tStr (digT n)))) := by
  have h1 := small_p n h
  have h2 : E.Pure Tryd.prog 57 [tInt n, tInt 10] (.one (.t (tStr (digT n)))) := by
    refine Pure.of1 Tryd.func57 rfl rfl (Nat.le_of_ble_eq_true rfl) rfl ?_
    repeat' (first | refine Tri.seq ?_ | refine Tri.reg ?_ | refine TriL.nil ?_ | (apply U.moveT; rfl; trivial; rfl) | (apply U.assignT; rfl; trivial; rfl) | (apply U.bin; rfl; trivial; rfl; trivial; rfl; rfl) | (apply U.conv; rfl; trivial; rfl; rfl) | (apply U.pickb; rfl; trivial; rfl; (first | trivial | exact id | exact And.right | exact gvA | exact gvB | exact And.left | exact gvN | exact gvP2 | exact gvN2 | exact gvLA); rfl; (first | trivial | exact id | exact And.right | exact gvA | exact gvB | exact And.left | exact gvN | exact gvP2 | exact gvN2 | exact gvLA); rfl) | (apply U.alloc; rfl; rfl; rfl; rfl) | (apply G.moveT; rfl; (first | trivial | exact id | exact And.right | exact gvA | exact gvB | exact And.left | exact gvN | exact gvP2 | exact gvN2 | exact gvLA); rfl; rfl; rfl) | (apply G.bin; rfl; (first | trivial | exact id | exact And.right | exact gvA | exact gvB | exact And.left | exact gvN | exact gvP2 | exact gvN2 | exact gvLA); rfl; (first | trivial | exact id | exact And.right | exact gvA | exact gvB | exact And.left | exact gvN | exact gvP2 | exact gvN2 | exact gvLA); rfl; rfl; rfl; rfl) | refine U.call1 rfl rfl (by assumption) rfl ?_ | refine Tri.skip ?_ | refine Tri.ret ?_ | (refine Tri.cond rfl (fun h => ?_) (fun h => ?_) <;> (try simp at h) <;> (try contradiction)) | fail)
    · exact Comes1.ret rfl rfl
    all_goals (exfalso; omega)
  have h3 : E.Pure Tryd.prog 51 [tInt n] (.one (.t (tStr (digT n)))) := by
    refine Pure.of1 Tryd.func51 rfl rfl (Nat.le_of_ble_eq_true rfl) rfl ?_
    repeat' (first | refine Tri.seq ?_ | refine Tri.reg ?_ | refine TriL.nil ?_ | (apply U.moveT; rfl; trivial; rfl) | (apply U.assignT; rfl; trivial; rfl) | refine U.call2 rfl rfl rfl (by assumption) rfl ?_ | refine Tri.ret ?_ | fail)
    exact Comes1.ret rfl rfl
  refine Pure.of1 Tryd.func33 rfl rfl (Nat.le_of_ble_eq_true rfl) rfl ?_
  repeat' (first | refine Tri.seq ?_ | refine Tri.reg ?_ | refine TriL.nil ?_ | (apply U.moveT; rfl; trivial; rfl) | (apply U.assignT; rfl; trivial; rfl) | refine U.call1 rfl rfl (by assumption) rfl ?_ | refine Tri.ret ?_ | fail)
  exact Comes1.ret rfl rfl
theorem clone_p (l : List T) (nn : Bool) (hb : l.length ≤ 1000) (ht : (l.all fun x => x.leaves.length == 1) = true) (hn : nn = true → l = []) : E.Pure Tryd.prog 34 [.sl nn l] (.one (.t (.sl nn l))) := by
  refine Pure.of1 Tryd.func34 rfl rfl (Nat.le_of_ble_eq_true rfl) rfl ?_
  repeat' (first | refine Tri.seq ?_ | refine Tri.reg ?_ | refine TriL.nil ?_ | (apply U.moveT; rfl; trivial; rfl) | (apply U.assignT; rfl; trivial; rfl) | refine Tri.skip ?_ | refine Tri.ret ?_ | (apply U.eqNil; rfl; trivial; rfl; trivial; rfl) | (refine Tri.cond rfl (fun h => ?_) (fun h => ?_) <;> (try simp at h) <;> (try contradiction)) | fail)
  · refine Comes1.ret rfl ?_
    subst h; rw [hn rfl]
  · (apply U.lit; rfl; rfl; rfl; rfl; rfl; rfl; rfl; rfl)
    repeat' (first | (apply U.moveT; rfl; trivial; rfl) | fail)
    refine U.appOwn rfl rfl rfl rfl (SrcE.t rfl ht) ?_ ?_ rfl ?_
    · omega
    · omega
    repeat' (first | refine TriL.nil ?_ | (apply U.assignR; rfl; trivial; rfl) | refine Tri.ret ?_ | fail)
    refine Comes1.retF rfl rfl (by simp) ?_
    subst h; simp
theorem cloneT_p (l : List T) (nn : Bool) (hb : l.length ≤ 1000) (ht : (l.all fun x => x.leaves.length == 4) = true) (hn : nn = true → l = []) : E.Pure Tryd.prog 35 [.sl nn l] (.one (.t (.sl nn l))) := by
  refine Pure.of1 Tryd.func35 rfl rfl (Nat.le_of_ble_eq_true rfl) rfl ?_
  repeat' (first | refine Tri.seq ?_ | refine Tri.reg ?_ | refine TriL.nil ?_ | (apply U.moveT; rfl; trivial; rfl) | (apply U.assignT; rfl; trivial; rfl) | refine Tri.skip ?_ | refine Tri.ret ?_ | (apply U.eqNil; rfl; trivial; rfl; trivial; rfl) | (refine Tri.cond rfl (fun h => ?_) (fun h => ?_) <;> (try simp at h) <;> (try contradiction)) | fail)
  · refine Comes1.ret rfl ?_
    subst h; rw [hn rfl]
  · (apply U.lit; rfl; rfl; rfl; rfl; rfl; rfl; rfl; rfl)
    repeat' (first | (apply U.moveT; rfl; trivial; rfl) | fail)
    refine U.appOwn rfl rfl rfl rfl (SrcE.t rfl ht) ?_ ?_ rfl ?_
    · omega
    · omega
    repeat' (first | refine TriL.nil ?_ | (apply U.assignR; rfl; trivial; rfl) | refine Tri.ret ?_ | fail)
    refine Comes1.retF rfl rfl (by simp) ?_
    subst h; simp
end Go.Proofs.YtaplmmhkpljmkaaDoor
