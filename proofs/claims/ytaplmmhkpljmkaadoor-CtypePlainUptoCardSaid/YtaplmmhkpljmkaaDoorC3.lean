/- Layers 11, 13: None, own. -/
import Derived.Test.YtaplmmhkpljmkaaDoorC2
namespace Go.Proofs.YtaplmmhkpljmkaaDoor
open Go E
set_option maxRecDepth 100000
set_option maxHeartbeats 4000000
set_option linter.unusedVariables false
set_option linter.unusedSimpArgs false
attribute [local irreducible] Tri TriL TriO PO VO E.Pure DOb
theorem retB {a b : Bool} (h : a = b) : R1.t (.v (.bool a)) = R1.t (tBool b) := by rw [h]; rfl
def noneT (t : Ty) : Bool := decide (t.kind = 0) && decide (t.r = 0) && decide (t.names.length = 0) && decide (t.l.length = 0)
theorem none_p (t : Ty) : E.Pure Tryd.prog 47 [encTy t] (.one (.t (tBool (noneT t)))) := by
  refine Pure.of1 Tryd.func47 rfl rfl (Nat.le_of_ble_eq_true rfl) rfl ?_
  rw [encTy_eta]
  repeat' (first | refine Tri.seq ?_ | refine Tri.reg ?_ | refine TriL.nil ?_ | (apply U.moveT; rfl; trivial; rfl) | (apply U.assignT; rfl; trivial; rfl) | (apply U.load; rfl; rfl; trivial; rfl; rfl; rfl) | (apply U.fld; rfl; trivial; rfl; infer_instance; decide; rfl) | (apply U.bin; rfl; trivial; rfl; trivial; rfl; rfl) | (apply U.pickb; rfl; trivial; rfl; (first | trivial | exact id | exact And.right | exact gvA | exact gvB | exact And.left | exact gvN | exact gvP2 | exact gvN2 | exact gvLA); rfl; (first | trivial | exact id | exact And.right | exact gvA | exact gvB | exact And.left | exact gvN | exact gvP2 | exact gvN2 | exact gvLA); rfl) | (apply U.boxA; rfl; rfl) | (apply G.load; rfl; rfl; (first | trivial | exact id | exact And.right | exact gvA | exact gvB | exact And.left | exact gvN | exact gvP2 | exact gvN2 | exact gvLA); rfl; rfl; rfl; rfl; rfl) | (apply G.fld; rfl; (first | trivial | exact id | exact And.right | exact gvA | exact gvB | exact And.left | exact gvN | exact gvP2 | exact gvN2 | exact gvLA); rfl; infer_instance; decide; rfl; rfl; rfl) | (apply G.bin; rfl; (first | trivial | exact id | exact And.right | exact gvA | exact gvB | exact And.left | exact gvN | exact gvP2 | exact gvN2 | exact gvLA); rfl; (first | trivial | exact id | exact And.right | exact gvA | exact gvB | exact And.left | exact gvN | exact gvP2 | exact gvN2 | exact gvLA); rfl; rfl; rfl; rfl) | (apply G.len; rfl; (first | trivial | exact id | exact And.right | exact gvA | exact gvB | exact And.left | exact gvN | exact gvP2 | exact gvN2 | exact gvLA); rfl; rfl; rfl) | refine Tri.ret ?_ | fail)
  refine Comes1.ret rfl (retB ?_)
  rw [Bool.eq_iff_iff]
  simp [noneT, encTys_length]
/-- May a type's own fields be? -/
def ownB (t : Ty) : Bool :=
  if t.kind = 20 ∨ t.kind = 21 then decide (t.names.length = 0) && decide (t.l.length = 0) && decide (t.r ≥ 0) && decide (t.r ≤ 1048576)
  else if t.r ≠ 0 ∨ t.l.length > 64 then false
  else if t.kind = 13 ∨ t.kind = 15 then namesB t.names 64 && decide (t.l.length = t.names.length)
  else if t.kind = 16 then namesB t.names 64 && decide (t.l.length = 0)
  else if t.kind = 19 then namesB t.names 32 && decide (t.l.length = 0)
  else if t.names.length > 0 then false
  else if t.kind = 12 ∨ t.kind = 17 then decide (t.l.length = 1)
  else if t.kind = 14 then decide (t.l.length ≥ 1)
  else if t.kind = 18 then decide (t.l.length = 2)
  else decide (t.kind ≥ 1) && decide (t.kind ≤ 11) && decide (t.l.length = 0)
theorem own_p (t : Ty) (hs : small t) : E.Pure Tryd.prog 50 [encTy t] (.one (.t (tBool (ownB t)))) := by
  have hn1 := names_p t.names t.nn 64 (small_names hs)
  have hn2 := names_p t.names t.nn 32 (small_names hs)
  have hb1 := small_names hs
  have hb2 := small_l hs
  unfold big at hb1 hb2
  refine Pure.of1 Tryd.func50 rfl rfl (Nat.le_of_ble_eq_true rfl) rfl ?_
  rw [encTy_eta]
  repeat' (first | refine Tri.seq ?_ | refine Tri.reg ?_ | refine TriL.nil ?_ | (apply U.moveT; rfl; trivial; rfl) | (apply U.assignT; rfl; trivial; rfl) | (apply U.load; rfl; rfl; trivial; rfl; rfl; rfl) | (apply U.fld; rfl; trivial; rfl; infer_instance; decide; rfl) | (apply U.bin; rfl; trivial; rfl; trivial; rfl; rfl) | (apply U.len; rfl; trivial; rfl) | (apply U.pickb; rfl; trivial; rfl; (first | trivial | exact id | exact And.right | exact gvA | exact gvB | exact And.left | exact gvN | exact gvP2 | exact gvN2 | exact gvLA); rfl; (first | trivial | exact id | exact And.right | exact gvA | exact gvB | exact And.left | exact gvN | exact gvP2 | exact gvN2 | exact gvLA); rfl) | (apply U.boxA; rfl; rfl) | (apply G.moveT; rfl; (first | trivial | exact id | exact And.right | exact gvA | exact gvB | exact And.left | exact gvN | exact gvP2 | exact gvN2 | exact gvLA); rfl; rfl; rfl) | (apply G.load; rfl; rfl; (first | trivial | exact id | exact And.right | exact gvA | exact gvB | exact And.left | exact gvN | exact gvP2 | exact gvN2 | exact gvLA); rfl; rfl; rfl; rfl; rfl) | (apply G.fld; rfl; (first | trivial | exact id | exact And.right | exact gvA | exact gvB | exact And.left | exact gvN | exact gvP2 | exact gvN2 | exact gvLA); rfl; infer_instance; decide; rfl; rfl; rfl) | (apply G.bin; rfl; (first | trivial | exact id | exact And.right | exact gvA | exact gvB | exact And.left | exact gvN | exact gvP2 | exact gvN2 | exact gvLA); rfl; (first | trivial | exact id | exact And.right | exact gvA | exact gvB | exact And.left | exact gvN | exact gvP2 | exact gvN2 | exact gvLA); rfl; rfl; rfl; rfl) | (apply G.len; rfl; (first | trivial | exact id | exact And.right | exact gvA | exact gvB | exact And.left | exact gvN | exact gvP2 | exact gvN2 | exact gvLA); rfl; rfl; rfl) | refine U.call2 rfl rfl rfl (by assumption) rfl ?_ | refine Tri.skip ?_ | refine Tri.ret ?_ | (refine Tri.cond rfl (fun h => ?_) (fun h => ?_) <;> (try simp at h) <;> (try contradiction)) | fail)
  all_goals (refine Comes1.ret rfl (retB ?_); clear hn1 hn2 hs; simp only [encTys_length, List.length_map] at *; rw [Bool.eq_iff_iff]; simp [ownB, -List.length_eq_zero_iff, *] <;> (try omega))
  exact ⟨fun h => ⟨by omega, h.1, by omega⟩, fun h => ⟨h.2.1, by omega⟩⟩
end Go.Proofs.YtaplmmhkpljmkaaDoor
