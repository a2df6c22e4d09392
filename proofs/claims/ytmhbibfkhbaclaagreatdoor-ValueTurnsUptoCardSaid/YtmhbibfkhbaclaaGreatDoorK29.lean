/- Is it a value of a type, are they a function's arguments? The laws ValueChecks, ValueArgs. -/
import Derived.Test.YtmhbibfkhbaclaaGreatDoorK20
import Derived.Test.YtmhbibfkhbaclaaGreatDoorK21
import Derived.Test.YtmhbibfkhbaclaaGreatDoorK24
import Derived.Test.YtmhbibfkhbaclaaGreatDoorK28
namespace Go.Proofs.YtmhbibfkhbaclaaGreatDoor
open Go E
set_option maxRecDepth 100000
set_option maxHeartbeats 4000000
set_option linter.unusedVariables false
set_option linter.unusedSimpArgs false
attribute [local irreducible] Tri TriL TriO PO VO E.Pure DOb XOb
theorem may_k {t : Ty} (h : mayB t = true) : Vd t ∧ t.kind ≠ 0 := by
  have hv := (may_vd h).1
  simp only [mayB, Bool.and_eq_true, decide_eq_true_eq] at h
  refine ⟨hv, ?_⟩
  have h1 := h.1
  rw [deepB_eq, Bool.and_eq_true, Bool.and_eq_true] at h1
  have := own_pos h1.1.2
  omega
theorem vcheck_p (HN : LexName) (t : Ty) (v : Val) (ht : small t) (hs : smallV v) : E.Pure Tryz.prog 14 [encTy t, encVal v] (.one (.t (tInt (checkV t v)))) := by
  have h1 := check_p HN t ht
  have h2 : mayB t = true → E.Pure Tryz.prog 27 [encTy t, encVal v] (.one (.t (tInt (partV v t)))) := fun h => vparts_p _ v t (Nat.le_refl _) hs (may_k h).1 (may_k h).2
  have hle := partV_le v t
  refine Pure.of1 Tryz.func14 rfl rfl (Nat.le_of_ble_eq_true rfl) rfl ?_
  rw [encTy_eta] at h1 h2 ⊢
  rw [encVal_eta] at h2 ⊢
  repeat' (first | refine Tri.seq ?_ | refine Tri.reg ?_ | refine TriL.nil ?_ | (apply U.assignT; rfl; trivial; rfl) | (apply U.bin; rfl; trivial; rfl; trivial; rfl; rfl) | (apply U.loadS; rfl; rfl; trivial; rfl; rfl; rfl; rfl; rfl) | (apply U.boxA; rfl; rfl) | refine U.call1 rfl rfl (by assumption) rfl ?_ | refine Tri.skip ?_ | refine Tri.ret ?_ | (refine Tri.cond rfl (fun h => ?_) (fun h => ?_) <;> (try simp at h) <;> (try contradiction)) | fail)
  · refine Comes1.ret rfl ?_
    rw [checkV, if_neg (by simp [h])]; rfl
  · have hm := h
    have h3 := h2 hm
    rw [checkV, if_pos hm]
    repeat' (first | refine Tri.seq ?_ | refine Tri.reg ?_ | refine TriL.nil ?_ | (apply U.moveT; rfl; trivial; rfl) | (apply U.assignT; rfl; trivial; rfl) | (apply U.bin; rfl; trivial; rfl; trivial; rfl; rfl) | (apply U.pickb; rfl; trivial; rfl; (first | trivial | exact id | exact And.right | exact gvA | exact gvB | exact And.left | exact gvN | exact gvP2 | exact gvN2 | exact gvLA); rfl; (first | trivial | exact id | exact And.right | exact gvA | exact gvB | exact And.left | exact gvN | exact gvP2 | exact gvN2 | exact gvLA); rfl) | (apply G.moveT; rfl; (first | trivial | exact id | exact And.right | exact gvA | exact gvB | exact And.left | exact gvN | exact gvP2 | exact gvN2 | exact gvLA); rfl; rfl; rfl) | (apply G.bin; rfl; (first | trivial | exact id | exact And.right | exact gvA | exact gvB | exact And.left | exact gvN | exact gvP2 | exact gvN2 | exact gvLA); rfl; (first | trivial | exact id | exact And.right | exact gvA | exact gvB | exact And.left | exact gvN | exact gvP2 | exact gvN2 | exact gvLA); rfl; rfl; rfl; rfl) | refine U.call2 rfl rfl rfl (by assumption) rfl ?_ | refine Tri.skip ?_ | refine Tri.ret ?_ | (refine Tri.cond rfl (fun h => ?_) (fun h => ?_) <;> (try simp at h) <;> (try contradiction)) | fail)
    · refine Comes1.ret rfl ?_
      rw [if_pos (by omega)]; rfl
    · refine Comes1.ret rfl ?_
      rw [if_neg (by omega)]; rfl
theorem vcheckR_p (t : Ty) (v : Val) (ht : small t) (hs : smallV v) : E.Pure Tryz.prog 7 [encTy t, encVal v] (.one (.t (tInt (checkV t v)))) := by
  have h1 := may_p t ht
  have h2 : mayB t = true → E.Pure Tryz.prog 22 [encTy t, encVal v] (.one (.t (tInt (partV v t)))) := fun h => partsR_p _ v t (Nat.le_refl _) hs (may_k h).1 (may_k h).2
  refine Pure.of1 Tryz.func7 rfl rfl (Nat.le_of_ble_eq_true rfl) rfl ?_
  rw [encTy_eta] at h1 h2 ⊢
  rw [encVal_eta] at h2 ⊢
  repeat' (first | refine Tri.seq ?_ | refine Tri.reg ?_ | refine TriL.nil ?_ | (apply U.assignT; rfl; trivial; rfl) | (apply U.loadS; rfl; rfl; trivial; rfl; rfl; rfl; rfl; rfl) | (apply U.not; rfl; trivial; rfl) | (apply U.boxA; rfl; rfl) | refine U.call1 rfl rfl (by assumption) rfl ?_ | refine Tri.skip ?_ | refine Tri.ret ?_ | (refine Tri.cond rfl (fun h => ?_) (fun h => ?_) <;> (try simp at h) <;> (try contradiction)) | fail)
  · refine Comes1.ret rfl ?_
    rw [checkV, if_neg (by simp [h])]; rfl
  · have hm := h
    have h3 := h2 hm
    rw [checkV, if_pos hm]
    repeat' (first | refine Tri.seq ?_ | refine Tri.reg ?_ | refine TriL.nil ?_ | (apply U.assignT; rfl; trivial; rfl) | (apply U.bin; rfl; trivial; rfl; trivial; rfl; rfl) | refine U.call2 rfl rfl rfl (by assumption) rfl ?_ | refine Tri.skip ?_ | refine Tri.ret ?_ | (refine Tri.cond rfl (fun h => ?_) (fun h => ?_) <;> (try simp at h) <;> (try contradiction)) | fail)
    · refine Comes1.ret rfl ?_
      rw [if_pos (by omega)]; rfl
    · refine Comes1.ret rfl ?_
      rw [if_neg (by omega)]; rfl
end Go.Proofs.YtmhbibfkhbaclaaGreatDoor
