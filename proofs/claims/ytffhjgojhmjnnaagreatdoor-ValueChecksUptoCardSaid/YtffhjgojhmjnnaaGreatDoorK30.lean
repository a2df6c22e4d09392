/- Is it a value of a type, are they a function's arguments? The laws ValueChecks, ValueArgs. -/
import Derived.Test.YtffhjgojhmjnnaaGreatDoorK21
import Derived.Test.YtffhjgojhmjnnaaGreatDoorK22
import Derived.Test.YtffhjgojhmjnnaaGreatDoorK25
import Derived.Test.YtffhjgojhmjnnaaGreatDoorK29
namespace Go.Proofs.YtffhjgojhmjnnaaGreatDoor
open Go E
set_option maxRecDepth 100000
set_option maxHeartbeats 4000000
set_option linter.unusedVariables false
set_option linter.unusedSimpArgs false
attribute [local irreducible] Tri TriL TriO PO VO E.Pure DOb XOb
theorem may_k {t : Ty} (h : mayB t = true) : Vd t ∧ t.kind ≠ 0 := by
  have hv := (may_vd h).1
  simp only [mayB, Bool.and_eq_true, decide_eq_true_eq] at h
  refine ⟨hv, ?_⟩
  have h1 := h.1
  rw [deepB_eq, Bool.and_eq_true, Bool.and_eq_true] at h1
  have := own_pos h1.1.2
  omega
theorem vcheck_p (HN : LexName) (t : Ty) (v : Val) (ht : small t) (hs : smallV v) : E.Pure Tryz.prog 10 [encTy t, encVal v] (.one (.t (tInt (checkV t v)))) := by
  have h1 := check_p HN t ht
  have h2 : mayB t = true → E.Pure Tryz.prog 23 [encTy t, encVal v] (.one (.t (tInt (partV v t)))) := fun h => vparts_p _ v t (Nat.le_refl _) hs (may_k h).1 (may_k h).2
  have hle := partV_le v t
  refine Pure.of1 Tryz.func10 rfl rfl (Nat.le_of_ble_eq_true rfl) rfl ?_
  rw [encTy_eta] at h1 h2 ⊢
  rw [encVal_eta] at h2 ⊢
  repeat' (first | refine Tri.seq ?_ | refine Tri.reg ?_ | refine TriL.nil ?_ | (apply U.assignT; rfl; trivial; rfl) | (apply U.bin; rfl; trivial; rfl; trivial; rfl; rfl) | (apply U.loadS; rfl; rfl; trivial; rfl; rfl; rfl; rfl; rfl) | (apply U.boxA; rfl; rfl) | refine U.call1 rfl rfl (by assumption) rfl ?_ | refine Tri.skip ?_ | refine Tri.ret ?_ | (refine Tri.cond rfl (fun h => ?_) (fun h => ?_) <;> (try simp at h) <;> (try contradiction)) | fail)
  · refine Comes1.ret rfl ?_
    rw [checkV, if_neg (by simp [h])]; rfl
  · have hm := h
    have h3 := h2 hm
    rw [checkV, if_pos hm]
    repeat' (first | refine Tri.seq ?_ | refine Tri.reg ?_ | refine TriL.nil ?_ | (apply U.moveT; rfl; trivial; rfl) | (apply U.assignT; rfl; trivial; rfl) | (apply U.bin; rfl; trivial; rfl; trivial; rfl; rfl) | (apply U.pickb; rfl; trivial; rfl; (first | trivial | exact id | exact And.right | exact gvA | exact gvB | exact And.left | exact gvN | exact gvP2 | exact gvN2 | exact gvLA); rfl; (first | trivial | exact id | exact And.right | exact gvA | exact gvB | exact And.left | exact gvN | exact gvP2 | exact gvN2 | exact gvLA); rfl) | (apply G.moveT; rfl; (first | trivial | exact id | exact And.right | exact gvA | exact gvB | exact And.left | exact gvN | exact gvP2 | exact gvN2 | exact gvLA); rfl; rfl; rfl) | (apply G.bin; rfl; (first | trivial | exact id | exact And.right | exact gvA | exact gvB | exact And.left | exact gvN | exact gvP2 | exact gvN2 | exact gvLA); rfl; (first | trivial | exact id | exact And.right | exact gvA | exact gvB | exact And.left | exact gvN | exact gvP2 | exact gvN2 | exact gvLA); rfl; rfl; rfl; rfl) | refine U.call2 rfl rfl rfl (by assumption) rfl ?_ | refine Tri.skip ?_ | refine Tri.ret ?_ | (refine Tri.cond rfl (fun h => ?_) (fun h => ?_) <;> (try simp at h) <;> (try contradiction)) | fail)
    · refine Comes1.ret rfl ?_
      rw [if_pos (by omega)]; rfl
    · refine Comes1.ret rfl ?_
      rw [if_neg (by omega)]; rfl
theorem vcheckR_p (t : Ty) (v : Val) (ht : small t) (hs : smallV v) : E.Pure Tryz.prog 11 [encTy t, encVal v] (.one (.t (tInt (checkV t v)))) := by
  have h1 := may_p t ht
  have h2 : mayB t = true → E.Pure Tryz.prog 24 [encTy t, encVal v] (.one (.t (tInt (partV v t)))) := fun h => partsR_p _ v t (Nat.le_refl _) hs (may_k h).1 (may_k h).2
  refine Pure.of1 Tryz.func11 rfl rfl (Nat.le_of_ble_eq_true rfl) rfl ?_
  rw [encTy_eta] at h1 h2 ⊢
  rw [encVal_eta] at h2 ⊢
  repeat' (first | refine Tri.seq ?_ | refine Tri.reg ?_ | refine TriL.nil ?_ | (apply U.assignT; rfl; trivial; rfl) | (apply U.loadS; rfl; rfl; trivial; rfl; rfl; rfl; rfl; rfl) | (apply U.not; rfl; trivial; rfl) | (apply U.boxA; rfl; rfl) | refine U.call1 rfl rfl (by assumption) rfl ?_ | refine Tri.skip ?_ | refine Tri.ret ?_ | (refine Tri.cond rfl (fun h => ?_) (fun h => ?_) <;> (try simp at h) <;> (try contradiction)) | fail)
  · refine Comes1.ret rfl ?_
    rw [checkV, if_neg (by simp [h])]; rfl
  · have hm := h
    have h3 := h2 hm
    rw [checkV, if_pos hm]
    repeat' (first | refine Tri.seq ?_ | refine Tri.reg ?_ | refine TriL.nil ?_ | (apply U.assignT; rfl; trivial; rfl) | (apply U.bin; rfl; trivial; rfl; trivial; rfl; rfl) | refine U.call2 rfl rfl rfl (by assumption) rfl ?_ | refine Tri.skip ?_ | refine Tri.ret ?_ | (refine Tri.cond rfl (fun h => ?_) (fun h => ?_) <;> (try simp at h) <;> (try contradiction)) | fail)
    · refine Comes1.ret rfl ?_
      rw [if_pos (by omega)]; rfl
    · refine Comes1.ret rfl ?_
      rw [if_neg (by omega)]; rfl
theorem valueChecks_p (t : Ty) (v : Val) (ht : small t) (hs : smallV v) : E.Pure Tryz.prog 3 [encTy t, encVal v] (.one (.t (tBool true))) := by
  have h1 := light_p v hs
  have h2 := vcheck_p lexName_p t v ht hs
  have h3 := vcheckR_p t v ht hs
  have h4 := awake_p
  refine Pure.of1 Tryz.func3 rfl rfl (Nat.le_of_ble_eq_true rfl) rfl ?_
  rw [encTy_eta] at h2 h3 ⊢
  rw [encVal_eta] at h1 h2 h3 ⊢
  repeat' (first | refine Tri.seq ?_ | refine Tri.reg ?_ | refine TriL.nil ?_ | (apply U.assignT; rfl; trivial; rfl) | (apply U.loadS; rfl; rfl; trivial; rfl; rfl; rfl; rfl; rfl) | (apply U.not; rfl; trivial; rfl) | (apply U.boxA; rfl; rfl) | refine U.call1 rfl rfl (by assumption) rfl ?_ | refine Tri.skip ?_ | refine Tri.ret ?_ | refine U.call0 rfl (by assumption) rfl ?_ | (refine Tri.cond rfl (fun h => ?_) (fun h => ?_) <;> (try simp at h) <;> (try contradiction)) | fail)
  · exact Comes1.ret rfl rfl
  · refine Tri.sub (s2 := ⟨[(3, .ptr 1 0), (2, .ptr 0 0)], Tryz.f3.ntmps, [(1, .obj [.t (.v (.int .i64 v.n)), .t (.sl v.ns (v.s.map tInt)), .t (.sl v.nl (encVals v.l))]), (0, .obj [.t (.v (.int .i64 t.kind)), .t (.sl t.nn (t.names.map tStr)), .t (.sl t.nl (encTys t.l)), .t (.v (.int .i64 t.r))])], 0, 2⟩) (Sub.of rfl rfl ⟨rfl, rfl, trivial⟩ ⟨rfl, rfl, trivial⟩) ?_
    refine Tri.regX mixed (by kernel_rfl) rfl rfl ?_
    repeat' (first | refine TriL.nil ?_ | exact Yes.mk rfl | refine X.nil ?_ | (apply X.a; rfl) | exact ⟨rfl, rfl, rfl⟩ | (apply U.moveT; rfl; trivial; rfl) | (apply U.assignT; rfl; trivial; rfl) | (apply U.bin; rfl; trivial; rfl; trivial; rfl; rfl) | (apply U.loadS; rfl; rfl; trivial; rfl; rfl; rfl; rfl; rfl) | (apply U.pickb; rfl; trivial; rfl; (first | trivial | exact id | exact And.right | exact gvA | exact gvB | exact And.left | exact gvN | exact gvP2 | exact gvN2 | exact gvLA); rfl; (first | trivial | exact id | exact And.right | exact gvA | exact gvB | exact And.left | exact gvN | exact gvP2 | exact gvN2 | exact gvLA); rfl) | refine U.call2 rfl rfl rfl (by assumption) rfl ?_ | refine Tri.ret ?_ | refine G.call0 rfl (by first | assumption | exact fun _ => by assumption) rfl rfl rfl ?_ | fail)
    refine Comes1.ret rfl (retB ?_)
    simp
end Go.Proofs.YtffhjgojhmjnnaaGreatDoor
