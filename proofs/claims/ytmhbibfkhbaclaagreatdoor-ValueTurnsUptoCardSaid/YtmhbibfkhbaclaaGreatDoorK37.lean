/- The law ValueHandles. -/
import Derived.Test.YtmhbibfkhbaclaaGreatDoorK34
import Derived.Test.YtmhbibfkhbaclaaGreatDoorK36
namespace Go.Proofs.YtmhbibfkhbaclaaGreatDoor
open Go E
set_option maxRecDepth 100000
set_option maxHeartbeats 4000000
set_option linter.unusedVariables false
set_option linter.unusedSimpArgs false
attribute [local irreducible] Tri TriL TriO PO VO E.Pure DOb XOb
def hT (t : Ty) (v : Val) : List Ty := if checkV t v = 0 then hnT v t else []
def hN (t : Ty) (v : Val) : List Int := if checkV t v = 0 then hnN v t else []
theorem check_ok {t : Ty} {v : Val} (h : checkV t v = 0) : mayB t = true ∧ partV v t ≠ 0 := by
  unfold checkV at h
  split at h
  · rename_i hm
    split at h
    · cases h
    · rename_i hp; exact ⟨hm, hp⟩
  · cases h
theorem Handles_p (t : Ty) (v : Val) (ht : small t) (hs : smallV v) : E.Pure Tryz.prog 11 [encTy t, encVal v] (.tup [.t (hTree (hT t v)), .t (nTree (hN t v))]) := by
  have h1 := vcheck_p lexName_p t v ht hs
  have h2 : checkV t v = 0 → E.Pure Tryz.prog 17 [encTy t, encVal v] (.tup [.t (hTree (hnT v t)), .t (nTree (hnN v t))]) := fun h =>
    let ⟨a, b⟩ := check_ok h
    handles_p _ v t (Nat.le_refl _) hs (may_k a).1 (may_k a).2 b
  refine Pure.of2 Tryz.func11 rfl rfl (Nat.le_of_ble_eq_true rfl) rfl ?_
  rw [encTy_eta] at h1 h2 ⊢
  rw [encVal_eta] at h1 h2 ⊢
  repeat' (first | refine Tri.seq ?_ | refine Tri.reg ?_ | refine TriL.nil ?_ | (apply U.assignT; rfl; trivial; rfl) | (apply U.bin; rfl; trivial; rfl; trivial; rfl; rfl) | (apply U.loadS; rfl; rfl; trivial; rfl; rfl; rfl; rfl; rfl) | (apply U.boxA; rfl; rfl) | refine U.call2 rfl rfl rfl (by assumption) rfl ?_ | refine Tri.skip ?_ | refine Tri.ret ?_ | (refine Tri.cond rfl (fun h => ?_) (fun h => ?_) <;> (try simp at h) <;> (try contradiction)) | fail)
  · rw [hT, hN, if_neg h, if_neg h]
    exact Comes2.trees (.inr rfl) rfl rfl
  · have h3 := h2 h
    rw [hT, hN, if_pos h, if_pos h]
    repeat' (first | refine TriL.nil ?_ | (apply U.assignT; rfl; trivial; rfl) | (apply U.ext; rfl; trivial; rfl; rfl) | refine Tri.ret ?_ | refine U.callP2 rfl rfl rfl (by assumption) rfl ?_ | fail)
    exact Comes2.trees (.inr rfl) rfl rfl
end Go.Proofs.YtmhbibfkhbaclaaGreatDoor
