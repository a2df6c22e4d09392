/- A heap that is none has nothing: the law StoreNone. -/
import Derived.Test.YtdiimgkopknbcaaGreatDoorK14
import Derived.Test.YtdiimgkopknbcaaGreatDoorK19
import Derived.Test.YtdiimgkopknbcaaGreatDoorK22
import Derived.Test.YtdiimgkopknbcaaGreatDoorK23
namespace Go.Proofs.YtdiimgkopknbcaaGreatDoor
open Go E
set_option maxRecDepth 100000
set_option maxHeartbeats 4000000
set_option linter.unusedVariables false
set_option linter.unusedSimpArgs false
attribute [local irreducible] Tri TriL TriO PO VO E.Pure DOb XOb TriM
theorem storeNone_p (t : Ty) (v : Val) (at_ en : Int) (ht : small t) (hs : smallV v) (ha : inI at_) (he : inI en) : E.Pure Tryz.prog 3 [encTy t, encVal v, tInt at_, tInt en] (.one (.t (tBool true))) := by
  have h1 := light_p v hs
  have h2 := awake_p
  rw [encVal_eta] at h1
  refine Pure.ofM (E := env) Tryz.func3 rfl rfl rfl ?_
  rw [encTy_eta, encVal_eta]
  refine TriM.seq (TriM.ofTri ?_)
  repeat' (first | refine Tri.reg ?_ | refine TriL.nil ?_ | (apply U.assignT; rfl; trivial; rfl) | (apply U.boxA; rfl; rfl) | fail)
  refine TriM.seq (TriM.ofTri ?_)
  repeat' (first | refine Tri.seq ?_ | refine Tri.reg ?_ | refine TriL.nil ?_ | (apply U.assignT; rfl; trivial; rfl) | (apply U.loadS; rfl; rfl; trivial; rfl; rfl; rfl; rfl; rfl) | (apply U.not; rfl; trivial; rfl) | refine U.call1 rfl rfl (by assumption) rfl ?_ | refine Tri.skip ?_ | refine Tri.ret ?_ | refine U.call0 rfl (by assumption) rfl ?_ | (refine Tri.cond rfl (fun h => ?_) (fun h => ?_) <;> (try simp at h) <;> (try contradiction)) | fail)
  · exact ⟨.inr rfl, rfl⟩
  · refine TriM.sub (s2 := ⟨tm0 at_ en, Tryz.f3.ntmps, blksT (hp0 t v), 0, 2⟩) (Sub.of rfl rfl ⟨rfl, rfl, rfl, rfl, trivial⟩ ⟨rfl, rfl, trivial⟩) ?_
    refine TriM.cut (E := env) (fuel := 1000000) 7 (tm1 at_ en) (hp1 t v) 7 (partA t v at_ en) (knows_ofT _ _ _ _ _) (Nat.zero_le _) rfl rfl ?_
    exact TriM.ofRun (E := env) (fuel := 1000000) (partB t v at_ en) (knows_ofT _ _ _ _ _)
end Go.Proofs.YtdiimgkopknbcaaGreatDoor
