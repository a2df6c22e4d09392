/- The law ValueHandles. -/
import Derived.Test.YtffhjgojhmjnnaaGreatDoorK31
import Derived.Test.YtffhjgojhmjnnaaGreatDoorK32
namespace Go.Proofs.YtffhjgojhmjnnaaGreatDoor
open Go E
set_option maxRecDepth 100000
set_option maxHeartbeats 4000000
set_option linter.unusedVariables false
set_option linter.unusedSimpArgs false
attribute [local irreducible] Tri TriL TriO PO VO E.Pure DOb XOb
def hT (t : Ty) (v : Val) : List Ty := if checkV t v = 0 then hnT v t else []
def hN (t : Ty) (v : Val) : List Int := if checkV t v = 0 then hnN v t else []
theorem check_ok {t : Ty} {v : Val} (h : checkV t v = 0) : mayB t = true ∧ partV v t ≠ 0 := by
  unfold checkV at h
  split at h
  · rename_i hm
    split at h
    · cases h
    · rename_i hp; exact ⟨hm, hp⟩
  · cases h
theorem Handles_p (t : Ty) (v : Val) (ht : small t) (hs : smallV v) : E.Pure Tryz.prog 18 [encTy t, encVal v] (.tup [.t (hTree (hT t v)), .t (nTree (hN t v))]) := by
  have h1 := vcheck_p lexName_p t v ht hs
  have h2 : checkV t v = 0 → E.Pure Tryz.prog 36 [encTy t, encVal v] (.tup [.t (hTree (hnT v t)), .t (nTree (hnN v t))]) := fun h =>
    let ⟨a, b⟩ := check_ok h
    handles_p _ v t (Nat.le_refl _) hs (may_k a).1 (may_k a).2 b
  refine Pure.of2 Tryz.func18 rfl rfl (Nat.le_of_ble_eq_true rfl) rfl ?_
  rw [encTy_eta] at h1 h2 ⊢
  rw [encVal_eta] at h1 h2 ⊢
  repeat' (first | refine Tri.seq ?_ | refine Tri.reg ?_ | refine TriL.nil ?_ | (apply U.assignT; rfl; trivial; rfl) | (apply U.bin; rfl; trivial; rfl; trivial; rfl; rfl) | (apply U.loadS; rfl; rfl; trivial; rfl; rfl; rfl; rfl; rfl) | (apply U.boxA; rfl; rfl) | refine U.call2 rfl rfl rfl (by assumption) rfl ?_ | refine Tri.skip ?_ | refine Tri.ret ?_ | (refine Tri.cond rfl (fun h => ?_) (fun h => ?_) <;> (try simp at h) <;> (try contradiction)) | fail)
  · rw [hT, hN, if_neg h, if_neg h]
    exact Comes2.trees (.inr rfl) rfl rfl
  · have h3 := h2 h
    rw [hT, hN, if_pos h, if_pos h]
    repeat' (first | refine TriL.nil ?_ | (apply U.assignT; rfl; trivial; rfl) | (apply U.ext; rfl; trivial; rfl; rfl) | refine Tri.ret ?_ | refine U.callP2 rfl rfl rfl (by assumption) rfl ?_ | fail)
    exact Comes2.trees (.inr rfl) rfl rfl
theorem get_ag {l : List Ty} {i : Nat} (h : i < l.length) : (l.map agTy)[((i : Nat) : Int).toNat]? = some (agTy l[i]) := by
  rw [Int.toNat_natCast, List.getElem?_map, List.getElem?_eq_getElem h]; rfl
theorem valueHandles_p (t : Ty) (v : Val) (ht : small t) (hs : smallV v) : E.Pure Tryz.prog 7 [encTy t, encVal v] (.one (.t (tBool true))) := by
  have h1 := light_p v hs
  have h2 := Handles_p t v ht hs
  have h3 := vcheckR_p t v ht hs
  have h4 : checkV t v = 0 → E.Pure Tryz.prog 19 [encTy t, encVal v] (.tup [.t (hTree (hnT v t)), .t (nTree (hnN v t))]) := fun h =>
    let ⟨a, b⟩ := check_ok h
    handlesR_p _ v t (Nat.le_refl _) hs (may_k a).1 (may_k a).2 b
  have h5 := awake_p
  have hlT : checkV t v = 0 → (hnT v t).length ≤ 4000 := fun h => Nat.le_trans (hn_le v t (check_ok h).2) (partV_le v t)
  have hlN := hn_len v t
  refine Pure.of1 Tryz.func7 rfl rfl (Nat.le_of_ble_eq_true rfl) rfl ?_
  rw [encTy_eta] at h2 h3 h4 ⊢
  rw [encVal_eta] at h1 h2 h3 h4 ⊢
  repeat' (first | refine Tri.seq ?_ | refine Tri.reg ?_ | refine TriL.nil ?_ | (apply U.moveT; rfl; trivial; rfl) | (apply U.assignT; rfl; trivial; rfl) | (apply U.moveU; rfl; trivial; rfl) | (apply U.bin; rfl; trivial; rfl; trivial; rfl; rfl) | (apply U.len; rfl; trivial; rfl) | (apply U.loadS; rfl; rfl; trivial; rfl; rfl; rfl; rfl; rfl) | (apply U.ext; rfl; trivial; rfl; rfl) | (apply U.not; rfl; trivial; rfl) | (apply U.pickb; rfl; trivial; rfl; (first | trivial | exact id | exact And.right | exact gvA | exact gvB | exact And.left | exact gvN | exact gvP2 | exact gvN2 | exact gvLA); rfl; (first | trivial | exact id | exact And.right | exact gvA | exact gvB | exact And.left | exact gvN | exact gvP2 | exact gvN2 | exact gvLA); rfl) | (apply U.boxA; rfl; rfl) | (apply G.moveT; rfl; (first | trivial | exact id | exact And.right | exact gvA | exact gvB | exact And.left | exact gvN | exact gvP2 | exact gvN2 | exact gvLA); rfl; rfl; rfl) | (apply G.bin; rfl; (first | trivial | exact id | exact And.right | exact gvA | exact gvB | exact And.left | exact gvN | exact gvP2 | exact gvN2 | exact gvLA); rfl; (first | trivial | exact id | exact And.right | exact gvA | exact gvB | exact And.left | exact gvN | exact gvP2 | exact gvN2 | exact gvLA); rfl; rfl; rfl; rfl) | (apply G.len; rfl; (first | trivial | exact id | exact And.right | exact gvA | exact gvB | exact And.left | exact gvN | exact gvP2 | exact gvN2 | exact gvLA); rfl; rfl; rfl) | refine U.call1 rfl rfl (by assumption) rfl ?_ | refine U.call2 rfl rfl rfl (by assumption) rfl ?_ | refine Tri.skip ?_ | refine Tri.ret ?_ | refine U.call0 rfl (by assumption) rfl ?_ | refine G.call0 rfl (by first | assumption | exact fun _ => by assumption) rfl rfl rfl ?_ | refine U.callP2 rfl rfl rfl (by assumption) rfl ?_ | (refine Tri.cond rfl (fun h => ?_) (fun h => ?_) <;> (try simp at h) <;> (try contradiction)) | fail)
  · exact Comes1.ret rfl rfl
  · refine Comes1.ret rfl (retV ?_)
    simp [hT, hN, h]
  · have h6 := h4 h
    have eT : hT t v = hnT v t := if_pos h
    have eN : hN t v = hnN v t := if_pos h
    have hl1 := hlT h
    have hl2 : (hnN v t).length ≤ big := by unfold big; omega
    rw [eT, eN]
    have hsame := sameInts_p (hnN v t) (hnN v t) (hnN v t).isEmpty (hnN v t).isEmpty hl2 hl2
    generalize hnT v t = A at *
    generalize hnN v t = B at *
    repeat' (first | refine Tri.seq ?_ | refine Tri.reg ?_ | refine TriL.nil ?_ | (apply U.moveT; rfl; trivial; rfl) | (apply U.assignT; rfl; trivial; rfl) | (apply U.moveU; rfl; trivial; rfl) | (apply U.bin; rfl; trivial; rfl; trivial; rfl; rfl) | (apply U.len; rfl; trivial; rfl) | (apply U.ext; rfl; trivial; rfl; rfl) | refine Tri.skip ?_ | refine Tri.block ?_ | refine U.callP2 rfl rfl rfl (by assumption) rfl ?_ | (refine Tri.cond rfl (fun h => ?_) (fun h => ?_) <;> (try simp at h) <;> (try contradiction)) | fail)
    refine Tri.loopS (α := Nat) (fun i => ⟨[(9, .t (tInt i)), (8, .t (nTree B)), (7, .t (hTree A)), (6, .t (nTree B)), (5, .t (hTree A))], Tryz.f7.ntmps, [], 0, 2⟩)
      (fun i => i ≤ A.length) (fun i => A.length - i) 0 ?_ ?_ ?_
    · exact Nat.zero_le _
    · exact Sub.of rfl rfl ⟨rfl, rfl, rfl, rfl, rfl, trivial⟩ trivial
    · rintro i hi
      repeat' (first | refine Tri.seq ?_ | refine Tri.reg ?_ | refine TriL.nil ?_ | (apply U.moveT; rfl; trivial; rfl) | (apply U.assignT; rfl; trivial; rfl) | (apply U.bin; rfl; trivial; rfl; trivial; rfl; rfl) | (apply U.len; rfl; trivial; rfl) | (apply U.pickb; rfl; trivial; rfl; (first | trivial | exact id | exact And.right | exact gvA | exact gvB | exact And.left | exact gvN | exact gvP2 | exact gvN2 | exact gvLA); rfl; (first | trivial | exact id | exact And.right | exact gvA | exact gvB | exact And.left | exact gvN | exact gvP2 | exact gvN2 | exact gvLA); rfl) | refine U.call2 rfl rfl rfl (by assumption) rfl ?_ | refine Tri.skip ?_ | refine Tri.block ?_ | refine Tri.exit ?_ | refine Tri.ret ?_ | refine G.call0 rfl (by first | assumption | exact fun _ => by assumption) rfl rfl rfl ?_ | (refine Tri.cond rfl (fun h => ?_) (fun h => ?_) <;> (try simp at h) <;> (try contradiction)) | fail)
      · have hg := get_ag h
        refine Tri.regX mixed (by kernel_rfl) rfl rfl ?_
        repeat' (first | refine Tri.reg ?_ | refine TriL.nil ?_ | exact Yes.mk rfl | refine X.nil ?_ | (apply X.a; rfl) | exact ⟨rfl, rfl, rfl⟩ | (apply U.moveT; rfl; trivial; rfl) | (apply U.assignT; rfl; trivial; rfl) | (apply U.add; rfl; trivial; rfl; trivial; exact fun _ => wrap_i64 (by omega) (by omega); rfl) | (apply U.bin; rfl; trivial; rfl; trivial; rfl; rfl) | (apply U.loadE; rfl; rfl; trivial; rfl; rfl) | (apply U.fldE; rfl; trivial; rfl; infer_instance; decide; rfl) | (apply U.pickb; rfl; trivial; rfl; (first | trivial | exact id | exact And.right | exact gvA | exact gvB | exact And.left | exact gvN | exact gvP2 | exact gvN2 | exact gvLA); rfl; (first | trivial | exact id | exact And.right | exact gvA | exact gvB | exact And.left | exact gvN | exact gvP2 | exact gvN2 | exact gvLA); rfl) | (apply U.idx; rfl; trivial; rfl; trivial; exact fun _ => (by omega); exact fun _ => (by assumption); exact fun _ => rfl; rfl) | (apply G.moveT; rfl; (first | trivial | exact id | exact And.right | exact gvA | exact gvB | exact And.left | exact gvN | exact gvP2 | exact gvN2 | exact gvLA); rfl; rfl; rfl) | (apply G.bin; rfl; (first | trivial | exact id | exact And.right | exact gvA | exact gvB | exact And.left | exact gvN | exact gvP2 | exact gvN2 | exact gvLA); rfl; (first | trivial | exact id | exact And.right | exact gvA | exact gvB | exact And.left | exact gvN | exact gvP2 | exact gvN2 | exact gvLA); rfl; rfl; rfl; rfl) | (apply G.loadE; rfl; rfl; (first | trivial | exact id | exact And.right | exact gvA | exact gvB | exact And.left | exact gvN | exact gvP2 | exact gvN2 | exact gvLA); rfl; rfl; rfl; rfl) | (apply G.fldE; rfl; (first | trivial | exact id | exact And.right | exact gvA | exact gvB | exact And.left | exact gvN | exact gvP2 | exact gvN2 | exact gvLA); rfl; infer_instance; decide; rfl; rfl; rfl) | (apply G.idx; rfl; (first | trivial | exact id | exact And.right | exact gvA | exact gvB | exact And.left | exact gvN | exact gvP2 | exact gvN2 | exact gvLA); rfl; (first | trivial | exact id | exact And.right | exact gvA | exact gvB | exact And.left | exact gvN | exact gvP2 | exact gvN2 | exact gvLA); exact fun _ => (by omega); exact fun _ => (by assumption); exact fun _ => rfl; rfl; rfl; rfl) | refine Tri.skip ?_ | (refine Tri.cond rfl (fun h => ?_) (fun h => ?_) <;> (try simp at h) <;> (try contradiction)) | fail)
        refine ⟨i + 1, by omega, by omega, Sub.of rfl rfl ⟨rfl, rfl, rfl, rfl, rfl, trivial⟩ trivial⟩
      · refine Comes1.ret rfl (retV ?_)
        simp
end Go.Proofs.YtffhjgojhmjnnaaGreatDoor
