/- Is it a value of a type, are they a function's arguments? The laws ValueChecks, ValueArgs. -/
import Derived.Test.YtffhjgojhmjnnaaGreatDoorK21
import Derived.Test.YtffhjgojhmjnnaaGreatDoorK22
import Derived.Test.YtffhjgojhmjnnaaGreatDoorK25
import Derived.Test.YtffhjgojhmjnnaaGreatDoorK29
namespace Go.Proofs.YtffhjgojhmjnnaaGreatDoor
open Go E
set_option maxRecDepth 100000
set_option maxHeartbeats 4000000
set_option linter.unusedVariables false
set_option linter.unusedSimpArgs false
attribute [local irreducible] Tri TriL TriO PO VO E.Pure DOb XOb
theorem may_k {t : Ty} (h : mayB t = true) : Vd t ∧ t.kind ≠ 0 := by
  have hv := (may_vd h).1
  simp only [mayB, Bool.and_eq_true, decide_eq_true_eq] at h
  refine ⟨hv, ?_⟩
  have h1 := h.1
  rw [deepB_eq, Bool.and_eq_true, Bool.and_eq_true] at h1
  have := own_pos h1.1.2
  omega
theorem vcheck_p (HN : LexName) (t : Ty) (v : Val) (ht : small t) (hs : smallV v) : E.Pure Tryz.prog 10 [encTy t, encVal v] (.one (.t (tInt (checkV t v)))) := by
  have h1 := check_p HN t ht
  have h2 : mayB t = true → E.Pure Tryz.prog 23 [encTy t, encVal v] (.one (.t (tInt (partV v t)))) := fun h => vparts_p _ v t (Nat.le_refl _) hs (may_k h).1 (may_k h).2
  have hle := partV_le v t
  refine Pure.of1 Tryz.func10 rfl rfl (Nat.le_of_ble_eq_true rfl) rfl ?_
  rw [encTy_eta] at h1 h2 ⊢
  rw [encVal_eta] at h2 ⊢
  repeat' (first | refine Tri.seq ?_ | refine Tri.reg ?_ | refine TriL.nil ?_ | (apply U.assignT; rfl; trivial; rfl) | (apply U.bin; rfl; trivial; rfl; trivial; rfl; rfl) | (apply U.loadS; rfl; rfl; trivial; rfl; rfl; rfl; rfl; rfl) | (apply U.boxA; rfl; rfl) | refine U.call1 rfl rfl (by assumption) rfl ?_ | refine Tri.skip ?_ | refine Tri.ret ?_ | (refine Tri.cond rfl (fun h => ?_) (fun h => ?_) <;> (try simp at h) <;> (try contradiction)) | fail)
  · refine Comes1.ret rfl ?_
    rw [checkV, if_neg (by simp [h])]; rfl
  · have hm := h
    have h3 := h2 hm
    rw [checkV, if_pos hm]
    repeat' (first | refine Tri.seq ?_ | refine Tri.reg ?_ | refine TriL.nil ?_ | (apply U.moveT; rfl; trivial; rfl) | (apply U.assignT; rfl; trivial; rfl) | (apply U.bin; rfl; trivial; rfl; trivial; rfl; rfl) | (apply U.pickb; rfl; trivial; rfl; (first | trivial | exact id | exact And.right | exact gvA | exact gvB | exact And.left | exact gvN | exact gvP2 | exact gvN2 | exact gvLA); rfl; (first | trivial | exact id | exact And.right | exact gvA | exact gvB | exact And.left | exact gvN | exact gvP2 | exact gvN2 | exact gvLA); rfl) | (apply G.moveT; rfl; (first | trivial | exact id | exact And.right | exact gvA | exact gvB | exact And.left | exact gvN | exact gvP2 | exact gvN2 | exact gvLA); rfl; rfl; rfl) | (apply G.bin; rfl; (first | trivial | exact id | exact And.right | exact gvA | exact gvB | exact And.left | exact gvN | exact gvP2 | exact gvN2 | exact gvLA); rfl; (first | trivial | exact id | exact And.right | exact gvA | exact gvB | exact And.left | exact gvN | exact gvP2 | exact gvN2 | exact gvLA); rfl; rfl; rfl; rfl) | refine U.call2 rfl rfl rfl (by assumption) rfl ?_ | refine Tri.skip ?_ | refine Tri.ret ?_ | (refine Tri.cond rfl (fun h => ?_) (fun h => ?_) <;> (try simp at h) <;> (try contradiction)) | fail)
    · refine Comes1.ret rfl ?_
      rw [if_pos (by omega)]; rfl
    · refine Comes1.ret rfl ?_
      rw [if_neg (by omega)]; rfl
theorem vcheckR_p (t : Ty) (v : Val) (ht : small t) (hs : smallV v) : E.Pure Tryz.prog 11 [encTy t, encVal v] (.one (.t (tInt (checkV t v)))) := by
  have h1 := may_p t ht
  have h2 : mayB t = true → E.Pure Tryz.prog 24 [encTy t, encVal v] (.one (.t (tInt (partV v t)))) := fun h => partsR_p _ v t (Nat.le_refl _) hs (may_k h).1 (may_k h).2
  refine Pure.of1 Tryz.func11 rfl rfl (Nat.le_of_ble_eq_true rfl) rfl ?_
  rw [encTy_eta] at h1 h2 ⊢
  rw [encVal_eta] at h2 ⊢
  repeat' (first | refine Tri.seq ?_ | refine Tri.reg ?_ | refine TriL.nil ?_ | (apply U.assignT; rfl; trivial; rfl) | (apply U.loadS; rfl; rfl; trivial; rfl; rfl; rfl; rfl; rfl) | (apply U.not; rfl; trivial; rfl) | (apply U.boxA; rfl; rfl) | refine U.call1 rfl rfl (by assumption) rfl ?_ | refine Tri.skip ?_ | refine Tri.ret ?_ | (refine Tri.cond rfl (fun h => ?_) (fun h => ?_) <;> (try simp at h) <;> (try contradiction)) | fail)
  · refine Comes1.ret rfl ?_
    rw [checkV, if_neg (by simp [h])]; rfl
  · have hm := h
    have h3 := h2 hm
    rw [checkV, if_pos hm]
    repeat' (first | refine Tri.seq ?_ | refine Tri.reg ?_ | refine TriL.nil ?_ | (apply U.assignT; rfl; trivial; rfl) | (apply U.bin; rfl; trivial; rfl; trivial; rfl; rfl) | refine U.call2 rfl rfl rfl (by assumption) rfl ?_ | refine Tri.skip ?_ | refine Tri.ret ?_ | (refine Tri.cond rfl (fun h => ?_) (fun h => ?_) <;> (try simp at h) <;> (try contradiction)) | fail)
    · refine Comes1.ret rfl ?_
      rw [if_pos (by omega)]; rfl
    · refine Comes1.ret rfl ?_
      rw [if_neg (by omega)]; rfl
theorem valueChecks_p (t : Ty) (v : Val) (ht : small t) (hs : smallV v) : E.Pure Tryz.prog 3 [encTy t, encVal v] (.one (.t (tBool true))) := by
  have h1 := light_p v hs
  have h2 := vcheck_p lexName_p t v ht hs
  have h3 := vcheckR_p t v ht hs
  have h4 := awake_p
  refine Pure.of1 Tryz.func3 rfl rfl (Nat.le_of_ble_eq_true rfl) rfl ?_
  rw [encTy_eta] at h2 h3 ⊢
  rw [encVal_eta] at h1 h2 h3 ⊢
  repeat' (first | refine Tri.seq ?_ | refine Tri.reg ?_ | refine TriL.nil ?_ | (apply U.assignT; rfl; trivial; rfl) | (apply U.loadS; rfl; rfl; trivial; rfl; rfl; rfl; rfl; rfl) | (apply U.not; rfl; trivial; rfl) | (apply U.boxA; rfl; rfl) | refine U.call1 rfl rfl (by assumption) rfl ?_ | refine Tri.skip ?_ | refine Tri.ret ?_ | refine U.call0 rfl (by assumption) rfl ?_ | (refine Tri.cond rfl (fun h => ?_) (fun h => ?_) <;> (try simp at h) <;> (try contradiction)) | fail)
  · exact Comes1.ret rfl rfl
  · refine Tri.sub (s2 := ⟨[(3, .ptr 1 0), (2, .ptr 0 0)], Tryz.f3.ntmps, [(1, .obj [.t (.v (.int .i64 v.n)), .t (.sl v.ns (v.s.map tInt)), .t (.sl v.nl (encVals v.l))]), (0, .obj [.t (.v (.int .i64 t.kind)), .t (.sl t.nn (t.names.map tStr)), .t (.sl t.nl (encTys t.l)), .t (.v (.int .i64 t.r))])], 0, 2⟩) (Sub.of rfl rfl ⟨rfl, rfl, trivial⟩ ⟨rfl, rfl, trivial⟩) ?_
    refine Tri.regX mixed (by kernel_rfl) rfl rfl ?_
    repeat' (first | refine TriL.nil ?_ | exact Yes.mk rfl | refine X.nil ?_ | (apply X.a; rfl) | exact ⟨rfl, rfl, rfl⟩ | (apply U.moveT; rfl; trivial; rfl) | (apply U.assignT; rfl; trivial; rfl) | (apply U.bin; rfl; trivial; rfl; trivial; rfl; rfl) | (apply U.loadS; rfl; rfl; trivial; rfl; rfl; rfl; rfl; rfl) | (apply U.pickb; rfl; trivial; rfl; (first | trivial | exact id | exact And.right | exact gvA | exact gvB | exact And.left | exact gvN | exact gvP2 | exact gvN2 | exact gvLA); rfl; (first | trivial | exact id | exact And.right | exact gvA | exact gvB | exact And.left | exact gvN | exact gvP2 | exact gvN2 | exact gvLA); rfl) | refine U.call2 rfl rfl rfl (by assumption) rfl ?_ | refine Tri.ret ?_ | refine G.call0 rfl (by first | assumption | exact fun _ => by assumption) rfl rfl rfl ?_ | fail)
    refine Comes1.ret rfl (retB ?_)
    simp
end Go.Proofs.YtffhjgojhmjnnaaGreatDoor

/- May values be a function's arguments? The law ValueArgs. -/
namespace Go.Proofs.YtffhjgojhmjnnaaGreatDoor
open Go E
set_option maxRecDepth 100000
set_option maxHeartbeats 4000000
set_option linter.unusedVariables false
set_option linter.unusedSimpArgs false
attribute [local irreducible] Tri TriL TriO PO VO E.Pure DOb XOb
theorem mayAll_mem : ∀ {l : List Ty}, mayAll l = true → ∀ x ∈ l, mayB x = true
  | [], _, x, hx => by cases hx
  | t :: ts, h, x, hx => by
    rw [mayAll, Bool.and_eq_true] at h
    rcases List.mem_cons.1 hx with rfl | hx
    · exact h.1
    · exact mayAll_mem h.2 x hx
theorem maySg_el {s : Sg} (h : maySgB s = true) : ∀ x ∈ s.t, Vd x ∧ x.kind ≠ 0 := by
  intro x hx
  rw [maySgB, Bool.and_eq_true] at h
  exact may_k (mayAll_mem h.2 x hx)
theorem vargs_p (HN : LexName) (s : Sg) (l : List Val) (nl : Bool) (hs : smallSg s) (hl : smallVs l) (hb : l.length ≤ big) : E.Pure Tryz.prog 16 [encSg s, .sl nl (encVals l)] (.one (.t (tInt (argsV s l)))) := by
  have h1 := checkSig_p HN s hs
  have h2 : maySgB s = true → l.length = s.t.length → E.Pure Tryz.prog 33 [.sl s.nt (encTys s.t), .sl nl (encVals l)] (.one (.t (tInt (sumV l s.t 1)))) := fun h he => all_core s.t l s.nt nl hb (by omega) fun i hi hj => by
    obtain ⟨a1, a2⟩ := maySg_el h _ (List.getElem_mem hj)
    have := vparts_p _ l[i] s.t[i] (Nat.le_refl _) (smallVs_get hl (List.getElem?_eq_getElem hi)) a1 a2
    rwa [encTy_eta, encVal_eta] at this
  have hb' := hb
  unfold big at hb
  have hlen := encVals_length l
  have hlen2 := encTys_length s.t
  refine Pure.of1 Tryz.func16 rfl rfl (Nat.le_of_ble_eq_true rfl) rfl ?_
  rw [encSg_eta] at h1 ⊢
  repeat' (first | refine Tri.seq ?_ | refine Tri.reg ?_ | refine TriL.nil ?_ | (apply U.moveT; rfl; trivial; rfl) | (apply U.assignT; rfl; trivial; rfl) | (apply U.load; rfl; rfl; trivial; rfl; rfl; rfl) | (apply U.fld; rfl; trivial; rfl; infer_instance; decide; rfl) | (apply U.bin; rfl; trivial; rfl; trivial; rfl; rfl) | (apply U.len; rfl; trivial; rfl) | (apply U.loadS; rfl; rfl; trivial; rfl; rfl; rfl; rfl; rfl) | (apply U.boxA; rfl; rfl) | (apply G.moveT; rfl; (first | trivial | exact id | exact And.right | exact gvA | exact gvB | exact And.left | exact gvN | exact gvP2 | exact gvN2 | exact gvLA); rfl; rfl; rfl) | (apply G.load; rfl; rfl; (first | trivial | exact id | exact And.right | exact gvA | exact gvB | exact And.left | exact gvN | exact gvP2 | exact gvN2 | exact gvLA); rfl; rfl; rfl; rfl; rfl) | (apply G.fld; rfl; (first | trivial | exact id | exact And.right | exact gvA | exact gvB | exact And.left | exact gvN | exact gvP2 | exact gvN2 | exact gvLA); rfl; infer_instance; decide; rfl; rfl; rfl) | refine U.call1 rfl rfl (by assumption) rfl ?_ | refine Tri.skip ?_ | refine Tri.ret ?_ | (refine Tri.cond rfl (fun h => ?_) (fun h => ?_) <;> (try simp at h) <;> (try contradiction)) | fail)
  · refine Comes1.ret rfl ?_
    rw [argsV, if_neg (by simp [h])]; rfl
  · have hm := h
    have h3 : (!decide (((encVals l).length : Int) ≠ ((encTys s.t).length : Int))) = true → E.Pure Tryz.prog 33 [.sl s.nt (encTys s.t), .sl nl (encVals l)] (.one (.t (tInt (sumV l s.t 1)))) := fun e => h2 hm (by simp at e; omega)
    rw [argsV, if_pos hm]
    repeat' (first | refine Tri.seq ?_ | refine Tri.reg ?_ | refine TriL.nil ?_ | (apply U.assignT; rfl; trivial; rfl) | (apply U.pickb; rfl; trivial; rfl; (first | trivial | exact id | exact And.right | exact gvA | exact gvB | exact And.left | exact gvN | exact gvP2 | exact gvN2 | exact gvLA); rfl; (first | trivial | exact id | exact And.right | exact gvA | exact gvB | exact And.left | exact gvN | exact gvP2 | exact gvN2 | exact gvLA); rfl) | (apply G.bin; rfl; (first | trivial | exact id | exact And.right | exact gvA | exact gvB | exact And.left | exact gvN | exact gvP2 | exact gvN2 | exact gvLA); rfl; (first | trivial | exact id | exact And.right | exact gvA | exact gvB | exact And.left | exact gvN | exact gvP2 | exact gvN2 | exact gvLA); rfl; rfl; rfl; rfl) | refine G.call2 rfl rfl (by (first | trivial | exact id | exact And.right | exact gvA | exact gvB | exact And.left | exact gvN | exact gvP2 | exact gvN2 | exact gvLA)) rfl (by (first | trivial | exact id | exact And.right | exact gvA | exact gvB | exact And.left | exact gvN | exact gvP2 | exact gvN2 | exact gvLA)) (by first | assumption | exact fun _ => by assumption) rfl rfl rfl ?_ | refine Tri.skip ?_ | refine Tri.ret ?_ | (refine Tri.cond rfl (fun h => ?_) (fun h => ?_) <;> (try simp at h) <;> (try contradiction)) | fail)
    · refine Comes1.ret rfl ?_
      rw [if_neg (by omega)]; rfl
    · refine Comes1.ret rfl ?_
      rw [if_pos (by omega)]; rfl
theorem vargsR_p (s : Sg) (l : List Val) (nl : Bool) (hs : smallSg s) (hl : smallVs l) (hb : l.length ≤ big) : E.Pure Tryz.prog 17 [encSg s, .sl nl (encVals l)] (.one (.t (tInt (argsV s l)))) := by
  have h1 := maySig_p s hs
  have h2 : maySgB s = true → l.length = s.t.length → E.Pure Tryz.prog 35 [.sl s.nt (encTys s.t), .sl nl (encVals l)] (.one (.t (tInt (sumV l s.t 1)))) := fun h he => sumR_core s.t l s.nt nl hb (by omega) fun i hi hj => by
    obtain ⟨a1, a2⟩ := maySg_el h _ (List.getElem_mem hj)
    have := partsR_p _ l[i] s.t[i] (Nat.le_refl _) (smallVs_get hl (List.getElem?_eq_getElem hi)) a1 a2
    rwa [encTy_eta, encVal_eta] at this
  have hb' := hb
  unfold big at hb
  have hlen := encVals_length l
  have hlen2 := encTys_length s.t
  refine Pure.of1 Tryz.func17 rfl rfl (Nat.le_of_ble_eq_true rfl) rfl ?_
  rw [encSg_eta] at h1 ⊢
  repeat' (first | refine Tri.seq ?_ | refine Tri.reg ?_ | refine TriL.nil ?_ | (apply U.moveT; rfl; trivial; rfl) | (apply U.assignT; rfl; trivial; rfl) | (apply U.load; rfl; rfl; trivial; rfl; rfl; rfl) | (apply U.fld; rfl; trivial; rfl; infer_instance; decide; rfl) | (apply U.bin; rfl; trivial; rfl; trivial; rfl; rfl) | (apply U.len; rfl; trivial; rfl) | (apply U.loadS; rfl; rfl; trivial; rfl; rfl; rfl; rfl; rfl) | (apply U.not; rfl; trivial; rfl) | (apply U.boxA; rfl; rfl) | (apply G.moveT; rfl; (first | trivial | exact id | exact And.right | exact gvA | exact gvB | exact And.left | exact gvN | exact gvP2 | exact gvN2 | exact gvLA); rfl; rfl; rfl) | (apply G.load; rfl; rfl; (first | trivial | exact id | exact And.right | exact gvA | exact gvB | exact And.left | exact gvN | exact gvP2 | exact gvN2 | exact gvLA); rfl; rfl; rfl; rfl; rfl) | (apply G.fld; rfl; (first | trivial | exact id | exact And.right | exact gvA | exact gvB | exact And.left | exact gvN | exact gvP2 | exact gvN2 | exact gvLA); rfl; infer_instance; decide; rfl; rfl; rfl) | refine U.call1 rfl rfl (by assumption) rfl ?_ | refine Tri.skip ?_ | refine Tri.ret ?_ | (refine Tri.cond rfl (fun h => ?_) (fun h => ?_) <;> (try simp at h) <;> (try contradiction)) | fail)
  · refine Comes1.ret rfl ?_
    rw [argsV, if_neg (by simp [h])]; rfl
  · have hm := h
    have h3 : (!decide (((encVals l).length : Int) ≠ ((encTys s.t).length : Int))) = true → E.Pure Tryz.prog 35 [.sl s.nt (encTys s.t), .sl nl (encVals l)] (.one (.t (tInt (sumV l s.t 1)))) := fun e => h2 hm (by simp at e; omega)
    rw [argsV, if_pos hm]
    repeat' (first | refine Tri.seq ?_ | refine Tri.reg ?_ | refine TriL.nil ?_ | (apply U.assignT; rfl; trivial; rfl) | (apply U.pickb; rfl; trivial; rfl; (first | trivial | exact id | exact And.right | exact gvA | exact gvB | exact And.left | exact gvN | exact gvP2 | exact gvN2 | exact gvLA); rfl; (first | trivial | exact id | exact And.right | exact gvA | exact gvB | exact And.left | exact gvN | exact gvP2 | exact gvN2 | exact gvLA); rfl) | (apply G.bin; rfl; (first | trivial | exact id | exact And.right | exact gvA | exact gvB | exact And.left | exact gvN | exact gvP2 | exact gvN2 | exact gvLA); rfl; (first | trivial | exact id | exact And.right | exact gvA | exact gvB | exact And.left | exact gvN | exact gvP2 | exact gvN2 | exact gvLA); rfl; rfl; rfl; rfl) | refine G.call2 rfl rfl (by (first | trivial | exact id | exact And.right | exact gvA | exact gvB | exact And.left | exact gvN | exact gvP2 | exact gvN2 | exact gvLA)) rfl (by (first | trivial | exact id | exact And.right | exact gvA | exact gvB | exact And.left | exact gvN | exact gvP2 | exact gvN2 | exact gvLA)) (by first | assumption | exact fun _ => by assumption) rfl rfl rfl ?_ | refine Tri.skip ?_ | refine Tri.ret ?_ | (refine Tri.cond rfl (fun h => ?_) (fun h => ?_) <;> (try simp at h) <;> (try contradiction)) | fail)
    · refine Comes1.ret rfl ?_
      rw [if_neg (by omega)]; rfl
    · refine Comes1.ret rfl ?_
      rw [if_pos (by omega)]; rfl
theorem valueArgs_p (s : Sg) (l : List Val) (nl : Bool) (hs : smallSg s) (hl : l.length ≤ big ∧ smallVs l) : E.Pure Tryz.prog 6 [encSg s, .sl nl (encVals l)] (.one (.t (tBool true))) := by
  have h2 := vargs_p lexName_p s l nl hs hl.2 hl.1
  have h3 := vargsR_p s l nl hs hl.2 hl.1
  have h4 := awake_p
  have hb := hl.1
  unfold big at hb
  have hlen := encVals_length l
  refine Pure.of1 Tryz.func6 rfl rfl (Nat.le_of_ble_eq_true rfl) rfl ?_
  rw [encSg_eta] at h2 h3 ⊢
  repeat' (first | refine Tri.seq ?_ | refine Tri.reg ?_ | refine TriL.nil ?_ | (apply U.moveT; rfl; trivial; rfl) | (apply U.assignT; rfl; trivial; rfl) | (apply U.bin; rfl; trivial; rfl; trivial; rfl; rfl) | (apply U.len; rfl; trivial; rfl) | (apply U.boxA; rfl; rfl) | refine Tri.skip ?_ | refine Tri.block ?_ | refine Tri.ret ?_ | refine U.call0 rfl (by assumption) rfl ?_ | (refine Tri.cond rfl (fun h => ?_) (fun h => ?_) <;> (try simp at h) <;> (try contradiction)) | fail)
  · exact Comes1.ret rfl rfl
  · refine Tri.loopS (α := Nat) (fun i => ⟨[(5, .t (tInt i)), (2, .ptr 0 0), (1, .t (.sl nl (encVals l)))], Tryz.f6.ntmps, [(0, .obj [.t (.v (.string s.name)), .t (.sl s.np (s.p.map tStr)), .t (.sl s.nt (encTys s.t)), .t (.v (.int .i64 s.r.kind)), .t (.sl s.r.nn (s.r.names.map tStr)), .t (.sl s.r.nl (encTys s.r.l)), .t (.v (.int .i64 s.r.r))])], 0, 1⟩)
      (fun i => i ≤ l.length) (fun i => l.length - i) 0 (Nat.zero_le _) ?_ ?_
    · exact Sub.of rfl rfl ⟨rfl, rfl, rfl, trivial⟩ ⟨rfl, trivial⟩
    · intro i hi
      repeat' (first | refine Tri.seq ?_ | refine Tri.reg ?_ | refine TriL.nil ?_ | (apply U.moveT; rfl; trivial; rfl) | (apply U.bin; rfl; trivial; rfl; trivial; rfl; rfl) | (apply U.len; rfl; trivial; rfl) | refine Tri.skip ?_ | refine Tri.block ?_ | refine Tri.exit ?_ | (refine Tri.cond rfl (fun h => ?_) (fun h => ?_) <;> (try simp at h) <;> (try contradiction)) | fail)
      · have hlt : i < l.length := by omega
        have hget := get_val hlt
        have hc := light_p l[i] (smallVs_get hl.2 (List.getElem?_eq_getElem hlt))
        rw [encVal_eta] at hc
        repeat' (first | refine Tri.seq ?_ | refine Tri.reg ?_ | refine TriL.nil ?_ | (apply U.moveT; rfl; trivial; rfl) | (apply U.assignT; rfl; trivial; rfl) | (apply U.add; rfl; trivial; rfl; trivial; exact fun _ => wrap_i64 (by omega) (by omega); rfl) | (apply U.loadES; rfl; rfl; trivial; rfl; rfl; rfl) | (apply U.not; rfl; trivial; rfl) | (apply U.idx; rfl; trivial; rfl; trivial; exact fun _ => (by omega); exact fun _ => (by assumption); exact fun _ => rfl; rfl) | refine U.call1 rfl rfl (by assumption) rfl ?_ | refine Tri.skip ?_ | refine Tri.ret ?_ | refine U.call0 rfl (by assumption) rfl ?_ | (refine Tri.cond rfl (fun h => ?_) (fun h => ?_) <;> (try simp at h) <;> (try contradiction)) | fail)
        · exact Comes1.ret rfl rfl
        · exact ⟨i + 1, by omega, by omega, Sub.of rfl rfl ⟨rfl, rfl, rfl, trivial⟩ ⟨rfl, trivial⟩⟩
      · refine Tri.regX mixed (by kernel_rfl) rfl rfl ?_
        repeat' (first | refine TriL.nil ?_ | exact Yes.mk rfl | refine X.nil ?_ | (apply X.a; rfl) | exact ⟨rfl, rfl, rfl⟩ | (apply U.moveT; rfl; trivial; rfl) | (apply U.assignT; rfl; trivial; rfl) | (apply U.bin; rfl; trivial; rfl; trivial; rfl; rfl) | (apply U.loadS; rfl; rfl; trivial; rfl; rfl; rfl; rfl; rfl) | (apply U.pickb; rfl; trivial; rfl; (first | trivial | exact id | exact And.right | exact gvA | exact gvB | exact And.left | exact gvN | exact gvP2 | exact gvN2 | exact gvLA); rfl; (first | trivial | exact id | exact And.right | exact gvA | exact gvB | exact And.left | exact gvN | exact gvP2 | exact gvN2 | exact gvLA); rfl) | refine U.call2 rfl rfl rfl (by assumption) rfl ?_ | refine Tri.ret ?_ | refine G.call0 rfl (by first | assumption | exact fun _ => by assumption) rfl rfl rfl ?_ | fail)
        refine Comes1.ret rfl (retB ?_)
        simp
end Go.Proofs.YtffhjgojhmjnnaaGreatDoor
