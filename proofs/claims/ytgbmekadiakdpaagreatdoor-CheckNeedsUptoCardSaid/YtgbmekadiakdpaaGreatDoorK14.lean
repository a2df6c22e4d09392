/- What a function needs: the code's, the reference's. -/
import Derived.Test.YtgbmekadiakdpaaGreatDoorK7
import Derived.Test.YtgbmekadiakdpaaGreatDoorK13
namespace Go.Proofs.YtgbmekadiakdpaaGreatDoor
open Go E
set_option maxRecDepth 100000
set_option maxHeartbeats 4000000
set_option linter.unusedVariables false
set_option linter.unusedSimpArgs false
attribute [local irreducible] Tri TriL TriO PO VO E.Pure DOb XOb
def wideB (s : Sg) : Bool := maySgB s && decide (16 < (rowN s.t).length)
def longB (s : Sg) : Bool := mayB s.r && decide (1 < (flN s.r).length)
theorem argsT_p (HN : LexName) (s : Sg) (hs : smallSg s) : E.Pure Tryz.prog 42 [encSg s] (.one (.t (iT (if maySgB s then rowN s.t else [])))) := by
  have h1 := args_p HN s hs
  generalize (if maySgB s then rowN s.t else []) = l at h1 ⊢
  cases l with
  | nil => exact h1
  | cons x xs => exact h1.frz
theorem wide_p (HN : LexName) (s : Sg) (hs : smallSg s) : E.Pure Tryz.prog 21 [encSg s] (.one (.t (tBool (wideB s)))) := by
  have h1 := argsT_p HN s hs
  refine Pure.of1 Tryz.func21 rfl rfl (Nat.le_of_ble_eq_true rfl) rfl ?_
  rw [encSg_eta] at h1 ⊢
  repeat' (first | refine Tri.seq ?_ | refine Tri.reg ?_ | refine TriL.nil ?_ | (apply U.assignT; rfl; trivial; rfl) | (apply U.bin; rfl; trivial; rfl; trivial; rfl; rfl) | (apply U.len; rfl; trivial; rfl) | (apply U.loadS; rfl; rfl; trivial; rfl; rfl; rfl; rfl; rfl) | (apply U.boxA; rfl; rfl) | refine U.call1 rfl rfl (by assumption) rfl ?_ | refine Tri.ret ?_ | fail)
  refine Comes1.ret rfl (retB ?_)
  unfold wideB
  cases maySgB s <;> simp <;> omega
theorem long_p (HN : LexName) (s : Sg) (hs : smallSg s) : E.Pure Tryz.prog 23 [encSg s] (.one (.t (tBool (longB s)))) := by
  have h1 := Flat_p HN s.r hs.r
  rw [encTy_eta] at h1
  refine Pure.of1 Tryz.func23 rfl rfl (Nat.le_of_ble_eq_true rfl) rfl ?_
  rw [encSg_eta]
  repeat' (first | refine Tri.seq ?_ | refine Tri.reg ?_ | refine TriL.nil ?_ | (apply U.assignT; rfl; trivial; rfl) | (apply U.fld; rfl; trivial; rfl; infer_instance; decide; rfl) | (apply U.bin; rfl; trivial; rfl; trivial; rfl; rfl) | (apply U.len; rfl; trivial; rfl) | (apply U.loadS; rfl; rfl; trivial; rfl; rfl; rfl; rfl; rfl) | (apply U.boxA; rfl; rfl) | refine U.call1 rfl rfl (by assumption) rfl ?_ | refine Tri.ret ?_ | fail)
  refine Comes1.ret rfl (retB ?_)
  unfold longB
  cases mayB s.r <;> simp <;> omega
theorem rowT_p (s : Sg) (hm : maySgB s = true) : E.Pure Tryz.prog 45 [.sl s.nt (encTys s.t)] (.one (.t (iT (rowN s.t)))) := by
  have ho := maySg_ok hm
  have hr := ho.row
  refine row_core s.t s.nt (by have := ho.t; unfold big; omega) (fun i hi => ?_) (by omega)
  have hmem := List.getElem_mem hi
  have := cores_p _ s.t[i] (Nat.le_refl _) ((ho.el _ hmem).1.gd (ho.el _ hmem).2)
  rwa [encTy_eta] at this
theorem wideR_p (s : Sg) (hs : smallSg s) : E.Pure Tryz.prog 24 [encSg s] (.one (.t (tBool (wideB s)))) := by
  have h1 := maySig_p s hs
  have h2 : maySgB s = true → E.Pure Tryz.prog 45 [.sl s.nt (encTys s.t)] (.one (.t (iT (rowN s.t)))) := rowT_p s
  refine Pure.of1 Tryz.func24 rfl rfl (Nat.le_of_ble_eq_true rfl) rfl ?_
  rw [encSg_eta] at h1 ⊢
  repeat' (first | refine Tri.seq ?_ | refine Tri.reg ?_ | refine TriL.nil ?_ | (apply U.moveT; rfl; trivial; rfl) | (apply U.assignT; rfl; trivial; rfl) | (apply U.loadS; rfl; rfl; trivial; rfl; rfl; rfl; rfl; rfl) | (apply U.pickb; rfl; trivial; rfl; (first | trivial | exact id | exact And.right | exact gvA | exact gvB | exact And.left | exact gvN | exact gvP2 | exact gvN2 | exact gvLA); rfl; (first | trivial | exact id | exact And.right | exact gvA | exact gvB | exact And.left | exact gvN | exact gvP2 | exact gvN2 | exact gvLA); rfl) | (apply U.boxA; rfl; rfl) | (apply G.load; rfl; rfl; (first | trivial | exact id | exact And.right | exact gvA | exact gvB | exact And.left | exact gvN | exact gvP2 | exact gvN2 | exact gvLA); rfl; rfl; rfl; rfl; rfl) | (apply G.fld; rfl; (first | trivial | exact id | exact And.right | exact gvA | exact gvB | exact And.left | exact gvN | exact gvP2 | exact gvN2 | exact gvLA); rfl; infer_instance; decide; rfl; rfl; rfl) | (apply G.bin; rfl; (first | trivial | exact id | exact And.right | exact gvA | exact gvB | exact And.left | exact gvN | exact gvP2 | exact gvN2 | exact gvLA); rfl; (first | trivial | exact id | exact And.right | exact gvA | exact gvB | exact And.left | exact gvN | exact gvP2 | exact gvN2 | exact gvLA); rfl; rfl; rfl; rfl) | (apply G.len; rfl; (first | trivial | exact id | exact And.right | exact gvA | exact gvB | exact And.left | exact gvN | exact gvP2 | exact gvN2 | exact gvLA); rfl; rfl; rfl) | refine U.call1 rfl rfl (by assumption) rfl ?_ | refine G.call1 rfl rfl (by (first | trivial | exact id | exact And.right | exact gvA | exact gvB | exact And.left | exact gvN | exact gvP2 | exact gvN2 | exact gvLA)) (by first | assumption | exact fun _ => by assumption) rfl rfl rfl ?_ | refine Tri.ret ?_ | fail)
  refine Comes1.ret rfl (retB ?_)
  unfold wideB
  cases maySgB s <;> simp <;> omega
theorem longR_p (s : Sg) (hs : smallSg s) : E.Pure Tryz.prog 25 [encSg s] (.one (.t (tBool (longB s)))) := by
  have h1 := may_p s.r hs.r
  have h2 : mayB s.r = true → E.Pure Tryz.prog 46 [encTy s.r] (.one (.t (iT (flN s.r)))) := fun hm =>
    cores_p _ s.r (Nat.le_refl _) ((may_vd hm).1.gd (may_vd hm).2)
  rw [encTy_eta] at h1 h2
  refine Pure.of1 Tryz.func25 rfl rfl (Nat.le_of_ble_eq_true rfl) rfl ?_
  rw [encSg_eta]
  repeat' (first | refine Tri.seq ?_ | refine Tri.reg ?_ | refine TriL.nil ?_ | (apply U.moveT; rfl; trivial; rfl) | (apply U.assignT; rfl; trivial; rfl) | (apply U.fld; rfl; trivial; rfl; infer_instance; decide; rfl) | (apply U.loadS; rfl; rfl; trivial; rfl; rfl; rfl; rfl; rfl) | (apply U.pickb; rfl; trivial; rfl; (first | trivial | exact id | exact And.right | exact gvA | exact gvB | exact And.left | exact gvN | exact gvP2 | exact gvN2 | exact gvLA); rfl; (first | trivial | exact id | exact And.right | exact gvA | exact gvB | exact And.left | exact gvN | exact gvP2 | exact gvN2 | exact gvLA); rfl) | (apply U.boxA; rfl; rfl) | (apply G.fld; rfl; (first | trivial | exact id | exact And.right | exact gvA | exact gvB | exact And.left | exact gvN | exact gvP2 | exact gvN2 | exact gvLA); rfl; infer_instance; decide; rfl; rfl; rfl) | (apply G.bin; rfl; (first | trivial | exact id | exact And.right | exact gvA | exact gvB | exact And.left | exact gvN | exact gvP2 | exact gvN2 | exact gvLA); rfl; (first | trivial | exact id | exact And.right | exact gvA | exact gvB | exact And.left | exact gvN | exact gvP2 | exact gvN2 | exact gvLA); rfl; rfl; rfl; rfl) | (apply G.len; rfl; (first | trivial | exact id | exact And.right | exact gvA | exact gvB | exact And.left | exact gvN | exact gvP2 | exact gvN2 | exact gvLA); rfl; rfl; rfl) | (apply G.loadS; rfl; rfl; (first | trivial | exact id | exact And.right | exact gvA | exact gvB | exact And.left | exact gvN | exact gvP2 | exact gvN2 | exact gvLA); rfl; rfl; rfl; rfl; rfl; rfl; rfl) | refine U.call1 rfl rfl (by assumption) rfl ?_ | refine G.call1 rfl rfl (by (first | trivial | exact id | exact And.right | exact gvA | exact gvB | exact And.left | exact gvN | exact gvP2 | exact gvN2 | exact gvLA)) (by first | assumption | exact fun _ => by assumption) rfl rfl rfl ?_ | refine Tri.ret ?_ | fail)
  refine Comes1.ret rfl (retB ?_)
  unfold longB
  cases mayB s.r <;> simp <;> omega
end Go.Proofs.YtgbmekadiakdpaaGreatDoor

/- What a function needs: Needs, Lowered; the law CheckNeeds. -/
namespace Go.Proofs.YtgbmekadiakdpaaGreatDoor
open Go E
set_option maxRecDepth 100000
set_option maxHeartbeats 4000000
set_option linter.unusedVariables false
set_option linter.unusedSimpArgs false
attribute [local irreducible] Tri TriL TriO PO VO E.Pure DOb XOb
def ndIn (s : Sg) : Bool := wideB s || memsB s.t
def ndOut (s : Sg) : Bool := ndIn s || longB s || memB s.r
theorem needs_p (HN : LexName) (s : Sg) (hs : smallSg s) : E.Pure Tryz.prog 12 [encSg s] (.tup [.t (tBool (ndOut s)), .t (tBool (ndIn s))]) := by
  have h1 := wide_p HN s hs
  have h2 := long_p HN s hs
  have h3 := needsMem_p _ s.r (Nat.le_refl _) hs.r
  have h4 := containsM_p s.t s.nt hs.t fun i hlt => by
    have := needsMem_p _ s.t[i] (Nat.le_refl _) (smalls_get hs.ts (List.getElem?_eq_getElem hlt))
    rwa [encTy_eta] at this
  rw [encTy_eta] at h3
  refine Pure.of2 Tryz.func12 rfl rfl (Nat.le_of_ble_eq_true rfl) rfl ?_
  rw [encSg_eta] at h1 h2 ⊢
  repeat' (first | refine Tri.seq ?_ | refine Tri.reg ?_ | refine TriL.nil ?_ | (apply U.moveT; rfl; trivial; rfl) | (apply U.assignT; rfl; trivial; rfl) | (apply U.loadS; rfl; rfl; trivial; rfl; rfl; rfl; rfl; rfl) | (apply U.pickb; rfl; trivial; rfl; (first | trivial | exact id | exact And.right | exact gvA | exact gvB | exact And.left | exact gvN | exact gvP2 | exact gvN2 | exact gvLA); rfl; (first | trivial | exact id | exact And.right | exact gvA | exact gvB | exact And.left | exact gvN | exact gvP2 | exact gvN2 | exact gvLA); rfl) | (apply U.boxA; rfl; rfl) | (apply G.load; rfl; rfl; (first | trivial | exact id | exact And.right | exact gvA | exact gvB | exact And.left | exact gvN | exact gvP2 | exact gvN2 | exact gvLA); rfl; rfl; rfl; rfl; rfl) | (apply G.fld; rfl; (first | trivial | exact id | exact And.right | exact gvA | exact gvB | exact And.left | exact gvN | exact gvP2 | exact gvN2 | exact gvLA); rfl; infer_instance; decide; rfl; rfl; rfl) | (apply G.loadS; rfl; rfl; (first | trivial | exact id | exact And.right | exact gvA | exact gvB | exact And.left | exact gvN | exact gvP2 | exact gvN2 | exact gvLA); rfl; rfl; rfl; rfl; rfl; rfl; rfl) | refine U.call1 rfl rfl (by assumption) rfl ?_ | refine G.call1 rfl rfl (by (first | trivial | exact id | exact And.right | exact gvA | exact gvB | exact And.left | exact gvN | exact gvP2 | exact gvN2 | exact gvLA)) (by first | assumption | exact fun _ => by assumption) rfl rfl rfl ?_ | refine G.call2 rfl rfl (by (first | trivial | exact id | exact And.right | exact gvA | exact gvB | exact And.left | exact gvN | exact gvP2 | exact gvN2 | exact gvLA)) rfl (by (first | trivial | exact id | exact And.right | exact gvA | exact gvB | exact And.left | exact gvN | exact gvP2 | exact gvN2 | exact gvLA)) (by first | assumption | exact fun _ => by assumption) rfl rfl rfl ?_ | refine Tri.ret ?_ | fail)
  refine Comes2.trees (.inr rfl) (congrArg some (congrArg tBool (?_ : _ = ndOut s))) (congrArg some (congrArg tBool (?_ : _ = ndIn s)))
  · unfold ndOut ndIn; cases wideB s <;> cases memsB s.t <;> cases longB s <;> cases memB s.r <;> rfl
  · unfold ndIn; cases wideB s <;> cases memsB s.t <;> rfl
theorem needsR_p (s : Sg) (hs : smallSg s) : E.Pure Tryz.prog 14 [encSg s] (.tup [.t (tBool (ndOut s)), .t (tBool (ndIn s))]) := by
  have h1 := wideR_p s hs
  have h2 := longR_p s hs
  have h3 := needsMemR_p _ s.r (Nat.le_refl _) hs.r
  have hb := hs.t
  unfold big at hb
  have hlen := encTys_length s.t
  rw [encTy_eta] at h3
  refine Pure.of2 Tryz.func14 rfl rfl (Nat.le_of_ble_eq_true rfl) rfl ?_
  rw [encSg_eta] at h1 h2 ⊢
  repeat' (first | refine Tri.seq ?_ | refine Tri.reg ?_ | refine TriL.nil ?_ | (apply U.assignT; rfl; trivial; rfl) | (apply U.loadS; rfl; rfl; trivial; rfl; rfl; rfl; rfl; rfl) | (apply U.boxA; rfl; rfl) | refine U.call1 rfl rfl (by assumption) rfl ?_ | refine Tri.block ?_ | fail)
  refine Tri.loopS (α := Nat × Bool) (fun a => ⟨[(5, .t (tInt a.1)), (4, .t (tBool a.2)), (1, .ptr 0 0)], Tryz.f14.ntmps, [(0, .obj [.t (.v (.string s.name)), .t (.sl s.np (s.p.map tStr)), .t (.sl s.nt (encTys s.t)), .t (.v (.int .i64 s.r.kind)), .t (.sl s.r.nn (s.r.names.map tStr)), .t (.sl s.r.nl (encTys s.r.l)), .t (.v (.int .i64 s.r.r))])], 0, 1⟩)
    (fun a => a.1 ≤ s.t.length ∧ ndIn s = (a.2 || memsB (s.t.drop a.1))) (fun a => s.t.length - a.1) (0, wideB s) ?_ ?_ ?_
  · exact ⟨Nat.zero_le _, rfl⟩
  · exact Sub.of rfl rfl ⟨rfl, rfl, rfl, trivial⟩ ⟨rfl, trivial⟩
  · rintro ⟨i, b⟩ ⟨hi, hd⟩
    dsimp only at hi hd ⊢
    repeat' (first | refine Tri.seq ?_ | refine Tri.reg ?_ | refine TriL.nil ?_ | (apply U.moveT; rfl; trivial; rfl) | (apply U.assignT; rfl; trivial; rfl) | (apply U.load; rfl; rfl; trivial; rfl; rfl; rfl) | (apply U.fld; rfl; trivial; rfl; infer_instance; decide; rfl) | (apply U.bin; rfl; trivial; rfl; trivial; rfl; rfl) | (apply U.len; rfl; trivial; rfl) | (apply U.pickb; rfl; trivial; rfl; (first | trivial | exact id | exact And.right | exact gvA | exact gvB | exact And.left | exact gvN | exact gvP2 | exact gvN2 | exact gvLA); rfl; (first | trivial | exact id | exact And.right | exact gvA | exact gvB | exact And.left | exact gvN | exact gvP2 | exact gvN2 | exact gvLA); rfl) | (apply G.moveT; rfl; (first | trivial | exact id | exact And.right | exact gvA | exact gvB | exact And.left | exact gvN | exact gvP2 | exact gvN2 | exact gvLA); rfl; rfl; rfl) | (apply G.load; rfl; rfl; (first | trivial | exact id | exact And.right | exact gvA | exact gvB | exact And.left | exact gvN | exact gvP2 | exact gvN2 | exact gvLA); rfl; rfl; rfl; rfl; rfl) | (apply G.fld; rfl; (first | trivial | exact id | exact And.right | exact gvA | exact gvB | exact And.left | exact gvN | exact gvP2 | exact gvN2 | exact gvLA); rfl; infer_instance; decide; rfl; rfl; rfl) | (apply G.loadS; rfl; rfl; (first | trivial | exact id | exact And.right | exact gvA | exact gvB | exact And.left | exact gvN | exact gvP2 | exact gvN2 | exact gvLA); rfl; rfl; rfl; rfl; rfl; rfl; rfl) | refine G.call1 rfl rfl (by (first | trivial | exact id | exact And.right | exact gvA | exact gvB | exact And.left | exact gvN | exact gvP2 | exact gvN2 | exact gvLA)) (by first | assumption | exact fun _ => by assumption) rfl rfl rfl ?_ | refine Tri.skip ?_ | refine Tri.block ?_ | refine Tri.exit ?_ | refine Tri.ret ?_ | (refine Tri.cond rfl (fun h => ?_) (fun h => ?_) <;> (try simp at h) <;> (try contradiction)) | fail)
    · have hlt : i < s.t.length := by omega
      have hget := get_ty hlt
      have hstep := memsB_step s.t i hlt
      have hel := needsMemR_p _ s.t[i] (Nat.le_refl _) (smalls_get hs.ts (List.getElem?_eq_getElem hlt))
      rw [encTy_eta] at hel
      cases b with
      | true =>
        repeat' (first | refine Tri.reg ?_ | refine TriL.nil ?_ | (apply U.moveT; rfl; trivial; rfl) | (apply U.assignT; rfl; trivial; rfl) | (apply U.add; rfl; trivial; rfl; trivial; exact fun _ => wrap_i64 (by omega) (by omega); rfl) | (apply U.pickb; rfl; trivial; rfl; (first | trivial | exact id | exact And.right | exact gvA | exact gvB | exact And.left | exact gvN | exact gvP2 | exact gvN2 | exact gvLA); rfl; (first | trivial | exact id | exact And.right | exact gvA | exact gvB | exact And.left | exact gvN | exact gvP2 | exact gvN2 | exact gvLA); rfl) | (apply G.loadES; rfl; rfl; (first | trivial | exact id | exact And.right | exact gvA | exact gvB | exact And.left | exact gvN | exact gvP2 | exact gvN2 | exact gvLA); rfl; rfl; rfl; rfl; rfl) | (apply G.idx; rfl; (first | trivial | exact id | exact And.right | exact gvA | exact gvB | exact And.left | exact gvN | exact gvP2 | exact gvN2 | exact gvLA); rfl; (first | trivial | exact id | exact And.right | exact gvA | exact gvB | exact And.left | exact gvN | exact gvP2 | exact gvN2 | exact gvLA); exact fun _ => (by omega); exact fun _ => (by assumption); exact fun _ => rfl; rfl; rfl; rfl) | refine G.call1 rfl rfl (by (first | trivial | exact id | exact And.right | exact gvA | exact gvB | exact And.left | exact gvN | exact gvP2 | exact gvN2 | exact gvLA)) (by first | assumption | exact fun _ => by assumption) rfl rfl rfl ?_ | fail)
        refine ⟨(i + 1, true), ⟨by dsimp only; omega, by rw [hd]; rfl⟩, by dsimp only; omega, Sub.of rfl rfl ⟨rfl, rfl, rfl, trivial⟩ ⟨rfl, trivial⟩⟩
      | false =>
        repeat' (first | refine Tri.reg ?_ | refine TriL.nil ?_ | (apply U.moveT; rfl; trivial; rfl) | (apply U.assignT; rfl; trivial; rfl) | (apply U.add; rfl; trivial; rfl; trivial; exact fun _ => wrap_i64 (by omega) (by omega); rfl) | (apply U.pickb; rfl; trivial; rfl; (first | trivial | exact id | exact And.right | exact gvA | exact gvB | exact And.left | exact gvN | exact gvP2 | exact gvN2 | exact gvLA); rfl; (first | trivial | exact id | exact And.right | exact gvA | exact gvB | exact And.left | exact gvN | exact gvP2 | exact gvN2 | exact gvLA); rfl) | (apply G.loadES; rfl; rfl; (first | trivial | exact id | exact And.right | exact gvA | exact gvB | exact And.left | exact gvN | exact gvP2 | exact gvN2 | exact gvLA); rfl; rfl; rfl; rfl; rfl) | (apply G.idx; rfl; (first | trivial | exact id | exact And.right | exact gvA | exact gvB | exact And.left | exact gvN | exact gvP2 | exact gvN2 | exact gvLA); rfl; (first | trivial | exact id | exact And.right | exact gvA | exact gvB | exact And.left | exact gvN | exact gvP2 | exact gvN2 | exact gvLA); exact fun _ => (by omega); exact fun _ => (by assumption); exact fun _ => rfl; rfl; rfl; rfl) | refine G.call1 rfl rfl (by (first | trivial | exact id | exact And.right | exact gvA | exact gvB | exact And.left | exact gvN | exact gvP2 | exact gvN2 | exact gvLA)) (by first | assumption | exact fun _ => by assumption) rfl rfl rfl ?_ | fail)
        refine ⟨(i + 1, memB s.t[i]), ⟨by dsimp only; omega, by rw [hd, hstep]; rfl⟩, by dsimp only; omega, Sub.of rfl rfl ⟨rfl, rfl, rfl, trivial⟩ ⟨rfl, trivial⟩⟩
    · have : i = s.t.length := by omega
      subst this
      rw [List.drop_length] at hd
      have hd : ndIn s = b := by rw [hd]; simp [memsB]
      skip
      refine Comes2.trees (.inr rfl) (congrArg some (congrArg tBool (?_ : _ = ndOut s))) (congrArg some (congrArg tBool (?_ : _ = ndIn s)))
      · unfold ndOut; rw [hd]; cases b <;> cases longB s <;> cases memB s.r <;> rfl
      · exact hd.symm
theorem lowered_p (HN : LexName) (s : Sg) (hs : smallSg s) : E.Pure Tryz.prog 6 [encSg s] (.tup [.t (tBool (ndOut s)), .t (tBool (memB s.r))]) := by
  have h1 := needs_p HN s hs
  have h3 := needsMem_p _ s.r (Nat.le_refl _) hs.r
  rw [encTy_eta] at h3
  refine Pure.of2 Tryz.func6 rfl rfl (Nat.le_of_ble_eq_true rfl) rfl ?_
  rw [encSg_eta] at h1 ⊢
  repeat' (first | refine Tri.seq ?_ | refine Tri.reg ?_ | refine TriL.nil ?_ | (apply U.moveT; rfl; trivial; rfl) | (apply U.assignT; rfl; trivial; rfl) | (apply U.moveU; rfl; trivial; rfl) | (apply U.fld; rfl; trivial; rfl; infer_instance; decide; rfl) | (apply U.loadS; rfl; rfl; trivial; rfl; rfl; rfl; rfl; rfl) | (apply U.ext; rfl; trivial; rfl; rfl) | (apply U.boxA; rfl; rfl) | refine U.call1 rfl rfl (by assumption) rfl ?_ | refine Tri.ret ?_ | refine U.callP1 rfl rfl (by assumption) rfl ?_ | fail)
  exact Comes2.trees (.inr rfl) rfl rfl
theorem loweredR_p (s : Sg) (hs : smallSg s) : E.Pure Tryz.prog 7 [encSg s] (.tup [.t (tBool (ndOut s)), .t (tBool (memB s.r))]) := by
  have h1 := needsR_p s hs
  have h3 := needsMemR_p _ s.r (Nat.le_refl _) hs.r
  rw [encTy_eta] at h3
  refine Pure.of2 Tryz.func7 rfl rfl (Nat.le_of_ble_eq_true rfl) rfl ?_
  rw [encSg_eta] at h1 ⊢
  repeat' (first | refine Tri.seq ?_ | refine Tri.reg ?_ | refine TriL.nil ?_ | (apply U.moveT; rfl; trivial; rfl) | (apply U.assignT; rfl; trivial; rfl) | (apply U.moveU; rfl; trivial; rfl) | (apply U.fld; rfl; trivial; rfl; infer_instance; decide; rfl) | (apply U.loadS; rfl; rfl; trivial; rfl; rfl; rfl; rfl; rfl) | (apply U.ext; rfl; trivial; rfl; rfl) | (apply U.boxA; rfl; rfl) | refine U.call1 rfl rfl (by assumption) rfl ?_ | refine Tri.ret ?_ | refine U.callP1 rfl rfl (by assumption) rfl ?_ | fail)
  exact Comes2.trees (.inr rfl) rfl rfl
end Go.Proofs.YtgbmekadiakdpaaGreatDoor
