/- The handles of a value: the reference's. -/
import Derived.Test.YtmhbibfkhbaclaaGreatDoorK32
namespace Go.Proofs.YtmhbibfkhbaclaaGreatDoor
open Go E
set_option maxRecDepth 100000
set_option maxHeartbeats 4000000
set_option linter.unusedVariables false
set_option linter.unusedSimpArgs false
attribute [local irreducible] Tri TriL TriO PO VO E.Pure DOb XOb
theorem handlesR_p : ∀ (m : Nat) (v : Val) (t : Ty), SizeOf.sizeOf v ≤ m → smallV v → Vd t → t.kind ≠ 0 → partV v t ≠ 0 → E.Pure Tryz.prog 9 [encTy t, encVal v] (.tup [.t (hTree (hnT v t)), .t (nTree (hnN v t))]) := by
  intro m
  induction m with
  | zero => intro v t hm; cases v; simp at hm
  | succ m ih =>
    intro v t hm hs hv hk0 hp
    have hb2 := smallV_l hs
    have hb2' := hb2
    have hle := partV_le v t
    have hle2 := hn_le v t hp
    have hnn := hn_len v t
    have hins := insideR_p t v hs hv hk0
    unfold big at hb2
    have hlen := encVals_length v.l
    have hk21 : t.kind ≤ 21 := by
      rcases hv.kinds with ⟨h, _⟩ | ⟨h6, h7, _⟩
      · exact absurd h hk0
      · exact h7
    refine Pure.of2 Tryz.func9 rfl rfl (Nat.le_of_ble_eq_true rfl) rfl ?_
    rw [encTy_eta, encVal_eta] at hins ⊢
    repeat' (first | refine Tri.seq ?_ | refine Tri.reg ?_ | refine TriL.nil ?_ | (apply U.assignT; rfl; trivial; rfl) | (apply U.moveU; rfl; trivial; rfl) | (apply U.load; rfl; rfl; trivial; rfl; rfl; rfl) | (apply U.fld; rfl; trivial; rfl; infer_instance; decide; rfl) | (apply U.bin; rfl; trivial; rfl; trivial; rfl; rfl) | (apply U.loadS; rfl; rfl; trivial; rfl; rfl; rfl; rfl; rfl) | (apply U.ext; rfl; trivial; rfl; rfl) | (apply U.boxA; rfl; rfl) | refine Tri.skip ?_ | refine Tri.block ?_ | refine U.callP2 rfl rfl rfl (by assumption) rfl ?_ | (refine Tri.cond rfl (fun h => ?_) (fun h => ?_) <;> (try simp at h) <;> (try contradiction)) | fail)
    · rw [hnT_eq, if_pos (by omega), hnN_eq, if_pos (by omega)]
      refine Tri.sub (s2 := ⟨[(3, .ptr 1 0), (2, .ptr 0 0)], Tryz.f9.ntmps, [(1, .obj [.t (.v (.int .i64 v.n)), .t (.sl v.ns (v.s.map tInt)), .t (.sl v.nl (encVals v.l))]), (0, .obj [.t (.v (.int .i64 t.kind)), .t (.sl t.nn (t.names.map tStr)), .t (.sl t.nl (encTys t.l)), .t (.v (.int .i64 t.r))])], 0, 2⟩) (Sub.of rfl rfl ⟨rfl, rfl, trivial⟩ ⟨rfl, rfl, trivial⟩) ?_
      refine Tri.regX mixed (by kernel_rfl) rfl rfl ?_
      repeat' (first | (apply X.v; rfl; (focus (repeat' (first | refine TriL.nil ?_ | exact ⟨rfl, rfl, rfl⟩ | (apply U.loadS; rfl; rfl; trivial; rfl; rfl; rfl; rfl; rfl) | fail))); exact Yes.mk rfl) | (apply X.a; rfl; (focus (repeat' (first | refine TriL.nil ?_ | exact ⟨rfl, rfl, rfl⟩ | (apply U.loadS; rfl; rfl; trivial; rfl; rfl; rfl; rfl; rfl) | fail))); exact Yes.mk rfl) | refine TriL.nil ?_ | exact ⟨rfl, rfl, rfl⟩ | (apply U.loadS; rfl; rfl; trivial; rfl; rfl; rfl; rfl; rfl) | fail)
      (apply X.v; rfl)
      · (apply U.litT; rfl; rfl; rfl; rfl; rfl; rfl; rfl; rfl)
        exact TriL.nil ⟨rfl, rfl, rfl⟩
      · exact Yes.mk rfl
      repeat' (first | (apply X.v; rfl; (focus (repeat' (first | refine TriL.nil ?_ | exact ⟨rfl, rfl, rfl⟩ | (apply U.load; rfl; rfl; trivial; rfl; rfl; rfl) | (apply U.fld; rfl; trivial; rfl; infer_instance; decide; rfl) | fail))); exact Yes.mk rfl) | (apply X.a; rfl; (focus (repeat' (first | refine TriL.nil ?_ | exact ⟨rfl, rfl, rfl⟩ | (apply U.load; rfl; rfl; trivial; rfl; rfl; rfl) | (apply U.fld; rfl; trivial; rfl; infer_instance; decide; rfl) | fail))); exact Yes.mk rfl) | refine TriL.nil ?_ | exact ⟨rfl, rfl, rfl⟩ | (apply U.load; rfl; rfl; trivial; rfl; rfl; rfl) | (apply U.fld; rfl; trivial; rfl; infer_instance; decide; rfl) | fail)
      (apply X.v; rfl)
      · (apply U.litT; rfl; rfl; rfl; rfl; rfl; rfl; rfl; rfl)
        exact TriL.nil ⟨rfl, rfl, rfl⟩
      · exact Yes.mk rfl
      repeat' (first | (apply X.v; rfl; (focus (repeat' (first | refine TriL.nil ?_ | exact ⟨rfl, rfl, rfl⟩ | (apply U.assignT; rfl; trivial; rfl) | fail))); exact Yes.mk rfl) | (apply X.a; rfl; (focus (repeat' (first | refine TriL.nil ?_ | exact ⟨rfl, rfl, rfl⟩ | (apply U.assignT; rfl; trivial; rfl) | fail))); exact Yes.mk rfl) | refine TriL.nil ?_ | refine X.nil ?_ | exact ⟨rfl, rfl, rfl⟩ | (apply U.assignT; rfl; trivial; rfl) | refine Tri.ret ?_ | fail)
      exact Comes2.trees (.inr rfl) rfl rfl
    · have hk := h
      have hk' : ¬(t.kind = 20 ∨ t.kind = 21) := by omega
      have hT : hnT v t = hnTs v.l (insL t v.n v.l.length) := by rw [hnT_eq, if_neg hk']
      have hN : hnN v t = hnNs v.l (insL t v.n v.l.length) := by rw [hnN_eq, if_neg hk']
      have hin : v.l ≠ [] → insB t v.n v.l.length = true ∧ sumV v.l (insL t v.n v.l.length) 1 ≠ 0 := fun e => (val_in hv hk0 hp hk' e).2.2
      have hil : v.l ≠ [] → (insL t v.n v.l.length).length = v.l.length := fun e => insL_len (hin e).1
      have hie : ∀ x ∈ insL t v.n v.l.length, Vd x ∧ x.kind ≠ 0 := fun x hx => insL_el hv hk0 hx
      have hrl : v.l ≠ [] → insR t v.n v.l.length = insL t v.n v.l.length := fun e => insR_ok (hin e).1
      have hrb : (encTys (insR t v.n v.l.length)).length ≤ 2000 ∨ v.l ≠ [] := by
        by_cases e : v.l = []
        · left
          have h64 := hv.dim.l
          rw [encTys_length, show v.l.length = 0 by rw [e]; rfl]
          unfold insR insL
          (repeat' split) <;> first | omega | (simp; done) | (simp; omega)
        · exact .inr e
      have hrb2 : (encTys (insR t v.n v.l.length)).length ≤ 140737488355328 := by
        rcases hrb with e | e
        · omega
        · rw [encTys_length, hrl e, hil e]; exact hb2
      generalize insL t v.n v.l.length = ts at *
      generalize insR t v.n v.l.length = tr at *
      generalize insN t v.n v.l.length = nlt at *
      rw [hT, hN]
      rw [hT, hN] at hnn
      rw [hT] at hle2
      refine Tri.loopL (α := Nat × List Ty × List Int) (fun a => match a with
          | (i, [], _) => ⟨[(10, .t (tInt i)), (8, .t (.sl nlt (encTys tr))), (7, .t (.sl true [])), (6, .t (.sl true [])), (3, .ptr 1 0), (2, .ptr 0 0)], Tryz.f9.ntmps, [(1, .obj [.t (.v (.int .i64 v.n)), .t (.sl v.ns (v.s.map tInt)), .t (.sl v.nl (encVals v.l))]), (0, .obj [.t (.v (.int .i64 t.kind)), .t (.sl t.nn (t.names.map tStr)), .t (.sl t.nl (encTys t.l)), .t (.v (.int .i64 t.r))])], 0, 2⟩
          | (i, a :: A, B) => ⟨[(10, .t (tInt i)), (8, .t (.sl nlt (encTys tr))), (7, .ref 3 1 0 B.length B.length), (6, .ref 2 4 0 (A.length + 1) (A.length + 1)), (3, .ptr 1 0), (2, .ptr 0 0)], Tryz.f9.ntmps, [(1, .obj [.t (.v (.int .i64 v.n)), .t (.sl v.ns (v.s.map tInt)), .t (.sl v.nl (encVals v.l))]), (0, .obj [.t (.v (.int .i64 t.kind)), .t (.sl t.nn (t.names.map tStr)), .t (.sl t.nl (encTys t.l)), .t (.v (.int .i64 t.r))]), (2, .row 4 ((a :: A).map agTy) false), (3, .row 1 (B.map tInt) false)], 0, 4⟩)
        (fun a => a.1 ≤ v.l.length ∧ a.2.1.length = a.2.2.length ∧ hnTs v.l ts = a.2.1 ++ hnTs (v.l.drop a.1) (ts.drop a.1) ∧ hnNs v.l ts = a.2.2 ++ hnNs (v.l.drop a.1) (ts.drop a.1)) (fun a => v.l.length - a.1) (0, [], []) ⟨Nat.zero_le _, rfl, rfl, rfl⟩ ?_ ?_
      · exact Sub.less (Sub.of rfl rfl ⟨rfl, rfl, rfl, rfl, rfl, rfl, trivial⟩ ⟨rfl, rfl, trivial⟩)
      · rintro ⟨i, A, B⟩ ⟨hi, hab, hA, hB⟩
        dsimp only at hi hab hA hB
        have hcap : A.length ≤ 4000 := by
          have := congrArg List.length hA
          rw [List.length_append] at this
          omega
        have hend : i < v.l.length → i < (encTys tr).length := fun hlt => by
          have hne : v.l ≠ [] := fun e => by rw [e] at hlt; exact absurd hlt (Nat.not_lt_zero i)
          rw [hrl hne, encTys_length, hil hne]; exact hlt
        cases A with
        | nil =>
          obtain rfl : B = [] := List.length_eq_zero_iff.1 (by simpa using hab.symm)
          dsimp only
          repeat' (first | refine Tri.seq ?_ | refine Tri.reg ?_ | refine TriL.nil ?_ | (apply U.moveT; rfl; trivial; rfl) | (apply U.assignT; rfl; trivial; rfl) | (apply U.load; rfl; rfl; trivial; rfl; rfl; rfl) | (apply U.fld; rfl; trivial; rfl; infer_instance; decide; rfl) | (apply U.bin; rfl; trivial; rfl; trivial; rfl; rfl) | (apply U.len; rfl; trivial; rfl) | (apply U.pickb; rfl; trivial; rfl; (first | trivial | exact id | exact And.right | exact gvA | exact gvB | exact And.left | exact gvN | exact gvP2 | exact gvN2 | exact gvLA); rfl; (first | trivial | exact id | exact And.right | exact gvA | exact gvB | exact And.left | exact gvN | exact gvP2 | exact gvN2 | exact gvLA); rfl) | (apply G.moveT; rfl; (first | trivial | exact id | exact And.right | exact gvA | exact gvB | exact And.left | exact gvN | exact gvP2 | exact gvN2 | exact gvLA); rfl; rfl; rfl) | (apply G.bin; rfl; (first | trivial | exact id | exact And.right | exact gvA | exact gvB | exact And.left | exact gvN | exact gvP2 | exact gvN2 | exact gvLA); rfl; (first | trivial | exact id | exact And.right | exact gvA | exact gvB | exact And.left | exact gvN | exact gvP2 | exact gvN2 | exact gvLA); rfl; rfl; rfl; rfl) | (apply G.len; rfl; (first | trivial | exact id | exact And.right | exact gvA | exact gvB | exact And.left | exact gvN | exact gvP2 | exact gvN2 | exact gvLA); rfl; rfl; rfl) | refine Tri.skip ?_ | refine Tri.block ?_ | refine Tri.exit ?_ | refine Tri.ret ?_ | (refine Tri.cond rfl (fun h => ?_) (fun h => ?_) <;> (try simp at h) <;> (try contradiction)) | fail)
          · have hlt : i < v.l.length := by omega
            have hne : v.l ≠ [] := fun e => by rw [e] at hlt; exact absurd hlt (Nat.not_lt_zero i)
            have hlt2 : i < ts.length := by rw [hil hne]; exact hlt
            have htr := hrl hne
            have hget := get_val hlt
            have hget2 : (encTys tr)[((i : Nat) : Int).toNat]? = some (agTy ts[i]) := by rw [htr]; exact get_ty hlt2
            obtain ⟨e1, e2⟩ := hie _ (List.getElem_mem hlt2)
            have hc2 := ih v.l[i] ts[i] (by have := vsize_get hlt v rfl; omega) (smallVs_get (smallV_ls hs) (List.getElem?_eq_getElem hlt)) e1 e2 (sumV_el _ _ _ (hin hne).2 (by rw [hil hne]; exact Nat.le_refl _) i hlt hlt2)
            have hl2 := hn_len v.l[i] ts[i]
            have hlr : (encTys tr).length = v.l.length := by rw [htr, encTys_length, hil hne]
            rw [hnTs_step hlt hlt2] at hA
            rw [hnNs_step hlt hlt2] at hB
            rw [encTy_eta, encVal_eta] at hc2
            have hcap2 : (hnT v.l[i] ts[i]).length ≤ 4000 := by
              have := congrArg List.length hA
              rw [List.length_append, List.length_append] at this
              omega
            cases ha : hnT v.l[i] ts[i] with
            | nil =>
              have hb0 : hnN v.l[i] ts[i] = [] := List.length_eq_zero_iff.1 (by rw [← hl2, ha]; rfl)
              rw [ha, hb0] at hc2
              rw [ha] at hA
              rw [hb0] at hB
              refine Tri.regX mixed (by kernel_rfl) rfl rfl ?_
              repeat' (first | refine Tri.seq ?_ | refine Tri.reg ?_ | refine TriL.nil ?_ | exact Yes.mk rfl | refine X.nil ?_ | (apply X.a; rfl) | exact ⟨rfl, rfl, rfl⟩ | (apply U.moveT; rfl; trivial; rfl) | (apply U.assignT; rfl; trivial; rfl) | (apply U.moveU; rfl; trivial; rfl) | (apply U.load; rfl; rfl; trivial; rfl; rfl; rfl) | (apply U.fld; rfl; trivial; rfl; infer_instance; decide; rfl) | (apply U.loadES; rfl; rfl; trivial; rfl; rfl; rfl) | (apply U.ext; rfl; trivial; rfl; rfl) | (apply U.idx; rfl; trivial; rfl; trivial; exact fun _ => (by omega); exact fun _ => (by assumption); exact fun _ => rfl; rfl) | refine U.callP2 rfl rfl rfl (by assumption) rfl ?_ | fail)
              refine U.appNil0 rfl (SrcE.row rfl (fun i x h => by simp at h)) rfl ?_
              repeat' (first | refine Tri.reg ?_ | refine TriL.nil ?_ | (apply U.moveT; rfl; trivial; rfl) | (apply U.assignT; rfl; trivial; rfl) | fail)
              refine U.appNil0 rfl (SrcE.row rfl (fun i x h => by simp at h)) rfl ?_
              repeat' (first | refine Tri.reg ?_ | refine TriL.nil ?_ | (apply U.moveT; rfl; trivial; rfl) | (apply U.assignT; rfl; trivial; rfl) | (apply U.add; rfl; trivial; rfl; trivial; exact fun _ => wrap_i64 (by omega) (by omega); rfl) | fail)
              exact ⟨(i + 1, [], []), ⟨by dsimp only; omega, rfl, by dsimp only; exact hA, by dsimp only; exact hB⟩, by dsimp only; omega, Sub.less (Sub.of rfl rfl ⟨rfl, rfl, rfl, rfl, rfl, rfl, trivial⟩ ⟨rfl, rfl, trivial⟩)⟩
            | cons x xs =>
              obtain ⟨y, ys, hb0⟩ : ∃ y ys, hnN v.l[i] ts[i] = y :: ys := by
                cases hb1 : hnN v.l[i] ts[i] with
                | nil => rw [ha, hb1] at hl2; cases hl2
                | cons y ys => exact ⟨y, ys, rfl⟩
              rw [ha, hb0] at hc2 hl2
              rw [ha] at hA hcap2
              rw [hb0] at hB
              refine Tri.regX mixed (by kernel_rfl) rfl rfl ?_
              repeat' (first | refine Tri.seq ?_ | refine Tri.reg ?_ | refine TriL.nil ?_ | exact Yes.mk rfl | refine X.nil ?_ | (apply X.a; rfl) | exact ⟨rfl, rfl, rfl⟩ | (apply U.moveT; rfl; trivial; rfl) | (apply U.assignT; rfl; trivial; rfl) | (apply U.moveU; rfl; trivial; rfl) | (apply U.load; rfl; rfl; trivial; rfl; rfl; rfl) | (apply U.fld; rfl; trivial; rfl; infer_instance; decide; rfl) | (apply U.loadES; rfl; rfl; trivial; rfl; rfl; rfl) | (apply U.ext; rfl; trivial; rfl; rfl) | (apply U.idx; rfl; trivial; rfl; trivial; exact fun _ => (by omega); exact fun _ => (by assumption); exact fun _ => rfl; rfl) | refine U.callP2 rfl rfl rfl (by assumption) rfl ?_ | fail)
              refine U.appNil rfl (SrcE.row rfl (leaf_ty (l := x :: xs))) (by simp) (by simp at hcap2 ⊢; omega) (by simp at hcap2 ⊢; omega) rfl ?_
              repeat' (first | refine Tri.reg ?_ | refine TriL.nil ?_ | (apply U.moveT; rfl; trivial; rfl) | (apply U.assignR; rfl; trivial; rfl) | fail)
              refine U.appNil rfl (SrcE.row rfl (leaf_int (l := y :: ys))) (by simp) (by simp at hcap2 hl2 ⊢; omega) (by simp at hcap2 hl2 ⊢; omega) rfl ?_
              repeat' (first | refine Tri.reg ?_ | refine TriL.nil ?_ | (apply U.moveT; rfl; trivial; rfl) | (apply U.assignT; rfl; trivial; rfl) | (apply U.assignR; rfl; trivial; rfl) | (apply U.add; rfl; trivial; rfl; trivial; exact fun _ => wrap_i64 (by omega) (by omega); rfl) | fail)
              have em1 : ((x :: xs).map agTy).length = xs.length + 1 := by simp
              have em2 : ((y :: ys).map tInt).length = (y :: ys).length := by simp
              refine ⟨(i + 1, x :: xs, y :: ys), ⟨by dsimp only; omega, by dsimp only; exact hl2, by dsimp only; exact hA, by dsimp only; exact hB⟩, by dsimp only; omega, ?_⟩
              refine Less.ren (fun b => b) rfl rfl ⟨rfl, rfl, ?_, ?_, rfl, rfl, trivial⟩ ⟨rfl, rfl, rfl, rfl, trivial⟩ rfl rfl rfl
              · rw [← em2]; rfl
              · rw [← em1]; rfl
          · have hge : v.l.length ≤ i := Nat.le_of_not_lt fun hlt => by have := hend hlt; omega
            have e : hnTs v.l ts = [] := by rw [hA, List.drop_eq_nil_of_le hge, hnTs]; rfl
            have e' : hnNs v.l ts = [] := by rw [hB, List.drop_eq_nil_of_le hge, hnNs]; rfl
            rw [e, e']
            exact Comes2.trees (.inr rfl) rfl rfl
        | cons a0 A =>
          dsimp only
          repeat' (first | refine Tri.seq ?_ | refine Tri.reg ?_ | refine TriL.nil ?_ | (apply U.moveT; rfl; trivial; rfl) | (apply U.moveR; rfl; trivial; rfl) | (apply U.assignR; rfl; trivial; rfl) | (apply U.load; rfl; rfl; trivial; rfl; rfl; rfl) | (apply U.fld; rfl; trivial; rfl; infer_instance; decide; rfl) | (apply U.bin; rfl; trivial; rfl; trivial; rfl; rfl) | (apply U.len; rfl; trivial; rfl) | (apply U.pickb; rfl; trivial; rfl; (first | trivial | exact id | exact And.right | exact gvA | exact gvB | exact And.left | exact gvN | exact gvP2 | exact gvN2 | exact gvLA); rfl; (first | trivial | exact id | exact And.right | exact gvA | exact gvB | exact And.left | exact gvN | exact gvP2 | exact gvN2 | exact gvLA); rfl) | (apply G.moveT; rfl; (first | trivial | exact id | exact And.right | exact gvA | exact gvB | exact And.left | exact gvN | exact gvP2 | exact gvN2 | exact gvLA); rfl; rfl; rfl) | (apply G.bin; rfl; (first | trivial | exact id | exact And.right | exact gvA | exact gvB | exact And.left | exact gvN | exact gvP2 | exact gvN2 | exact gvLA); rfl; (first | trivial | exact id | exact And.right | exact gvA | exact gvB | exact And.left | exact gvN | exact gvP2 | exact gvN2 | exact gvLA); rfl; rfl; rfl; rfl) | (apply G.len; rfl; (first | trivial | exact id | exact And.right | exact gvA | exact gvB | exact And.left | exact gvN | exact gvP2 | exact gvN2 | exact gvLA); rfl; rfl; rfl) | refine Tri.skip ?_ | refine Tri.block ?_ | refine Tri.exit ?_ | refine Tri.ret ?_ | (refine Tri.cond rfl (fun h => ?_) (fun h => ?_) <;> (try simp at h) <;> (try contradiction)) | fail)
          · have hlt : i < v.l.length := by omega
            have hne : v.l ≠ [] := fun e => by rw [e] at hlt; exact absurd hlt (Nat.not_lt_zero i)
            have hlt2 : i < ts.length := by rw [hil hne]; exact hlt
            have htr := hrl hne
            have hget := get_val hlt
            have hget2 : (encTys tr)[((i : Nat) : Int).toNat]? = some (agTy ts[i]) := by rw [htr]; exact get_ty hlt2
            obtain ⟨e1, e2⟩ := hie _ (List.getElem_mem hlt2)
            have hc2 := ih v.l[i] ts[i] (by have := vsize_get hlt v rfl; omega) (smallVs_get (smallV_ls hs) (List.getElem?_eq_getElem hlt)) e1 e2 (sumV_el _ _ _ (hin hne).2 (by rw [hil hne]; exact Nat.le_refl _) i hlt hlt2)
            have hl2 := hn_len v.l[i] ts[i]
            have hlr : (encTys tr).length = v.l.length := by rw [htr, encTys_length, hil hne]
            rw [hnTs_step hlt hlt2] at hA
            rw [hnNs_step hlt hlt2] at hB
            rw [encTy_eta, encVal_eta] at hc2
            have hcap2 : (hnT v.l[i] ts[i]).length ≤ 4000 := by
              have := congrArg List.length hA
              rw [List.length_append, List.length_append] at this
              omega
            refine Tri.regX mixed (by kernel_rfl) rfl rfl ?_
            repeat' (first | refine Tri.seq ?_ | refine Tri.reg ?_ | refine TriL.nil ?_ | exact Yes.mk rfl | refine X.nil ?_ | (apply X.a; rfl) | exact ⟨rfl, rfl, rfl⟩ | (apply U.moveT; rfl; trivial; rfl) | (apply U.assignT; rfl; trivial; rfl) | (apply U.moveR; rfl; trivial; rfl) | (apply U.moveU; rfl; trivial; rfl) | (apply U.load; rfl; rfl; trivial; rfl; rfl; rfl) | (apply U.fld; rfl; trivial; rfl; infer_instance; decide; rfl) | (apply U.loadES; rfl; rfl; trivial; rfl; rfl; rfl) | (apply U.ext; rfl; trivial; rfl; rfl) | (apply U.idx; rfl; trivial; rfl; trivial; exact fun _ => (by omega); exact fun _ => (by assumption); exact fun _ => rfl; rfl) | refine U.callP2 rfl rfl rfl (by assumption) rfl ?_ | fail)
            refine U.appOwn rfl rfl (by simp) (by simp) (SrcE.row rfl leaf_ty) (by simp at hcap ⊢; omega) (by simp at hcap ⊢; omega) rfl ?_
            repeat' (first | refine Tri.reg ?_ | refine TriL.nil ?_ | (apply U.moveT; rfl; trivial; rfl) | (apply U.moveR; rfl; trivial; rfl) | (apply U.assignR; rfl; trivial; rfl) | fail)
            refine U.appOwn rfl rfl (by simp) (by simp) (SrcE.row rfl leaf_int) (by simp at hcap hab ⊢; omega) (by simp at hcap hab ⊢; omega) rfl ?_
            repeat' (first | refine Tri.reg ?_ | refine TriL.nil ?_ | (apply U.moveT; rfl; trivial; rfl) | (apply U.assignT; rfl; trivial; rfl) | (apply U.assignR; rfl; trivial; rfl) | (apply U.add; rfl; trivial; rfl; trivial; exact fun _ => wrap_i64 (by omega) (by omega); rfl) | fail)
            refine ⟨(i + 1, a0 :: (A ++ hnT v.l[i] ts[i]), B ++ hnN v.l[i] ts[i]), ⟨by dsimp only; omega, ?_, ?_, ?_⟩, by dsimp only; omega, ?_⟩
            · dsimp only
              rw [List.length_cons, List.length_append, List.length_append, ← hab, List.length_cons, hl2]; omega
            · dsimp only; rw [hA]; simp
            · dsimp only; rw [hB]; simp
            refine Less.ren (fun b => if b = 2 then 4 else if b = 3 then 5 else b) rfl rfl ⟨rfl, rfl, ?_, ?_, rfl, rfl, trivial⟩ ⟨rfl, rfl, ?_, ?_, trivial⟩ rfl rfl rfl
            · have em : (B ++ hnN v.l[i] ts[i]).length = B.length + ((hnN v.l[i] ts[i]).map tInt).length := by simp
              exact congrArg (fun z => some (PV.ref 5 1 0 z z)) em.symm
            · have em : (A ++ hnT v.l[i] ts[i]).length + 1 = A.length + 1 + ((hnT v.l[i] ts[i]).map agTy).length := by simp; omega
              exact congrArg (fun z => some (PV.ref 4 4 0 z z)) em.symm
            · have em : (a0 :: A).map agTy ++ (hnT v.l[i] ts[i]).map agTy = (a0 :: (A ++ hnT v.l[i] ts[i])).map agTy := by simp
              exact congrArg (fun z => some (Blk.row 4 z false)) em
            · have em : B.map tInt ++ (hnN v.l[i] ts[i]).map tInt = (B ++ hnN v.l[i] ts[i]).map tInt := by simp
              exact congrArg (fun z => some (Blk.row 1 z false)) em
          · have hge : v.l.length ≤ i := Nat.le_of_not_lt fun hlt => by have := hend hlt; omega
            have e : hnTs v.l ts = a0 :: A := by rw [hA, List.drop_eq_nil_of_le hge, hnTs, List.append_nil]
            have e' : hnNs v.l ts = B := by rw [hB, List.drop_eq_nil_of_le hge, hnNs, List.append_nil]
            rw [e, e']
            cases B with
            | nil => simp at hab
            | cons b0 B =>
              exact ⟨.inr rfl, Rets.frozE rfl (by simp) (by simp [List.take_of_length_le]) (Rets.frozE rfl (by simp) (by simp [List.take_of_length_le]) .nil)⟩
end Go.Proofs.YtmhbibfkhbaclaaGreatDoor
