/- The law ValueTurns. -/
import Derived.Test.YtmhbibfkhbaclaaGreatDoorK39
import Derived.Test.YtmhbibfkhbaclaaGreatDoorK40
namespace Go.Proofs.YtmhbibfkhbaclaaGreatDoor
open Go E
set_option maxRecDepth 100000
set_option maxHeartbeats 4000000
set_option linter.unusedVariables false
set_option linter.unusedSimpArgs false
attribute [local irreducible] Tri TriL TriO PO VO E.Pure DOb XOb
theorem smallV_zero : smallV zeroV := ⟨⟨by decide, by decide⟩, Nat.zero_le _, fun x hx => absurd hx (by simp), Nat.zero_le _, trivial⟩
theorem valueTurns_p (t : Ty) (v : Val) (n : List Int) (nn : Bool) (ht : small t) (hs : smallV v) (hb0 : n.length ≤ big ∧ ∀ x ∈ n, inI x) : E.Pure Tryz.prog 3 [encTy t, encVal v, .sl nn (n.map tInt)] (.one (.t (tBool true))) := by
  have hb := hb0.1
  have h1 := light_p v hs
  have h2 := With_p t v n nn ht hs hb
  have h3 := vcheckR_p t v ht hs
  have h4 : checkV t v = 0 → E.Pure Tryz.prog 9 [encTy t, encVal v] (.tup [.t (hTree (hnT v t)), .t (nTree (hnN v t))]) := fun h =>
    let ⟨a, b⟩ := check_ok h
    handlesR_p _ v t (Nat.le_refl _) hs (may_k a).1 (may_k a).2 b
  have h5 := awake_p
  have h6 : checkV t v = 0 → (hnT v t).length = n.length → E.Pure Tryz.prog 10 [encTy t, encVal v, .sl nn (n.map tInt)] (.tup [.t (encVal (wtV v t n)), .t (.sl nn ((n.drop (hnT v t).length).map tInt))]) := fun h hl =>
    let ⟨a, b⟩ := check_ok h
    withR_p _ v t nn n (Nat.le_refl _) hs (may_k a).1 (may_k a).2 b (Nat.le_of_eq hl) hb
  have hz : E.Pure Tryz.prog 8 [.agg [.v (.int .i64 0), .sl true [], .sl true []], .agg [.v (.int .i64 0), .sl true [], .sl true []]] (.one (.t (tBool true))) := by
    have := same_v _ zeroV zeroV (Nat.le_refl _) smallV_zero smallV_zero
    rw [sameV_refl] at this
    exact this
  have hA : checkV t v ≠ 0 → withT t v n = (zeroV, checkV t v) := fun h => by rw [withT, if_pos h]
  have hB : checkV t v = 0 → (hnT v t).length = n.length ∧ n.all numB = true → withT t v n = (wtV v t n, 0) := fun h h2 => by rw [withT, if_neg (fun e => e h), if_pos h2]
  have hC : checkV t v = 0 → ¬((hnT v t).length = n.length ∧ n.all numB = true) → withT t v n = (zeroV, 1) := fun h h2 => by rw [withT, if_neg (fun e => e h), if_neg h2]
  have hl := hn_len v t
  have hc : checkV t v = 0 → (hnT v t).length ≤ 4000 := fun h => Nat.le_trans (hn_le v t (check_ok h).2) (partV_le v t)
  have hln : (n.map tInt).length = n.length := by simp
  have hb' := hb
  unfold big at hb
  refine Pure.of1 Tryz.func3 rfl rfl (Nat.le_of_ble_eq_true rfl) rfl ?_
  rw [encTy_eta] at h2 h3 h4 h6 ⊢
  rw [encVal_eta v] at h1 h2 h3 h4 h6 ⊢
  rw [encVal_eta (withT t v n).1] at h2
  rw [encVal_eta (wtV v t n)] at h6
  generalize withT t v n = xe at *
  obtain ⟨x, e⟩ := xe
  dsimp only at h2
  repeat' (first | refine Tri.seq ?_ | refine Tri.reg ?_ | refine TriL.nil ?_ | (apply U.moveT; rfl; trivial; rfl) | (apply U.assignT; rfl; trivial; rfl) | (apply U.moveU; rfl; trivial; rfl) | (apply U.bin; rfl; trivial; rfl; trivial; rfl; rfl) | (apply U.loadS; rfl; rfl; trivial; rfl; rfl; rfl; rfl; rfl) | (apply U.ext; rfl; trivial; rfl; rfl) | (apply U.not; rfl; trivial; rfl) | (apply U.pickb; rfl; trivial; rfl; (first | trivial | exact id | exact And.right | exact gvA | exact gvB | exact And.left | exact gvN | exact gvP2 | exact gvN2 | exact gvLA); rfl; (first | trivial | exact id | exact And.right | exact gvA | exact gvB | exact And.left | exact gvN | exact gvP2 | exact gvN2 | exact gvLA); rfl) | (apply U.boxA; rfl; rfl) | (apply U.alloc; rfl; rfl; rfl; rfl) | (apply U.storeS; rfl; rfl; rfl; rfl; rfl; rfl; rfl; rfl) | (apply G.moveT; rfl; (first | trivial | exact id | exact And.right | exact gvA | exact gvB | exact And.left | exact gvN | exact gvP2 | exact gvN2 | exact gvLA); rfl; rfl; rfl) | (apply G.bin; rfl; (first | trivial | exact id | exact And.right | exact gvA | exact gvB | exact And.left | exact gvN | exact gvP2 | exact gvN2 | exact gvLA); rfl; (first | trivial | exact id | exact And.right | exact gvA | exact gvB | exact And.left | exact gvN | exact gvP2 | exact gvN2 | exact gvLA); rfl; rfl; rfl; rfl) | (apply G.len; rfl; (first | trivial | exact id | exact And.right | exact gvA | exact gvB | exact And.left | exact gvN | exact gvP2 | exact gvN2 | exact gvLA); rfl; rfl; rfl) | (apply G.loadS; rfl; rfl; (first | trivial | exact id | exact And.right | exact gvA | exact gvB | exact And.left | exact gvN | exact gvP2 | exact gvN2 | exact gvLA); rfl; rfl; rfl; rfl; rfl; rfl; rfl) | refine U.call1 rfl rfl (by assumption) rfl ?_ | refine U.call2 rfl rfl rfl (by assumption) rfl ?_ | refine Tri.skip ?_ | refine Tri.ret ?_ | refine U.call0 rfl (by assumption) rfl ?_ | refine U.callP3 rfl rfl rfl rfl (by assumption) rfl ?_ | (apply G.build; rfl; rfl; rfl; rfl; rfl; rfl; rfl) | (refine Tri.cond rfl (fun h => ?_) (fun h => ?_) <;> (try simp at h) <;> (try contradiction)) | fail)
  · exact Comes1.ret rfl rfl
  · obtain ⟨rfl, rfl⟩ := Prod.mk.inj (hA h)
    repeat' (first | refine TriL.nil ?_ | (apply U.moveT; rfl; trivial; rfl) | (apply U.assignT; rfl; trivial; rfl) | (apply U.pickb; rfl; trivial; rfl; (first | trivial | exact id | exact And.right | exact gvA | exact gvB | exact And.left | exact gvN | exact gvP2 | exact gvN2 | exact gvLA); rfl; (first | trivial | exact id | exact And.right | exact gvA | exact gvB | exact And.left | exact gvN | exact gvP2 | exact gvN2 | exact gvLA); rfl) | refine G.call2 rfl rfl (by (first | trivial | exact id | exact And.right | exact gvA | exact gvB | exact And.left | exact gvN | exact gvP2 | exact gvN2 | exact gvLA)) rfl (by (first | trivial | exact id | exact And.right | exact gvA | exact gvB | exact And.left | exact gvN | exact gvP2 | exact gvN2 | exact gvLA)) (by first | assumption | exact fun _ => by assumption) rfl rfl rfl ?_ | refine Tri.ret ?_ | refine G.call0 rfl (by first | assumption | exact fun _ => by assumption) rfl rfl rfl ?_ | fail)
    exact Comes1.ret rfl (retB (by simp))
  · have h7 := h4 h
    have h8 := hc h
    repeat' (first | refine Tri.seq ?_ | refine Tri.reg ?_ | refine TriL.nil ?_ | (apply U.moveT; rfl; trivial; rfl) | (apply U.assignT; rfl; trivial; rfl) | (apply U.moveU; rfl; trivial; rfl) | (apply U.bin; rfl; trivial; rfl; trivial; rfl; rfl) | (apply U.len; rfl; trivial; rfl) | (apply U.ext; rfl; trivial; rfl; rfl) | refine Tri.block ?_ | refine U.callP2 rfl rfl rfl (by assumption) rfl ?_ | fail)
    refine Tri.loopS (α := Nat) (fun i => ⟨[(13, .t (tInt i)), (12, .t (tBool (decide ((hnN v t).length = n.length) && (n.take i).all numB))), (11, .t (nTree (hnN v t))), (8, .t (tInt e)), (7, .ptr 2 0), (4, .ptr 1 0), (3, .ptr 0 0), (2, .t (.sl nn (n.map tInt)))], Tryz.f3.ntmps, [(2, .obj [.t (.v (.int .i64 x.n)), .t (.sl x.ns (x.s.map tInt)), .t (.sl x.nl (encVals x.l))]), (1, .obj [.t (.v (.int .i64 v.n)), .t (.sl v.ns (v.s.map tInt)), .t (.sl v.nl (encVals v.l))]), (0, .obj [.t (.v (.int .i64 t.kind)), .t (.sl t.nn (t.names.map tStr)), .t (.sl t.nl (encTys t.l)), .t (.v (.int .i64 t.r))])], 0, 3⟩)
      (fun i => i ≤ n.length) (fun i => n.length - i) 0 ?_ ?_ ?_
    · exact Nat.zero_le _
    · refine Sub.of rfl rfl ⟨rfl, ?_, rfl, rfl, rfl, rfl, rfl, rfl, trivial⟩ ⟨rfl, rfl, rfl, trivial⟩
      have e1 : decide ((((hnN v t).map tInt).length : Int) = ((n.map tInt).length : Int)) = (decide ((hnN v t).length = n.length) && (n.take 0).all numB) := by
        simp only [List.take_zero, List.all_nil, Bool.and_true, List.length_map]
        exact decide_eq_decide.2 (by omega)
      exact congrArg (fun z => some (PV.t (tBool z))) e1
    · rintro i hi
      repeat' (first | refine Tri.seq ?_ | refine Tri.reg ?_ | refine TriL.nil ?_ | (apply U.moveT; rfl; trivial; rfl) | (apply U.bin; rfl; trivial; rfl; trivial; rfl; rfl) | (apply U.len; rfl; trivial; rfl) | (apply U.loadS; rfl; rfl; trivial; rfl; rfl; rfl; rfl; rfl) | (apply U.not; rfl; trivial; rfl) | (apply G.moveT; rfl; (first | trivial | exact id | exact And.right | exact gvA | exact gvB | exact And.left | exact gvN | exact gvP2 | exact gvN2 | exact gvLA); rfl; rfl; rfl) | (apply G.loadS; rfl; rfl; (first | trivial | exact id | exact And.right | exact gvA | exact gvB | exact And.left | exact gvN | exact gvP2 | exact gvN2 | exact gvLA); rfl; rfl; rfl; rfl; rfl; rfl; rfl) | refine Tri.skip ?_ | refine Tri.block ?_ | refine Tri.exit ?_ | (apply G.build; rfl; rfl; rfl; rfl; rfl; rfl; rfl) | (refine Tri.cond rfl (fun h => ?_) (fun h => ?_) <;> (try simp at h) <;> (try contradiction)) | fail)
      · have hget := get_int h
        have hlt := h
        have htk : (n.take (i + 1)).all numB = ((n.take i).all numB && numB n[i]) := by
          rw [List.take_add_one, List.getElem?_eq_getElem h, List.all_append]; simp
        repeat' (first | refine Tri.reg ?_ | refine TriL.nil ?_ | (apply U.moveT; rfl; trivial; rfl) | (apply U.assignT; rfl; trivial; rfl) | (apply U.add; rfl; trivial; rfl; trivial; exact fun _ => wrap_i64 (by omega) (by omega); rfl) | (apply U.pickb; rfl; trivial; rfl; (first | trivial | exact id | exact And.right | exact gvA | exact gvB | exact And.left | exact gvN | exact gvP2 | exact gvN2 | exact gvLA); rfl; (first | trivial | exact id | exact And.right | exact gvA | exact gvB | exact And.left | exact gvN | exact gvP2 | exact gvN2 | exact gvLA); rfl) | (apply G.moveT; rfl; (first | trivial | exact id | exact And.right | exact gvA | exact gvB | exact And.left | exact gvN | exact gvP2 | exact gvN2 | exact gvLA); rfl; rfl; rfl) | (apply G.bin; rfl; (first | trivial | exact id | exact And.right | exact gvA | exact gvB | exact And.left | exact gvN | exact gvP2 | exact gvN2 | exact gvLA); rfl; (first | trivial | exact id | exact And.right | exact gvA | exact gvB | exact And.left | exact gvN | exact gvP2 | exact gvN2 | exact gvLA); rfl; rfl; rfl; rfl) | (apply G.loadE; rfl; rfl; (first | trivial | exact id | exact And.right | exact gvA | exact gvB | exact And.left | exact gvN | exact gvP2 | exact gvN2 | exact gvLA); rfl; rfl; rfl; rfl) | (apply G.idx; rfl; (first | trivial | exact id | exact And.right | exact gvA | exact gvB | exact And.left | exact gvN | exact gvP2 | exact gvN2 | exact gvLA); rfl; (first | trivial | exact id | exact And.right | exact gvA | exact gvB | exact And.left | exact gvN | exact gvP2 | exact gvN2 | exact gvLA); exact fun _ => (by omega); exact fun _ => (by assumption); exact fun _ => rfl; rfl; rfl; rfl) | fail)
        refine ⟨i + 1, by omega, by omega, Sub.of rfl rfl ⟨rfl, ?_, rfl, rfl, rfl, rfl, rfl, rfl, trivial⟩ ⟨rfl, rfl, rfl, trivial⟩⟩
        refine congrArg (fun z => some (PV.t (T.v (Value.bool z)))) ?_
        rw [htk, ← Bool.and_assoc]
        generalize (decide ((hnN v t).length = n.length) && (n.take i).all numB) = b
        unfold numB
        cases b <;> simp
      · obtain ⟨rfl, rfl⟩ := Prod.mk.inj (hC (by assumption) (by
          rintro ⟨e1, e2⟩
          rcases h with h | ⟨x, hx, hx2⟩
          · omega
          · rw [List.all_eq_true] at e2
            rw [e2 x (List.mem_of_mem_take hx)] at hx2; cases hx2))
        repeat' (first | refine TriL.nil ?_ | (apply U.moveT; rfl; trivial; rfl) | (apply U.assignT; rfl; trivial; rfl) | (apply U.pickb; rfl; trivial; rfl; (first | trivial | exact id | exact And.right | exact gvA | exact gvB | exact And.left | exact gvN | exact gvP2 | exact gvN2 | exact gvLA); rfl; (first | trivial | exact id | exact And.right | exact gvA | exact gvB | exact And.left | exact gvN | exact gvP2 | exact gvN2 | exact gvLA); rfl) | refine G.call2 rfl rfl (by (first | trivial | exact id | exact And.right | exact gvA | exact gvB | exact And.left | exact gvN | exact gvP2 | exact gvN2 | exact gvLA)) rfl (by (first | trivial | exact id | exact And.right | exact gvA | exact gvB | exact And.left | exact gvN | exact gvP2 | exact gvN2 | exact gvLA)) (by first | assumption | exact fun _ => by assumption) rfl rfl rfl ?_ | refine Tri.ret ?_ | refine G.call0 rfl (by first | assumption | exact fun _ => by assumption) rfl rfl rfl ?_ | fail)
        exact Comes1.ret rfl (retB (by simp))
      · have hall : n.all numB = true := by
          rw [List.take_of_length_le (by omega)] at h
          exact List.all_eq_true.2 h.2
        obtain ⟨rfl, rfl⟩ := Prod.mk.inj (hB (by assumption) ⟨by omega, hall⟩)
        have hnum : ∀ y ∈ n, 0 ≤ y ∧ y ≤ 4294967295 := fun y hy => by
          have := List.all_eq_true.1 hall y hy
          have := of_decide_eq_true this
          omega
        have hck : checkV t v = 0 := by assumption
        have hsx := smallV_wt v t n hnum hs
        have hlen : (hnT v t).length = n.length := by omega
        have hpx := partV_wt v t n (by omega) hnum (check_ok hck).2
        have hcx : checkV t (wtV v t n) = 0 := by
          have := check_ok hck
          rw [checkV, if_pos this.1, hpx, if_neg this.2]
        have h9 := h6 hck hlen
        have h10 := Handles_p t (wtV v t n) ht hsx
        have hTx : hT t (wtV v t n) = hnT v t := by rw [hT, if_pos hcx, hnT_wt]
        have hNx : hN t (wtV v t n) = n := by rw [hN, if_pos hcx, hnN_wt v t n (by omega), hlen, List.take_length]
        rw [hTx, hNx, encTy_eta, encVal_eta] at h10
        have h11 := same_r _ (wtV v t n) (wtV v t n) (Nat.le_refl _) hsx hsx
        rw [sameV_refl, encVal_eta] at h11
        have h12 := sameInts_p n n n.isEmpty nn hb' hb'
        have h13 := vcheck_p lexName_p t (wtV v t n) ht hsx
        rw [hcx, encTy_eta, encVal_eta] at h13
        repeat' (first | refine Tri.seq ?_ | refine Tri.reg ?_ | refine TriL.nil ?_ | (apply U.moveT; rfl; trivial; rfl) | (apply U.assignT; rfl; trivial; rfl) | (apply U.moveU; rfl; trivial; rfl) | (apply U.bin; rfl; trivial; rfl; trivial; rfl; rfl) | (apply U.loadS; rfl; rfl; trivial; rfl; rfl; rfl; rfl; rfl) | (apply U.ext; rfl; trivial; rfl; rfl) | (apply U.pickb; rfl; trivial; rfl; (first | trivial | exact id | exact And.right | exact gvA | exact gvB | exact And.left | exact gvN | exact gvP2 | exact gvN2 | exact gvLA); rfl; (first | trivial | exact id | exact And.right | exact gvA | exact gvB | exact And.left | exact gvN | exact gvP2 | exact gvN2 | exact gvLA); rfl) | (apply U.alloc; rfl; rfl; rfl; rfl) | (apply U.storeS; rfl; rfl; rfl; rfl; rfl; rfl; rfl; rfl) | (apply G.moveT; rfl; (first | trivial | exact id | exact And.right | exact gvA | exact gvB | exact And.left | exact gvN | exact gvP2 | exact gvN2 | exact gvLA); rfl; rfl; rfl) | (apply G.bin; rfl; (first | trivial | exact id | exact And.right | exact gvA | exact gvB | exact And.left | exact gvN | exact gvP2 | exact gvN2 | exact gvLA); rfl; (first | trivial | exact id | exact And.right | exact gvA | exact gvB | exact And.left | exact gvN | exact gvP2 | exact gvN2 | exact gvLA); rfl; rfl; rfl; rfl) | (apply G.loadS; rfl; rfl; (first | trivial | exact id | exact And.right | exact gvA | exact gvB | exact And.left | exact gvN | exact gvP2 | exact gvN2 | exact gvLA); rfl; rfl; rfl; rfl; rfl; rfl; rfl) | refine G.call2 rfl rfl (by (first | trivial | exact id | exact And.right | exact gvA | exact gvB | exact And.left | exact gvN | exact gvP2 | exact gvN2 | exact gvLA)) rfl (by (first | trivial | exact id | exact And.right | exact gvA | exact gvB | exact And.left | exact gvN | exact gvP2 | exact gvN2 | exact gvLA)) (by first | assumption | exact fun _ => by assumption) rfl rfl rfl ?_ | refine Tri.ret ?_ | refine G.call0 rfl (by first | assumption | exact fun _ => by assumption) rfl rfl rfl ?_ | refine U.callP2 rfl rfl rfl (by assumption) rfl ?_ | refine U.callP3 rfl rfl rfl rfl (by assumption) rfl ?_ | fail)
        exact Comes1.ret rfl (retB (by simp))
end Go.Proofs.YtmhbibfkhbaclaaGreatDoor
