/- Values: how heavy they are. -/
import Derived.Test.YtdiimgkopknbcaaGreatDoorK10
import Derived.Test.YtdiimgkopknbcaaGreatDoorK13
namespace Go.Proofs.YtdiimgkopknbcaaGreatDoor
open Go E
set_option maxRecDepth 100000
set_option maxHeartbeats 4000000
set_option linter.unusedVariables false
set_option linter.unusedSimpArgs false
attribute [local irreducible] Tri TriL TriO PO VO E.Pure DOb XOb
theorem retV {a b : Bool} (h : a = b) : R1.t (.v (.bool a)) = R1.t (tBool b) := by rw [h]; rfl
theorem weigh_p : ∀ (m : Nat) (v : Val) (d : Nat), SizeOf.sizeOf v ≤ m → smallV v → d ≤ 21 → E.Pure Tryz.prog 20 [encVal v, tInt d] (.one (.t (tInt (wghV d v)))) := by
  intro m
  induction m with
  | zero => intro v d hm; cases v; simp at hm
  | succ m ih =>
    intro v d hm hs hd
    have hb1 := smallV_s hs
    have hb2 := smallV_l hs
    unfold big at hb1 hb2
    have hlen := encVals_length v.l
    refine Pure.of1 Tryz.func20 rfl rfl (Nat.le_of_ble_eq_true rfl) rfl ?_
    rw [encVal_eta]
    repeat' (first | refine Tri.seq ?_ | refine Tri.reg ?_ | refine TriL.nil ?_ | (apply U.moveT; rfl; trivial; rfl) | (apply U.assignT; rfl; trivial; rfl) | (apply U.load; rfl; rfl; trivial; rfl; rfl; rfl) | (apply U.fld; rfl; trivial; rfl; infer_instance; decide; rfl) | (apply U.bin; rfl; trivial; rfl; trivial; rfl; rfl) | (apply U.len; rfl; trivial; rfl) | (apply U.pickb; rfl; trivial; rfl; (first | trivial | exact id | exact And.right | exact gvA | exact gvB | exact And.left | exact gvN | exact gvP2 | exact gvN2 | exact gvLA); rfl; (first | trivial | exact id | exact And.right | exact gvA | exact gvB | exact And.left | exact gvN | exact gvP2 | exact gvN2 | exact gvLA); rfl) | (apply U.boxA; rfl; rfl) | (apply G.load; rfl; rfl; (first | trivial | exact id | exact And.right | exact gvA | exact gvB | exact And.left | exact gvN | exact gvP2 | exact gvN2 | exact gvLA); rfl; rfl; rfl; rfl; rfl) | (apply G.fld; rfl; (first | trivial | exact id | exact And.right | exact gvA | exact gvB | exact And.left | exact gvN | exact gvP2 | exact gvN2 | exact gvLA); rfl; infer_instance; decide; rfl; rfl; rfl) | (apply G.bin; rfl; (first | trivial | exact id | exact And.right | exact gvA | exact gvB | exact And.left | exact gvN | exact gvP2 | exact gvN2 | exact gvLA); rfl; (first | trivial | exact id | exact And.right | exact gvA | exact gvB | exact And.left | exact gvN | exact gvP2 | exact gvN2 | exact gvLA); rfl; rfl; rfl; rfl) | (apply G.len; rfl; (first | trivial | exact id | exact And.right | exact gvA | exact gvB | exact And.left | exact gvN | exact gvP2 | exact gvN2 | exact gvLA); rfl; rfl; rfl) | refine Tri.skip ?_ | refine Tri.block ?_ | refine Tri.ret ?_ | (refine Tri.cond rfl (fun h => ?_) (fun h => ?_) <;> (try simp at h) <;> (try contradiction)) | fail)
    · refine Comes1.ret rfl ?_
      rw [wghV_eq, if_pos (by omega)]; rfl
    · have hsl : (v.s.map tInt).length = v.s.length := by simp
      refine Tri.loopS (α := Nat × Nat) (fun a => ⟨[(6, .t (tInt a.1)), (5, .t (tInt a.2)), (2, .ptr 0 0), (1, .t (tInt d))], Tryz.f20.ntmps, [(0, .obj [.t (.v (.int .i64 v.n)), .t (.sl v.ns (v.s.map tInt)), .t (.sl v.nl (encVals v.l))])], 0, 1⟩)
        (fun a => a.1 ≤ v.l.length ∧ a.2 ≤ 20000 + (1073741824 + 20001 * 21) ∧ wghV d v = wghVs (d + 1) a.2 (v.l.drop a.1)) (fun a => v.l.length - a.1) (0, 1 + v.s.length) ?_ ?_ ?_
      · refine ⟨Nat.zero_le _, by dsimp only; omega, ?_⟩
        rw [wghV_eq, if_neg (by omega)]; rfl
      · refine Sub.of rfl rfl ⟨rfl, ?_, rfl, rfl, trivial⟩ ⟨rfl, trivial⟩
        have e : IntKind.i64.wrap (1 + ((v.s.map tInt).length : Int)) = ((1 + v.s.length : Nat) : Int) := by rw [wrap_i64 (by omega) (by omega), hsl]; omega
        exact congrArg (fun z => some (PV.t (.v (.int .i64 z)))) e
      · rintro ⟨i, n⟩ ⟨hi, hn, hw⟩
        dsimp only at hi hn hw ⊢
        repeat' (first | refine Tri.seq ?_ | refine Tri.reg ?_ | refine TriL.nil ?_ | (apply U.moveT; rfl; trivial; rfl) | (apply U.assignT; rfl; trivial; rfl) | (apply U.load; rfl; rfl; trivial; rfl; rfl; rfl) | (apply U.fld; rfl; trivial; rfl; infer_instance; decide; rfl) | (apply U.bin; rfl; trivial; rfl; trivial; rfl; rfl) | (apply U.len; rfl; trivial; rfl) | (apply U.pickb; rfl; trivial; rfl; (first | trivial | exact id | exact And.right | exact gvA | exact gvB | exact And.left | exact gvN | exact gvP2 | exact gvN2 | exact gvLA); rfl; (first | trivial | exact id | exact And.right | exact gvA | exact gvB | exact And.left | exact gvN | exact gvP2 | exact gvN2 | exact gvLA); rfl) | (apply G.moveT; rfl; (first | trivial | exact id | exact And.right | exact gvA | exact gvB | exact And.left | exact gvN | exact gvP2 | exact gvN2 | exact gvLA); rfl; rfl; rfl) | (apply G.bin; rfl; (first | trivial | exact id | exact And.right | exact gvA | exact gvB | exact And.left | exact gvN | exact gvP2 | exact gvN2 | exact gvLA); rfl; (first | trivial | exact id | exact And.right | exact gvA | exact gvB | exact And.left | exact gvN | exact gvP2 | exact gvN2 | exact gvLA); rfl; rfl; rfl; rfl) | refine Tri.skip ?_ | refine Tri.block ?_ | refine Tri.exit ?_ | refine Tri.ret ?_ | (refine Tri.cond rfl (fun h => ?_) (fun h => ?_) <;> (try simp at h) <;> (try contradiction)) | fail)
        · have hlt : i < v.l.length := by omega
          have hget := get_val hlt
          have hstep := wghVs_step (d := d + 1) (acc := n) hlt (by omega)
          have hle := wghV_big (d + 1) v.l[i]
          have hc := ih v.l[i] (d + 1) (by have := vsize_get hlt v rfl; omega) (smallVs_get (smallV_ls hs) (List.getElem?_eq_getElem hlt)) (by omega)
          rw [encVal_eta] at hc
          repeat' (first | refine Tri.reg ?_ | refine TriL.nil ?_ | (apply U.moveT; rfl; trivial; rfl) | (apply U.assignT; rfl; trivial; rfl) | (apply U.add; rfl; trivial; rfl; trivial; exact fun _ => wrap_i64 (by omega) (by omega); rfl) | (apply U.loadES; rfl; rfl; trivial; rfl; rfl; rfl) | (apply U.idx; rfl; trivial; rfl; trivial; exact fun _ => (by omega); exact fun _ => (by assumption); exact fun _ => rfl; rfl) | refine U.call2 rfl rfl rfl (by assumption) rfl ?_ | fail)
          refine ⟨(i + 1, n + wghV (d + 1) v.l[i]), ⟨by dsimp only; omega, by dsimp only; omega, ?_⟩, by dsimp only; omega, Sub.of rfl rfl ⟨rfl, rfl, rfl, rfl, trivial⟩ ⟨rfl, trivial⟩⟩
          rw [hw, hstep]
        · refine Comes1.ret rfl ?_
          rw [hw]
          by_cases hlt : i < v.l.length
          · rw [wghVs_end (by have := h (by omega); omega)]
          · rw [List.drop_eq_nil_of_le (by omega), wghVs]
theorem light_p (v : Val) (hs : smallV v) : E.Pure Tryz.prog 4 [encVal v] (.one (.t (tBool (lightB v)))) := by
  have h1 := weigh_p _ v 0 (Nat.le_refl _) hs (by omega)
  refine Pure.of1 Tryz.func4 rfl rfl (Nat.le_of_ble_eq_true rfl) rfl ?_
  rw [encVal_eta] at h1 ⊢
  repeat' (first | refine Tri.seq ?_ | refine Tri.reg ?_ | refine TriL.nil ?_ | (apply U.assignT; rfl; trivial; rfl) | (apply U.bin; rfl; trivial; rfl; trivial; rfl; rfl) | (apply U.loadS; rfl; rfl; trivial; rfl; rfl; rfl; rfl; rfl) | (apply U.boxA; rfl; rfl) | refine U.call2 rfl rfl rfl (by assumption) rfl ?_ | refine Tri.ret ?_ | fail)
  refine Comes1.ret rfl (retV ?_)
  simp only [lightB]
  exact decide_eq_decide.2 (by omega)
end Go.Proofs.YtdiimgkopknbcaaGreatDoor
