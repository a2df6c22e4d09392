/- The law ValueSame answers true. -/
import Derived.Test.YtffhjgojhmjnnaaDoorK13
import Derived.Test.YtffhjgojhmjnnaaDoorK18
namespace Go.Proofs.YtffhjgojhmjnnaaDoor
open Go E
set_option maxRecDepth 100000
set_option maxHeartbeats 4000000
set_option linter.unusedVariables false
set_option linter.unusedSimpArgs false
attribute [local irreducible] Tri TriL TriO PO VO E.Pure DOb XOb
theorem valueSame_p (a b : Val) (ha : smallV a) (hb : smallV b) : E.Pure Tryd.prog 3 [encVal a, encVal b] (.one (.t (tBool true))) := by
  have h1 := light_p a ha
  have h2 := light_p b hb
  have h3 := same_v _ a a (Nat.le_refl _) ha ha
  have h4 := same_v _ a b (Nat.le_refl _) ha hb
  have h5 := same_r _ a b (Nat.le_refl _) ha hb
  have h6 := same_v _ b a (Nat.le_refl _) hb ha
  have h7 := awake_p
  refine Pure.of1 Tryd.func3 rfl rfl (Nat.le_of_ble_eq_true rfl) rfl ?_
  rw [encVal_eta] at h1 h2 h3
  rw [encVal_eta, encVal_eta] at h4 h5 h6 ⊢
  repeat' (first | refine Tri.seq ?_ | refine Tri.reg ?_ | refine TriL.nil ?_ | (apply U.moveT; rfl; trivial; rfl) | (apply U.assignT; rfl; trivial; rfl) | (apply U.loadS; rfl; rfl; trivial; rfl; rfl; rfl; rfl; rfl) | (apply U.not; rfl; trivial; rfl) | (apply U.pickb; rfl; trivial; rfl; (first | trivial | exact id | exact And.right | exact gvA | exact gvB | exact And.left | exact gvN | exact gvP2 | exact gvN2 | exact gvLA); rfl; (first | trivial | exact id | exact And.right | exact gvA | exact gvB | exact And.left | exact gvN | exact gvP2 | exact gvN2 | exact gvLA); rfl) | (apply U.boxA; rfl; rfl) | (apply G.loadS; rfl; rfl; (first | trivial | exact id | exact And.right | exact gvA | exact gvB | exact And.left | exact gvN | exact gvP2 | exact gvN2 | exact gvLA); rfl; rfl; rfl; rfl; rfl; rfl; rfl) | (apply G.not; rfl; (first | trivial | exact id | exact And.right | exact gvA | exact gvB | exact And.left | exact gvN | exact gvP2 | exact gvN2 | exact gvLA); rfl; rfl; rfl) | refine U.call1 rfl rfl (by assumption) rfl ?_ | refine G.call1 rfl rfl (by (first | trivial | exact id | exact And.right | exact gvA | exact gvB | exact And.left | exact gvN | exact gvP2 | exact gvN2 | exact gvLA)) (by first | assumption | exact fun _ => by assumption) rfl rfl rfl ?_ | refine Tri.skip ?_ | refine Tri.ret ?_ | refine U.call0 rfl (by assumption) rfl ?_ | (refine Tri.cond rfl (fun h => ?_) (fun h => ?_) <;> (try simp at h) <;> (try contradiction)) | fail)
  · exact Comes1.ret rfl rfl
  · refine Tri.sub (s2 := ⟨[(3, .ptr 1 0), (2, .ptr 0 0)], Tryd.f3.ntmps, [(1, .obj [.t (.v (.int .i64 b.n)), .t (.sl b.ns (b.s.map tInt)), .t (.sl b.nl (encVals b.l))]), (0, .obj [.t (.v (.int .i64 a.n)), .t (.sl a.ns (a.s.map tInt)), .t (.sl a.nl (encVals a.l))])], 0, 2⟩) (Sub.of rfl rfl ⟨rfl, rfl, trivial⟩ ⟨rfl, rfl, trivial⟩) ?_
    refine Tri.regX mixed (by kernel_rfl) rfl rfl ?_
    repeat' (first | refine TriL.nil ?_ | exact Yes.mk rfl | refine X.nil ?_ | (apply X.a; rfl) | exact ⟨rfl, rfl, rfl⟩ | (apply U.moveT; rfl; trivial; rfl) | (apply U.assignT; rfl; trivial; rfl) | (apply U.loadS; rfl; rfl; trivial; rfl; rfl; rfl; rfl; rfl) | (apply U.pickb; rfl; trivial; rfl; (first | trivial | exact id | exact And.right | exact gvA | exact gvB | exact And.left | exact gvN | exact gvP2 | exact gvN2 | exact gvLA); rfl; (first | trivial | exact id | exact And.right | exact gvA | exact gvB | exact And.left | exact gvN | exact gvP2 | exact gvN2 | exact gvLA); rfl) | (apply G.loadS; rfl; rfl; (first | trivial | exact id | exact And.right | exact gvA | exact gvB | exact And.left | exact gvN | exact gvP2 | exact gvN2 | exact gvLA); rfl; rfl; rfl; rfl; rfl; rfl; rfl) | (apply G.eqb; rfl; (first | trivial | exact id | exact And.right | exact gvA | exact gvB | exact And.left | exact gvN | exact gvP2 | exact gvN2 | exact gvLA); rfl; (first | trivial | exact id | exact And.right | exact gvA | exact gvB | exact And.left | exact gvN | exact gvP2 | exact gvN2 | exact gvLA); rfl; rfl; rfl) | refine U.call2 rfl rfl rfl (by assumption) rfl ?_ | refine G.call2 rfl rfl (by (first | trivial | exact id | exact And.right | exact gvA | exact gvB | exact And.left | exact gvN | exact gvP2 | exact gvN2 | exact gvLA)) rfl (by (first | trivial | exact id | exact And.right | exact gvA | exact gvB | exact And.left | exact gvN | exact gvP2 | exact gvN2 | exact gvLA)) (by first | assumption | exact fun _ => by assumption) rfl rfl rfl ?_ | refine Tri.ret ?_ | refine G.call0 rfl (by first | assumption | exact fun _ => by assumption) rfl rfl rfl ?_ | fail)
    refine Comes1.ret rfl (retB ?_)
    simp [sameV_refl, sameV_comm b a]
end Go.Proofs.YtffhjgojhmjnnaaDoor
