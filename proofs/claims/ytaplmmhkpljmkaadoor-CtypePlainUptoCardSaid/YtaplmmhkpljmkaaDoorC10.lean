/- Layer 13, the code: CheckSig. -/
import Derived.Test.YtaplmmhkpljmkaaDoorC9
namespace Go.Proofs.YtaplmmhkpljmkaaDoor
open Go E
set_option maxRecDepth 100000
set_option maxHeartbeats 4000000
set_option linter.unusedVariables false
set_option linter.unusedSimpArgs false
attribute [local irreducible] Tri TriL TriO PO VO E.Pure DOb
theorem checkSig_p (HN : LexName) (s : Sg) (hs : smallSg s) : E.Pure Tryd.prog 21 [encSg s] (.one (.t (tInt (if maySgB s then 0 else 1)))) := by
  have h1 := distinct_p HN s.p s.np hs.p hs.ps
  have h2 := noneC_p s.r hs.r
  have h3 := check_p HN s.r hs.r
  have hb1 := hs.p
  have hb2 := hs.t
  unfold big at hb1 hb2
  have hlen := encTys_length s.t
  have hlen2 : (s.p.map tStr).length = s.p.length := by simp
  refine Pure.of1 Tryd.func21 rfl rfl (Nat.le_of_ble_eq_true rfl) rfl ?_
  rw [encTy_eta] at h2 h3
  rw [encSg_eta]
  repeat' (first | refine Tri.seq ?_ | refine Tri.reg ?_ | refine TriL.nil ?_ | (apply U.moveT; rfl; trivial; rfl) | (apply U.assignT; rfl; trivial; rfl) | (apply U.load; rfl; rfl; trivial; rfl; rfl; rfl) | (apply U.fld; rfl; trivial; rfl; infer_instance; decide; rfl) | (apply U.bin; rfl; trivial; rfl; trivial; rfl; rfl) | (apply U.len; rfl; trivial; rfl) | (apply U.pickb; rfl; trivial; rfl; (first | trivial | exact id | exact And.right | exact gvA | exact gvB | exact And.left | exact gvN | exact gvP2 | exact gvN2 | exact gvLA); rfl; (first | trivial | exact id | exact And.right | exact gvA | exact gvB | exact And.left | exact gvN | exact gvP2 | exact gvN2 | exact gvLA); rfl) | (apply U.boxA; rfl; rfl) | (apply G.moveT; rfl; (first | trivial | exact id | exact And.right | exact gvA | exact gvB | exact And.left | exact gvN | exact gvP2 | exact gvN2 | exact gvLA); rfl; rfl; rfl) | (apply G.load; rfl; rfl; (first | trivial | exact id | exact And.right | exact gvA | exact gvB | exact And.left | exact gvN | exact gvP2 | exact gvN2 | exact gvLA); rfl; rfl; rfl; rfl; rfl) | (apply G.fld; rfl; (first | trivial | exact id | exact And.right | exact gvA | exact gvB | exact And.left | exact gvN | exact gvP2 | exact gvN2 | exact gvLA); rfl; infer_instance; decide; rfl; rfl; rfl) | (apply G.bin; rfl; (first | trivial | exact id | exact And.right | exact gvA | exact gvB | exact And.left | exact gvN | exact gvP2 | exact gvN2 | exact gvLA); rfl; (first | trivial | exact id | exact And.right | exact gvA | exact gvB | exact And.left | exact gvN | exact gvP2 | exact gvN2 | exact gvLA); rfl; rfl; rfl; rfl) | (apply G.len; rfl; (first | trivial | exact id | exact And.right | exact gvA | exact gvB | exact And.left | exact gvN | exact gvP2 | exact gvN2 | exact gvLA); rfl; rfl; rfl) | (apply G.loadS; rfl; rfl; (first | trivial | exact id | exact And.right | exact gvA | exact gvB | exact And.left | exact gvN | exact gvP2 | exact gvN2 | exact gvLA); rfl; rfl; rfl; rfl; rfl; rfl; rfl) | (apply G.not; rfl; (first | trivial | exact id | exact And.right | exact gvA | exact gvB | exact And.left | exact gvN | exact gvP2 | exact gvN2 | exact gvLA); rfl; rfl; rfl) | (apply G.pickb; rfl; (first | trivial | exact id | exact And.right | exact gvA | exact gvB | exact And.left | exact gvN | exact gvP2 | exact gvN2 | exact gvLA); rfl; (first | trivial | exact id | exact And.right | exact gvA | exact gvB | exact And.left | exact gvN | exact gvP2 | exact gvN2 | exact gvLA); rfl; (first | trivial | exact id | exact And.right | exact gvA | exact gvB | exact And.left | exact gvN | exact gvP2 | exact gvN2 | exact gvLA); rfl; rfl; rfl) | refine G.call1 rfl rfl (by (first | trivial | exact id | exact And.right | exact gvA | exact gvB | exact And.left | exact gvN | exact gvP2 | exact gvN2 | exact gvLA)) (by first | assumption | exact fun _ => by assumption) rfl rfl rfl ?_ | refine Tri.skip ?_ | refine Tri.block ?_ | refine Tri.ret ?_ | (refine Tri.cond rfl (fun h => ?_) (fun h => ?_) <;> (try simp at h) <;> (try contradiction)) | fail)
  · refine Comes1.ret rfl ?_
    have : maySgB s = false := by
      unfold maySgB
      rcases h with ((h | h) | h) | h
      · rw [show decide (s.p.length = s.t.length) = false by simp; omega]; simp
      · have e : (decide (s.p.length = 0) || namesB s.p 64) = false := by
          rw [Bool.or_eq_false_iff]
          refine ⟨by simp; intro e; simp [e] at h, ?_⟩
          cases hx : namesB s.p 64 with
          | false => rfl
          | true => have := (namesB_iff _ _).1 hx; omega
        rw [e]; simp
      · rw [show (decide (s.p.length = 0) || namesB s.p 64) = false by simp [h.2]; intro e; simp [e] at h]; simp
      · simp [h.1, h.2]
    rw [this]; rfl
  · have hb0 : maySgB s = mayAll s.t := by
      unfold maySgB
      rw [show decide (s.p.length = s.t.length) = true by simp; omega, show (noneT s.r || mayB s.r) = true by cases hx : noneT s.r <;> simp [h.2, hx],
        show (decide (s.p.length = 0) || namesB s.p 64) = true by
          by_cases e : s.p.length = 0
          · simp [e]
          · rw [h.1.2 (by omega)]; simp]
      simp
    refine Tri.loopS (α := Nat) (fun i => ⟨[(46, .t (tInt i)), (45, .t (tInt s.t.length)), (44, .t (.sl s.nt (encTys s.t)))], Tryd.f21.ntmps, [], 0, 1⟩)
      (fun i => i ≤ s.t.length ∧ maySgB s = mayAll (s.t.drop i)) (fun i => s.t.length - i) 0 ?_ ?_ ?_
    · exact ⟨Nat.zero_le _, hb0⟩
    · refine Sub.of rfl rfl ⟨rfl, ?_, rfl, trivial⟩ trivial
      rw [← hlen]; rfl
    · clear h1 h2 h3
      rintro i ⟨hi, hd⟩
      repeat' (first | refine Tri.seq ?_ | refine Tri.reg ?_ | refine TriL.nil ?_ | (apply U.assignT; rfl; trivial; rfl) | (apply U.bin; rfl; trivial; rfl; trivial; rfl; rfl) | refine Tri.skip ?_ | refine Tri.block ?_ | refine Tri.exit ?_ | refine Tri.ret ?_ | (refine Tri.cond rfl (fun h => ?_) (fun h => ?_) <;> (try simp at h) <;> (try contradiction)) | fail)
      · have hlt : i < s.t.length := by omega
        have hget := get_ty hlt
        have hstep := mayAll_step hlt
        have hm := check_p HN s.t[i] (smalls_get hs.ts (List.getElem?_eq_getElem hlt))
        rw [encTy_eta] at hm
        repeat' (first | refine Tri.seq ?_ | refine Tri.reg ?_ | refine TriL.nil ?_ | (apply U.moveT; rfl; trivial; rfl) | (apply U.assignT; rfl; trivial; rfl) | (apply U.add; rfl; trivial; rfl; trivial; exact fun _ => wrap_i64 (by omega) (by omega); rfl) | (apply U.bin; rfl; trivial; rfl; trivial; rfl; rfl) | (apply U.loadES; rfl; rfl; trivial; rfl; rfl; rfl) | (apply U.loadS; rfl; rfl; trivial; rfl; rfl; rfl; rfl; rfl) | (apply U.idx; rfl; trivial; rfl; trivial; exact fun _ => (by omega); exact fun _ => (by assumption); exact fun _ => rfl; rfl) | (apply U.alloc; rfl; rfl; rfl; rfl) | (apply U.storeS; rfl; rfl; rfl; rfl; rfl; rfl; rfl; rfl) | refine U.call1 rfl rfl (by assumption) rfl ?_ | refine Tri.skip ?_ | refine Tri.ret ?_ | (refine Tri.cond rfl (fun h => ?_) (fun h => ?_) <;> (try simp at h) <;> (try contradiction)) | fail)
        · refine Comes1.ret rfl ?_
          rw [hd, hstep, h]; rfl
        · refine ⟨i + 1, ⟨by omega, ?_⟩, by omega, Sub.ofn (by decide) rfl ⟨rfl, rfl, rfl, trivial⟩ trivial rfl rfl⟩
          rw [hd, hstep, h]; rfl
      · refine Comes1.ret rfl ?_
        have : i = s.t.length := by omega
        subst this
        rw [hd, List.drop_length, mayAll]; rfl
end Go.Proofs.YtaplmmhkpljmkaaDoor
