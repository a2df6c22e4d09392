/- Layer 13: MaySig. -/
import Derived.Test.YtaplmmhkpljmkaaDoorC5
namespace Go.Proofs.YtaplmmhkpljmkaaDoor
open Go E
set_option maxRecDepth 100000
set_option maxHeartbeats 4000000
set_option linter.unusedVariables false
set_option linter.unusedSimpArgs false
attribute [local irreducible] Tri TriL TriO PO VO E.Pure DOb
abbrev agSg (s : Sg) : T := .agg [.v (.string s.name), .sl s.np (s.p.map tStr), .sl s.nt (encTys s.t), .v (.int .i64 s.r.kind), .sl s.r.nn (s.r.names.map tStr), .sl s.r.nl (encTys s.r.l), .v (.int .i64 s.r.r)]
theorem encSg_eta (s : Sg) : encSg s = agSg s := by
  unfold encSg; rw [encTy_eta]; rfl
structure smallSg (s : Sg) : Prop where
  p : s.p.length ≤ big
  ps : ∀ x, x ∈ s.p → x.size ≤ big
  t : s.t.length ≤ big
  ts : smalls s.t
  r : small s.r
def mayAll : List Ty → Bool
  | [] => true
  | t :: ts => mayB t && mayAll ts
def maySgB (s : Sg) : Bool :=
  decide (s.p.length = s.t.length) && (decide (s.p.length = 0) || namesB s.p 64) && (noneT s.r || mayB s.r) && mayAll s.t
theorem mayAll_step {l : List Ty} {i : Nat} (h : i < l.length) : mayAll (l.drop i) = (mayB l[i] && mayAll (l.drop (i + 1))) := by
  rw [List.drop_eq_getElem_cons h, mayAll]
theorem maySig_p (s : Sg) (hs : smallSg s) : E.Pure Tryd.prog 22 [encSg s] (.one (.t (tBool (maySgB s)))) := by
  have h1 := names_p s.p s.np 64 hs.p
  have h2 := none_p s.r
  have h3 := may_p s.r hs.r
  have hb1 := hs.p
  have hb2 := hs.t
  unfold big at hb1 hb2
  have hlen := encTys_length s.t
  refine Pure.of1 Tryd.func22 rfl rfl (Nat.le_of_ble_eq_true rfl) rfl ?_
  rw [encTy_eta] at h2 h3
  rw [encSg_eta]
  repeat' (first | refine Tri.seq ?_ | refine Tri.reg ?_ | refine TriL.nil ?_ | (apply U.moveT; rfl; trivial; rfl) | (apply U.assignT; rfl; trivial; rfl) | (apply U.load; rfl; rfl; trivial; rfl; rfl; rfl) | (apply U.fld; rfl; trivial; rfl; infer_instance; decide; rfl) | (apply U.bin; rfl; trivial; rfl; trivial; rfl; rfl) | (apply U.len; rfl; trivial; rfl) | (apply U.pickb; rfl; trivial; rfl; (first | trivial | exact id | exact And.right | exact gvA | exact gvB | exact And.left | exact gvN | exact gvP2 | exact gvN2 | exact gvLA); rfl; (first | trivial | exact id | exact And.right | exact gvA | exact gvB | exact And.left | exact gvN | exact gvP2 | exact gvN2 | exact gvLA); rfl) | (apply U.boxA; rfl; rfl) | (apply G.moveT; rfl; (first | trivial | exact id | exact And.right | exact gvA | exact gvB | exact And.left | exact gvN | exact gvP2 | exact gvN2 | exact gvLA); rfl; rfl; rfl) | (apply G.load; rfl; rfl; (first | trivial | exact id | exact And.right | exact gvA | exact gvB | exact And.left | exact gvN | exact gvP2 | exact gvN2 | exact gvLA); rfl; rfl; rfl; rfl; rfl) | (apply G.fld; rfl; (first | trivial | exact id | exact And.right | exact gvA | exact gvB | exact And.left | exact gvN | exact gvP2 | exact gvN2 | exact gvLA); rfl; infer_instance; decide; rfl; rfl; rfl) | (apply G.bin; rfl; (first | trivial | exact id | exact And.right | exact gvA | exact gvB | exact And.left | exact gvN | exact gvP2 | exact gvN2 | exact gvLA); rfl; (first | trivial | exact id | exact And.right | exact gvA | exact gvB | exact And.left | exact gvN | exact gvP2 | exact gvN2 | exact gvLA); rfl; rfl; rfl; rfl) | (apply G.len; rfl; (first | trivial | exact id | exact And.right | exact gvA | exact gvB | exact And.left | exact gvN | exact gvP2 | exact gvN2 | exact gvLA); rfl; rfl; rfl) | (apply G.loadS; rfl; rfl; (first | trivial | exact id | exact And.right | exact gvA | exact gvB | exact And.left | exact gvN | exact gvP2 | exact gvN2 | exact gvLA); rfl; rfl; rfl; rfl; rfl; rfl; rfl) | (apply G.not; rfl; (first | trivial | exact id | exact And.right | exact gvA | exact gvB | exact And.left | exact gvN | exact gvP2 | exact gvN2 | exact gvLA); rfl; rfl; rfl) | (apply G.pickb; rfl; (first | trivial | exact id | exact And.right | exact gvA | exact gvB | exact And.left | exact gvN | exact gvP2 | exact gvN2 | exact gvLA); rfl; (first | trivial | exact id | exact And.right | exact gvA | exact gvB | exact And.left | exact gvN | exact gvP2 | exact gvN2 | exact gvLA); rfl; (first | trivial | exact id | exact And.right | exact gvA | exact gvB | exact And.left | exact gvN | exact gvP2 | exact gvN2 | exact gvLA); rfl; rfl; rfl) | refine G.call1 rfl rfl (by (first | trivial | exact id | exact And.right | exact gvA | exact gvB | exact And.left | exact gvN | exact gvP2 | exact gvN2 | exact gvLA)) (by first | assumption | exact fun _ => by assumption) rfl rfl rfl ?_ | refine G.call2 rfl rfl (by (first | trivial | exact id | exact And.right | exact gvA | exact gvB | exact And.left | exact gvN | exact gvP2 | exact gvN2 | exact gvLA)) rfl (by (first | trivial | exact id | exact And.right | exact gvA | exact gvB | exact And.left | exact gvN | exact gvP2 | exact gvN2 | exact gvLA)) (by first | assumption | exact fun _ => by assumption) rfl rfl rfl ?_ | refine Tri.skip ?_ | refine Tri.block ?_ | refine Tri.ret ?_ | (refine Tri.cond rfl (fun h => ?_) (fun h => ?_) <;> (try simp at h) <;> (try contradiction)) | fail)
  · refine Comes1.ret rfl (retB ?_)
    unfold maySgB
    rcases h with (h | h) | h
    · rw [show decide (s.p.length = s.t.length) = false by simp; omega]; simp
    · rw [show (decide (s.p.length = 0) || namesB s.p 64) = false by simp [h.2]; intro e; simp [e] at h]; simp
    · simp [h.1, h.2]
  · have hb0 : maySgB s = mayAll s.t := by
      unfold maySgB
      rw [show decide (s.p.length = s.t.length) = true by simp; omega, show (noneT s.r || mayB s.r) = true by cases hx : noneT s.r <;> simp [h.2, hx],
        show (decide (s.p.length = 0) || namesB s.p 64) = true by
          by_cases e : s.p.length = 0
          · simp [e]
          · rw [h.1.2 (by omega)]; simp]
      simp
    refine Tri.loopS (α := Nat) (fun i => ⟨[(3, .t (tInt i)), (1, .ptr 0 0)], Tryd.f22.ntmps, [(0, .obj [.t (.v (.string s.name)), .t (.sl s.np (s.p.map tStr)), .t (.sl s.nt (encTys s.t)), .t (.v (.int .i64 s.r.kind)), .t (.sl s.r.nn (s.r.names.map tStr)), .t (.sl s.r.nl (encTys s.r.l)), .t (.v (.int .i64 s.r.r))])], 0, 1⟩)
      (fun i => i ≤ s.t.length ∧ maySgB s = mayAll (s.t.drop i)) (fun i => s.t.length - i) 0 ?_ ?_ ?_
    · exact ⟨Nat.zero_le _, hb0⟩
    · exact Sub.of rfl rfl ⟨rfl, rfl, trivial⟩ ⟨rfl, trivial⟩
    · clear h1 h2 h3
      rintro i ⟨hi, hd⟩
      repeat' (first | refine Tri.seq ?_ | refine Tri.reg ?_ | refine TriL.nil ?_ | (apply U.moveT; rfl; trivial; rfl) | (apply U.assignT; rfl; trivial; rfl) | (apply U.load; rfl; rfl; trivial; rfl; rfl; rfl) | (apply U.fld; rfl; trivial; rfl; infer_instance; decide; rfl) | (apply U.bin; rfl; trivial; rfl; trivial; rfl; rfl) | (apply U.len; rfl; trivial; rfl) | refine Tri.skip ?_ | refine Tri.block ?_ | refine Tri.exit ?_ | refine Tri.ret ?_ | (refine Tri.cond rfl (fun h => ?_) (fun h => ?_) <;> (try simp at h) <;> (try contradiction)) | fail)
      · have hlt : i < s.t.length := by omega
        have hget := get_ty hlt
        have hstep := mayAll_step hlt
        have hm := may_p s.t[i] (smalls_get hs.ts (List.getElem?_eq_getElem hlt))
        rw [encTy_eta] at hm
        repeat' (first | refine Tri.seq ?_ | refine Tri.reg ?_ | refine TriL.nil ?_ | (apply U.moveT; rfl; trivial; rfl) | (apply U.assignT; rfl; trivial; rfl) | (apply U.add; rfl; trivial; rfl; trivial; exact fun _ => wrap_i64 (by omega) (by omega); rfl) | (apply U.loadES; rfl; rfl; trivial; rfl; rfl; rfl) | (apply U.not; rfl; trivial; rfl) | (apply U.idx; rfl; trivial; rfl; trivial; exact fun _ => (by omega); exact fun _ => (by assumption); exact fun _ => rfl; rfl) | refine U.call1 rfl rfl (by assumption) rfl ?_ | refine Tri.skip ?_ | refine Tri.ret ?_ | (refine Tri.cond rfl (fun h => ?_) (fun h => ?_) <;> (try simp at h) <;> (try contradiction)) | fail)
        · refine Comes1.ret rfl (retB ?_)
          rw [hd, hstep, h]; rfl
        · refine ⟨i + 1, ⟨by omega, ?_⟩, by omega, Sub.of rfl rfl ⟨rfl, rfl, trivial⟩ ⟨rfl, trivial⟩⟩
          rw [hd, hstep, h]; rfl
      · refine Comes1.ret rfl (retB ?_)
        have : i = s.t.length := by omega
        subst this
        rw [hd, List.drop_length, mayAll]
end Go.Proofs.YtaplmmhkpljmkaaDoor
