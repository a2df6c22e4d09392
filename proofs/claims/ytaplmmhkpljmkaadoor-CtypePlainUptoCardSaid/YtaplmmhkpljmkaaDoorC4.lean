/- Layer 13: deep. -/
import Derived.Test.YtaplmmhkpljmkaaDoorC3
namespace Go.Proofs.YtaplmmhkpljmkaaDoor
open Go E
set_option maxRecDepth 100000
set_option maxHeartbeats 4000000
set_option linter.unusedVariables false
set_option linter.unusedSimpArgs false
attribute [local irreducible] Tri TriL TriO PO VO E.Pure DOb
mutual
/-- May a type be, within so many others? -/
def deepB : Ty → Int → Bool
  | .mk k nn ns nl l r, n => !decide (n ≥ 16) && ownB (.mk k nn ns nl l r) && deepsB k l n
def deepsB (k : Int) : List Ty → Int → Bool
  | [], _ => true
  | t :: ts, n => (decide (k = 15 ∨ k = 18) && noneT t || deepB t (n + 1)) && deepsB k ts n
end
theorem deepB_eq (t : Ty) (n : Int) : deepB t n = (!decide (n ≥ 16) && ownB t && deepsB t.kind t.l n) := by cases t; rw [deepB]; rfl
theorem deepsB_step (k : Int) (l : List Ty) (n : Int) (i : Nat) (h : i < l.length) : deepsB k (l.drop i) n = ((decide (k = 15 ∨ k = 18) && noneT l[i] || deepB l[i] (n + 1)) && deepsB k (l.drop (i + 1)) n) := by
  rw [List.drop_eq_getElem_cons h, deepsB]
theorem size_get {l : List Ty} {i : Nat} (h : i < l.length) (t : Ty) (ht : t.l = l) : SizeOf.sizeOf l[i] < SizeOf.sizeOf t := by
  have h1 := List.sizeOf_lt_of_mem (List.getElem_mem h)
  cases t; simp only [Ty.l] at ht; subst ht; simp; omega
/-- A type, as it lies. -/
abbrev agTy (t : Ty) : T := .agg [.v (.int .i64 t.kind), .sl t.nn (t.names.map tStr), .sl t.nl (encTys t.l), .v (.int .i64 t.r)]
theorem get_ty {l : List Ty} {i : Nat} (h : i < l.length) : (encTys l)[((i : Nat) : Int).toNat]? = some (agTy l[i]) := by
  rw [Int.toNat_natCast, encTys_get, List.getElem?_eq_getElem h, Option.map_some, encTy_eta]
theorem deep_p : ∀ (m : Nat) (t : Ty) (n : Int), SizeOf.sizeOf t ≤ m → small t → -1000 ≤ n → n ≤ 1000 → E.Pure Tryd.prog 30 [encTy t, tInt n] (.one (.t (tBool (deepB t n)))) := by
  intro m
  induction m with
  | zero => intro t n hm; cases t; simp at hm
  | succ m ih =>
    intro t n hm hs hn1 hn2
    have hown := own_p t hs
    rw [encTy_eta] at hown
    have hb2 := small_l hs
    unfold big at hb2
    have hlen := encTys_length t.l
    refine Pure.of1 Tryd.func30 rfl rfl (Nat.le_of_ble_eq_true rfl) rfl ?_
    rw [encTy_eta]
    repeat' (first | refine Tri.seq ?_ | refine Tri.reg ?_ | refine TriL.nil ?_ | (apply U.moveT; rfl; trivial; rfl) | (apply U.assignT; rfl; trivial; rfl) | (apply U.bin; rfl; trivial; rfl; trivial; rfl; rfl) | (apply U.pickb; rfl; trivial; rfl; (first | trivial | exact id | exact And.right | exact gvA | exact gvB | exact And.left | exact gvN | exact gvP2 | exact gvN2 | exact gvLA); rfl; (first | trivial | exact id | exact And.right | exact gvA | exact gvB | exact And.left | exact gvN | exact gvP2 | exact gvN2 | exact gvLA); rfl) | (apply U.boxA; rfl; rfl) | (apply G.loadS; rfl; rfl; (first | trivial | exact id | exact And.right | exact gvA | exact gvB | exact And.left | exact gvN | exact gvP2 | exact gvN2 | exact gvLA); rfl; rfl; rfl; rfl; rfl; rfl; rfl) | (apply G.not; rfl; (first | trivial | exact id | exact And.right | exact gvA | exact gvB | exact And.left | exact gvN | exact gvP2 | exact gvN2 | exact gvLA); rfl; rfl; rfl) | refine G.call1 rfl rfl (by (first | trivial | exact id | exact And.right | exact gvA | exact gvB | exact And.left | exact gvN | exact gvP2 | exact gvN2 | exact gvLA)) (by first | assumption | exact fun _ => by assumption) rfl rfl rfl ?_ | refine Tri.skip ?_ | refine Tri.block ?_ | refine Tri.ret ?_ | (refine Tri.cond rfl (fun h => ?_) (fun h => ?_) <;> (try simp at h) <;> (try contradiction)) | fail)
    · refine Comes1.ret rfl (retB ?_)
      rw [deepB_eq]; rcases h with h | h <;> simp [h]
    · refine Tri.loopS (α := Nat) (fun i => ⟨[(5, .t (tInt i)), (2, .ptr 0 0), (1, .t (tInt n))], Tryd.f30.ntmps, [(0, .obj [.t (.v (.int .i64 t.kind)), .t (.sl t.nn (t.names.map tStr)), .t (.sl t.nl (encTys t.l)), .t (.v (.int .i64 t.r))])], 0, 1⟩)
        (fun i => i ≤ t.l.length ∧ deepB t n = deepsB t.kind (t.l.drop i) n) (fun i => t.l.length - i) 0 ?_ ?_ ?_
      · refine ⟨Nat.zero_le _, ?_⟩
        rw [deepB_eq, h.2]; simp; omega
      · exact Sub.of rfl rfl ⟨rfl, rfl, rfl, trivial⟩ ⟨rfl, trivial⟩
      · rintro i ⟨hi, hd⟩
        repeat' (first | refine Tri.seq ?_ | refine Tri.reg ?_ | refine TriL.nil ?_ | (apply U.moveT; rfl; trivial; rfl) | (apply U.assignT; rfl; trivial; rfl) | (apply U.load; rfl; rfl; trivial; rfl; rfl; rfl) | (apply U.fld; rfl; trivial; rfl; infer_instance; decide; rfl) | (apply U.bin; rfl; trivial; rfl; trivial; rfl; rfl) | (apply U.len; rfl; trivial; rfl) | (apply U.pickb; rfl; trivial; rfl; (first | trivial | exact id | exact And.right | exact gvA | exact gvB | exact And.left | exact gvN | exact gvP2 | exact gvN2 | exact gvLA); rfl; (first | trivial | exact id | exact And.right | exact gvA | exact gvB | exact And.left | exact gvN | exact gvP2 | exact gvN2 | exact gvLA); rfl) | (apply G.moveT; rfl; (first | trivial | exact id | exact And.right | exact gvA | exact gvB | exact And.left | exact gvN | exact gvP2 | exact gvN2 | exact gvLA); rfl; rfl; rfl) | (apply G.load; rfl; rfl; (first | trivial | exact id | exact And.right | exact gvA | exact gvB | exact And.left | exact gvN | exact gvP2 | exact gvN2 | exact gvLA); rfl; rfl; rfl; rfl; rfl) | (apply G.fld; rfl; (first | trivial | exact id | exact And.right | exact gvA | exact gvB | exact And.left | exact gvN | exact gvP2 | exact gvN2 | exact gvLA); rfl; infer_instance; decide; rfl; rfl; rfl) | (apply G.bin; rfl; (first | trivial | exact id | exact And.right | exact gvA | exact gvB | exact And.left | exact gvN | exact gvP2 | exact gvN2 | exact gvLA); rfl; (first | trivial | exact id | exact And.right | exact gvA | exact gvB | exact And.left | exact gvN | exact gvP2 | exact gvN2 | exact gvLA); rfl; rfl; rfl; rfl) | refine Tri.skip ?_ | refine Tri.block ?_ | refine Tri.exit ?_ | refine Tri.ret ?_ | (refine Tri.cond rfl (fun h => ?_) (fun h => ?_) <;> (try simp at h) <;> (try contradiction)) | fail)
        · have hlt : i < t.l.length := by omega
          have hget := get_ty hlt
          have hstep := deepsB_step t.kind t.l n i hlt
          have hnone := none_p t.l[i]
          have hdeep := ih t.l[i] (n + 1) (by have := size_get hlt t rfl; omega) (smalls_get (small_ls hs) (List.getElem?_eq_getElem hlt)) (by omega) (by omega)
          rw [encTy_eta] at hnone hdeep
          repeat' (first | refine Tri.seq ?_ | refine Tri.reg ?_ | refine TriL.nil ?_ | (apply U.moveT; rfl; trivial; rfl) | (apply U.assignT; rfl; trivial; rfl) | (apply U.load; rfl; rfl; trivial; rfl; rfl; rfl) | (apply U.fld; rfl; trivial; rfl; infer_instance; decide; rfl) | (apply U.add; rfl; trivial; rfl; trivial; exact fun _ => wrap_i64 (by omega) (by omega); rfl) | (apply U.loadES; rfl; rfl; trivial; rfl; rfl; rfl) | (apply U.not; rfl; trivial; rfl) | (apply U.pickb; rfl; trivial; rfl; (first | trivial | exact id | exact And.right | exact gvA | exact gvB | exact And.left | exact gvN | exact gvP2 | exact gvN2 | exact gvLA); rfl; (first | trivial | exact id | exact And.right | exact gvA | exact gvB | exact And.left | exact gvN | exact gvP2 | exact gvN2 | exact gvLA); rfl) | (apply U.idx; rfl; trivial; rfl; trivial; exact fun _ => (by omega); exact fun _ => (by assumption); exact fun _ => rfl; rfl) | (apply G.loadES; rfl; rfl; (first | trivial | exact id | exact And.right | exact gvA | exact gvB | exact And.left | exact gvN | exact gvP2 | exact gvN2 | exact gvLA); rfl; rfl; rfl; rfl; rfl) | (apply G.idx; rfl; (first | trivial | exact id | exact And.right | exact gvA | exact gvB | exact And.left | exact gvN | exact gvP2 | exact gvN2 | exact gvLA); rfl; (first | trivial | exact id | exact And.right | exact gvA | exact gvB | exact And.left | exact gvN | exact gvP2 | exact gvN2 | exact gvLA); exact fun _ => (by omega); exact fun _ => (by assumption); exact fun _ => rfl; rfl; rfl; rfl) | refine U.call2 rfl rfl rfl (by assumption) rfl ?_ | refine G.call1 rfl rfl (by (first | trivial | exact id | exact And.right | exact gvA | exact gvB | exact And.left | exact gvN | exact gvP2 | exact gvN2 | exact gvLA)) (by first | assumption | exact fun _ => by assumption) rfl rfl rfl ?_ | refine Tri.skip ?_ | refine Tri.exit ?_ | refine Tri.ret ?_ | (refine Tri.cond rfl (fun h => ?_) (fun h => ?_) <;> (try simp at h) <;> (try contradiction)) | fail)
          · refine ⟨i + 1, ⟨by omega, ?_⟩, by omega, Sub.of rfl rfl ⟨rfl, rfl, rfl, trivial⟩ ⟨rfl, trivial⟩⟩
            rw [hd, hstep]; simp [h]
          · refine Comes1.ret rfl (retB ?_)
            rw [hd, hstep, h]
            cases hc : decide (t.kind = 15 ∨ t.kind = 18) <;> simp at hc <;> simp [*]
          · refine ⟨i + 1, ⟨by omega, ?_⟩, by omega, Sub.of rfl rfl ⟨rfl, rfl, rfl, trivial⟩ ⟨rfl, trivial⟩⟩
            rw [hd, hstep, h]; simp
        · refine Comes1.ret rfl (retB ?_)
          have : i = t.l.length := by omega
          subst this
          rw [hd, List.drop_length, deepsB]
end Go.Proofs.YtaplmmhkpljmkaaDoor
