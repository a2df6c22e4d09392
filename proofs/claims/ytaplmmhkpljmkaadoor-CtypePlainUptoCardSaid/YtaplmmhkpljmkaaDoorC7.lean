/- Layer 13, the code: distinct. -/
import Derived.Test.YtaplmmhkpljmkaaDoorC6
namespace Go.Proofs.YtaplmmhkpljmkaaDoor
open Go E
set_option maxRecDepth 100000
set_option maxHeartbeats 4000000
set_option linter.unusedVariables false
set_option linter.unusedSimpArgs false
attribute [local irreducible] Tri TriL TriO PO VO E.Pure DOb
def idxGo (v : ByteArray) : Int → List ByteArray → Int
  | _, [] => -1
  | i, x :: xs => if v = x then i else idxGo v (i + 1) xs
theorem idxGo_step {v : ByteArray} {l : List ByteArray} {i : Nat} {k : Int} (h : i < l.length) : idxGo v k (l.drop i) = if v = l[i] then k else idxGo v (k + 1) (l.drop (i + 1)) := by
  rw [List.drop_eq_getElem_cons h, idxGo]
theorem index_p (l : List ByteArray) (nn : Bool) (v : ByteArray) (hb : l.length ≤ big) : E.Pure Tryd.prog 60 [.sl nn (l.map tStr), tStr v] (.one (.t (tInt (idxGo v 0 l)))) := by
  unfold big at hb
  have hlen : (l.map tStr).length = l.length := by simp
  refine Pure.of1 Tryd.func60 rfl rfl (Nat.le_of_ble_eq_true rfl) rfl ?_
  repeat' (first | refine Tri.seq ?_ | refine Tri.reg ?_ | refine TriL.nil ?_ | (apply U.moveT; rfl; trivial; rfl) | (apply U.assignT; rfl; trivial; rfl) | (apply U.len; rfl; trivial; rfl) | refine Tri.block ?_ | fail)
  refine Tri.loopS (α := Nat) (fun i => ⟨[(8, .t (tInt i)), (7, .t (tInt l.length)), (6, .t (.sl nn (l.map tStr))), (4, .t (tInt 0)), (1, .t (tStr v)), (0, .t (.sl nn (l.map tStr)))], Tryd.f60.ntmps, [], 0, 0⟩)
    (fun i => i ≤ l.length ∧ idxGo v 0 l = idxGo v i (l.drop i)) (fun i => l.length - i) 0 ?_ ?_ ?_
  · exact ⟨Nat.zero_le _, rfl⟩
  · refine Sub.of rfl rfl ⟨rfl, ?_, rfl, rfl, rfl, rfl, trivial⟩ trivial
    rw [← hlen]; rfl
  · rintro i ⟨hi, hn⟩
    repeat' (first | refine Tri.seq ?_ | refine Tri.reg ?_ | refine TriL.nil ?_ | (apply U.moveT; rfl; trivial; rfl) | (apply U.assignT; rfl; trivial; rfl) | (apply U.bin; rfl; trivial; rfl; trivial; rfl; rfl) | refine Tri.skip ?_ | refine Tri.block ?_ | refine Tri.exit ?_ | refine Tri.ret ?_ | (refine Tri.cond rfl (fun h => ?_) (fun h => ?_) <;> (try simp at h) <;> (try contradiction)) | fail)
    · have hlt : i < l.length := by omega
      have hget := get_str hlt
      have hstep := idxGo_step (v := v) (k := i) hlt
      repeat' (first | refine Tri.seq ?_ | refine Tri.reg ?_ | refine TriL.nil ?_ | (apply U.moveT; rfl; trivial; rfl) | (apply U.assignT; rfl; trivial; rfl) | (apply U.add; rfl; trivial; rfl; trivial; exact fun _ => wrap_i64 (by omega) (by omega); rfl) | (apply U.bin; rfl; trivial; rfl; trivial; rfl; rfl) | (apply U.loadE; rfl; rfl; trivial; rfl; rfl) | (apply U.idx; rfl; trivial; rfl; trivial; exact fun _ => (by omega); exact fun _ => (by assumption); exact fun _ => rfl; rfl) | refine Tri.skip ?_ | refine Tri.ret ?_ | (refine Tri.cond rfl (fun h => ?_) (fun h => ?_) <;> (try simp at h) <;> (try contradiction)) | fail)
      · refine Comes1.ret rfl ?_
        rw [hn, hstep, if_pos h]
      · refine ⟨i + 1, ⟨by omega, ?_⟩, by omega, Sub.of rfl rfl ⟨rfl, rfl, rfl, rfl, rfl, rfl, trivial⟩ trivial⟩
        rw [hn, hstep, if_neg h]; rfl
    · refine Comes1.ret rfl ?_
      have : i = l.length := by omega
      subst this
      rw [hn, List.drop_length, idxGo]; rfl
theorem contains_p (l : List ByteArray) (nn : Bool) (v : ByteArray) (hb : l.length ≤ big) : E.Pure Tryd.prog 55 [.sl nn (l.map tStr), tStr v] (.one (.t (tBool (inB v l)))) := by
  have h1 := index_p l nn v hb
  refine Pure.of1 Tryd.func55 rfl rfl (Nat.le_of_ble_eq_true rfl) rfl ?_
  repeat' (first | refine Tri.seq ?_ | refine Tri.reg ?_ | refine TriL.nil ?_ | (apply U.moveT; rfl; trivial; rfl) | (apply U.assignT; rfl; trivial; rfl) | (apply U.bin; rfl; trivial; rfl; trivial; rfl; rfl) | refine U.call2 rfl rfl rfl (by assumption) rfl ?_ | refine Tri.ret ?_ | fail)
  refine Comes1.ret rfl (retB ?_)
  have key : ∀ (l : List ByteArray) (k : Int), 0 ≤ k → (decide (idxGo v k l ≥ 0) = inB v l) := by
    intro l
    induction l with
    | nil => intro k _; rfl
    | cons x xs ih =>
      intro k hk
      rw [idxGo]
      split
      · rename_i e; subst e; simp [inB, hk]
      · rename_i e
        rw [ih (k + 1) (by omega)]
        simp only [inB, List.any_cons]
        rw [show decide (x = v) = false by simp; exact fun h => e h.symm]; rfl
  exact key l 0 (by omega)
/-- What is asked of lex.Name. -/
abbrev LexName : Prop := ∀ s : ByteArray, s.size ≤ big → E.Pure Tryd.prog 54 [tStr s] (.one (.t (tBool (nameOk s))))
theorem distinct_p (HN : LexName) (l : List ByteArray) (nn : Bool) (hb : l.length ≤ big) (hs : ∀ s, s ∈ l → s.size ≤ big) : E.Pure Tryd.prog 44 [.sl nn (l.map tStr)] (.one (.t (tBool (namesB l 64)))) := by
  unfold big at hb
  have hlen : (l.map tStr).length = l.length := by simp
  refine Pure.of1 Tryd.func44 rfl rfl (Nat.le_of_ble_eq_true rfl) rfl ?_
  repeat' (first | refine Tri.seq ?_ | refine Tri.reg ?_ | refine TriL.nil ?_ | (apply U.moveT; rfl; trivial; rfl) | (apply U.assignT; rfl; trivial; rfl) | (apply U.len; rfl; trivial; rfl) | refine Tri.block ?_ | fail)
  refine Tri.loopS (α := Nat) (fun i => ⟨[(7, .t (tInt i)), (6, .t (tInt l.length)), (5, .t (.sl nn (l.map tStr))), (2, .t (tBool false)), (0, .t (.sl nn (l.map tStr)))], Tryd.f44.ntmps, [], 0, 0⟩)
    (fun i => i ≤ l.length ∧ namesGo [] l = namesGo (l.take i) (l.drop i)) (fun i => l.length - i) 0 ?_ ?_ ?_
  · exact ⟨Nat.zero_le _, rfl⟩
  · refine Sub.of rfl rfl ⟨rfl, ?_, rfl, rfl, rfl, trivial⟩ trivial
    rw [← hlen]; rfl
  · rintro i ⟨hi, hn⟩
    repeat' (first | refine Tri.seq ?_ | refine Tri.reg ?_ | refine TriL.nil ?_ | (apply U.moveT; rfl; trivial; rfl) | (apply U.assignT; rfl; trivial; rfl) | (apply U.bin; rfl; trivial; rfl; trivial; rfl; rfl) | (apply U.len; rfl; trivial; rfl) | (apply U.pickb; rfl; trivial; rfl; (first | trivial | exact id | exact And.right | exact gvA | exact gvB | exact And.left | exact gvN | exact gvP2 | exact gvN2 | exact gvLA); rfl; (first | trivial | exact id | exact And.right | exact gvA | exact gvB | exact And.left | exact gvN | exact gvP2 | exact gvN2 | exact gvLA); rfl) | (apply G.moveT; rfl; (first | trivial | exact id | exact And.right | exact gvA | exact gvB | exact And.left | exact gvN | exact gvP2 | exact gvN2 | exact gvLA); rfl; rfl; rfl) | (apply G.bin; rfl; (first | trivial | exact id | exact And.right | exact gvA | exact gvB | exact And.left | exact gvN | exact gvP2 | exact gvN2 | exact gvLA); rfl; (first | trivial | exact id | exact And.right | exact gvA | exact gvB | exact And.left | exact gvN | exact gvP2 | exact gvN2 | exact gvLA); rfl; rfl; rfl; rfl) | (apply G.len; rfl; (first | trivial | exact id | exact And.right | exact gvA | exact gvB | exact And.left | exact gvN | exact gvP2 | exact gvN2 | exact gvLA); rfl; rfl; rfl) | refine Tri.skip ?_ | refine Tri.block ?_ | refine Tri.exit ?_ | refine Tri.ret ?_ | (refine Tri.cond rfl (fun h => ?_) (fun h => ?_) <;> (try simp at h) <;> (try contradiction)) | fail)
    · have hlt : i < l.length := by omega
      have hget := get_str hlt
      have hstep := namesGo_step hlt
      have h1 := HN l[i] (hs _ (List.getElem_mem hlt))
      have h2 := contains_p (l.take i) nn l[i] (by simp; unfold big; omega)
      rw [List.map_take] at h2
      repeat' (first | refine Tri.seq ?_ | refine Tri.reg ?_ | refine TriL.nil ?_ | (apply U.moveT; rfl; trivial; rfl) | (apply U.assignT; rfl; trivial; rfl) | (apply U.add; rfl; trivial; rfl; trivial; exact fun _ => wrap_i64 (by omega) (by omega); rfl) | (apply U.loadE; rfl; rfl; trivial; rfl; rfl) | (apply U.not; rfl; trivial; rfl) | (apply U.pickb; rfl; trivial; rfl; (first | trivial | exact id | exact And.right | exact gvA | exact gvB | exact And.left | exact gvN | exact gvP2 | exact gvN2 | exact gvLA); rfl; (first | trivial | exact id | exact And.right | exact gvA | exact gvB | exact And.left | exact gvN | exact gvP2 | exact gvN2 | exact gvLA); rfl) | (apply U.idx; rfl; trivial; rfl; trivial; exact fun _ => (by omega); exact fun _ => (by assumption); exact fun _ => rfl; rfl) | (apply G.moveT; rfl; (first | trivial | exact id | exact And.right | exact gvA | exact gvB | exact And.left | exact gvN | exact gvP2 | exact gvN2 | exact gvLA); rfl; rfl; rfl) | (apply G.cutHi; rfl; (first | trivial | exact id | exact And.right | exact gvA | exact gvB | exact And.left | exact gvN | exact gvP2 | exact gvN2 | exact gvLA); rfl; (first | trivial | exact id | exact And.right | exact gvA | exact gvB | exact And.left | exact gvN | exact gvP2 | exact gvN2 | exact gvLA); exact fun _ => (by first | omega | (simp at *; omega)); exact fun _ => (by first | omega | (simp at *; omega)); exact fun _ => (by intro i_ x_ h_; simp only [List.getElem?_map, Option.map_eq_some_iff] at h_; obtain ⟨_, _, rfl⟩ := h_; rfl); rfl; rfl; rfl) | refine U.call1 rfl rfl (by assumption) rfl ?_ | refine G.call2 rfl rfl (by (first | trivial | exact id | exact And.right | exact gvA | exact gvB | exact And.left | exact gvN | exact gvP2 | exact gvN2 | exact gvLA)) rfl (by (first | trivial | exact id | exact And.right | exact gvA | exact gvB | exact And.left | exact gvN | exact gvP2 | exact gvN2 | exact gvLA)) (by first | assumption | exact fun _ => by assumption) rfl rfl rfl ?_ | refine Tri.skip ?_ | refine Tri.ret ?_ | (refine Tri.cond rfl (fun h => ?_) (fun h => ?_) <;> (try simp at h) <;> (try contradiction)) | fail)
      · refine Comes1.ret rfl (retB ?_)
        rw [namesB, hn, hstep]
        rcases h with h | h <;> simp [h]
      · refine ⟨i + 1, ⟨by omega, ?_⟩, by omega, Sub.of rfl rfl ⟨rfl, rfl, rfl, rfl, rfl, trivial⟩ trivial⟩
        rw [hn, hstep, h.1, h.2]; simp
    · refine Comes1.ret rfl (retB ?_)
      have : i = l.length := by omega
      subst this
      rw [namesB, hn, List.drop_length, namesGo, Bool.eq_iff_iff]; simp; omega
theorem noneC_p (t : Ty) (hs : small t) : E.Pure Tryd.prog 45 [encTy t] (.one (.t (tBool (noneT t)))) := by
  have hb1 := small_names hs
  have hb2 := small_l hs
  unfold big at hb1 hb2
  have hlen := encTys_length t.l
  have hlen2 : (t.names.map tStr).length = t.names.length := by simp
  refine Pure.of1 Tryd.func45 rfl rfl (Nat.le_of_ble_eq_true rfl) rfl ?_
  rw [encTy_eta]
  repeat' (first | refine Tri.seq ?_ | refine Tri.reg ?_ | refine TriL.nil ?_ | (apply U.moveT; rfl; trivial; rfl) | (apply U.assignT; rfl; trivial; rfl) | (apply U.load; rfl; rfl; trivial; rfl; rfl; rfl) | (apply U.fld; rfl; trivial; rfl; infer_instance; decide; rfl) | (apply U.bin; rfl; trivial; rfl; trivial; rfl; rfl) | (apply U.pickb; rfl; trivial; rfl; (first | trivial | exact id | exact And.right | exact gvA | exact gvB | exact And.left | exact gvN | exact gvP2 | exact gvN2 | exact gvLA); rfl; (first | trivial | exact id | exact And.right | exact gvA | exact gvB | exact And.left | exact gvN | exact gvP2 | exact gvN2 | exact gvLA); rfl) | (apply U.boxA; rfl; rfl) | (apply G.load; rfl; rfl; (first | trivial | exact id | exact And.right | exact gvA | exact gvB | exact And.left | exact gvN | exact gvP2 | exact gvN2 | exact gvLA); rfl; rfl; rfl; rfl; rfl) | (apply G.fld; rfl; (first | trivial | exact id | exact And.right | exact gvA | exact gvB | exact And.left | exact gvN | exact gvP2 | exact gvN2 | exact gvLA); rfl; infer_instance; decide; rfl; rfl; rfl) | (apply G.add; rfl; (first | trivial | exact id | exact And.right | exact gvA | exact gvB | exact And.left | exact gvN | exact gvP2 | exact gvN2 | exact gvLA); rfl; (first | trivial | exact id | exact And.right | exact gvA | exact gvB | exact And.left | exact gvN | exact gvP2 | exact gvN2 | exact gvLA); exact fun _ => wrap_i64 (by omega) (by omega); rfl; rfl; rfl) | (apply G.bin; rfl; (first | trivial | exact id | exact And.right | exact gvA | exact gvB | exact And.left | exact gvN | exact gvP2 | exact gvN2 | exact gvLA); rfl; (first | trivial | exact id | exact And.right | exact gvA | exact gvB | exact And.left | exact gvN | exact gvP2 | exact gvN2 | exact gvLA); rfl; rfl; rfl; rfl) | (apply G.len; rfl; (first | trivial | exact id | exact And.right | exact gvA | exact gvB | exact And.left | exact gvN | exact gvP2 | exact gvN2 | exact gvLA); rfl; rfl; rfl) | refine Tri.ret ?_ | fail)
  all_goals (refine Comes1.ret rfl (retB ?_); rw [Bool.eq_iff_iff]; simp [noneT, encTys_length, -List.length_eq_zero_iff]; try omega)
end Go.Proofs.YtaplmmhkpljmkaaDoor
